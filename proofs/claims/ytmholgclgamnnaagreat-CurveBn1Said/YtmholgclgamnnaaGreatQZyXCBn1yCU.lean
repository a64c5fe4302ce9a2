import Derived.Test.YtmholgclgamnnaaGreatQZCN
import Derived.Test.YtmholgclgamnnaaGreatQZCL
import Derived.Test.YtmholgclgamnnaaGreatQZCQ
import Derived.Test.YtmholgclgamnnaaGreatQZBK
import Derived.Test.YtmholgclgamnnaaGreatQZCU
section
set_option linter.unusedVariables false
set_option linter.unusedSectionVars false
set_option linter.unusedSimpArgs false
namespace Go.Proofs.YtmholgclgamnnaaGreat
open Go Eng
set_option maxRecDepth 100000
set_option exponentiation.threshold 2000
set_option maxHeartbeats 4000000
section
variable {p : Nat} [NeZero p]
def negP (b : Fin p) (P : PtA) : PtA × Nat := if good1 b P ≠ 0 then (⟨0, 0, false⟩, good1 b P) else (⟨P.x, (0 - fo p P.y).val, P.inf⟩, 0)
theorem addS1_4 {H : H5} (hH : H = H5.real) (hp : PrM 256 p) {c : Cu p} (h1c : c.one = fo p 1) (P Q : PtA) (hPx : P.x < 2 ^ 256) (hPy : P.y < 2 ^ 256) (hQx : Q.x < 2 ^ 256) (hQy : Q.y < 2 ^ 256) :
    Sp 33 [.ref (Cc4 H c) 0, P1_4 H P, P1_4 H Q] (.tup [P1_4 H (addP c.b1 P Q).1, .s .i64 ((addP c.b1 P Q).2 : Nat)]) := by
  have g1 := good1S4 hH hp c P hPx hPy
  have g2 := good1S4 hH hp c Q hQx hQy
  have u1 := up1S4 hH hp h1c P hPx hPy
  have u2 := up1S4 hH hp h1c Q hQx hQy
  have hi := infS1_4 hH c
  have ne := fun A hA x => i_ne (A := A) hA (x := x) (y := 0)
  unfold addP
  by_cases h1 : good1 c.b1 P = 0
  · have o1 := good1_on h1
    rw [if_neg (fun h => h h1)]
    by_cases h2 : good1 c.b1 Q = 0
    · have o2 := good1_on h2
      rw [if_neg (fun h => h h2)]
      have pl := plusb4 (ok1_4 hH hp) c.b1 (Cv.up (K1_4 H p).O (ptOf p P)) (Cv.up (K1_4 H p).O (ptOf p Q))
      have dn := down1S4 hH hp c (Cv.plus (K1_4 H p).O (Cv.up (K1_4 H p).O (ptOf p P)) (Cv.up (K1_4 H p).O (ptOf p Q)))
      have e : Cv.down (K1_4 H p).O (Cv.plus (K1_4 H p).O (Cv.up (K1_4 H p).O (ptOf p P)) (Cv.up (K1_4 H p).O (ptOf p Q))) = Cv.sumR (Cv.ops1 Cv.inv1) (ptOf p P) (ptOf p Q) :=
        Cv.add1 Cv.inv1 (one_ne hp) (fun a h => Cv.inv1_ok hp.pr hp.two a h) c.b1 _ _ o1 o2
      rw [e] at dn
      rw [h1] at g1
      rw [h2] at g2
      clear e o1 o2 h1 h2
      dsimp only
      generalize ofPt (Cv.sumR (Cv.ops1 Cv.inv1) (ptOf p P) (ptOf p Q)) = R at *
      generalize Cv.plus (K1_4 H p).O (Cv.up (K1_4 H p).O (ptOf p P)) (Cv.up (K1_4 H p).O (ptOf p Q)) = j at *
      generalize Cv.up (K1_4 H p).O (ptOf p P) = j1 at *
      generalize Cv.up (K1_4 H p).O (ptOf p Q) = j2 at *
      refine mk Tryz.func33 rfl rfl L0 R1 (by decide +kernel) fun A S hA hS => ?_
      have e0 : A.cmp .neq ((0 : Nat) : Int) 0 = false := ne A hA _
      unfold bodyOf Tryz.f33
      cbv
      repeat (first
        | (refine ABr.t (by assumption) ?_; cbv)
        | (refine ABr.f (by assumption) ?_; cbv)
        | (refine ABr.t rfl ?_; cbv)
        | (refine ABr.f rfl ?_; cbv)
        | (refine ACall.mk _ (cf hS g1) ?_; cbv)
        | (refine ACall.mk _ (cf hS g2) ?_; cbv)
        | (refine ACall.mk _ (cf hS u1) ?_; cbv)
        | (refine ACall.mk _ (cf hS u2) ?_; cbv)
        | (refine ACall.mk _ (cf hS pl) ?_; cbv)
        | (refine ACall.mk _ (cf hS dn) ?_; cbv))
    · rw [if_pos h2]
      rw [h1] at g1
      clear u1 u2 o1
      have h2' : ((good1 c.b1 Q : Nat) : Int) ≠ 0 := by omega
      dsimp only
      generalize ((good1 c.b1 Q : Nat) : Int) = e at *
      refine mk Tryz.func33 rfl rfl L0 R1 (by decide +kernel) fun A S hA hS => ?_
      have e0 : A.cmp .neq ((0 : Nat) : Int) 0 = false := ne A hA _
      have e1 : A.cmp .neq e 0 = true := by rw [ne A hA, decide_eq_false h2']; rfl
      unfold bodyOf Tryz.f33
      cbv
      repeat (first
        | (refine ABr.t (by assumption) ?_; cbv)
        | (refine ABr.f (by assumption) ?_; cbv)
        | (refine ABr.t rfl ?_; cbv)
        | (refine ABr.f rfl ?_; cbv)
        | (refine ACall.mk _ (cf hS g1) ?_; cbv)
        | (refine ACall.mk _ (cf hS g2) ?_; cbv)
        | (refine ACall.mk _ (cf hS hi) ?_; cbv))
  · rw [if_pos h1]
    clear u1 u2 g2
    have h1' : ((good1 c.b1 P : Nat) : Int) ≠ 0 := by omega
    dsimp only
    generalize ((good1 c.b1 P : Nat) : Int) = e at *
    refine mk Tryz.func33 rfl rfl L0 R1 (by decide +kernel) fun A S hA hS => ?_
    have e1 : A.cmp .neq e 0 = true := by rw [ne A hA, decide_eq_false h1']; rfl
    unfold bodyOf Tryz.f33
    cbv
    repeat (first
      | (refine ABr.t (by assumption) ?_; cbv)
      | (refine ABr.f (by assumption) ?_; cbv)
      | (refine ABr.t rfl ?_; cbv)
      | (refine ABr.f rfl ?_; cbv)
      | (refine ACall.mk _ (cf hS g1) ?_; cbv)
      | (refine ACall.mk _ (cf hS hi) ?_; cbv))
end
end Go.Proofs.YtmholgclgamnnaaGreat
end
section
set_option linter.unusedVariables false
set_option linter.unusedSectionVars false
set_option linter.unusedSimpArgs false
namespace Go.Proofs.YtmholgclgamnnaaGreat
open Go Eng
set_option maxRecDepth 100000
set_option exponentiation.threshold 2000
set_option maxHeartbeats 4000000
section
variable {p : Nat} [NeZero p]
theorem negS1_4 {H : H5} (hH : H = H5.real) (hp : PrM 256 p) {c : Cu p} (P : PtA) (hPx : P.x < 2 ^ 256) (hPy : P.y < 2 ^ 256) :
    Sp 35 [.ref (Cc4 H c) 0, P1_4 H P] (.tup [P1_4 H (negP c.b1 P).1, .s .i64 ((negP c.b1 P).2 : Nat)]) := by
  have g1 := good1S4 hH hp c P hPx hPy
  have le0 := less0S4 hH hp c hPy
  have hi := infS1_4 hH c
  have ne := fun A hA x => i_ne (A := A) hA (x := x) (y := 0)
  unfold negP
  by_cases h1 : good1 c.b1 P = 0
  · rw [if_neg (fun h => h h1)]
    rw [h1] at g1
    clear h1 hi
    obtain ⟨x, y, inf⟩ := P
    dsimp only at *
    generalize (0 - fo p y).val = ny at *
    refine mk Tryz.func35 rfl rfl L0 R1 (by decide +kernel) fun A S hA hS => ?_
    have e0 : A.cmp .neq ((0 : Nat) : Int) 0 = false := ne A hA _
    unfold bodyOf Tryz.f35
    cbv
    repeat (first
      | (refine ABr.t (by assumption) ?_; cbv)
      | (refine ABr.f (by assumption) ?_; cbv)
      | (refine ABr.t rfl ?_; cbv)
      | (refine ABr.f rfl ?_; cbv)
      | (refine ACall.mk _ (cf hS g1) ?_; cbv)
      | (refine ACall.mk _ (cf hS le0) ?_; cbv))
  · rw [if_pos h1]
    have h1' : ((good1 c.b1 P : Nat) : Int) ≠ 0 := by omega
    dsimp only
    generalize ((good1 c.b1 P : Nat) : Int) = e at *
    refine mk Tryz.func35 rfl rfl L0 R1 (by decide +kernel) fun A S hA hS => ?_
    have e1 : A.cmp .neq e 0 = true := by rw [ne A hA, decide_eq_false h1']; rfl
    unfold bodyOf Tryz.f35
    cbv
    repeat (first
      | (refine ABr.t (by assumption) ?_; cbv)
      | (refine ABr.f (by assumption) ?_; cbv)
      | (refine ABr.t rfl ?_; cbv)
      | (refine ABr.f rfl ?_; cbv)
      | (refine ACall.mk _ (cf hS g1) ?_; cbv)
      | (refine ACall.mk _ (cf hS hi) ?_; cbv))
end
end Go.Proofs.YtmholgclgamnnaaGreat
end
section
set_option linter.unusedVariables false
set_option linter.unusedSectionVars false
set_option linter.unusedSimpArgs false
namespace Go.Proofs.YtmholgclgamnnaaGreat
open Go Eng
set_option maxRecDepth 100000
set_option exponentiation.threshold 2000
set_option maxHeartbeats 4000000
section
variable {p : Nat} [NeZero p]
def Er4_1 (H : H5) (a : Fin p) : AVal := .lst false 1 [.lst false 4 (ws4 H.lim a.val)]
def Nr4_1 (H : H5) (a : Fin p) : AVal := .new false 1 1 [.lst false 4 (ws4 H.lim a.val)]
theorem addR4_1 {H : H5} (hH : H = H5.real) (hp : PrM 256 p) (c : Cu p) (a b : Fin p) : Sp 90 [Cr4_1 H c, Er4_1 H a, Er4_1 H b] (Nr4_1 H (a + b)) := by
  have h := rAddF4 hH hp a b
  generalize a + b = r at *
  refine mk Tryz.func90 rfl rfl L0 RApp (by decide +kernel) fun A S hA hS => ?_
  unfold bodyOf Tryz.f90
  cbv
  refine ACall.mk _ (cf hS h) ?_
  cbv
theorem subR4_1 {H : H5} (hH : H = H5.real) (hp : PrM 256 p) (c : Cu p) (a b : Fin p) : Sp 118 [Cr4_1 H c, Er4_1 H a, Er4_1 H b] (Nr4_1 H (a - b)) := by
  have h := rSubF4 hH hp a b
  generalize a - b = r at *
  refine mk Tryz.func118 rfl rfl L0 RApp (by decide +kernel) fun A S hA hS => ?_
  unfold bodyOf Tryz.f118
  cbv
  refine ACall.mk _ (cf hS h) ?_
  cbv
theorem mulR4_1 {H : H5} (hH : H = H5.real) (hp : PrM 256 p) (c : Cu p) (a b : Fin p) : Sp 89 [Cr4_1 H c, Er4_1 H a, Er4_1 H b] (Nr4_1 H (a * b)) := by
  have h := rMulF4 hH hp a b
  generalize a * b = r at *
  refine mk Tryz.func89 rfl rfl L0 R1 (by decide +kernel) fun A S hA hS => ?_
  unfold bodyOf Tryz.f89
  cbv
  refine ACall.mk _ (cf hS h) ?_
  cbv
theorem invR4_1 {H : H5} (hH : H = H5.real) (hp : PrM 256 p) (c : Cu p) (a : Fin p) : Sp 127 [Cr4_1 H c, Er4_1 H a] (Nr4_1 H (Cv.inv1 a)) := by
  have h := rInvF4 hH hp a
  generalize Cv.inv1 a = r at *
  refine mk Tryz.func127 rfl rfl L0 R1 (by decide +kernel) fun A S hA hS => ?_
  unfold bodyOf Tryz.f127
  cbv
  refine ACall.mk _ (cf hS h) ?_
  cbv
end
end Go.Proofs.YtmholgclgamnnaaGreat
end
section
set_option linter.unusedVariables false
set_option linter.unusedSectionVars false
set_option linter.unusedSimpArgs false
namespace Go.Proofs.YtmholgclgamnnaaGreat
open Go Eng
set_option maxRecDepth 100000
set_option exponentiation.threshold 2000
set_option maxHeartbeats 4000000
section
variable {p : Nat} [NeZero p]
theorem sameR4_1 {H : H5} (hH : H = H5.real) (hp : PrM 256 p) (a b : Fin p) : Sp 88 [Er4_1 H a, Er4_1 H b] (.sb (decide (a = b))) := by
  obtain ⟨t, ht⟩ : ∃ t, t = decide (a = b) := ⟨_, rfl⟩
  rw [← ht]
  have hn0 : ∀ i, H.lim a.val i ≠ H.lim b.val i → false = t := fun i h => by rw [ht]; exact (decide_eq_false fun e => h (by rw [e])).symm
  have hy : (H.lim a.val 0 = H.lim b.val 0 ∧ H.lim a.val 1 = H.lim b.val 1 ∧ H.lim a.val 2 = H.lim b.val 2 ∧ H.lim a.val 3 = H.lim b.val 3) → true = t := fun h => by
    rw [ht]; exact (decide_eq_true (Fin.ext (lim_inj4 (H5.hlim hH) (Nat.lt_trans a.isLt hp.lt) (Nat.lt_trans b.isLt hp.lt) h))).symm
  clear ht
  refine mk Tryz.func88 rfl rfl L0 R1 (by decide +kernel) fun A S hA hS => ?_
  unfold bodyOf Tryz.f88
  cbv
  refine ABr.mk (fun h => ?_) (fun g0_0 => ?_)
  · cbv
    exact hn0 0 (ne_t hA h)
  cbv
  refine ABr.mk (fun h => ?_) (fun g0_1 => ?_)
  · cbv
    exact hn0 1 (ne_t hA h)
  cbv
  refine ABr.mk (fun h => ?_) (fun g0_2 => ?_)
  · cbv
    exact hn0 2 (ne_t hA h)
  cbv
  refine ABr.mk (fun h => ?_) (fun g0_3 => ?_)
  · cbv
    exact hn0 3 (ne_t hA h)
  cbv
  exact hy ⟨ne_f hA g0_0, ne_f hA g0_1, ne_f hA g0_2, ne_f hA g0_3⟩
theorem zeroR4_1 {H : H5} (hH : H = H5.real) (hp : PrM 256 p) (a : Fin p) : Sp 165 [Er4_1 H a] (.sb (decide (a = 0))) := by
  have h1 := rZeroS4 hH a.val (Nat.lt_trans a.isLt hp.lt)
  have e : decide (a.val = 0) = decide (a = 0) := by
    by_cases h : a = 0
    · rw [decide_eq_true h, h, Cv.val_zero]; rfl
    · rw [decide_eq_false h, decide_eq_false fun e => h (Fin.ext (by rw [e, Cv.val_zero]))]
  rw [e] at h1
  generalize decide (a = 0) = t at *
  refine mk Tryz.func165 rfl rfl L0 R1 (by decide +kernel) fun A S hA hS => ?_
  have n := i_not hA (rfl : t = t)
  unfold bodyOf Tryz.f165
  cbv
  refine ACall.mk _ (cf hS h1) ?_
  cbv
  cases t
  · refine ABr.t n ?_
    cbv
  · refine ABr.f n ?_
    cbv
theorem noneR4_1 {H : H5} (hH : H = H5.real) (hp : PrM 256 p) (c : Cu p) : Sp 119 [Cr4_1 H c] (Nr4_1 H (0 : Fin p)) := by
  have h1 : Sp 80 [rf4 H p, .s .u64 0] (.new false 4 1 (ws4 H.lim ((0 : Fin p)).val)) := by rw [Cv.val_zero]; exact rnumS4 (p := p) hH 0 (by decide)
  generalize (0 : Fin p) = z at *
  refine mk Tryz.func119 rfl rfl L0 RNone (by decide +kernel) fun A S hA hS => ?_
  unfold bodyOf Tryz.f119
  cbv
  refine ACall.mk _ (cg hS h1 (by first | (cbv; done) | (cbv; exact rfl) | (cbv; exact ⟨rfl, trivial⟩) | (cbv; simp))) ?_
  cbv
theorem oneR4_1 {H : H5} (hH : H = H5.real) (hp : PrM 256 p) {c : Cu p} (h1c : c.one = fo p 1) : Sp 208 [Cr4_1 H c] (Nr4_1 H c.one) := by
  have h0 := noneR4_1 hH hp c
  have o : c.one.val = 1 := by rw [h1c]; exact hp.ne
  have h1 : Sp 80 [rf4 H p, .s .u64 1] (.new false 4 1 (ws4 H.lim c.one.val)) := by rw [o]; exact rnumS4 (p := p) hH 1 (by decide)
  clear o h1c
  generalize (0 : Fin p) = z at *
  refine mk Tryz.func208 rfl rfl L0 RNone (by decide +kernel) fun A S hA hS => ?_
  unfold bodyOf Tryz.f208
  cbv
  refine ACall.mk _ (cf hS h0) ?_
  cbv
  refine ACall.mk _ (cg hS h1 (by first | (cbv; done) | (cbv; exact rfl) | (cbv; exact ⟨rfl, trivial⟩) | (cbv; simp))) ?_
  cbv
end
end Go.Proofs.YtmholgclgamnnaaGreat
end
section
set_option linter.unusedVariables false
set_option linter.unusedSectionVars false
set_option linter.unusedSimpArgs false
namespace Go.Proofs.YtmholgclgamnnaaGreat
open Go Eng
set_option maxRecDepth 100000
set_option exponentiation.threshold 2000
set_option maxHeartbeats 4000000
section
variable {p : Nat} [NeZero p]
theorem rGood4_1 {H : H5} (hH : H = H5.real) (hp : PrM 256 p) (c : Cu p) (P : PtA) (hx : P.x < 2 ^ 256) (hy : P.y < 2 ^ 256) : Sp 19 [Cr4_1 H c, PR4_1 H P] (.s .i64 (good1 c.b1 P : Nat)) := by
  obtain ⟨x, y, inf⟩ := P
  dsimp only at hx hy
  have pp := hp.pos
  have lx := fun t ht => rLess4 (H5.hlim hH) x p hx hp.lt t ht
  have zx := rZeroS4 hH x hx
  have ly := fun t ht => rLess4 (H5.hlim hH) y p hy hp.lt t ht
  have zy := rZeroS4 hH y hy
  cases inf
  · by_cases qx : x < p
    · by_cases qy : y < p
      · rw [show good1 c.b1 ⟨x, y, false⟩ = (if _ then 0 else 71) from by unfold good1; rw [if_neg (by simp), if_pos ⟨qx, qy⟩]]
        have lx := lx true (decide_eq_true qx).symm
        have ly := ly true (decide_eq_true qy).symm
        clear zx zy
        obtain ⟨u0, rfl⟩ : ∃ u : Fin p, x = u.val := ⟨⟨x, qx⟩, rfl⟩
        obtain ⟨u1, rfl⟩ : ∃ u : Fin p, y = u.val := ⟨⟨y, qy⟩, rfl⟩
        simp only [fo_val]
        have m1 := mulR4_1 hH hp c u1 u1
        have m2 := mulR4_1 hH hp c u0 u0
        have m3 := mulR4_1 hH hp c (u0 * u0) u0
        have a4 := addR4_1 hH hp c (u0 * u0 * u0) c.b1
        have sm := sameR4_1 hH hp (u1 * u1) (u0 * u0 * u0 + c.b1)
        generalize hyy : u1 * u1 = yy at *
        generalize hs : u0 * u0 * u0 + c.b1 = s at *
        generalize hx3 : u0 * u0 * u0 = x3 at *
        generalize hx2 : u0 * u0 = x2 at *
        clear hyy hs hx3 hx2
        by_cases he : yy = s
        · rw [if_pos he]
          rw [decide_eq_true he] at sm
          refine mk Tryz.func19 rfl rfl L0 RGood (by decide +kernel) fun A S hA hS => ?_
          have nt := i_not hA (rfl : true = true)
          have nf := i_not hA (rfl : false = false)
          unfold bodyOf Tryz.f19
          cbv
          repeat (first
            | (refine ABr.t (by assumption) ?_; cbv)
            | (refine ABr.f (by assumption) ?_; cbv)
            | (refine ABr.t rfl ?_; cbv)
            | (refine ABr.f rfl ?_; cbv)
            | (refine ACall.mk _ (cf hS lx) ?_; cbv)
            | (refine ACall.mk _ (cf hS ly) ?_; cbv)
            | (refine ACall.mk _ (cf hS m1) ?_; cbv)
            | (refine ACall.mk _ (cf hS m2) ?_; cbv)
            | (refine ACall.mk _ (cf hS m3) ?_; cbv)
            | (refine ACall.mk _ (cf hS a4) ?_; cbv)
            | (refine ACall.mk _ (cf hS sm) ?_; cbv))
        · rw [if_neg he]
          rw [decide_eq_false he] at sm
          refine mk Tryz.func19 rfl rfl L0 RGood (by decide +kernel) fun A S hA hS => ?_
          have nt := i_not hA (rfl : true = true)
          have nf := i_not hA (rfl : false = false)
          unfold bodyOf Tryz.f19
          cbv
          repeat (first
            | (refine ABr.t (by assumption) ?_; cbv)
            | (refine ABr.f (by assumption) ?_; cbv)
            | (refine ABr.t rfl ?_; cbv)
            | (refine ABr.f rfl ?_; cbv)
            | (refine ACall.mk _ (cf hS lx) ?_; cbv)
            | (refine ACall.mk _ (cf hS ly) ?_; cbv)
            | (refine ACall.mk _ (cf hS m1) ?_; cbv)
            | (refine ACall.mk _ (cf hS m2) ?_; cbv)
            | (refine ACall.mk _ (cf hS m3) ?_; cbv)
            | (refine ACall.mk _ (cf hS a4) ?_; cbv)
            | (refine ACall.mk _ (cf hS sm) ?_; cbv))
      · rw [show good1 c.b1 ⟨x, y, false⟩ = 70 from by unfold good1; rw [if_neg (by simp), if_neg (by dsimp only; omega)]]
        have lx := lx true (decide_eq_true qx).symm
        have ly := ly false (decide_eq_false qy).symm
        refine mk Tryz.func19 rfl rfl L0 RGood (by decide +kernel) fun A S hA hS => ?_
        have nt := i_not hA (rfl : true = true)
        have nf := i_not hA (rfl : false = false)
        unfold bodyOf Tryz.f19
        cbv
        repeat (first
          | (refine ABr.t (by assumption) ?_; cbv)
          | (refine ABr.f (by assumption) ?_; cbv)
          | (refine ABr.t rfl ?_; cbv)
          | (refine ABr.f rfl ?_; cbv)
          | (refine ACall.mk _ (cf hS lx) ?_; cbv)
          | (refine ACall.mk _ (cf hS ly) ?_; cbv))
    · rw [show good1 c.b1 ⟨x, y, false⟩ = 70 from by unfold good1; rw [if_neg (by simp), if_neg (by dsimp only; omega)]]
      have lx := lx false (decide_eq_false qx).symm
      refine mk Tryz.func19 rfl rfl L0 RGood (by decide +kernel) fun A S hA hS => ?_
      have nt := i_not hA (rfl : true = true)
      have nf := i_not hA (rfl : false = false)
      unfold bodyOf Tryz.f19
      cbv
      repeat (first
        | (refine ABr.t (by assumption) ?_; cbv)
        | (refine ABr.f (by assumption) ?_; cbv)
        | (refine ABr.t rfl ?_; cbv)
        | (refine ABr.f rfl ?_; cbv)
        | (refine ACall.mk _ (cf hS lx) ?_; cbv))
  · by_cases qx : x < p
    · by_cases wx : x = 0
      · by_cases qy : y < p
        · by_cases wy : y = 0
          · rw [show good1 c.b1 ⟨x, y, true⟩ = 0 from by unfold good1; rw [if_pos rfl, if_pos (by dsimp only; omega)]]
            have lx := lx true (decide_eq_true qx).symm
            rw [decide_eq_true wx] at zx
            have ly := ly true (decide_eq_true qy).symm
            rw [decide_eq_true wy] at zy
            refine mk Tryz.func19 rfl rfl L0 RGood (by decide +kernel) fun A S hA hS => ?_
            have nt := i_not hA (rfl : true = true)
            have nf := i_not hA (rfl : false = false)
            unfold bodyOf Tryz.f19
            cbv
            repeat (first
              | (refine ABr.t (by assumption) ?_; cbv)
              | (refine ABr.f (by assumption) ?_; cbv)
              | (refine ABr.t rfl ?_; cbv)
              | (refine ABr.f rfl ?_; cbv)
              | (refine ACall.mk _ (cf hS lx) ?_; cbv)
              | (refine ACall.mk _ (cf hS ly) ?_; cbv)
              | (refine ACall.mk _ (cf hS zx) ?_; cbv)
              | (refine ACall.mk _ (cf hS zy) ?_; cbv))
          · rw [show good1 c.b1 ⟨x, y, true⟩ = 70 from by unfold good1; rw [if_pos rfl, if_neg (by dsimp only; omega)]]
            have lx := lx true (decide_eq_true qx).symm
            rw [decide_eq_true wx] at zx
            have ly := ly true (decide_eq_true qy).symm
            rw [decide_eq_false wy] at zy
            refine mk Tryz.func19 rfl rfl L0 RGood (by decide +kernel) fun A S hA hS => ?_
            have nt := i_not hA (rfl : true = true)
            have nf := i_not hA (rfl : false = false)
            unfold bodyOf Tryz.f19
            cbv
            repeat (first
              | (refine ABr.t (by assumption) ?_; cbv)
              | (refine ABr.f (by assumption) ?_; cbv)
              | (refine ABr.t rfl ?_; cbv)
              | (refine ABr.f rfl ?_; cbv)
              | (refine ACall.mk _ (cf hS lx) ?_; cbv)
              | (refine ACall.mk _ (cf hS ly) ?_; cbv)
              | (refine ACall.mk _ (cf hS zx) ?_; cbv)
              | (refine ACall.mk _ (cf hS zy) ?_; cbv))
        · rw [show good1 c.b1 ⟨x, y, true⟩ = 70 from by unfold good1; rw [if_pos rfl, if_neg (by dsimp only; omega)]]
          have lx := lx true (decide_eq_true qx).symm
          rw [decide_eq_true wx] at zx
          have ly := ly false (decide_eq_false qy).symm
          refine mk Tryz.func19 rfl rfl L0 RGood (by decide +kernel) fun A S hA hS => ?_
          have nt := i_not hA (rfl : true = true)
          have nf := i_not hA (rfl : false = false)
          unfold bodyOf Tryz.f19
          cbv
          repeat (first
            | (refine ABr.t (by assumption) ?_; cbv)
            | (refine ABr.f (by assumption) ?_; cbv)
            | (refine ABr.t rfl ?_; cbv)
            | (refine ABr.f rfl ?_; cbv)
            | (refine ACall.mk _ (cf hS lx) ?_; cbv)
            | (refine ACall.mk _ (cf hS ly) ?_; cbv)
            | (refine ACall.mk _ (cf hS zx) ?_; cbv))
      · rw [show good1 c.b1 ⟨x, y, true⟩ = 70 from by unfold good1; rw [if_pos rfl, if_neg (by dsimp only; omega)]]
        have lx := lx true (decide_eq_true qx).symm
        rw [decide_eq_false wx] at zx
        refine mk Tryz.func19 rfl rfl L0 RGood (by decide +kernel) fun A S hA hS => ?_
        have nt := i_not hA (rfl : true = true)
        have nf := i_not hA (rfl : false = false)
        unfold bodyOf Tryz.f19
        cbv
        repeat (first
          | (refine ABr.t (by assumption) ?_; cbv)
          | (refine ABr.f (by assumption) ?_; cbv)
          | (refine ABr.t rfl ?_; cbv)
          | (refine ABr.f rfl ?_; cbv)
          | (refine ACall.mk _ (cf hS lx) ?_; cbv)
          | (refine ACall.mk _ (cf hS zx) ?_; cbv))
    · rw [show good1 c.b1 ⟨x, y, true⟩ = 70 from by unfold good1; rw [if_pos rfl, if_neg (by dsimp only; omega)]]
      have lx := lx false (decide_eq_false qx).symm
      refine mk Tryz.func19 rfl rfl L0 RGood (by decide +kernel) fun A S hA hS => ?_
      have nt := i_not hA (rfl : true = true)
      have nf := i_not hA (rfl : false = false)
      unfold bodyOf Tryz.f19
      cbv
      repeat (first
        | (refine ABr.t (by assumption) ?_; cbv)
        | (refine ABr.f (by assumption) ?_; cbv)
        | (refine ABr.t rfl ?_; cbv)
        | (refine ABr.f rfl ?_; cbv)
        | (refine ACall.mk _ (cf hS lx) ?_; cbv))
end
end Go.Proofs.YtmholgclgamnnaaGreat
end
section
set_option linter.unusedVariables false
set_option linter.unusedSectionVars false
set_option linter.unusedSimpArgs false
namespace Go.Proofs.YtmholgclgamnnaaGreat
open Go Eng
set_option maxRecDepth 100000
set_option exponentiation.threshold 2000
set_option maxHeartbeats 4000000
section
variable {p : Nat} [NeZero p]
def kR4_1 (H : H5) (c : Cu p) : Rk (Fin p) := ⟨(Cv.ops1 Cv.inv1), fun a => [.lst false 4 (ws4 H.lim a.val)], 1, 4, ws4 H.lim p, (H.minv p : Nat), ws4 H.lim (H.mf (2 * 256) p 1), 1, ws4 H.lim c.r, [.lst false 4 (ws4 H.lim c.x1)], [.lst false 4 (ws4 H.lim c.y1)]⟩
theorem okR4_1 {H : H5} (hH : H = H5.real) (hp : PrM 256 p) {c : Cu p} (h1c : c.one = fo p 1) : OkR (kR4_1 H c) c.b1 where
  add a b := Spec.res (Spec.args (addR4_1 hH hp c a b) (by cbv)) (by cbv)
  sub a b := Spec.res (Spec.args (subR4_1 hH hp c a b) (by cbv)) (by cbv)
  mul a b := Spec.res (Spec.args (mulR4_1 hH hp c a b) (by cbv)) (by cbv)
  inv a := by
    have h := invR4_1 hH hp c a
    show Sp _ _ (Nt (kR4_1 H c) (Cv.inv1 a))
    generalize Cv.inv1 a = i at *
    exact Spec.res (Spec.args h (by cbv)) (by cbv)
  same a b := Spec.args (sameR4_1 hH hp a b) (by cbv)
  zero a := Spec.args (zeroR4_1 hH hp a) (by cbv)
  none := by
    have h := noneR4_1 hH hp c
    show Sp _ _ (Nt (kR4_1 H c) (0 : Fin p))
    generalize (0 : Fin p) = z at *
    exact Spec.res (Spec.args h (by cbv)) (by cbv)
  one := by
    have h := oneR4_1 hH hp h1c
    have e : (kR4_1 H c).O.one = c.one := by rw [h1c]; rfl
    rw [e]
    generalize (c.one : Fin p) = z at *
    exact Spec.res (Spec.args h (by cbv)) (by cbv)
theorem good_pt4_1 {H : H5} (hH : H = H5.real) {c : Cu p} {P : PtA} (h : good1 c.b1 P = 0) : Sim (PR4_1 H P) (Pt_ (kR4_1 H c) (ptOf p P)) := by
  obtain ⟨x, y, inf⟩ := P
  unfold good1 at h
  dsimp only at h
  cases inf
  · rw [if_neg (by simp)] at h
    have hxy : x < p ∧ y < p := by
      apply Classical.byContradiction
      intro hn
      rw [if_neg hn] at h
      cases h
    have ex : (fo p x).val = x := Nat.mod_eq_of_lt hxy.1
    have ey : (fo p y).val = y := Nat.mod_eq_of_lt hxy.2
    show Sim _ (.agg [.lst true 1 [.lst false 4 (ws4 H.lim (fo p x).val)], .lst true 1 [.lst false 4 (ws4 H.lim (fo p y).val)], .sb false])
    rw [ex, ey]
    cbv
  · rw [if_pos rfl] at h
    have hxy : x = 0 ∧ y = 0 := by
      apply Classical.byContradiction
      intro hn
      rw [if_neg hn] at h
      cases h
    obtain ⟨rfl, rfl⟩ := hxy
    show Sim _ (.agg [.lst true 1 [.lst false 4 (ws4 H.lim (0 : Fin p).val)], .lst true 1 [.lst false 4 (ws4 H.lim (0 : Fin p).val)], .sb true])
    rw [Cv.val_zero]
    cbv
/-- What the reference tells of a point: nothing where there was an error. -/
def Rp4_1 (H : H5) (c : Cu p) (e : Nat) (P : Cv.Pt (Fin p)) : AVal := match e with
  | 0 => Pt_ (kR4_1 H c) P
  | _ + 1 => .agg [.v (.slice none 0 0), .v (.slice none 0 0), .b false]
theorem Ctr4_1 (H : H5) (c : Cu p) : Sim (Cr4_1 H c) (Ct (kR4_1 H c) c.b1) := by cbv
theorem rAdd4_1 {H : H5} (hH : H = H5.real) (hp : PrM 256 p) {c : Cu p} (h1c : c.one = fo p 1) (P Q : PtA) (hPx : P.x < 2 ^ 256) (hPy : P.y < 2 ^ 256) (hQx : Q.x < 2 ^ 256) (hQy : Q.y < 2 ^ 256) :
    Sp 23 [Cr4_1 H c, PR4_1 H P, PR4_1 H Q] (.tup [Rp4_1 H c (addE (good1 c.b1 P) (good1 c.b1 Q)) (Cv.sumR (Cv.ops1 Cv.inv1) (ptOf p P) (ptOf p Q)), .s .i64 (addE (good1 c.b1 P) (good1 c.b1 Q) : Nat)]) := by
  have g1 := rGood4_1 hH hp c P hPx hPy
  have g2 := rGood4_1 hH hp c Q hQx hQy
  have ne := fun A hA x => i_ne (A := A) hA (x := x) (y := 0)
  have eq := fun A hA x => i_eq (A := A) hA (x := x) (y := 0)
  by_cases h1 : good1 c.b1 P = 0
  · by_cases h2 : good1 c.b1 Q = 0
    · have sm : Sp 97 [Cr4_1 H c, PR4_1 H P, PR4_1 H Q] _ := Spec.args (sumRS (okR4_1 hH hp h1c) (ptOf p P) (ptOf p Q)) ⟨Ctr4_1 H c, good_pt4_1 hH h1, good_pt4_1 hH h2⟩
      rw [h1] at g1
      rw [h2] at g2
      rw [h1, h2]
      have ok := pt_agg (kR4_1 H c) (Cv.sumR (kR4_1 H c).O (ptOf p P) (ptOf p Q))
      show Sp _ _ (.tup [Pt_ (kR4_1 H c) (Cv.sumR (kR4_1 H c).O (ptOf p P) (ptOf p Q)), .s .i64 ((0 : Nat) : Int)])
      obtain ⟨X, Y, t, e⟩ := ok
      rw [e] at sm ⊢
      clear e h1 h2
      refine mk Tryz.func23 rfl rfl L0 R1 (by decide +kernel) fun A S hA hS => ?_
      have e0 : A.cmp .neq ((0 : Nat) : Int) 0 = false := ne A hA _
      have e1 : A.cmp .eql ((0 : Nat) : Int) 0 = true := eq A hA _
      unfold bodyOf Tryz.f23
      cbv
      repeat (first
        | (refine ABr.t (by assumption) ?_; cbv)
        | (refine ABr.f (by assumption) ?_; cbv)
        | (refine ABr.t rfl ?_; cbv)
        | (refine ABr.f rfl ?_; cbv)
        | (refine ACall.mk _ (cf hS g1) ?_; cbv)
        | (refine ACall.mk _ (cf hS g2) ?_; cbv)
        | (refine ACall.mk _ (cf hS sm) ?_; cbv))
    · rw [h1] at g1
      obtain ⟨e, he⟩ : ∃ e, good1 c.b1 Q = e + 1 := ⟨good1 c.b1 Q - 1, by omega⟩
      rw [h1]
      rw [he] at g2 ⊢
      show Sp _ _ (.tup [.agg [.v (.slice none 0 0), .v (.slice none 0 0), .b false], .s .i64 ((e + 1 : Nat) : Int)])
      have h2' : ((e + 1 : Nat) : Int) ≠ 0 := by omega
      generalize ((e + 1 : Nat) : Int) = v at *
      clear h1 h2 he
      refine mk Tryz.func23 rfl rfl L0 R1 (by decide +kernel) fun A S hA hS => ?_
      have e0 : A.cmp .neq v 0 = true := by rw [ne A hA, decide_eq_false h2']; rfl
      have e1 : A.cmp .eql ((0 : Nat) : Int) 0 = true := eq A hA _
      unfold bodyOf Tryz.f23
      cbv
      repeat (first
        | (refine ABr.t (by assumption) ?_; cbv)
        | (refine ABr.f (by assumption) ?_; cbv)
        | (refine ABr.t rfl ?_; cbv)
        | (refine ABr.f rfl ?_; cbv)
        | (refine ACall.mk _ (cf hS g1) ?_; cbv)
        | (refine ACall.mk _ (cf hS g2) ?_; cbv))
  · obtain ⟨e, he⟩ : ∃ e, good1 c.b1 P = e + 1 := ⟨good1 c.b1 P - 1, by omega⟩
    rw [he] at g1 ⊢
    show Sp _ _ (.tup [.agg [.v (.slice none 0 0), .v (.slice none 0 0), .b false], .s .i64 ((e + 1 : Nat) : Int)])
    have h2' : ((e + 1 : Nat) : Int) ≠ 0 := by omega
    generalize ((e + 1 : Nat) : Int) = v at *
    clear h1 he g2
    refine mk Tryz.func23 rfl rfl L0 R1 (by decide +kernel) fun A S hA hS => ?_
    have e0 : A.cmp .neq v 0 = true := by rw [ne A hA, decide_eq_false h2']; rfl
    have e1 : A.cmp .eql v 0 = false := by rw [eq A hA, decide_eq_false h2']
    unfold bodyOf Tryz.f23
    cbv
    repeat (first
      | (refine ABr.t (by assumption) ?_; cbv)
      | (refine ABr.f (by assumption) ?_; cbv)
      | (refine ABr.t rfl ?_; cbv)
      | (refine ABr.f rfl ?_; cbv)
      | (refine ACall.mk _ (cf hS g1) ?_; cbv))
theorem rMul4_1 {H : H5} (hH : H = H5.real) (hp : PrM 256 p) {c : Cu p} (h1c : c.one = fo p 1) (P : PtA) (hPx : P.x < 2 ^ 256) (hPy : P.y < 2 ^ 256) {row : List AVal} {k : Nat} (hrow : IsRow row (H.lim k) 4) :
    Sp 27 [Cr4_1 H c, PR4_1 H P, .lst true 4 row] (.tup [Rp4_1 H c (good1 c.b1 P) (timesPt (Cv.ops1 Cv.inv1) (ptOf p P) k), .s .i64 (good1 c.b1 P : Nat)]) := by
  have g1 := rGood4_1 hH hp c P hPx hPy
  have ne := fun A hA x => i_ne (A := A) hA (x := x) (y := 0)
  by_cases h1 : good1 c.b1 P = 0
  · have sm : Sp 93 [Cr4_1 H c, PR4_1 H P, .lst true 4 row] _ := Spec.args (timesRS (okR4_1 hH hp h1c) (ptOf p P) (H5.hlim hH) hrow) ⟨Ctr4_1 H c, good_pt4_1 hH h1, rfl, rfl⟩
    rw [h1] at g1
    rw [h1]
    show Sp _ _ (.tup [Pt_ (kR4_1 H c) (timesPt (kR4_1 H c).O (ptOf p P) k), .s .i64 ((0 : Nat) : Int)])
    obtain ⟨X, Y, t, e⟩ := pt_agg (kR4_1 H c) (timesPt (kR4_1 H c).O (ptOf p P) k)
    rw [e] at sm ⊢
    clear e h1
    refine mk Tryz.func27 rfl rfl L0 R1 (by decide +kernel) fun A S hA hS => ?_
    have e0 : A.cmp .neq ((0 : Nat) : Int) 0 = false := ne A hA _
    unfold bodyOf Tryz.f27
    cbv
    repeat (first
      | (refine ABr.t (by assumption) ?_; cbv)
      | (refine ABr.f (by assumption) ?_; cbv)
      | (refine ABr.t rfl ?_; cbv)
      | (refine ABr.f rfl ?_; cbv)
      | (refine ACall.mk _ (cf hS g1) ?_; cbv)
      | (refine ACall.mk _ (cf hS sm) ?_; cbv))
  · obtain ⟨e, he⟩ : ∃ e, good1 c.b1 P = e + 1 := ⟨good1 c.b1 P - 1, by omega⟩
    rw [he] at g1 ⊢
    show Sp _ _ (.tup [.agg [.v (.slice none 0 0), .v (.slice none 0 0), .b false], .s .i64 ((e + 1 : Nat) : Int)])
    have h2' : ((e + 1 : Nat) : Int) ≠ 0 := by omega
    generalize ((e + 1 : Nat) : Int) = v at *
    clear h1 he
    refine mk Tryz.func27 rfl rfl L0 R1 (by decide +kernel) fun A S hA hS => ?_
    have e0 : A.cmp .neq v 0 = true := by rw [ne A hA, decide_eq_false h2']; rfl
    unfold bodyOf Tryz.f27
    cbv
    repeat (first
      | (refine ABr.t (by assumption) ?_; cbv)
      | (refine ABr.f (by assumption) ?_; cbv)
      | (refine ABr.t rfl ?_; cbv)
      | (refine ABr.f rfl ?_; cbv)
      | (refine ACall.mk _ (cf hS g1) ?_; cbv))
theorem rGrp4_1 {H : H5} (hH : H = H5.real) (hp : PrM 256 p) {c : Cu p} (h1c : c.one = fo p 1) (P : PtA) (hPx : P.x < 2 ^ 256) (hPy : P.y < 2 ^ 256) :
    Sp 21 [Cr4_1 H c, PR4_1 H P] (.s .i64 (grpE (good1 c.b1 P) (timesPt (Cv.ops1 Cv.inv1) (ptOf p P) c.r) : Nat)) := by
  have g1 := rGood4_1 hH hp c P hPx hPy
  have ne := fun A hA x => i_ne (A := A) hA (x := x) (y := 0)
  by_cases h1 : good1 c.b1 P = 0
  · have sm : Sp 93 [Cr4_1 H c, PR4_1 H P, .lst false 4 (ws4 H.lim c.r)] _ := Spec.args (timesRS (okR4_1 hH hp h1c) (ptOf p P) (H5.hlim hH) (row4u H.lim c.r)) ⟨Ctr4_1 H c, good_pt4_1 hH h1, by cbv⟩
    rw [h1] at g1
    rw [h1]
    change Sp _ _ (Pt_ (kR4_1 H c) (timesPt (Cv.ops1 Cv.inv1) (ptOf p P) c.r)) at sm
    generalize timesPt (Cv.ops1 Cv.inv1) (ptOf p P) c.r = R at *
    obtain _ | ⟨x, y⟩ := R
    · show Sp _ _ (.s .i64 ((0 : Nat) : Int))
      generalize (kR4_1 H c).O.zero = z at *
      refine mk Tryz.func21 rfl rfl L0 R1 (by decide +kernel) fun A S hA hS => ?_
      have e0 : A.cmp .neq ((0 : Nat) : Int) 0 = false := ne A hA _
      have nt := i_not hA (rfl : true = true)
      unfold bodyOf Tryz.f21
      cbv
      repeat (first
        | (refine ABr.t (by assumption) ?_; cbv)
        | (refine ABr.f (by assumption) ?_; cbv)
        | (refine ABr.t rfl ?_; cbv)
        | (refine ABr.f rfl ?_; cbv)
        | (refine ACall.mk _ (cf hS g1) ?_; cbv)
        | (refine ACall.mk _ (cf hS sm) ?_; cbv))
    · show Sp _ _ (.s .i64 ((72 : Nat) : Int))
      refine mk Tryz.func21 rfl rfl L0 R1 (by decide +kernel) fun A S hA hS => ?_
      have e0 : A.cmp .neq ((0 : Nat) : Int) 0 = false := ne A hA _
      have nt := i_not hA (rfl : false = false)
      unfold bodyOf Tryz.f21
      cbv
      repeat (first
        | (refine ABr.t (by assumption) ?_; cbv)
        | (refine ABr.f (by assumption) ?_; cbv)
        | (refine ABr.t rfl ?_; cbv)
        | (refine ABr.f rfl ?_; cbv)
        | (refine ACall.mk _ (cf hS g1) ?_; cbv)
        | (refine ACall.mk _ (cf hS sm) ?_; cbv))
  · obtain ⟨e, he⟩ : ∃ e, good1 c.b1 P = e + 1 := ⟨good1 c.b1 P - 1, by omega⟩
    rw [he] at g1 ⊢
    show Sp _ _ (.s .i64 ((e + 1 : Nat) : Int))
    have h2' : ((e + 1 : Nat) : Int) ≠ 0 := by omega
    generalize ((e + 1 : Nat) : Int) = v at *
    clear h1 he
    refine mk Tryz.func21 rfl rfl L0 R1 (by decide +kernel) fun A S hA hS => ?_
    have e0 : A.cmp .neq v 0 = true := by rw [ne A hA, decide_eq_false h2']; rfl
    unfold bodyOf Tryz.f21
    cbv
    repeat (first
      | (refine ABr.t (by assumption) ?_; cbv)
      | (refine ABr.f (by assumption) ?_; cbv)
      | (refine ABr.t rfl ?_; cbv)
      | (refine ABr.f rfl ?_; cbv)
      | (refine ACall.mk _ (cf hS g1) ?_; cbv))
end
end Go.Proofs.YtmholgclgamnnaaGreat
end
section
set_option linter.unusedVariables false
set_option linter.unusedSectionVars false
set_option linter.unusedSimpArgs false
namespace Go.Proofs.YtmholgclgamnnaaGreat
open Go Eng
set_option maxRecDepth 100000
set_option exponentiation.threshold 2000
set_option maxHeartbeats 4000000
theorem ref4_1 {H : H5} (hH : H = H5.real) (x0 x1 y0 y1 : Nat) (inf : Bool) : Sp 16 [PLv H x0 x1 y0 y1 inf, .i .i64 4, .i .i64 1] (PR4_1 H ⟨x0 % 2 ^ (64 * 4), y0 % 2 ^ (64 * 4), inf⟩) := by
  have cx0 := cutS4 (H := H) x0
  have cy0 := cutS4 (H := H) y0
  have rx0 := fun i hi => lim_red hH x0 4 i hi
  have ry0 := fun i hi => lim_red hH y0 4 i hi
  generalize x0 % 2 ^ (64 * 4) = mx0 at *
  generalize y0 % 2 ^ (64 * 4) = my0 at *
  refine mk Tryz.func16 rfl rfl L0 RRef (by decide +kernel) fun A S hA hS => ?_
  unfold bodyOf Tryz.f16
  cbv
  refine ACall.mk _ (cf hS cx0) ?_
  cbv
  refine ACall.mk _ (cf hS cy0) ?_
  cbv
  repeat' (first | exact (rx0 _ (by decide)).symm | exact (ry0 _ (by decide)).symm | exact trivial | constructor)
end Go.Proofs.YtmholgclgamnnaaGreat
end
