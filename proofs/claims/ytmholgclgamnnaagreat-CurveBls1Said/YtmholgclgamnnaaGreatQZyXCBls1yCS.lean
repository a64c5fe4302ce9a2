import Derived.Test.YtmholgclgamnnaaGreatQZCE
import Derived.Test.YtmholgclgamnnaaGreatQZCD
import Derived.Test.YtmholgclgamnnaaGreatQZI
import Derived.Test.YtmholgclgamnnaaGreatQZM
import Derived.Test.YtmholgclgamnnaaGreatQZCK
import Derived.Test.YtmholgclgamnnaaGreatQZCN
import Derived.Test.YtmholgclgamnnaaGreatQZCL
import Derived.Test.YtmholgclgamnnaaGreatQZCQ
import Derived.Test.YtmholgclgamnnaaGreatQZBK
import Derived.Test.YtmholgclgamnnaaGreatQZCU
section
set_option linter.unusedVariables false
set_option linter.unusedSimpArgs false
namespace Go.Proofs.YtmholgclgamnnaaGreat
open Go Eng
set_option maxRecDepth 100000
set_option exponentiation.threshold 2000
set_option maxHeartbeats 4000000
theorem flatb6 {α : Type} {K : Kd α} {r : List AVal} (hK : Okb6 K r) (b : α) (p : Cv.Jac α) :
    Sp 168 [Grb6 K r b, Jb6 K p] (.tup [Eb6 K (K.O.mul p.x (K.O.mul (K.O.inv p.z) (K.O.inv p.z))), Eb6 K (K.O.mul (K.O.mul p.y (K.O.mul (K.O.inv p.z) (K.O.inv p.z))) (K.O.inv p.z))]) := by
  obtain ⟨px, py, pz⟩ := p
  dsimp only
  obtain ⟨i, hi⟩ : ∃ q_, q_ = K.O.inv pz := ⟨_, rfl⟩
  have ci := hK.inv pz
  rw [← hi] at ci ⊢
  obtain ⟨j, hj⟩ : ∃ q_, q_ = K.O.mul i i := ⟨_, rfl⟩
  have cj := hK.mul i i
  rw [← hj] at cj ⊢
  obtain ⟨x, hx⟩ : ∃ q_, q_ = K.O.mul px j := ⟨_, rfl⟩
  have cx := hK.mul px j
  rw [← hx] at cx ⊢
  obtain ⟨y0, hy0⟩ : ∃ q_, q_ = K.O.mul py j := ⟨_, rfl⟩
  have cy0 := hK.mul py j
  rw [← hy0] at cy0 ⊢
  obtain ⟨y, hy⟩ : ∃ q_, q_ = K.O.mul y0 i := ⟨_, rfl⟩
  have cy := hK.mul y0 i
  rw [← hy] at cy ⊢
  refine mk Tryz.func168 rfl rfl L0 R1 (by decide +kernel) fun A S hA hS => ?_
  unfold bodyOf Tryz.f168
  cbv
  refine ACall.mk _ (cf hS ci) ?_
  cbv
  refine ACall.mk _ (cf hS cj) ?_
  cbv
  refine ACall.mk _ (cf hS cx) ?_
  cbv
  refine ACall.mk _ (cf hS cy0) ?_
  cbv
  refine ACall.mk _ (cf hS cy) ?_
  cbv
end Go.Proofs.YtmholgclgamnnaaGreat
end
section
set_option linter.unusedVariables false
set_option linter.unusedSectionVars false
set_option linter.unusedSimpArgs false
namespace Go.Proofs.YtmholgclgamnnaaGreat
open Go Eng
set_option maxRecDepth 100000
set_option exponentiation.threshold 2000
set_option maxHeartbeats 4000000
section
variable {p : Nat} [NeZero p]
theorem down1S6 {H : H5} (hH : H = H5.real) (hp : PrM 384 p) (c : Cu p) (q : Cv.Jac (Fin p)) : Sp 95 [.ref (Cc6 H c) 0, Jb6 (K1_6 H p) q] (P1_6 H (ofPt (Cv.down (K1_6 H p).O q))) := by
  have hK := ok1_6 hH hp
  have fl := flatb6 hK c.b1 q
  have l0 := lim06 hH
  obtain ⟨qx, qy, qz⟩ := q
  dsimp only at fl
  unfold Cv.down
  dsimp only
  by_cases h : qz = (K1_6 H p).O.zero
  · rw [if_pos h]
    have hz := fun A hA => (hK.eqz (A := A) hA qz).trans (decide_eq_true h)
    refine mk Tryz.func95 rfl rfl L0 RDn (by decide +kernel) fun A S hA hS => ?_
    have hz := hz A hA
    unfold bodyOf Tryz.f95
    cbv
    refine ABr.t hz ?_
    cbv
    exact ⟨(l0 0).symm, (l0 1).symm, (l0 2).symm, (l0 3).symm, (l0 4).symm, (l0 5).symm, (l0 0).symm, (l0 1).symm, (l0 2).symm, (l0 3).symm, (l0 4).symm, (l0 5).symm, trivial⟩
  · rw [if_neg h]
    have hz := fun A hA => (hK.eqz (A := A) hA qz).trans (decide_eq_false h)
    generalize (K1_6 H p).O.mul qx ((K1_6 H p).O.mul ((K1_6 H p).O.inv qz) ((K1_6 H p).O.inv qz)) = u at *
    generalize (K1_6 H p).O.mul ((K1_6 H p).O.mul qy ((K1_6 H p).O.mul ((K1_6 H p).O.inv qz) ((K1_6 H p).O.inv qz))) ((K1_6 H p).O.inv qz) = v at *
    have o1 := outF6 hH hp u
    have o2 := outF6 hH hp v
    clear hK
    refine mk Tryz.func95 rfl rfl L0 RDn (by decide +kernel) fun A S hA hS => ?_
    have hz := hz A hA
    unfold bodyOf Tryz.f95
    cbv
    refine ABr.f hz ?_
    cbv
    refine ACall.mk _ (cf hS fl) ?_
    cbv
    refine ACall.mk _ (cf hS o1) ?_
    cbv
    refine ACall.mk _ (cf hS o2) ?_
    cbv
end
end Go.Proofs.YtmholgclgamnnaaGreat
end
section
set_option linter.unusedVariables false
set_option linter.unusedSectionVars false
set_option linter.unusedSimpArgs false
namespace Go.Proofs.YtmholgclgamnnaaGreat
open Go Eng
set_option maxRecDepth 100000
set_option exponentiation.threshold 2000
set_option maxHeartbeats 4000000
section
variable {p : Nat} [NeZero p]
theorem infS1_6 {H : H5} (hH : H = H5.real) (c : Cu p) : Sp 94 [.ref (Cc6 H c) 0] (P1_6 H ⟨0, 0, false⟩) := by
  have h := CisS6 (H := H) c
  have l0 := lim06 hH
  refine mk Tryz.func94 rfl rfl L0 R1 (by decide +kernel) fun A S hA hS => ?_
  unfold bodyOf Tryz.f94
  cbv
  refine ACall.mk _ (cf hS h) ?_
  cbv
  exact ⟨(l0 0).symm, (l0 1).symm, (l0 2).symm, (l0 3).symm, (l0 4).symm, (l0 5).symm, (l0 0).symm, (l0 1).symm, (l0 2).symm, (l0 3).symm, (l0 4).symm, (l0 5).symm, trivial⟩
theorem addS1_6 {H : H5} (hH : H = H5.real) (hp : PrM 384 p) {c : Cu p} (h1c : c.one = fo p 1) (P Q : PtA) (hPx : P.x < 2 ^ 384) (hPy : P.y < 2 ^ 384) (hQx : Q.x < 2 ^ 384) (hQy : Q.y < 2 ^ 384) :
    Sp 22 [.ref (Cc6 H c) 0, P1_6 H P, P1_6 H Q] (.tup [P1_6 H (addP c.b1 P Q).1, .s .i64 ((addP c.b1 P Q).2 : Nat)]) := by
  have g1 := good1S6 hH hp c P hPx hPy
  have g2 := good1S6 hH hp c Q hQx hQy
  have u1 := up1S6 hH hp h1c P hPx hPy
  have u2 := up1S6 hH hp h1c Q hQx hQy
  have hi := infS1_6 hH c
  have ne := fun A hA x => i_ne (A := A) hA (x := x) (y := 0)
  unfold addP
  by_cases h1 : good1 c.b1 P = 0
  · have o1 := good1_on h1
    rw [if_neg (fun h => h h1)]
    by_cases h2 : good1 c.b1 Q = 0
    · have o2 := good1_on h2
      rw [if_neg (fun h => h h2)]
      have pl := plusb6 (ok1_6 hH hp) c.b1 (Cv.up (K1_6 H p).O (ptOf p P)) (Cv.up (K1_6 H p).O (ptOf p Q))
      have dn := down1S6 hH hp c (Cv.plus (K1_6 H p).O (Cv.up (K1_6 H p).O (ptOf p P)) (Cv.up (K1_6 H p).O (ptOf p Q)))
      have e : Cv.down (K1_6 H p).O (Cv.plus (K1_6 H p).O (Cv.up (K1_6 H p).O (ptOf p P)) (Cv.up (K1_6 H p).O (ptOf p Q))) = Cv.sumR (Cv.ops1 Cv.inv1) (ptOf p P) (ptOf p Q) :=
        Cv.add1 Cv.inv1 (one_ne hp) (fun a h => Cv.inv1_ok hp.pr hp.two a h) c.b1 _ _ o1 o2
      rw [e] at dn
      rw [h1] at g1
      rw [h2] at g2
      clear e o1 o2 h1 h2
      dsimp only
      generalize ofPt (Cv.sumR (Cv.ops1 Cv.inv1) (ptOf p P) (ptOf p Q)) = R at *
      generalize Cv.plus (K1_6 H p).O (Cv.up (K1_6 H p).O (ptOf p P)) (Cv.up (K1_6 H p).O (ptOf p Q)) = j at *
      generalize Cv.up (K1_6 H p).O (ptOf p P) = j1 at *
      generalize Cv.up (K1_6 H p).O (ptOf p Q) = j2 at *
      refine mk Tryz.func22 rfl rfl L0 R1 (by decide +kernel) fun A S hA hS => ?_
      have e0 : A.cmp .neq ((0 : Nat) : Int) 0 = false := ne A hA _
      unfold bodyOf Tryz.f22
      cbv
      repeat (first
        | (refine ABr.t (by assumption) ?_; cbv)
        | (refine ABr.f (by assumption) ?_; cbv)
        | (refine ABr.t rfl ?_; cbv)
        | (refine ABr.f rfl ?_; cbv)
        | (refine ACall.mk _ (cf hS g1) ?_; cbv)
        | (refine ACall.mk _ (cf hS g2) ?_; cbv)
        | (refine ACall.mk _ (cf hS u1) ?_; cbv)
        | (refine ACall.mk _ (cf hS u2) ?_; cbv)
        | (refine ACall.mk _ (cf hS pl) ?_; cbv)
        | (refine ACall.mk _ (cf hS dn) ?_; cbv))
    · rw [if_pos h2]
      rw [h1] at g1
      clear u1 u2 o1
      have h2' : ((good1 c.b1 Q : Nat) : Int) ≠ 0 := by omega
      dsimp only
      generalize ((good1 c.b1 Q : Nat) : Int) = e at *
      refine mk Tryz.func22 rfl rfl L0 R1 (by decide +kernel) fun A S hA hS => ?_
      have e0 : A.cmp .neq ((0 : Nat) : Int) 0 = false := ne A hA _
      have e1 : A.cmp .neq e 0 = true := by rw [ne A hA, decide_eq_false h2']; rfl
      unfold bodyOf Tryz.f22
      cbv
      repeat (first
        | (refine ABr.t (by assumption) ?_; cbv)
        | (refine ABr.f (by assumption) ?_; cbv)
        | (refine ABr.t rfl ?_; cbv)
        | (refine ABr.f rfl ?_; cbv)
        | (refine ACall.mk _ (cf hS g1) ?_; cbv)
        | (refine ACall.mk _ (cf hS g2) ?_; cbv)
        | (refine ACall.mk _ (cf hS hi) ?_; cbv))
  · rw [if_pos h1]
    clear u1 u2 g2
    have h1' : ((good1 c.b1 P : Nat) : Int) ≠ 0 := by omega
    dsimp only
    generalize ((good1 c.b1 P : Nat) : Int) = e at *
    refine mk Tryz.func22 rfl rfl L0 R1 (by decide +kernel) fun A S hA hS => ?_
    have e1 : A.cmp .neq e 0 = true := by rw [ne A hA, decide_eq_false h1']; rfl
    unfold bodyOf Tryz.f22
    cbv
    repeat (first
      | (refine ABr.t (by assumption) ?_; cbv)
      | (refine ABr.f (by assumption) ?_; cbv)
      | (refine ABr.t rfl ?_; cbv)
      | (refine ABr.f rfl ?_; cbv)
      | (refine ACall.mk _ (cf hS g1) ?_; cbv)
      | (refine ACall.mk _ (cf hS hi) ?_; cbv))
theorem mulS1_6 {H : H5} (hH : H = H5.real) (hp : PrM 384 p) {c : Cu p} (h1c : c.one = fo p 1) (P : PtA) (hPx : P.x < 2 ^ 384) (hPy : P.y < 2 ^ 384) (k : Nat) (hk : k < 2 ^ 256) :
    Sp 26 [.ref (Cc6 H c) 0, P1_6 H P, u4 H.lim k] (.tup [P1_6 H (mulP c.b1 P k).1, .s .i64 ((mulP c.b1 P k).2 : Nat)]) := by
  have g1 := good1S6 hH hp c P hPx hPy
  have u1 := up1S6 hH hp h1c P hPx hPy
  have hi := infS1_6 hH c
  have ne := fun A hA x => i_ne (A := A) hA (x := x) (y := 0)
  unfold mulP
  by_cases h1 : good1 c.b1 P = 0
  · rw [if_neg (fun h => h h1)]
    have tm := timesb6 (ok1_6 hH hp) c.b1 (Cv.up (K1_6 H p).O (ptOf p P)) (H5.hlim hH) k hk
    have dn := down1S6 hH hp c (Cv.tm (K1_6 H p).O (Cv.up (K1_6 H p).O (ptOf p P)) k 256 256)
    rw [h1] at g1
    clear h1
    dsimp only
    change Sp _ _ (P1_6 H (ofPt (Cv.down (Cv.ops1 Cv.inv1) (Cv.tm (Cv.ops1 Cv.inv1) (Cv.up (Cv.ops1 Cv.inv1) (ptOf p P)) k 256 256)))) at dn
    generalize ofPt (Cv.down (Cv.ops1 Cv.inv1) (Cv.tm (Cv.ops1 Cv.inv1) (Cv.up (Cv.ops1 Cv.inv1) (ptOf p P)) k 256 256)) = R at *
    generalize Cv.tm (K1_6 H p).O (Cv.up (K1_6 H p).O (ptOf p P)) k 256 256 = j at *
    generalize Cv.up (K1_6 H p).O (ptOf p P) = j1 at *
    refine mk Tryz.func26 rfl rfl L0 R1 (by decide +kernel) fun A S hA hS => ?_
    have e0 : A.cmp .neq ((0 : Nat) : Int) 0 = false := ne A hA _
    unfold bodyOf Tryz.f26
    cbv
    repeat (first
      | (refine ABr.t (by assumption) ?_; cbv)
      | (refine ABr.f (by assumption) ?_; cbv)
      | (refine ABr.t rfl ?_; cbv)
      | (refine ABr.f rfl ?_; cbv)
      | (refine ACall.mk _ (cf hS g1) ?_; cbv)
      | (refine ACall.mk _ (cf hS u1) ?_; cbv)
      | (refine ACall.mk _ (cf hS tm) ?_; cbv)
      | (refine ACall.mk _ (cf hS dn) ?_; cbv))
  · rw [if_pos h1]
    clear u1
    have h1' : ((good1 c.b1 P : Nat) : Int) ≠ 0 := by omega
    dsimp only
    generalize ((good1 c.b1 P : Nat) : Int) = e at *
    refine mk Tryz.func26 rfl rfl L0 R1 (by decide +kernel) fun A S hA hS => ?_
    have e1 : A.cmp .neq e 0 = true := by rw [ne A hA, decide_eq_false h1']; rfl
    unfold bodyOf Tryz.f26
    cbv
    repeat (first
      | (refine ABr.t (by assumption) ?_; cbv)
      | (refine ABr.f (by assumption) ?_; cbv)
      | (refine ABr.t rfl ?_; cbv)
      | (refine ABr.f rfl ?_; cbv)
      | (refine ACall.mk _ (cf hS g1) ?_; cbv)
      | (refine ACall.mk _ (cf hS hi) ?_; cbv))
end
end Go.Proofs.YtmholgclgamnnaaGreat
end
section
set_option linter.unusedVariables false
set_option linter.unusedSectionVars false
set_option linter.unusedSimpArgs false
namespace Go.Proofs.YtmholgclgamnnaaGreat
open Go Eng
set_option maxRecDepth 100000
set_option exponentiation.threshold 2000
set_option maxHeartbeats 4000000
section
variable {p : Nat} [NeZero p]
def Er6_1 (H : H5) (a : Fin p) : AVal := .lst false 1 [.lst false 6 (ws6 H.lim a.val)]
def Nr6_1 (H : H5) (a : Fin p) : AVal := .new false 1 1 [.lst false 6 (ws6 H.lim a.val)]
theorem addR6_1 {H : H5} (hH : H = H5.real) (hp : PrM 384 p) (c : Cu p) (a b : Fin p) : Sp 90 [Cr6_1 H c, Er6_1 H a, Er6_1 H b] (Nr6_1 H (a + b)) := by
  have h := rAddF6 hH hp a b
  generalize a + b = r at *
  refine mk Tryz.func90 rfl rfl L0 RApp (by decide +kernel) fun A S hA hS => ?_
  unfold bodyOf Tryz.f90
  cbv
  refine ACall.mk _ (cf hS h) ?_
  cbv
theorem subR6_1 {H : H5} (hH : H = H5.real) (hp : PrM 384 p) (c : Cu p) (a b : Fin p) : Sp 118 [Cr6_1 H c, Er6_1 H a, Er6_1 H b] (Nr6_1 H (a - b)) := by
  have h := rSubF6 hH hp a b
  generalize a - b = r at *
  refine mk Tryz.func118 rfl rfl L0 RApp (by decide +kernel) fun A S hA hS => ?_
  unfold bodyOf Tryz.f118
  cbv
  refine ACall.mk _ (cf hS h) ?_
  cbv
theorem mulR6_1 {H : H5} (hH : H = H5.real) (hp : PrM 384 p) (c : Cu p) (a b : Fin p) : Sp 89 [Cr6_1 H c, Er6_1 H a, Er6_1 H b] (Nr6_1 H (a * b)) := by
  have h := rMulF6 hH hp a b
  generalize a * b = r at *
  refine mk Tryz.func89 rfl rfl L0 R1 (by decide +kernel) fun A S hA hS => ?_
  unfold bodyOf Tryz.f89
  cbv
  refine ACall.mk _ (cf hS h) ?_
  cbv
theorem invR6_1 {H : H5} (hH : H = H5.real) (hp : PrM 384 p) (c : Cu p) (a : Fin p) : Sp 127 [Cr6_1 H c, Er6_1 H a] (Nr6_1 H (Cv.inv1 a)) := by
  have h := rInvF6 hH hp a
  generalize Cv.inv1 a = r at *
  refine mk Tryz.func127 rfl rfl L0 R1 (by decide +kernel) fun A S hA hS => ?_
  unfold bodyOf Tryz.f127
  cbv
  refine ACall.mk _ (cf hS h) ?_
  cbv
end
end Go.Proofs.YtmholgclgamnnaaGreat
end
section
set_option linter.unusedVariables false
set_option linter.unusedSectionVars false
set_option linter.unusedSimpArgs false
namespace Go.Proofs.YtmholgclgamnnaaGreat
open Go Eng
set_option maxRecDepth 100000
set_option exponentiation.threshold 2000
set_option maxHeartbeats 4000000
section
variable {p : Nat} [NeZero p]
theorem sameR6_1 {H : H5} (hH : H = H5.real) (hp : PrM 384 p) (a b : Fin p) : Sp 88 [Er6_1 H a, Er6_1 H b] (.sb (decide (a = b))) := by
  obtain ⟨t, ht⟩ : ∃ t, t = decide (a = b) := ⟨_, rfl⟩
  rw [← ht]
  have hn0 : ∀ i, H.lim a.val i ≠ H.lim b.val i → false = t := fun i h => by rw [ht]; exact (decide_eq_false fun e => h (by rw [e])).symm
  have hy : (H.lim a.val 0 = H.lim b.val 0 ∧ H.lim a.val 1 = H.lim b.val 1 ∧ H.lim a.val 2 = H.lim b.val 2 ∧ H.lim a.val 3 = H.lim b.val 3 ∧ H.lim a.val 4 = H.lim b.val 4 ∧ H.lim a.val 5 = H.lim b.val 5) → true = t := fun h => by
    rw [ht]; exact (decide_eq_true (Fin.ext (lim_inj6 (H5.hlim hH) (Nat.lt_trans a.isLt hp.lt) (Nat.lt_trans b.isLt hp.lt) h))).symm
  clear ht
  refine mk Tryz.func88 rfl rfl L0 R1 (by decide +kernel) fun A S hA hS => ?_
  unfold bodyOf Tryz.f88
  cbv
  refine ABr.mk (fun h => ?_) (fun g0_0 => ?_)
  · cbv
    exact hn0 0 (ne_t hA h)
  cbv
  refine ABr.mk (fun h => ?_) (fun g0_1 => ?_)
  · cbv
    exact hn0 1 (ne_t hA h)
  cbv
  refine ABr.mk (fun h => ?_) (fun g0_2 => ?_)
  · cbv
    exact hn0 2 (ne_t hA h)
  cbv
  refine ABr.mk (fun h => ?_) (fun g0_3 => ?_)
  · cbv
    exact hn0 3 (ne_t hA h)
  cbv
  refine ABr.mk (fun h => ?_) (fun g0_4 => ?_)
  · cbv
    exact hn0 4 (ne_t hA h)
  cbv
  refine ABr.mk (fun h => ?_) (fun g0_5 => ?_)
  · cbv
    exact hn0 5 (ne_t hA h)
  cbv
  exact hy ⟨ne_f hA g0_0, ne_f hA g0_1, ne_f hA g0_2, ne_f hA g0_3, ne_f hA g0_4, ne_f hA g0_5⟩
theorem zeroR6_1 {H : H5} (hH : H = H5.real) (hp : PrM 384 p) (a : Fin p) : Sp 165 [Er6_1 H a] (.sb (decide (a = 0))) := by
  have h1 := rZeroS6 hH a.val (Nat.lt_trans a.isLt hp.lt)
  have e : decide (a.val = 0) = decide (a = 0) := by
    by_cases h : a = 0
    · rw [decide_eq_true h, h, Cv.val_zero]; rfl
    · rw [decide_eq_false h, decide_eq_false fun e => h (Fin.ext (by rw [e, Cv.val_zero]))]
  rw [e] at h1
  generalize decide (a = 0) = t at *
  refine mk Tryz.func165 rfl rfl L0 R1 (by decide +kernel) fun A S hA hS => ?_
  have n := i_not hA (rfl : t = t)
  unfold bodyOf Tryz.f165
  cbv
  refine ACall.mk _ (cf hS h1) ?_
  cbv
  cases t
  · refine ABr.t n ?_
    cbv
  · refine ABr.f n ?_
    cbv
theorem noneR6_1 {H : H5} (hH : H = H5.real) (hp : PrM 384 p) (c : Cu p) : Sp 119 [Cr6_1 H c] (Nr6_1 H (0 : Fin p)) := by
  have h1 : Sp 80 [rf6 H p, .s .u64 0] (.new false 6 1 (ws6 H.lim ((0 : Fin p)).val)) := by rw [Cv.val_zero]; exact rnumS6 (p := p) hH 0 (by decide)
  generalize (0 : Fin p) = z at *
  refine mk Tryz.func119 rfl rfl L0 RNone (by decide +kernel) fun A S hA hS => ?_
  unfold bodyOf Tryz.f119
  cbv
  refine ACall.mk _ (cg hS h1 (by first | (cbv; done) | (cbv; exact rfl) | (cbv; exact ⟨rfl, trivial⟩) | (cbv; simp))) ?_
  cbv
theorem oneR6_1 {H : H5} (hH : H = H5.real) (hp : PrM 384 p) {c : Cu p} (h1c : c.one = fo p 1) : Sp 208 [Cr6_1 H c] (Nr6_1 H c.one) := by
  have h0 := noneR6_1 hH hp c
  have o : c.one.val = 1 := by rw [h1c]; exact hp.ne
  have h1 : Sp 80 [rf6 H p, .s .u64 1] (.new false 6 1 (ws6 H.lim c.one.val)) := by rw [o]; exact rnumS6 (p := p) hH 1 (by decide)
  clear o h1c
  generalize (0 : Fin p) = z at *
  refine mk Tryz.func208 rfl rfl L0 RNone (by decide +kernel) fun A S hA hS => ?_
  unfold bodyOf Tryz.f208
  cbv
  refine ACall.mk _ (cf hS h0) ?_
  cbv
  refine ACall.mk _ (cg hS h1 (by first | (cbv; done) | (cbv; exact rfl) | (cbv; exact ⟨rfl, trivial⟩) | (cbv; simp))) ?_
  cbv
end
end Go.Proofs.YtmholgclgamnnaaGreat
end
section
set_option linter.unusedVariables false
set_option linter.unusedSectionVars false
set_option linter.unusedSimpArgs false
namespace Go.Proofs.YtmholgclgamnnaaGreat
open Go Eng
set_option maxRecDepth 100000
set_option exponentiation.threshold 2000
set_option maxHeartbeats 4000000
section
variable {p : Nat} [NeZero p]
theorem rGood6_1 {H : H5} (hH : H = H5.real) (hp : PrM 384 p) (c : Cu p) (P : PtA) (hx : P.x < 2 ^ 384) (hy : P.y < 2 ^ 384) : Sp 19 [Cr6_1 H c, PR6_1 H P] (.s .i64 (good1 c.b1 P : Nat)) := by
  obtain ⟨x, y, inf⟩ := P
  dsimp only at hx hy
  have pp := hp.pos
  have lx := fun t ht => rLess6 (H5.hlim hH) x p hx hp.lt t ht
  have zx := rZeroS6 hH x hx
  have ly := fun t ht => rLess6 (H5.hlim hH) y p hy hp.lt t ht
  have zy := rZeroS6 hH y hy
  cases inf
  · by_cases qx : x < p
    · by_cases qy : y < p
      · rw [show good1 c.b1 ⟨x, y, false⟩ = (if _ then 0 else 71) from by unfold good1; rw [if_neg (by simp), if_pos ⟨qx, qy⟩]]
        have lx := lx true (decide_eq_true qx).symm
        have ly := ly true (decide_eq_true qy).symm
        clear zx zy
        obtain ⟨u0, rfl⟩ : ∃ u : Fin p, x = u.val := ⟨⟨x, qx⟩, rfl⟩
        obtain ⟨u1, rfl⟩ : ∃ u : Fin p, y = u.val := ⟨⟨y, qy⟩, rfl⟩
        simp only [fo_val]
        have m1 := mulR6_1 hH hp c u1 u1
        have m2 := mulR6_1 hH hp c u0 u0
        have m3 := mulR6_1 hH hp c (u0 * u0) u0
        have a4 := addR6_1 hH hp c (u0 * u0 * u0) c.b1
        have sm := sameR6_1 hH hp (u1 * u1) (u0 * u0 * u0 + c.b1)
        generalize hyy : u1 * u1 = yy at *
        generalize hs : u0 * u0 * u0 + c.b1 = s at *
        generalize hx3 : u0 * u0 * u0 = x3 at *
        generalize hx2 : u0 * u0 = x2 at *
        clear hyy hs hx3 hx2
        by_cases he : yy = s
        · rw [if_pos he]
          rw [decide_eq_true he] at sm
          refine mk Tryz.func19 rfl rfl L0 RGood (by decide +kernel) fun A S hA hS => ?_
          have nt := i_not hA (rfl : true = true)
          have nf := i_not hA (rfl : false = false)
          unfold bodyOf Tryz.f19
          cbv
          repeat (first
            | (refine ABr.t (by assumption) ?_; cbv)
            | (refine ABr.f (by assumption) ?_; cbv)
            | (refine ABr.t rfl ?_; cbv)
            | (refine ABr.f rfl ?_; cbv)
            | (refine ACall.mk _ (cf hS lx) ?_; cbv)
            | (refine ACall.mk _ (cf hS ly) ?_; cbv)
            | (refine ACall.mk _ (cf hS m1) ?_; cbv)
            | (refine ACall.mk _ (cf hS m2) ?_; cbv)
            | (refine ACall.mk _ (cf hS m3) ?_; cbv)
            | (refine ACall.mk _ (cf hS a4) ?_; cbv)
            | (refine ACall.mk _ (cf hS sm) ?_; cbv))
        · rw [if_neg he]
          rw [decide_eq_false he] at sm
          refine mk Tryz.func19 rfl rfl L0 RGood (by decide +kernel) fun A S hA hS => ?_
          have nt := i_not hA (rfl : true = true)
          have nf := i_not hA (rfl : false = false)
          unfold bodyOf Tryz.f19
          cbv
          repeat (first
            | (refine ABr.t (by assumption) ?_; cbv)
            | (refine ABr.f (by assumption) ?_; cbv)
            | (refine ABr.t rfl ?_; cbv)
            | (refine ABr.f rfl ?_; cbv)
            | (refine ACall.mk _ (cf hS lx) ?_; cbv)
            | (refine ACall.mk _ (cf hS ly) ?_; cbv)
            | (refine ACall.mk _ (cf hS m1) ?_; cbv)
            | (refine ACall.mk _ (cf hS m2) ?_; cbv)
            | (refine ACall.mk _ (cf hS m3) ?_; cbv)
            | (refine ACall.mk _ (cf hS a4) ?_; cbv)
            | (refine ACall.mk _ (cf hS sm) ?_; cbv))
      · rw [show good1 c.b1 ⟨x, y, false⟩ = 70 from by unfold good1; rw [if_neg (by simp), if_neg (by dsimp only; omega)]]
        have lx := lx true (decide_eq_true qx).symm
        have ly := ly false (decide_eq_false qy).symm
        refine mk Tryz.func19 rfl rfl L0 RGood (by decide +kernel) fun A S hA hS => ?_
        have nt := i_not hA (rfl : true = true)
        have nf := i_not hA (rfl : false = false)
        unfold bodyOf Tryz.f19
        cbv
        repeat (first
          | (refine ABr.t (by assumption) ?_; cbv)
          | (refine ABr.f (by assumption) ?_; cbv)
          | (refine ABr.t rfl ?_; cbv)
          | (refine ABr.f rfl ?_; cbv)
          | (refine ACall.mk _ (cf hS lx) ?_; cbv)
          | (refine ACall.mk _ (cf hS ly) ?_; cbv))
    · rw [show good1 c.b1 ⟨x, y, false⟩ = 70 from by unfold good1; rw [if_neg (by simp), if_neg (by dsimp only; omega)]]
      have lx := lx false (decide_eq_false qx).symm
      refine mk Tryz.func19 rfl rfl L0 RGood (by decide +kernel) fun A S hA hS => ?_
      have nt := i_not hA (rfl : true = true)
      have nf := i_not hA (rfl : false = false)
      unfold bodyOf Tryz.f19
      cbv
      repeat (first
        | (refine ABr.t (by assumption) ?_; cbv)
        | (refine ABr.f (by assumption) ?_; cbv)
        | (refine ABr.t rfl ?_; cbv)
        | (refine ABr.f rfl ?_; cbv)
        | (refine ACall.mk _ (cf hS lx) ?_; cbv))
  · by_cases qx : x < p
    · by_cases wx : x = 0
      · by_cases qy : y < p
        · by_cases wy : y = 0
          · rw [show good1 c.b1 ⟨x, y, true⟩ = 0 from by unfold good1; rw [if_pos rfl, if_pos (by dsimp only; omega)]]
            have lx := lx true (decide_eq_true qx).symm
            rw [decide_eq_true wx] at zx
            have ly := ly true (decide_eq_true qy).symm
            rw [decide_eq_true wy] at zy
            refine mk Tryz.func19 rfl rfl L0 RGood (by decide +kernel) fun A S hA hS => ?_
            have nt := i_not hA (rfl : true = true)
            have nf := i_not hA (rfl : false = false)
            unfold bodyOf Tryz.f19
            cbv
            repeat (first
              | (refine ABr.t (by assumption) ?_; cbv)
              | (refine ABr.f (by assumption) ?_; cbv)
              | (refine ABr.t rfl ?_; cbv)
              | (refine ABr.f rfl ?_; cbv)
              | (refine ACall.mk _ (cf hS lx) ?_; cbv)
              | (refine ACall.mk _ (cf hS ly) ?_; cbv)
              | (refine ACall.mk _ (cf hS zx) ?_; cbv)
              | (refine ACall.mk _ (cf hS zy) ?_; cbv))
          · rw [show good1 c.b1 ⟨x, y, true⟩ = 70 from by unfold good1; rw [if_pos rfl, if_neg (by dsimp only; omega)]]
            have lx := lx true (decide_eq_true qx).symm
            rw [decide_eq_true wx] at zx
            have ly := ly true (decide_eq_true qy).symm
            rw [decide_eq_false wy] at zy
            refine mk Tryz.func19 rfl rfl L0 RGood (by decide +kernel) fun A S hA hS => ?_
            have nt := i_not hA (rfl : true = true)
            have nf := i_not hA (rfl : false = false)
            unfold bodyOf Tryz.f19
            cbv
            repeat (first
              | (refine ABr.t (by assumption) ?_; cbv)
              | (refine ABr.f (by assumption) ?_; cbv)
              | (refine ABr.t rfl ?_; cbv)
              | (refine ABr.f rfl ?_; cbv)
              | (refine ACall.mk _ (cf hS lx) ?_; cbv)
              | (refine ACall.mk _ (cf hS ly) ?_; cbv)
              | (refine ACall.mk _ (cf hS zx) ?_; cbv)
              | (refine ACall.mk _ (cf hS zy) ?_; cbv))
        · rw [show good1 c.b1 ⟨x, y, true⟩ = 70 from by unfold good1; rw [if_pos rfl, if_neg (by dsimp only; omega)]]
          have lx := lx true (decide_eq_true qx).symm
          rw [decide_eq_true wx] at zx
          have ly := ly false (decide_eq_false qy).symm
          refine mk Tryz.func19 rfl rfl L0 RGood (by decide +kernel) fun A S hA hS => ?_
          have nt := i_not hA (rfl : true = true)
          have nf := i_not hA (rfl : false = false)
          unfold bodyOf Tryz.f19
          cbv
          repeat (first
            | (refine ABr.t (by assumption) ?_; cbv)
            | (refine ABr.f (by assumption) ?_; cbv)
            | (refine ABr.t rfl ?_; cbv)
            | (refine ABr.f rfl ?_; cbv)
            | (refine ACall.mk _ (cf hS lx) ?_; cbv)
            | (refine ACall.mk _ (cf hS ly) ?_; cbv)
            | (refine ACall.mk _ (cf hS zx) ?_; cbv))
      · rw [show good1 c.b1 ⟨x, y, true⟩ = 70 from by unfold good1; rw [if_pos rfl, if_neg (by dsimp only; omega)]]
        have lx := lx true (decide_eq_true qx).symm
        rw [decide_eq_false wx] at zx
        refine mk Tryz.func19 rfl rfl L0 RGood (by decide +kernel) fun A S hA hS => ?_
        have nt := i_not hA (rfl : true = true)
        have nf := i_not hA (rfl : false = false)
        unfold bodyOf Tryz.f19
        cbv
        repeat (first
          | (refine ABr.t (by assumption) ?_; cbv)
          | (refine ABr.f (by assumption) ?_; cbv)
          | (refine ABr.t rfl ?_; cbv)
          | (refine ABr.f rfl ?_; cbv)
          | (refine ACall.mk _ (cf hS lx) ?_; cbv)
          | (refine ACall.mk _ (cf hS zx) ?_; cbv))
    · rw [show good1 c.b1 ⟨x, y, true⟩ = 70 from by unfold good1; rw [if_pos rfl, if_neg (by dsimp only; omega)]]
      have lx := lx false (decide_eq_false qx).symm
      refine mk Tryz.func19 rfl rfl L0 RGood (by decide +kernel) fun A S hA hS => ?_
      have nt := i_not hA (rfl : true = true)
      have nf := i_not hA (rfl : false = false)
      unfold bodyOf Tryz.f19
      cbv
      repeat (first
        | (refine ABr.t (by assumption) ?_; cbv)
        | (refine ABr.f (by assumption) ?_; cbv)
        | (refine ABr.t rfl ?_; cbv)
        | (refine ABr.f rfl ?_; cbv)
        | (refine ACall.mk _ (cf hS lx) ?_; cbv))
end
end Go.Proofs.YtmholgclgamnnaaGreat
end
