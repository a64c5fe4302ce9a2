import Derived.Test.YtmholgclgamnnaaGreatQZCE
import Derived.Test.YtmholgclgamnnaaGreatQZCD
import Derived.Test.YtmholgclgamnnaaGreatQZI
import Derived.Test.YtmholgclgamnnaaGreatQZM
import Derived.Test.YtmholgclgamnnaaGreatQZCK
import Derived.Test.YtmholgclgamnnaaGreatQZCN
import Derived.Test.YtmholgclgamnnaaGreatQZCL
import Derived.Test.YtmholgclgamnnaaGreatQZCQ
import Derived.Test.YtmholgclgamnnaaGreatQZBK
section
set_option linter.unusedVariables false
set_option linter.unusedSimpArgs false
namespace Go.Proofs.YtmholgclgamnnaaGreat
open Go Eng
set_option maxRecDepth 100000
set_option exponentiation.threshold 2000
set_option maxHeartbeats 4000000
theorem flatt6 {α : Type} {K : Kd α} {r : List AVal} (hK : Okt6 K r) (b : α) (p : Cv.Jac α) :
    Sp 184 [Grt6 K r b, Jt6 K p] (.tup [Et6 K (K.O.mul p.x (K.O.mul (K.O.inv p.z) (K.O.inv p.z))), Et6 K (K.O.mul (K.O.mul p.y (K.O.mul (K.O.inv p.z) (K.O.inv p.z))) (K.O.inv p.z))]) := by
  obtain ⟨px, py, pz⟩ := p
  dsimp only
  obtain ⟨i, hi⟩ : ∃ q_, q_ = K.O.inv pz := ⟨_, rfl⟩
  have ci := hK.inv pz
  rw [← hi] at ci ⊢
  obtain ⟨j, hj⟩ : ∃ q_, q_ = K.O.mul i i := ⟨_, rfl⟩
  have cj := hK.mul i i
  rw [← hj] at cj ⊢
  obtain ⟨x, hx⟩ : ∃ q_, q_ = K.O.mul px j := ⟨_, rfl⟩
  have cx := hK.mul px j
  rw [← hx] at cx ⊢
  obtain ⟨y0, hy0⟩ : ∃ q_, q_ = K.O.mul py j := ⟨_, rfl⟩
  have cy0 := hK.mul py j
  rw [← hy0] at cy0 ⊢
  obtain ⟨y, hy⟩ : ∃ q_, q_ = K.O.mul y0 i := ⟨_, rfl⟩
  have cy := hK.mul y0 i
  rw [← hy] at cy ⊢
  refine mk Tryz.func184 rfl rfl L0 R1 (by decide +kernel) fun A S hA hS => ?_
  unfold bodyOf Tryz.f184
  cbv
  refine ACall.mk _ (cf hS ci) ?_
  cbv
  refine ACall.mk _ (cf hS cj) ?_
  cbv
  refine ACall.mk _ (cf hS cx) ?_
  cbv
  refine ACall.mk _ (cf hS cy0) ?_
  cbv
  refine ACall.mk _ (cf hS cy) ?_
  cbv
end Go.Proofs.YtmholgclgamnnaaGreat
end
section
set_option linter.unusedVariables false
set_option linter.unusedSectionVars false
set_option linter.unusedSimpArgs false
namespace Go.Proofs.YtmholgclgamnnaaGreat
open Go Eng
set_option maxRecDepth 100000
set_option exponentiation.threshold 2000
set_option maxHeartbeats 4000000
section
variable {p : Nat} [NeZero p]
theorem out2S6 {H : H5} (hH : H = H5.real) (hp : PrM 384 p) (c : Cu p) (a b : Fin p) : Sp 185 [.ref (Cc6 H c) 0, el2_6 H p a.val b.val] (.agg [.s .u64 (H.lim a.val 0), .s .u64 (H.lim a.val 1), .s .u64 (H.lim a.val 2), .s .u64 (H.lim a.val 3), .s .u64 (H.lim a.val 4), .s .u64 (H.lim a.val 5), .s .u64 (H.lim b.val 0), .s .u64 (H.lim b.val 1), .s .u64 (H.lim b.val 2), .s .u64 (H.lim b.val 3), .s .u64 (H.lim b.val 4), .s .u64 (H.lim b.val 5)]) := by
  have h1 := outF6 hH hp a
  have h2 := outF6 hH hp b
  refine mk Tryz.func185 rfl rfl L0 R1 (by decide +kernel) fun A S hA hS => ?_
  unfold bodyOf Tryz.f185
  cbv
  refine ACall.mk _ (cf hS h1) ?_
  cbv
  refine ACall.mk _ (cf hS h2) ?_
  cbv
theorem down2S6 {H : H5} (hH : H = H5.real) (hp : PrM 384 p) (c : Cu p) (q : Cv.Jac (Cv.F2 p)) : Sp 123 [.ref (Cc6 H c) 0, Jt6 (K2_6 H p) q] (P2_6 H (ofPt2 (Cv.down (K2_6 H p).O q))) := by
  have hK := ok2_6 hH hp
  have fl := flatt6 hK c.b2 q
  have l0 := lim06 hH
  obtain ⟨qx, qy, qz⟩ := q
  dsimp only at fl
  unfold Cv.down
  dsimp only
  by_cases h : qz = (K2_6 H p).O.zero
  · rw [if_pos h]
    have hz := fun A hA => (hK.eqz (A := A) hA qz).trans (decide_eq_true h)
    refine mk Tryz.func123 rfl rfl L0 RDn (by decide +kernel) fun A S hA hS => ?_
    have hz := hz A hA
    unfold bodyOf Tryz.f123
    cbv
    refine ABr.t hz ?_
    cbv
    exact ⟨(l0 0).symm, (l0 1).symm, (l0 2).symm, (l0 3).symm, (l0 4).symm, (l0 5).symm, (l0 0).symm, (l0 1).symm, (l0 2).symm, (l0 3).symm, (l0 4).symm, (l0 5).symm, (l0 0).symm, (l0 1).symm, (l0 2).symm, (l0 3).symm, (l0 4).symm, (l0 5).symm, (l0 0).symm, (l0 1).symm, (l0 2).symm, (l0 3).symm, (l0 4).symm, (l0 5).symm, trivial⟩
  · rw [if_neg h]
    have hz := fun A hA => (hK.eqz (A := A) hA qz).trans (decide_eq_false h)
    generalize (K2_6 H p).O.mul qx ((K2_6 H p).O.mul ((K2_6 H p).O.inv qz) ((K2_6 H p).O.inv qz)) = u at *
    generalize (K2_6 H p).O.mul ((K2_6 H p).O.mul qy ((K2_6 H p).O.mul ((K2_6 H p).O.inv qz) ((K2_6 H p).O.inv qz))) ((K2_6 H p).O.inv qz) = v at *
    have o1 := out2S6 hH hp c u.a u.b
    have o2 := out2S6 hH hp c v.a v.b
    clear hK
    refine mk Tryz.func123 rfl rfl L0 RDn (by decide +kernel) fun A S hA hS => ?_
    have hz := hz A hA
    unfold bodyOf Tryz.f123
    cbv
    refine ABr.f hz ?_
    cbv
    refine ACall.mk _ (cf hS fl) ?_
    cbv
    refine ACall.mk _ (cf hS o1) ?_
    cbv
    refine ACall.mk _ (cf hS o2) ?_
    cbv
end
end Go.Proofs.YtmholgclgamnnaaGreat
end
section
set_option linter.unusedVariables false
set_option linter.unusedSectionVars false
set_option linter.unusedSimpArgs false
namespace Go.Proofs.YtmholgclgamnnaaGreat
open Go Eng
set_option maxRecDepth 100000
set_option exponentiation.threshold 2000
set_option maxHeartbeats 4000000
section
variable {p : Nat} [NeZero p]
theorem infS2_6 {H : H5} (hH : H = H5.real) (c : Cu p) : Sp 122 [.ref (Cc6 H c) 0] (P2_6 H ⟨0, 0, 0, 0, false⟩) := by
  have h := CisS6 (H := H) c
  have l0 := lim06 hH
  refine mk Tryz.func122 rfl rfl L0 R1 (by decide +kernel) fun A S hA hS => ?_
  unfold bodyOf Tryz.f122
  cbv
  refine ACall.mk _ (cf hS h) ?_
  cbv
  exact ⟨(l0 0).symm, (l0 1).symm, (l0 2).symm, (l0 3).symm, (l0 4).symm, (l0 5).symm, (l0 0).symm, (l0 1).symm, (l0 2).symm, (l0 3).symm, (l0 4).symm, (l0 5).symm, (l0 0).symm, (l0 1).symm, (l0 2).symm, (l0 3).symm, (l0 4).symm, (l0 5).symm, (l0 0).symm, (l0 1).symm, (l0 2).symm, (l0 3).symm, (l0 4).symm, (l0 5).symm, trivial⟩
theorem addS2_6 {H : H5} (hH : H = H5.real) (hp : PrM 384 p) {c : Cu p} (h1c : c.one = fo p 1) (P Q : PtB) (hPxa : P.xa < 2 ^ 384) (hPxb : P.xb < 2 ^ 384) (hPya : P.ya < 2 ^ 384) (hPyb : P.yb < 2 ^ 384) (hQxa : Q.xa < 2 ^ 384) (hQxb : Q.xb < 2 ^ 384) (hQya : Q.ya < 2 ^ 384) (hQyb : Q.yb < 2 ^ 384) :
    Sp 41 [.ref (Cc6 H c) 0, P2_6 H P, P2_6 H Q] (.tup [P2_6 H (addQ c.b2 P Q).1, .s .i64 ((addQ c.b2 P Q).2 : Nat)]) := by
  have g1 := good2S6 hH hp c P hPxa hPxb hPya hPyb
  have g2 := good2S6 hH hp c Q hQxa hQxb hQya hQyb
  have u1 := up2S6 hH hp h1c P hPxa hPxb hPya hPyb
  have u2 := up2S6 hH hp h1c Q hQxa hQxb hQya hQyb
  have hi := infS2_6 hH c
  have ne := fun A hA x => i_ne (A := A) hA (x := x) (y := 0)
  unfold addQ
  by_cases h1 : good2 c.b2 P = 0
  · have o1 := good2_on h1
    rw [if_neg (fun h => h h1)]
    by_cases h2 : good2 c.b2 Q = 0
    · have o2 := good2_on h2
      rw [if_neg (fun h => h h2)]
      have pl := plust6 (ok2_6 hH hp) c.b2 (Cv.up (K2_6 H p).O (ptOf2 p P)) (Cv.up (K2_6 H p).O (ptOf2 p Q))
      have dn := down2S6 hH hp c (Cv.plus (K2_6 H p).O (Cv.up (K2_6 H p).O (ptOf2 p P)) (Cv.up (K2_6 H p).O (ptOf2 p Q)))
      have e : Cv.down (K2_6 H p).O (Cv.plus (K2_6 H p).O (Cv.up (K2_6 H p).O (ptOf2 p P)) (Cv.up (K2_6 H p).O (ptOf2 p Q))) = Cv.sumR (Cv.ops2 Cv.inv2) (ptOf2 p P) (ptOf2 p Q) :=
        Cv.add2 Cv.inv2 (one_ne hp) (fun a h => Cv.inv2_ok hp.pr hp.two hp.four a h) c.b2 _ _ o1 o2
      rw [e] at dn
      rw [h1] at g1
      rw [h2] at g2
      clear e o1 o2 h1 h2
      dsimp only
      generalize ofPt2 (Cv.sumR (Cv.ops2 Cv.inv2) (ptOf2 p P) (ptOf2 p Q)) = R at *
      generalize Cv.plus (K2_6 H p).O (Cv.up (K2_6 H p).O (ptOf2 p P)) (Cv.up (K2_6 H p).O (ptOf2 p Q)) = j at *
      generalize Cv.up (K2_6 H p).O (ptOf2 p P) = j1 at *
      generalize Cv.up (K2_6 H p).O (ptOf2 p Q) = j2 at *
      refine mk Tryz.func41 rfl rfl L0 R1 (by decide +kernel) fun A S hA hS => ?_
      have e0 : A.cmp .neq ((0 : Nat) : Int) 0 = false := ne A hA _
      unfold bodyOf Tryz.f41
      cbv
      repeat (first
        | (refine ABr.t (by assumption) ?_; cbv)
        | (refine ABr.f (by assumption) ?_; cbv)
        | (refine ABr.t rfl ?_; cbv)
        | (refine ABr.f rfl ?_; cbv)
        | (refine ACall.mk _ (cf hS g1) ?_; cbv)
        | (refine ACall.mk _ (cf hS g2) ?_; cbv)
        | (refine ACall.mk _ (cf hS u1) ?_; cbv)
        | (refine ACall.mk _ (cf hS u2) ?_; cbv)
        | (refine ACall.mk _ (cf hS pl) ?_; cbv)
        | (refine ACall.mk _ (cf hS dn) ?_; cbv))
    · rw [if_pos h2]
      rw [h1] at g1
      clear u1 u2 o1
      have h2' : ((good2 c.b2 Q : Nat) : Int) ≠ 0 := by omega
      dsimp only
      generalize ((good2 c.b2 Q : Nat) : Int) = e at *
      refine mk Tryz.func41 rfl rfl L0 R1 (by decide +kernel) fun A S hA hS => ?_
      have e0 : A.cmp .neq ((0 : Nat) : Int) 0 = false := ne A hA _
      have e1 : A.cmp .neq e 0 = true := by rw [ne A hA, decide_eq_false h2']; rfl
      unfold bodyOf Tryz.f41
      cbv
      repeat (first
        | (refine ABr.t (by assumption) ?_; cbv)
        | (refine ABr.f (by assumption) ?_; cbv)
        | (refine ABr.t rfl ?_; cbv)
        | (refine ABr.f rfl ?_; cbv)
        | (refine ACall.mk _ (cf hS g1) ?_; cbv)
        | (refine ACall.mk _ (cf hS g2) ?_; cbv)
        | (refine ACall.mk _ (cf hS hi) ?_; cbv))
  · rw [if_pos h1]
    clear u1 u2 g2
    have h1' : ((good2 c.b2 P : Nat) : Int) ≠ 0 := by omega
    dsimp only
    generalize ((good2 c.b2 P : Nat) : Int) = e at *
    refine mk Tryz.func41 rfl rfl L0 R1 (by decide +kernel) fun A S hA hS => ?_
    have e1 : A.cmp .neq e 0 = true := by rw [ne A hA, decide_eq_false h1']; rfl
    unfold bodyOf Tryz.f41
    cbv
    repeat (first
      | (refine ABr.t (by assumption) ?_; cbv)
      | (refine ABr.f (by assumption) ?_; cbv)
      | (refine ABr.t rfl ?_; cbv)
      | (refine ABr.f rfl ?_; cbv)
      | (refine ACall.mk _ (cf hS g1) ?_; cbv)
      | (refine ACall.mk _ (cf hS hi) ?_; cbv))
theorem mulS2_6 {H : H5} (hH : H = H5.real) (hp : PrM 384 p) {c : Cu p} (h1c : c.one = fo p 1) (P : PtB) (hPxa : P.xa < 2 ^ 384) (hPxb : P.xb < 2 ^ 384) (hPya : P.ya < 2 ^ 384) (hPyb : P.yb < 2 ^ 384) (k : Nat) (hk : k < 2 ^ 256) :
    Sp 43 [.ref (Cc6 H c) 0, P2_6 H P, u4 H.lim k] (.tup [P2_6 H (mulQ c.b2 P k).1, .s .i64 ((mulQ c.b2 P k).2 : Nat)]) := by
  have g1 := good2S6 hH hp c P hPxa hPxb hPya hPyb
  have u1 := up2S6 hH hp h1c P hPxa hPxb hPya hPyb
  have hi := infS2_6 hH c
  have ne := fun A hA x => i_ne (A := A) hA (x := x) (y := 0)
  unfold mulQ
  by_cases h1 : good2 c.b2 P = 0
  · rw [if_neg (fun h => h h1)]
    have tm := timest6 (ok2_6 hH hp) c.b2 (Cv.up (K2_6 H p).O (ptOf2 p P)) (H5.hlim hH) k hk
    have dn := down2S6 hH hp c (Cv.tm (K2_6 H p).O (Cv.up (K2_6 H p).O (ptOf2 p P)) k 256 256)
    rw [h1] at g1
    clear h1
    dsimp only
    change Sp _ _ (P2_6 H (ofPt2 (Cv.down (Cv.ops2 Cv.inv2) (Cv.tm (Cv.ops2 Cv.inv2) (Cv.up (Cv.ops2 Cv.inv2) (ptOf2 p P)) k 256 256)))) at dn
    generalize ofPt2 (Cv.down (Cv.ops2 Cv.inv2) (Cv.tm (Cv.ops2 Cv.inv2) (Cv.up (Cv.ops2 Cv.inv2) (ptOf2 p P)) k 256 256)) = R at *
    generalize Cv.tm (K2_6 H p).O (Cv.up (K2_6 H p).O (ptOf2 p P)) k 256 256 = j at *
    generalize Cv.up (K2_6 H p).O (ptOf2 p P) = j1 at *
    refine mk Tryz.func43 rfl rfl L0 R1 (by decide +kernel) fun A S hA hS => ?_
    have e0 : A.cmp .neq ((0 : Nat) : Int) 0 = false := ne A hA _
    unfold bodyOf Tryz.f43
    cbv
    repeat (first
      | (refine ABr.t (by assumption) ?_; cbv)
      | (refine ABr.f (by assumption) ?_; cbv)
      | (refine ABr.t rfl ?_; cbv)
      | (refine ABr.f rfl ?_; cbv)
      | (refine ACall.mk _ (cf hS g1) ?_; cbv)
      | (refine ACall.mk _ (cf hS u1) ?_; cbv)
      | (refine ACall.mk _ (cf hS tm) ?_; cbv)
      | (refine ACall.mk _ (cf hS dn) ?_; cbv))
  · rw [if_pos h1]
    clear u1
    have h1' : ((good2 c.b2 P : Nat) : Int) ≠ 0 := by omega
    dsimp only
    generalize ((good2 c.b2 P : Nat) : Int) = e at *
    refine mk Tryz.func43 rfl rfl L0 R1 (by decide +kernel) fun A S hA hS => ?_
    have e1 : A.cmp .neq e 0 = true := by rw [ne A hA, decide_eq_false h1']; rfl
    unfold bodyOf Tryz.f43
    cbv
    repeat (first
      | (refine ABr.t (by assumption) ?_; cbv)
      | (refine ABr.f (by assumption) ?_; cbv)
      | (refine ABr.t rfl ?_; cbv)
      | (refine ABr.f rfl ?_; cbv)
      | (refine ACall.mk _ (cf hS g1) ?_; cbv)
      | (refine ACall.mk _ (cf hS hi) ?_; cbv))
end
end Go.Proofs.YtmholgclgamnnaaGreat
end
section
set_option linter.unusedVariables false
set_option linter.unusedSectionVars false
set_option linter.unusedSimpArgs false
namespace Go.Proofs.YtmholgclgamnnaaGreat
open Go Eng
set_option maxRecDepth 100000
set_option exponentiation.threshold 2000
set_option maxHeartbeats 4000000
section
variable {p : Nat} [NeZero p]
def Er6_2 (H : H5) (a : Cv.F2 p) : AVal := .lst false 2 [.lst false 6 (ws6 H.lim a.a.val), .lst false 6 (ws6 H.lim a.b.val)]
def Nr6_2 (H : H5) (a : Cv.F2 p) : AVal := .new false 2 1 [.lst false 6 (ws6 H.lim a.a.val), .lst false 6 (ws6 H.lim a.b.val)]
theorem addR6_2 {H : H5} (hH : H = H5.real) (hp : PrM 384 p) (c : Cu p) (a b : Cv.F2 p) : Sp 90 [Cr6_2 H c, Er6_2 H a, Er6_2 H b] (Nr6_2 H ⟨a.a + b.a, a.b + b.b⟩) := by
  have h := rAddF6 hH hp a.a b.a
  have h2 := rAddF6 hH hp a.b b.b
  generalize a.a + b.a = r at *
  generalize a.b + b.b = r2 at *
  refine mk Tryz.func90 rfl rfl L0 RApp (by decide +kernel) fun A S hA hS => ?_
  unfold bodyOf Tryz.f90
  cbv
  refine ACall.mk _ (cf hS h) ?_
  cbv
  refine ACall.mk _ (cf hS h2) ?_
  cbv
theorem subR6_2 {H : H5} (hH : H = H5.real) (hp : PrM 384 p) (c : Cu p) (a b : Cv.F2 p) : Sp 118 [Cr6_2 H c, Er6_2 H a, Er6_2 H b] (Nr6_2 H ⟨a.a - b.a, a.b - b.b⟩) := by
  have h := rSubF6 hH hp a.a b.a
  have h2 := rSubF6 hH hp a.b b.b
  generalize a.a - b.a = r at *
  generalize a.b - b.b = r2 at *
  refine mk Tryz.func118 rfl rfl L0 RApp (by decide +kernel) fun A S hA hS => ?_
  unfold bodyOf Tryz.f118
  cbv
  refine ACall.mk _ (cf hS h) ?_
  cbv
  refine ACall.mk _ (cf hS h2) ?_
  cbv
theorem mulR6_2 {H : H5} (hH : H = H5.real) (hp : PrM 384 p) (c : Cu p) (a b : Cv.F2 p) : Sp 89 [Cr6_2 H c, Er6_2 H a, Er6_2 H b] (Nr6_2 H ⟨a.a * b.a - a.b * b.b, a.a * b.b + a.b * b.a⟩) := by
  have h1 := rMulF6 hH hp a.a b.a
  have h2 := rMulF6 hH hp a.b b.b
  have h3 := rMulF6 hH hp a.a b.b
  have h4 := rMulF6 hH hp a.b b.a
  have h5 := rSubF6 hH hp (a.a * b.a) (a.b * b.b)
  have h6 := rAddF6 hH hp (a.a * b.b) (a.b * b.a)
  generalize a.a * b.a - a.b * b.b = r at *
  generalize a.a * b.b + a.b * b.a = r2 at *
  generalize a.a * b.a = q1 at *
  generalize a.b * b.b = q2 at *
  generalize a.a * b.b = q3 at *
  generalize a.b * b.a = q4 at *
  refine mk Tryz.func89 rfl rfl L0 R1 (by decide +kernel) fun A S hA hS => ?_
  unfold bodyOf Tryz.f89
  cbv
  refine ACall.mk _ (cf hS h1) ?_
  cbv
  refine ACall.mk _ (cf hS h2) ?_
  cbv
  refine ACall.mk _ (cf hS h5) ?_
  cbv
  refine ACall.mk _ (cf hS h3) ?_
  cbv
  refine ACall.mk _ (cf hS h4) ?_
  cbv
  refine ACall.mk _ (cf hS h6) ?_
  cbv
theorem invR6_2 {H : H5} (hH : H = H5.real) (hp : PrM 384 p) (c : Cu p) (a : Cv.F2 p) : Sp 127 [Cr6_2 H c, Er6_2 H a] (Nr6_2 H (Cv.inv2 a)) := by
  have hs := rnumS6 (p := p) hH 0 (by decide)
  have h1 := rMulF6 hH hp a.a a.a
  have h2 := rMulF6 hH hp a.b a.b
  have h3 := rAddF6 hH hp (a.a * a.a) (a.b * a.b)
  have h4 := rInvF6 hH hp (a.a * a.a + a.b * a.b)
  have h5 := rMulF6 hH hp a.a (Cv.inv1 (a.a * a.a + a.b * a.b))
  have h6 := rMulF6 hH hp a.b (Cv.inv1 (a.a * a.a + a.b * a.b))
  have h7 := rSubF6 hH hp 0 (a.b * Cv.inv1 (a.a * a.a + a.b * a.b))
  have e : Cv.inv2 a = ⟨a.a * Cv.inv1 (a.a * a.a + a.b * a.b), 0 - a.b * Cv.inv1 (a.a * a.a + a.b * a.b)⟩ := rfl
  rw [e]
  have z0 : ((0 : Fin p)).val = 0 := Cv.val_zero
  rw [z0] at h7
  generalize 0 - a.b * Cv.inv1 (a.a * a.a + a.b * a.b) = r2 at *
  generalize a.a * Cv.inv1 (a.a * a.a + a.b * a.b) = r1 at *
  generalize a.b * Cv.inv1 (a.a * a.a + a.b * a.b) = q at *
  generalize Cv.inv1 (a.a * a.a + a.b * a.b) = i at *
  generalize a.a * a.a + a.b * a.b = s at *
  generalize a.a * a.a = q1 at *
  generalize a.b * a.b = q2 at *
  refine mk Tryz.func127 rfl rfl L0 R1 (by decide +kernel) fun A S hA hS => ?_
  unfold bodyOf Tryz.f127
  cbv
  refine ACall.mk _ (cf hS h1) ?_
  cbv
  refine ACall.mk _ (cf hS h2) ?_
  cbv
  refine ACall.mk _ (cf hS h3) ?_
  cbv
  refine ACall.mk _ (cf hS h4) ?_
  cbv
  refine ACall.mk _ (cf hS h5) ?_
  cbv
  refine ACall.mk _ (cg hS hs (by first | (cbv; done) | (cbv; exact rfl) | (cbv; exact ⟨rfl, trivial⟩) | (cbv; simp))) ?_
  cbv
  refine ACall.mk _ (cf hS h6) ?_
  cbv
  refine ACall.mk _ (cf hS h7) ?_
  cbv
end
end Go.Proofs.YtmholgclgamnnaaGreat
end
section
set_option linter.unusedVariables false
set_option linter.unusedSectionVars false
set_option linter.unusedSimpArgs false
namespace Go.Proofs.YtmholgclgamnnaaGreat
open Go Eng
set_option maxRecDepth 100000
set_option exponentiation.threshold 2000
set_option maxHeartbeats 4000000
section
variable {p : Nat} [NeZero p]
theorem sameR6_2 {H : H5} (hH : H = H5.real) (hp : PrM 384 p) (a b : Cv.F2 p) : Sp 88 [Er6_2 H a, Er6_2 H b] (.sb (decide (a = b))) := by
  obtain ⟨t, ht⟩ : ∃ t, t = decide (a = b) := ⟨_, rfl⟩
  rw [← ht]
  have hn0 : ∀ i, H.lim a.a.val i ≠ H.lim b.a.val i → false = t := fun i h => by rw [ht]; exact (decide_eq_false fun e => h (by rw [e])).symm
  have hn1 : ∀ i, H.lim a.b.val i ≠ H.lim b.b.val i → false = t := fun i h => by rw [ht]; exact (decide_eq_false fun e => h (by rw [e])).symm
  have hy : (H.lim a.a.val 0 = H.lim b.a.val 0 ∧ H.lim a.a.val 1 = H.lim b.a.val 1 ∧ H.lim a.a.val 2 = H.lim b.a.val 2 ∧ H.lim a.a.val 3 = H.lim b.a.val 3 ∧ H.lim a.a.val 4 = H.lim b.a.val 4 ∧ H.lim a.a.val 5 = H.lim b.a.val 5) → (H.lim a.b.val 0 = H.lim b.b.val 0 ∧ H.lim a.b.val 1 = H.lim b.b.val 1 ∧ H.lim a.b.val 2 = H.lim b.b.val 2 ∧ H.lim a.b.val 3 = H.lim b.b.val 3 ∧ H.lim a.b.val 4 = H.lim b.b.val 4 ∧ H.lim a.b.val 5 = H.lim b.b.val 5) → true = t := fun h1 h2 => by
    have e1 := Fin.ext (lim_inj6 (H5.hlim hH) (Nat.lt_trans a.a.isLt hp.lt) (Nat.lt_trans b.a.isLt hp.lt) h1)
    have e2 := Fin.ext (lim_inj6 (H5.hlim hH) (Nat.lt_trans a.b.isLt hp.lt) (Nat.lt_trans b.b.isLt hp.lt) h2)
    rw [ht]; exact (decide_eq_true (by cases a; cases b; simp only at e1 e2; rw [e1, e2])).symm
  clear ht
  refine mk Tryz.func88 rfl rfl L0 R1 (by decide +kernel) fun A S hA hS => ?_
  unfold bodyOf Tryz.f88
  cbv
  refine ABr.mk (fun h => ?_) (fun g0_0 => ?_)
  · cbv
    exact hn0 0 (ne_t hA h)
  cbv
  refine ABr.mk (fun h => ?_) (fun g0_1 => ?_)
  · cbv
    exact hn0 1 (ne_t hA h)
  cbv
  refine ABr.mk (fun h => ?_) (fun g0_2 => ?_)
  · cbv
    exact hn0 2 (ne_t hA h)
  cbv
  refine ABr.mk (fun h => ?_) (fun g0_3 => ?_)
  · cbv
    exact hn0 3 (ne_t hA h)
  cbv
  refine ABr.mk (fun h => ?_) (fun g0_4 => ?_)
  · cbv
    exact hn0 4 (ne_t hA h)
  cbv
  refine ABr.mk (fun h => ?_) (fun g0_5 => ?_)
  · cbv
    exact hn0 5 (ne_t hA h)
  cbv
  refine ABr.mk (fun h => ?_) (fun g1_0 => ?_)
  · cbv
    exact hn1 0 (ne_t hA h)
  cbv
  refine ABr.mk (fun h => ?_) (fun g1_1 => ?_)
  · cbv
    exact hn1 1 (ne_t hA h)
  cbv
  refine ABr.mk (fun h => ?_) (fun g1_2 => ?_)
  · cbv
    exact hn1 2 (ne_t hA h)
  cbv
  refine ABr.mk (fun h => ?_) (fun g1_3 => ?_)
  · cbv
    exact hn1 3 (ne_t hA h)
  cbv
  refine ABr.mk (fun h => ?_) (fun g1_4 => ?_)
  · cbv
    exact hn1 4 (ne_t hA h)
  cbv
  refine ABr.mk (fun h => ?_) (fun g1_5 => ?_)
  · cbv
    exact hn1 5 (ne_t hA h)
  cbv
  exact hy ⟨ne_f hA g0_0, ne_f hA g0_1, ne_f hA g0_2, ne_f hA g0_3, ne_f hA g0_4, ne_f hA g0_5⟩ ⟨ne_f hA g1_0, ne_f hA g1_1, ne_f hA g1_2, ne_f hA g1_3, ne_f hA g1_4, ne_f hA g1_5⟩
theorem zeroR6_2 {H : H5} (hH : H = H5.real) (hp : PrM 384 p) (a : Cv.F2 p) : Sp 165 [Er6_2 H a] (.sb (decide (a = ⟨0, 0⟩))) := by
  have h1 := rZeroS6 hH a.a.val (Nat.lt_trans a.a.isLt hp.lt)
  have h2 := rZeroS6 hH a.b.val (Nat.lt_trans a.b.isLt hp.lt)
  have e : ∀ x : Fin p, decide (x.val = 0) = decide (x = 0) := fun x => by
    by_cases h : x = 0
    · rw [decide_eq_true h, h, Cv.val_zero]; rfl
    · rw [decide_eq_false h, decide_eq_false fun e => h (Fin.ext (by rw [e, Cv.val_zero]))]
  rw [e] at h1 h2
  have e2 : decide (a = ⟨0, 0⟩) = (decide (a.a = 0) && decide (a.b = 0)) := by
    obtain ⟨x, y⟩ := a
    by_cases hx : x = 0
    · by_cases hy : y = 0
      · subst hx; subst hy; simp
      · rw [decide_eq_false (fun e => hy (Cv.F2.mk.inj e).2)]; simp [hy]
    · rw [decide_eq_false (fun e => hx (Cv.F2.mk.inj e).1)]; simp [hx]
  rw [e2]
  generalize decide (a.a = 0) = t at *
  generalize decide (a.b = 0) = s at *
  refine mk Tryz.func165 rfl rfl L0 R1 (by decide +kernel) fun A S hA hS => ?_
  have n := i_not hA (rfl : t = t)
  have n2 := i_not hA (rfl : s = s)
  unfold bodyOf Tryz.f165
  cbv
  refine ACall.mk _ (cf hS h1) ?_
  cbv
  cases t
  · refine ABr.t n ?_
    cbv
  · refine ABr.f n ?_
    cbv
    refine ACall.mk _ (cf hS h2) ?_
    cbv
    cases s
    · refine ABr.t n2 ?_
      cbv
    · refine ABr.f n2 ?_
      cbv
theorem noneR6_2 {H : H5} (hH : H = H5.real) (hp : PrM 384 p) (c : Cu p) : Sp 119 [Cr6_2 H c] (Nr6_2 H (⟨0, 0⟩ : Cv.F2 p)) := by
  have h1 : Sp 80 [rf6 H p, .s .u64 0] (.new false 6 1 (ws6 H.lim ((0 : Fin p)).val)) := by rw [Cv.val_zero]; exact rnumS6 (p := p) hH 0 (by decide)
  generalize (0 : Fin p) = z at *
  refine mk Tryz.func119 rfl rfl L0 RNone (by decide +kernel) fun A S hA hS => ?_
  unfold bodyOf Tryz.f119
  cbv
  refine ACall.mk _ (cg hS h1 (by first | (cbv; done) | (cbv; exact rfl) | (cbv; exact ⟨rfl, trivial⟩) | (cbv; simp))) ?_
  cbv
  refine ACall.mk _ (cg hS h1 (by first | (cbv; done) | (cbv; exact rfl) | (cbv; exact ⟨rfl, trivial⟩) | (cbv; simp))) ?_
  cbv
theorem oneR6_2 {H : H5} (hH : H = H5.real) (hp : PrM 384 p) {c : Cu p} (h1c : c.one = fo p 1) : Sp 208 [Cr6_2 H c] (Nr6_2 H ⟨c.one, 0⟩) := by
  have h0 := noneR6_2 hH hp c
  have o : c.one.val = 1 := by rw [h1c]; exact hp.ne
  have h1 : Sp 80 [rf6 H p, .s .u64 1] (.new false 6 1 (ws6 H.lim c.one.val)) := by rw [o]; exact rnumS6 (p := p) hH 1 (by decide)
  clear o h1c
  generalize (0 : Fin p) = z at *
  refine mk Tryz.func208 rfl rfl L0 RNone (by decide +kernel) fun A S hA hS => ?_
  unfold bodyOf Tryz.f208
  cbv
  refine ACall.mk _ (cf hS h0) ?_
  cbv
  refine ACall.mk _ (cg hS h1 (by first | (cbv; done) | (cbv; exact rfl) | (cbv; exact ⟨rfl, trivial⟩) | (cbv; simp))) ?_
  cbv
end
end Go.Proofs.YtmholgclgamnnaaGreat
end
