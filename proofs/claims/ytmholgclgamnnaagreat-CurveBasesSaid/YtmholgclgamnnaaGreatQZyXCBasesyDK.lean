import Derived.Test.YtmholgclgamnnaaGreatQZCK
import Derived.Test.YtmholgclgamnnaaGreatQZCN
import Derived.Test.YtmholgclgamnnaaGreatQZCW
import Derived.Test.YtmholgclgamnnaaGreatQZCZ
import Derived.Test.YtmholgclgamnnaaGreatQZDD
section
set_option linter.unusedVariables false
set_option linter.unusedSectionVars false
set_option linter.unusedSimpArgs false
namespace Go.Proofs.YtmholgclgamnnaaGreat
open Go Eng
set_option maxRecDepth 100000
set_option exponentiation.threshold 2000
set_option maxHeartbeats 4000000
section
variable {p : Nat} [NeZero p]
theorem base2S4 {H : H5} (c : Cu p) : Sp 47 [.ref (Cc4 H c) 0] (P2_4 H ⟨c.xa, c.xb, c.ya, c.yb, false⟩) := by
  have h := CisS4 (H := H) c
  refine mk Tryz.func47 rfl rfl L0 R1 (by decide +kernel) fun A S hA hS => ?_
  unfold bodyOf Tryz.f47
  cbv
  refine ACall.mk _ (cf hS h) ?_
  cbv
theorem base1S6 {H : H5} (c : Cu p) : Sp 49 [.ref (Cc6 H c) 0] (P1_6 H ⟨c.x1, c.y1, false⟩) := by
  have h := CisS6 (H := H) c
  refine mk Tryz.func49 rfl rfl L0 R1 (by decide +kernel) fun A S hA hS => ?_
  unfold bodyOf Tryz.f49
  cbv
  refine ACall.mk _ (cf hS h) ?_
  cbv
theorem base2S6 {H : H5} (c : Cu p) : Sp 50 [.ref (Cc6 H c) 0] (P2_6 H ⟨c.xa, c.xb, c.ya, c.yb, false⟩) := by
  have h := CisS6 (H := H) c
  refine mk Tryz.func50 rfl rfl L0 R1 (by decide +kernel) fun A S hA hS => ?_
  unfold bodyOf Tryz.f50
  cbv
  refine ACall.mk _ (cf hS h) ?_
  cbv
end
end Go.Proofs.YtmholgclgamnnaaGreat
end
section
set_option linter.unusedVariables false
set_option linter.unusedSectionVars false
set_option linter.unusedSimpArgs false
namespace Go.Proofs.YtmholgclgamnnaaGreat
open Go Eng
set_option maxRecDepth 100000
set_option exponentiation.threshold 2000
set_option maxHeartbeats 4000000
section
variable {p : Nat} [NeZero p]
theorem grpS2_6 {H : H5} (hH : H = H5.real) (hp : PrM 384 p) {c : Cu p} (h1c : c.one = fo p 1) (hr : c.r < 2 ^ 256) (P : PtB) (hPxa : P.xa < 2 ^ 384) (hPxb : P.xb < 2 ^ 384) (hPya : P.ya < 2 ^ 384) (hPyb : P.yb < 2 ^ 384) :
    Sp 52 [.ref (Cc6 H c) 0, P2_6 H P] (.s .i64 (grpQ c.b2 P c.r : Nat)) := by
  have g1 := good2S6 hH hp c P hPxa hPxb hPya hPyb
  have u1 := up2S6 hH hp h1c P hPxa hPxb hPya hPyb
  have ne := fun A hA x => i_ne (A := A) hA (x := x) (y := 0)
  unfold grpQ
  by_cases h1 : good2 c.b2 P = 0
  · rw [if_neg (fun h => h h1)]
    have tm := timest6 (ok2_6 hH hp) c.b2 (Cv.up (K2_6 H p).O (ptOf2 p P)) (H5.hlim hH) c.r hr
    have hz := fun A hA x => (ok2_6 hH hp).eqz (A := A) hA x
    rw [h1] at g1
    clear h1
    change Sp _ _ (Jt6 (K2_6 H p) (Cv.tm (Cv.ops2 Cv.inv2) (Cv.up (Cv.ops2 Cv.inv2) (ptOf2 p P)) c.r 256 256)) at tm
    generalize Cv.tm (Cv.ops2 Cv.inv2) (Cv.up (Cv.ops2 Cv.inv2) (ptOf2 p P)) c.r 256 256 = j at *
    change Sp _ [_, _] (Jt6 (K2_6 H p) (Cv.up (Cv.ops2 Cv.inv2) (ptOf2 p P))) at u1
    change Sp _ [_, Jt6 (K2_6 H p) (Cv.up (Cv.ops2 Cv.inv2) (ptOf2 p P)), _] _ at tm
    generalize Cv.up (Cv.ops2 Cv.inv2) (ptOf2 p P) = j1 at *
    by_cases h2 : j.z = ⟨0, 0⟩
    · rw [if_pos h2]
      refine mk Tryz.func52 rfl rfl L0 R1 (by decide +kernel) fun A S hA hS => ?_
      have e0 : A.cmp .neq ((0 : Nat) : Int) 0 = false := ne A hA _
      have e2 := i_not hA ((hz A hA j.z).trans (decide_eq_true h2))
      unfold bodyOf Tryz.f52
      cbv
      repeat (first
        | (refine ABr.t (by assumption) ?_; cbv)
        | (refine ABr.f (by assumption) ?_; cbv)
        | (refine ABr.t rfl ?_; cbv)
        | (refine ABr.f rfl ?_; cbv)
        | (refine ACall.mk _ (cf hS g1) ?_; cbv)
        | (refine ACall.mk _ (cf hS u1) ?_; cbv)
        | (refine ACall.mk _ (cf hS tm) ?_; cbv))
    · rw [if_neg h2]
      refine mk Tryz.func52 rfl rfl L0 R1 (by decide +kernel) fun A S hA hS => ?_
      have e0 : A.cmp .neq ((0 : Nat) : Int) 0 = false := ne A hA _
      have e2 := i_not hA ((hz A hA j.z).trans (decide_eq_false h2))
      unfold bodyOf Tryz.f52
      cbv
      repeat (first
        | (refine ABr.t (by assumption) ?_; cbv)
        | (refine ABr.f (by assumption) ?_; cbv)
        | (refine ABr.t rfl ?_; cbv)
        | (refine ABr.f rfl ?_; cbv)
        | (refine ACall.mk _ (cf hS g1) ?_; cbv)
        | (refine ACall.mk _ (cf hS u1) ?_; cbv)
        | (refine ACall.mk _ (cf hS tm) ?_; cbv))
  · rw [if_pos h1]
    clear u1
    have h1' : ((good2 c.b2 P : Nat) : Int) ≠ 0 := by omega
    generalize ((good2 c.b2 P : Nat) : Int) = e at *
    refine mk Tryz.func52 rfl rfl L0 R1 (by decide +kernel) fun A S hA hS => ?_
    have e1 : A.cmp .neq e 0 = true := by rw [ne A hA, decide_eq_false h1']; rfl
    unfold bodyOf Tryz.f52
    cbv
    repeat (first
      | (refine ABr.t (by assumption) ?_; cbv)
      | (refine ABr.f (by assumption) ?_; cbv)
      | (refine ABr.t rfl ?_; cbv)
      | (refine ABr.f rfl ?_; cbv)
      | (refine ACall.mk _ (cf hS g1) ?_; cbv))
end
end Go.Proofs.YtmholgclgamnnaaGreat
end
section
set_option linter.unusedVariables false
set_option linter.unusedSectionVars false
set_option linter.unusedSimpArgs false
namespace Go.Proofs.YtmholgclgamnnaaGreat
open Go Eng
set_option maxRecDepth 100000
set_option exponentiation.threshold 2000
set_option maxHeartbeats 4000000
theorem bnB2_eq : bnB2 = ⟨fo bnP 0x2b149d40ceb8aaae81be18991be06ac3b5b4c5e559dbefa33267e6dc24a138e5, fo bnP 0x009713b03af0fed4cd2cafadeed8fdf4a74fa084e52d1852e4a2bd0685c315d2⟩ := by
  have e : Cv.inv1 (fo bnP 9 * fo bnP 9 + fo bnP 1 * fo bnP 1) = fo bnP 7207104360239761353666499452706663748717078063988307791373219794578306190631 := inv1_uniq bnPr (by decide +kernel)
  unfold bnB2 Cv.inv2
  dsimp only
  rw [e]
  decide +kernel
theorem bn_grp1 : grpP (fo bnP 3) ⟨1, 2, false⟩ bnR = 0 := by decide +kernel
theorem bls_grp1 : grpP blsC.b1 ⟨blsC.x1, blsC.y1, false⟩ blsR = 0 := by decide +kernel
theorem bls_grp2 : grpQ blsC.b2 ⟨blsC.xa, blsC.xb, blsC.ya, blsC.yb, false⟩ blsR = 0 := by decide +kernel
theorem bn_grp2 : grpQ bnC.b2 ⟨bnC.xa, bnC.xb, bnC.ya, bnC.yb, false⟩ bnR = 0 := by
  have e : bnC.b2 = bnB2 := rfl
  rw [e, bnB2_eq]
  decide +kernel
end Go.Proofs.YtmholgclgamnnaaGreat
end
section
set_option linter.unusedVariables false
set_option linter.unusedSectionVars false
set_option linter.unusedSimpArgs false
namespace Go.Proofs.YtmholgclgamnnaaGreat
open Go Eng
set_option maxRecDepth 100000
set_option exponentiation.threshold 2000
set_option maxHeartbeats 4000000
theorem lw_bases {H : H5} (hH : H = H5.real) : Sp 6 [] (.sb true) := by
  obtain ⟨c, hc⟩ : ∃ c, c = bnC := ⟨_, rfl⟩
  obtain ⟨d, hd⟩ : ∃ d, d = blsC := ⟨_, rfl⟩
  have aw := awakeS
  have k1 := BnS hH hc
  have k2 := BlsS hH hd
  have r1 := rBn1S hH hc
  have r2 := rBn2S hH hc
  have r3 := rBls1S hH hd
  have r4 := rBls2S hH hd
  have h41x1 : c.x1 < 2 ^ 256 := by rw [hc]; decide
  have h41y1 : c.y1 < 2 ^ 256 := by rw [hc]; decide
  have b41 := base1S4 (H := H) c
  have f41 := from4_1 hH ⟨c.x1, c.y1, false⟩ h41x1 h41y1
  have o41 := of4_1 hH ⟨c.x1, c.y1, false⟩ h41x1 h41y1
  have g41 := grpS1_4 hH bnPr (c := c) (by rw [hc]; rfl) (by rw [hc]; decide) ⟨c.x1, c.y1, false⟩ h41x1 h41y1
  have e41 : grpP c.b1 ⟨c.x1, c.y1, false⟩ c.r = 0 := by rw [hc]; exact bn_grp1
  rw [e41] at g41
  clear e41
  have h42xa : c.xa < 2 ^ 256 := by rw [hc]; decide
  have h42xb : c.xb < 2 ^ 256 := by rw [hc]; decide
  have h42ya : c.ya < 2 ^ 256 := by rw [hc]; decide
  have h42yb : c.yb < 2 ^ 256 := by rw [hc]; decide
  have b42 := base2S4 (H := H) c
  have f42 := from4_2 hH ⟨c.xa, c.xb, c.ya, c.yb, false⟩ h42xa h42xb h42ya h42yb
  have o42 := of4_2 hH ⟨c.xa, c.xb, c.ya, c.yb, false⟩ h42xa h42xb h42ya h42yb
  have g42 := grpS2_4 hH bnPr (c := c) (by rw [hc]; rfl) (by rw [hc]; decide) ⟨c.xa, c.xb, c.ya, c.yb, false⟩ h42xa h42xb h42ya h42yb
  have e42 : grpQ c.b2 ⟨c.xa, c.xb, c.ya, c.yb, false⟩ c.r = 0 := by rw [hc]; exact bn_grp2
  rw [e42] at g42
  clear e42
  have h61x1 : d.x1 < 2 ^ 384 := by rw [hd]; decide
  have h61y1 : d.y1 < 2 ^ 384 := by rw [hd]; decide
  have b61 := base1S6 (H := H) d
  have f61 := from6_1 hH ⟨d.x1, d.y1, false⟩ h61x1 h61y1
  have o61 := of6_1 hH ⟨d.x1, d.y1, false⟩ h61x1 h61y1
  have g61 := grpS1_6 hH blsPr (c := d) (by rw [hd]; rfl) (by rw [hd]; decide) ⟨d.x1, d.y1, false⟩ h61x1 h61y1
  have e61 : grpP d.b1 ⟨d.x1, d.y1, false⟩ d.r = 0 := by rw [hd]; exact bls_grp1
  rw [e61] at g61
  clear e61
  have h62xa : d.xa < 2 ^ 384 := by rw [hd]; decide
  have h62xb : d.xb < 2 ^ 384 := by rw [hd]; decide
  have h62ya : d.ya < 2 ^ 384 := by rw [hd]; decide
  have h62yb : d.yb < 2 ^ 384 := by rw [hd]; decide
  have b62 := base2S6 (H := H) d
  have f62 := from6_2 hH ⟨d.xa, d.xb, d.ya, d.yb, false⟩ h62xa h62xb h62ya h62yb
  have o62 := of6_2 hH ⟨d.xa, d.xb, d.ya, d.yb, false⟩ h62xa h62xb h62ya h62yb
  have g62 := grpS2_6 hH blsPr (c := d) (by rw [hd]; rfl) (by rw [hd]; decide) ⟨d.xa, d.xb, d.ya, d.yb, false⟩ h62xa h62xb h62ya h62yb
  have e62 : grpQ d.b2 ⟨d.xa, d.xb, d.ya, d.yb, false⟩ d.r = 0 := by rw [hd]; exact bls_grp2
  rw [e62] at g62
  clear e62
  clear hc hd
  refine mk Tryz.func6 rfl rfl L0 R1 (by decide +kernel) fun A S hA hS => ?_
  have e0 : A.cmp .eql ((0 : Nat) : Int) 0 = true := i_eq hA
  have q1 := eq25 hA (H := H) c.x1 0 c.y1 0 false
  have q2 := eq25 hA (H := H) c.xa c.xb c.ya c.yb false
  have q3 := eq25 hA (H := H) d.x1 0 d.y1 0 false
  have q4 := eq25 hA (H := H) d.xa d.xb d.ya d.yb false
  unfold bodyOf Tryz.f6
  cbv
  repeat (first
    | (refine ABr.t (by assumption) ?_; cbv)
    | (refine ABr.f (by assumption) ?_; cbv)
    | (refine ABr.t rfl ?_; cbv)
    | (refine ABr.f rfl ?_; cbv)
    | (refine ACall.mk _ (cf hS aw) ?_; cbv)
    | (refine ACall.mk _ (cf hS k1) ?_; cbv)
    | (refine ACall.mk _ (cf hS k2) ?_; cbv)
    | (refine ACall.mk _ (cf hS r1) ?_; cbv)
    | (refine ACall.mk _ (cf hS r2) ?_; cbv)
    | (refine ACall.mk _ (cf hS r3) ?_; cbv)
    | (refine ACall.mk _ (cf hS r4) ?_; cbv)
    | (refine ACall.mk _ (cf hS b41) ?_; cbv)
    | (refine ACall.mk _ (cf hS f41) ?_; cbv)
    | (refine ACall.mk _ (cg hS o41 ?_) ?_; (focus (cbv; done)); cbv)
    | (refine ACall.mk _ (cf hS g41) ?_; cbv)
    | (refine ACall.mk _ (cf hS b42) ?_; cbv)
    | (refine ACall.mk _ (cf hS f42) ?_; cbv)
    | (refine ACall.mk _ (cg hS o42 ?_) ?_; (focus (cbv; done)); cbv)
    | (refine ACall.mk _ (cf hS g42) ?_; cbv)
    | (refine ACall.mk _ (cf hS b61) ?_; cbv)
    | (refine ACall.mk _ (cf hS f61) ?_; cbv)
    | (refine ACall.mk _ (cg hS o61 ?_) ?_; (focus (cbv; done)); cbv)
    | (refine ACall.mk _ (cf hS g61) ?_; cbv)
    | (refine ACall.mk _ (cf hS b62) ?_; cbv)
    | (refine ACall.mk _ (cf hS f62) ?_; cbv)
    | (refine ACall.mk _ (cg hS o62 ?_) ?_; (focus (cbv; done)); cbv)
    | (refine ACall.mk _ (cf hS g62) ?_; cbv))
  exact e0
end Go.Proofs.YtmholgclgamnnaaGreat
end
