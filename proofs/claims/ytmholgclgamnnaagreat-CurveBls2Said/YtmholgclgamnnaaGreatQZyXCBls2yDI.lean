import Derived.Test.YtmholgclgamnnaaGreatQZCW
import Derived.Test.YtmholgclgamnnaaGreatQZCU
import Derived.Test.YtmholgclgamnnaaGreatQZCZ
import Derived.Test.YtmholgclgamnnaaGreatQZDD
import Derived.Test.YtmholgclgamnnaaGreatQZyXCBls2yCU
section
set_option linter.unusedVariables false
set_option linter.unusedSectionVars false
set_option linter.unusedSimpArgs false
namespace Go.Proofs.YtmholgclgamnnaaGreat
open Go Eng
set_option maxRecDepth 100000
set_option exponentiation.threshold 2000
set_option maxHeartbeats 4000000
section
variable {p : Nat} [NeZero p]
theorem of_lt6_2 (hp : PrM 384 p) (Q : Cv.Pt (Cv.F2 p)) : (ofPt2 Q).xa < 2 ^ 384 ∧ (ofPt2 Q).xb < 2 ^ 384 ∧ (ofPt2 Q).ya < 2 ^ 384 ∧ (ofPt2 Q).yb < 2 ^ 384 := by
  obtain _ | ⟨x, y⟩ := Q
  · exact ⟨Nat.two_pow_pos _, Nat.two_pow_pos _, Nat.two_pow_pos _, Nat.two_pow_pos _⟩
  · exact ⟨Nat.lt_trans x.a.isLt hp.lt, Nat.lt_trans x.b.isLt hp.lt, Nat.lt_trans y.a.isLt hp.lt, Nat.lt_trans y.b.isLt hp.lt⟩
theorem pt_sim6_2 {H : H5} (hH : H = H5.real) (c : Cu p) (Q : Cv.Pt (Cv.F2 p)) : Sim (Pt_ (kR6_2 H c) Q) (PR6_2 H (ofPt2 Q)) := by
  obtain _ | ⟨x, y⟩ := Q
  · show Sim (.agg [.lst true 2 [.lst false 6 (ws6 H.lim (0 : Fin p).val), .lst false 6 (ws6 H.lim (0 : Fin p).val)], .lst true 2 [.lst false 6 (ws6 H.lim (0 : Fin p).val), .lst false 6 (ws6 H.lim (0 : Fin p).val)], .sb true]) _
    rw [Cv.val_zero]
    cbv
  · cbv
theorem ansS6_2 {H : H5} (hH : H = H5.real) (hp : PrM 384 p) (c : Cu p) (e : Nat) (Q : Cv.Pt (Cv.F2 p)) : Sp 24 [PLv H (resB e Q).xa (resB e Q).xb (resB e Q).ya (resB e Q).yb (resB e Q).inf, .s .i64 (e : Nat), Rp6_2 H c e Q, .s .i64 (e : Nat)] (.sb true) := by
  cases e with
  | zero =>
    have h := of_lt6_2 hp Q
    have ho : Sp 45 [Pt_ (kR6_2 H c) Q] _ := Spec.args (of6_2 hH (ofPt2 Q) h.1 h.2.1 h.2.2.1 h.2.2.2) (pt_sim6_2 hH c Q)
    show Sp _ [PLv H (ofPt2 Q).xa (ofPt2 Q).xb (ofPt2 Q).ya (ofPt2 Q).yb (ofPt2 Q).inf, .s .i64 ((0 : Nat) : Int), Pt_ (kR6_2 H c) Q, .s .i64 ((0 : Nat) : Int)] _
    obtain ⟨X, Y, t, e⟩ := pt_agg (kR6_2 H c) Q
    rw [e] at ho ⊢
    exact ans0S _ _ _ _ _ ho
  | succ e => exact ans1S hH e
end
end Go.Proofs.YtmholgclgamnnaaGreat
end
section
set_option linter.unusedVariables false
set_option linter.unusedSectionVars false
set_option linter.unusedSimpArgs false
namespace Go.Proofs.YtmholgclgamnnaaGreat
open Go Eng
set_option maxRecDepth 100000
set_option exponentiation.threshold 2000
set_option maxHeartbeats 4000000
theorem Rp_or6_2 {p : Nat} [NeZero p] (H : H5) (c : Cu p) (e : Nat) (Q : Cv.Pt (Cv.F2 p)) : (∃ X Y t, Rp6_2 H c e Q = .agg [.lst true 2 X, .lst true 2 Y, .sb t]) ∨ Rp6_2 H c e Q = .agg [.v (.slice none 0 0), .v (.slice none 0 0), .b false] := by
  cases e with
  | zero => obtain ⟨X, Y, t, h⟩ := pt_agg (kR6_2 H c) Q; exact .inl ⟨_, _, _, h⟩
  | succ e => exact .inr rfl
end Go.Proofs.YtmholgclgamnnaaGreat
end
section
set_option linter.unusedVariables false
set_option linter.unusedSectionVars false
set_option linter.unusedSimpArgs false
namespace Go.Proofs.YtmholgclgamnnaaGreat
open Go Eng
set_option maxRecDepth 100000
set_option exponentiation.threshold 2000
set_option maxHeartbeats 4000000
theorem lw_bls2 {H : H5} (hH : H = H5.real) (x0 x1 y0 y1 : Nat) (i : Bool) (u0 u1 v0 v1 : Nat) (j : Bool) (k : Nat) (hk : k < 2 ^ 256) :
    Sp 5 [PLv H x0 x1 y0 y1 i, PLv H u0 u1 v0 v1 j, u4 H.lim k] (.sb true) := by
  obtain ⟨c, hc⟩ : ∃ c, c = blsC := ⟨_, rfl⟩
  have h1c : c.one = fo blsP 1 := by rw [hc]; rfl
  have hr : c.r < 2 ^ 256 := by rw [hc]; decide
  have sh := shortS hH k hk
  have hk' : short_ k < 2 ^ 256 := by unfold short_; split; exact hk; exact Nat.lt_of_le_of_lt (Nat.mod_le _ _) hk
  generalize short_ k = k' at *
  have tP := to6_2 hH x0 x1 y0 y1 i
  have rP := ref6_2 hH x0 x1 y0 y1 i
  have tQ := to6_2 hH u0 u1 v0 v1 j
  have rQ := ref6_2 hH u0 u1 v0 v1 j
  obtain ⟨P, hP⟩ : ∃ P : PtB, P = ⟨x0 % 2 ^ (64 * 6), x1 % 2 ^ (64 * 6), y0 % 2 ^ (64 * 6), y1 % 2 ^ (64 * 6), i⟩ := ⟨_, rfl⟩
  obtain ⟨Q, hQ⟩ : ∃ P : PtB, P = ⟨u0 % 2 ^ (64 * 6), u1 % 2 ^ (64 * 6), v0 % 2 ^ (64 * 6), v1 % 2 ^ (64 * 6), j⟩ := ⟨_, rfl⟩
  rw [← hP] at tP rP
  rw [← hQ] at tQ rQ
  have hPxa : P.xa < 2 ^ 384 := by rw [hP]; exact Nat.mod_lt _ (Nat.two_pow_pos _)
  have hPxb : P.xb < 2 ^ 384 := by rw [hP]; exact Nat.mod_lt _ (Nat.two_pow_pos _)
  have hPya : P.ya < 2 ^ 384 := by rw [hP]; exact Nat.mod_lt _ (Nat.two_pow_pos _)
  have hPyb : P.yb < 2 ^ 384 := by rw [hP]; exact Nat.mod_lt _ (Nat.two_pow_pos _)
  have hQxa : Q.xa < 2 ^ 384 := by rw [hQ]; exact Nat.mod_lt _ (Nat.two_pow_pos _)
  have hQxb : Q.xb < 2 ^ 384 := by rw [hQ]; exact Nat.mod_lt _ (Nat.two_pow_pos _)
  have hQya : Q.ya < 2 ^ 384 := by rw [hQ]; exact Nat.mod_lt _ (Nat.two_pow_pos _)
  have hQyb : Q.yb < 2 ^ 384 := by rw [hQ]; exact Nat.mod_lt _ (Nat.two_pow_pos _)
  clear hP hQ
  have aw := awakeS
  have cB := BlsS hH hc
  have rB := rBls2S hH hc
  have cG := good2S6 hH blsPr c P hPxa hPxb hPya hPyb
  have rG := rGood6_2 hH blsPr c P hPxa hPxb hPya hPyb
  have cA := addS2_6 hH blsPr h1c P Q hPxa hPxb hPya hPyb hQxa hQxb hQya hQyb
  rw [addQ_eq] at cA
  have rA := rAdd6_2 hH blsPr h1c P Q hPxa hPxb hPya hPyb hQxa hQxb hQya hQyb
  have cM := mulS2_6 hH blsPr h1c P hPxa hPxb hPya hPyb k' hk'
  rw [mulQ_eq blsPr] at cM
  have rM := rMul6_2 hH blsPr h1c P hPxa hPxb hPya hPyb (row4u H.lim k')
  generalize addE (good2 c.b2 P) (good2 c.b2 Q) = eA at *
  generalize good2 c.b2 P = eP at *
  generalize Cv.sumR (Cv.ops2 Cv.inv2) (ptOf2 blsP P) (ptOf2 blsP Q) = sA at *
  generalize timesPt (Cv.ops2 Cv.inv2) (ptOf2 blsP P) k' = sM at *
  have aA := ansS6_2 hH blsPr c eA sA
  have lA := res_lt2 blsPr eA sA
  have fA := from6_2 (H := H) hH (resB eA sA) lA.1 lA.2.1 lA.2.2.1 lA.2.2.2
  dsimp only at cA
  generalize resB eA sA = pA at *
  clear lA
  have aM := ansS6_2 hH blsPr c eP sM
  have lM := res_lt2 blsPr eP sM
  have fM := from6_2 (H := H) hH (resB eP sM) lM.1 lM.2.1 lM.2.2.1 lM.2.2.2
  dsimp only at cM
  generalize resB eP sM = pM at *
  clear lM
  have hM := Rp_or6_2 H c eP sM
  generalize Rp6_2 H c eP sM = wM at *
  have hA := Rp_or6_2 H c eA sA
  generalize Rp6_2 H c eA sA = wA at *
  clear hc h1c hr hk hk' hPxa hPxb hPya hPyb hQxa hQxb hQya hQyb
  have key : ∀ A : Ar, A = Ar.real → A.cmp .eql (A.bin .rem .u64 (H.lim k' 0) 8) 0 = Ar.real.cmp .eql (Ar.real.bin .rem .u64 (H.lim k' 0) 8) 0 := fun A hA => by rw [hA]
  generalize Ar.real.cmp .eql (Ar.real.bin .rem .u64 (H.lim k' 0) 8) 0 = t at *
  obtain ⟨XA, YA, TA, rfl⟩ | rfl := hA <;> obtain ⟨XM, YM, TM, rfl⟩ | rfl := hM <;> cases t
  all_goals
    refine mk Tryz.func5 rfl rfl L0 RLw (by decide +kernel) fun A S hA hS => ?_
    have e8 := key A hA
    have eG : A.cmp .neq (eP : Int) (eP : Int) = false := by rw [i_ne hA]; exact congrArg not (decide_eq_true rfl)
    have en : A.not true = false := i_not hA (rfl : true = true)
    unfold bodyOf Tryz.f5
    cbv
    repeat (first
      | (refine ABr.t (by assumption) ?_; cbv)
      | (refine ABr.f (by assumption) ?_; cbv)
      | (refine ABr.t rfl ?_; cbv)
      | (refine ABr.f rfl ?_; cbv)
      | (refine ACall.mk _ (cf hS aw) ?_; cbv)
      | (refine ACall.mk _ (cf hS cB) ?_; cbv)
      | (refine ACall.mk _ (cf hS rB) ?_; cbv)
      | (refine ACall.mk _ (cf hS sh) ?_; cbv)
      | (refine ACall.mk _ (cf hS tP) ?_; cbv)
      | (refine ACall.mk _ (cf hS rP) ?_; cbv)
      | (refine ACall.mk _ (cf hS tQ) ?_; cbv)
      | (refine ACall.mk _ (cf hS rQ) ?_; cbv)
      | (refine ACall.mk _ (cf hS cG) ?_; cbv)
      | (refine ACall.mk _ (cf hS rG) ?_; cbv)
      | (refine ACall.mk _ (cf hS cA) ?_; cbv)
      | (refine ACall.mk _ (cf hS rA) ?_; cbv)
      | (refine ACall.mk _ (cf hS fA) ?_; cbv)
      | (refine ACall.mk _ (cf hS aA) ?_; cbv)
      | (refine ACall.mk _ (cf hS cM) ?_; cbv)
      | (refine ACall.mk _ (cg hS rM ?_) ?_; (focus (cbv; done)); cbv)
      | (refine ACall.mk _ (cf hS fM) ?_; cbv)
      | (refine ACall.mk _ (cf hS aM) ?_; cbv))
    done
end Go.Proofs.YtmholgclgamnnaaGreat
end
