import Derived.Test.YtmholgclgamnnaaGreatQZCZ
import Derived.Test.YtmholgclgamnnaaGreatQZCU
import Derived.Test.YtmholgclgamnnaaGreatQZCW
import Derived.Test.YtmholgclgamnnaaGreatQZDD
import Derived.Test.YtmholgclgamnnaaGreatQZyXCBn2yCU
section
set_option linter.unusedVariables false
set_option linter.unusedSectionVars false
set_option linter.unusedSimpArgs false
namespace Go.Proofs.YtmholgclgamnnaaGreat
open Go Eng
set_option maxRecDepth 100000
set_option exponentiation.threshold 2000
set_option maxHeartbeats 4000000
section
variable {p : Nat} [NeZero p]
theorem grpQ_eq {n : Nat} (hp : PrM n p) (b : Cv.F2 p) (P : PtB) (r : Nat) : grpQ b P r = grpE (good2 b P) (timesPt (Cv.ops2 Cv.inv2) (ptOf2 p P) r) := by
  unfold grpQ
  have h := (down_times (laws2p hp) (ptOf2 p P) r).2
  cases h1 : good2 b P with
  | zero =>
    rw [if_neg (fun h => h rfl)]
    cases ht : timesPt (Cv.ops2 Cv.inv2) (ptOf2 p P) r with
    | none => exact if_pos (h.2 ht)
    | some q => exact if_neg (fun e => by rw [h.1 e] at ht; cases ht)
  | succ m => rfl
theorem negQ_eq (b : Cv.F2 p) (P : PtB) : negQ b P = (resB (good2 b P) (Gp.ngp (Cv.ops2 Cv.inv2) (ptOf2 p P)), good2 b P) := by
  unfold negQ
  cases h1 : good2 b P with
  | zero =>
    rw [if_neg (fun h => h rfl)]
    obtain ⟨xa, xb, ya, yb, inf⟩ := P
    unfold good2 at h1
    dsimp only at h1
    cases inf
    · rw [if_neg (by simp)] at h1
      have hxy : xa < p ∧ xb < p ∧ ya < p ∧ yb < p := by
        apply Classical.byContradiction
        intro hn
        rw [if_neg hn] at h1
        cases h1
      show ((⟨xa, xb, (0 - fo p ya).val, (0 - fo p yb).val, false⟩ : PtB), 0) = (⟨xa % p, xb % p, (0 - fo p ya).val, (0 - fo p yb).val, false⟩, 0)
      rw [Nat.mod_eq_of_lt hxy.1, Nat.mod_eq_of_lt hxy.2.1]
    · rw [if_pos rfl] at h1
      have hxy : (xa = 0 ∧ xb = 0) ∧ ya = 0 ∧ yb = 0 := by
        apply Classical.byContradiction
        intro hn
        rw [if_neg hn] at h1
        cases h1
      obtain ⟨⟨rfl, rfl⟩, rfl, rfl⟩ := hxy
      show ((⟨0, 0, (0 - fo p 0).val, (0 - fo p 0).val, true⟩ : PtB), 0) = (⟨0, 0, 0, 0, true⟩, 0)
      have e : (0 - fo p 0).val = 0 := by
        show (0 - (0 : Fin p)).val = 0
        rw [Fin.sub_def]
        show (p - (0 % p) + (0 % p)) % p = 0
        rw [Nat.zero_mod, Nat.sub_zero, Nat.add_zero, Nat.mod_self]
      rw [e]
  | succ m => rfl
end
end Go.Proofs.YtmholgclgamnnaaGreat
end
section
set_option linter.unusedVariables false
set_option linter.unusedSectionVars false
set_option linter.unusedSimpArgs false
namespace Go.Proofs.YtmholgclgamnnaaGreat
open Go Eng
set_option maxRecDepth 100000
set_option exponentiation.threshold 2000
set_option maxHeartbeats 4000000
section
variable {α : Type} [DecidableEq α] {k : Rk α} {b : α} (hK : OkR k b)
include hK
end
section
variable {p : Nat} [NeZero p]
theorem Crt4_2 (H : H5) (c : Cu p) : Sim (Ct (kR4_2 H c) c.b2) (Cr4_2 H c) := by cbv
theorem good_tp4_2 {H : H5} (hH : H = H5.real) {c : Cu p} {P : PtB} (h : good2 c.b2 P = 0) : Sim (Pt_ (kR4_2 H c) (ptOf2 p P)) (PR4_2 H P) := by
  obtain ⟨xa, xb, ya, yb, inf⟩ := P
  unfold good2 at h
  dsimp only at h
  cases inf
  · rw [if_neg (by simp)] at h
    have hxy : xa < p ∧ xb < p ∧ ya < p ∧ yb < p := by
      apply Classical.byContradiction
      intro hn
      rw [if_neg hn] at h
      cases h
    have e1 : (fo p xa).val = xa := Nat.mod_eq_of_lt hxy.1
    have e2 : (fo p xb).val = xb := Nat.mod_eq_of_lt hxy.2.1
    have e3 : (fo p ya).val = ya := Nat.mod_eq_of_lt hxy.2.2.1
    have e4 : (fo p yb).val = yb := Nat.mod_eq_of_lt hxy.2.2.2
    show Sim (.agg [.lst true 2 [.lst false 4 (ws4 H.lim (fo p xa).val), .lst false 4 (ws4 H.lim (fo p xb).val)], .lst true 2 [.lst false 4 (ws4 H.lim (fo p ya).val), .lst false 4 (ws4 H.lim (fo p yb).val)], .sb false]) _
    rw [e1, e2, e3, e4]
    cbv
  · rw [if_pos rfl] at h
    have hxy : (xa = 0 ∧ xb = 0) ∧ ya = 0 ∧ yb = 0 := by
      apply Classical.byContradiction
      intro hn
      rw [if_neg hn] at h
      cases h
    obtain ⟨⟨rfl, rfl⟩, rfl, rfl⟩ := hxy
    show Sim (.agg [.lst true 2 [.lst false 4 (ws4 H.lim (0 : Fin p).val), .lst false 4 (ws4 H.lim (0 : Fin p).val)], .lst true 2 [.lst false 4 (ws4 H.lim (0 : Fin p).val), .lst false 4 (ws4 H.lim (0 : Fin p).val)], .sb true]) _
    rw [Cv.val_zero]
    cbv
/-- The negative, by the reference. -/
theorem rNeg4_2 {H : H5} (hH : H = H5.real) (hp : PrM 256 p) {c : Cu p} (h1c : c.one = fo p 1) (P : PtB) (hPxa : P.xa < 2 ^ 256) (hPxb : P.xb < 2 ^ 256) (hPya : P.ya < 2 ^ 256) (hPyb : P.yb < 2 ^ 256) :
    Sp 36 [Cr4_2 H c, PR4_2 H P] (.tup [Rp4_2 H c (good2 c.b2 P) (Gp.ngp (Cv.ops2 Cv.inv2) (ptOf2 p P)), .s .i64 (good2 c.b2 P : Nat)]) := by
  have g1 := rGood4_2 hH hp c P hPxa hPxb hPya hPyb
  have ne := fun A hA x => i_ne (A := A) hA (x := x) (y := 0)
  by_cases h1 : good2 c.b2 P = 0
  · rw [h1] at g1
    rw [h1]
    have hP := good_pt4_2 hH (c := c) h1
    have hP' : Sim (Pt_ (kR4_2 H c) (ptOf2 p P)) (PR4_2 H P) := good_tp4_2 hH (c := c) h1
    have g1' : Sp _ [Ct (kR4_2 H c) c.b2, Pt_ (kR4_2 H c) (ptOf2 p P)] _ := Spec.args g1 ⟨Crt4_2 H c, hP'⟩
    exact Spec.args (negRS (okR4_2 hH hp h1c) (ptOf2 p P) g1') ⟨Ctr4_2 H c, hP⟩
  · obtain ⟨e, he⟩ : ∃ e, good2 c.b2 P = e + 1 := ⟨good2 c.b2 P - 1, by omega⟩
    rw [he] at g1 ⊢
    show Sp _ _ (.tup [.agg [.v (.slice none 0 0), .v (.slice none 0 0), .b false], .s .i64 ((e + 1 : Nat) : Int)])
    have h2' : ((e + 1 : Nat) : Int) ≠ 0 := by omega
    generalize ((e + 1 : Nat) : Int) = v at *
    clear h1 he
    refine mk Tryz.func36 rfl rfl L0 R1 (by decide +kernel) fun A S hA hS => ?_
    have e0 : A.cmp .neq v 0 = true := by rw [ne A hA, decide_eq_false h2']; rfl
    unfold bodyOf Tryz.f36
    cbv
    repeat (first
      | (refine ABr.t (by assumption) ?_; cbv)
      | (refine ABr.f (by assumption) ?_; cbv)
      | (refine ABr.t rfl ?_; cbv)
      | (refine ABr.f rfl ?_; cbv)
      | (refine ACall.mk _ (cf hS g1) ?_; cbv))
end
end Go.Proofs.YtmholgclgamnnaaGreat
end
section
set_option linter.unusedVariables false
set_option linter.unusedSectionVars false
set_option linter.unusedSimpArgs false
namespace Go.Proofs.YtmholgclgamnnaaGreat
open Go Eng
set_option maxRecDepth 100000
set_option exponentiation.threshold 2000
set_option maxHeartbeats 4000000
section
variable {p : Nat} [NeZero p]
theorem of_lt4_2 (hp : PrM 256 p) (Q : Cv.Pt (Cv.F2 p)) : (ofPt2 Q).xa < 2 ^ 256 ∧ (ofPt2 Q).xb < 2 ^ 256 ∧ (ofPt2 Q).ya < 2 ^ 256 ∧ (ofPt2 Q).yb < 2 ^ 256 := by
  obtain _ | ⟨x, y⟩ := Q
  · exact ⟨Nat.two_pow_pos _, Nat.two_pow_pos _, Nat.two_pow_pos _, Nat.two_pow_pos _⟩
  · exact ⟨Nat.lt_trans x.a.isLt hp.lt, Nat.lt_trans x.b.isLt hp.lt, Nat.lt_trans y.a.isLt hp.lt, Nat.lt_trans y.b.isLt hp.lt⟩
theorem pt_sim4_2 {H : H5} (hH : H = H5.real) (c : Cu p) (Q : Cv.Pt (Cv.F2 p)) : Sim (Pt_ (kR4_2 H c) Q) (PR4_2 H (ofPt2 Q)) := by
  obtain _ | ⟨x, y⟩ := Q
  · show Sim (.agg [.lst true 2 [.lst false 4 (ws4 H.lim (0 : Fin p).val), .lst false 4 (ws4 H.lim (0 : Fin p).val)], .lst true 2 [.lst false 4 (ws4 H.lim (0 : Fin p).val), .lst false 4 (ws4 H.lim (0 : Fin p).val)], .sb true]) _
    rw [Cv.val_zero]
    cbv
  · cbv
theorem ansS4_2 {H : H5} (hH : H = H5.real) (hp : PrM 256 p) (c : Cu p) (e : Nat) (Q : Cv.Pt (Cv.F2 p)) : Sp 24 [PLv H (resB e Q).xa (resB e Q).xb (resB e Q).ya (resB e Q).yb (resB e Q).inf, .s .i64 (e : Nat), Rp4_2 H c e Q, .s .i64 (e : Nat)] (.sb true) := by
  cases e with
  | zero =>
    have h := of_lt4_2 hp Q
    have ho : Sp 45 [Pt_ (kR4_2 H c) Q] _ := Spec.args (of4_2 hH (ofPt2 Q) h.1 h.2.1 h.2.2.1 h.2.2.2) (pt_sim4_2 hH c Q)
    show Sp _ [PLv H (ofPt2 Q).xa (ofPt2 Q).xb (ofPt2 Q).ya (ofPt2 Q).yb (ofPt2 Q).inf, .s .i64 ((0 : Nat) : Int), Pt_ (kR4_2 H c) Q, .s .i64 ((0 : Nat) : Int)] _
    obtain ⟨X, Y, t, e⟩ := pt_agg (kR4_2 H c) Q
    rw [e] at ho ⊢
    exact ans0S _ _ _ _ _ ho
  | succ e => exact ans1S hH e
end
end Go.Proofs.YtmholgclgamnnaaGreat
end
section
set_option linter.unusedVariables false
set_option linter.unusedSectionVars false
set_option linter.unusedSimpArgs false
namespace Go.Proofs.YtmholgclgamnnaaGreat
open Go Eng
set_option maxRecDepth 100000
set_option exponentiation.threshold 2000
set_option maxHeartbeats 4000000
theorem Rp_or4_2 {p : Nat} [NeZero p] (H : H5) (c : Cu p) (e : Nat) (Q : Cv.Pt (Cv.F2 p)) : (∃ X Y t, Rp4_2 H c e Q = .agg [.lst true 2 X, .lst true 2 Y, .sb t]) ∨ Rp4_2 H c e Q = .agg [.v (.slice none 0 0), .v (.slice none 0 0), .b false] := by
  cases e with
  | zero => obtain ⟨X, Y, t, h⟩ := pt_agg (kR4_2 H c) Q; exact .inl ⟨_, _, _, h⟩
  | succ e => exact .inr rfl
theorem Rp_or24_2 {p : Nat} [NeZero p] (H : H5) (c : Cu p) (e : Nat) (Q R : Cv.Pt (Cv.F2 p)) : (∃ X Y t X' Y' t', Rp4_2 H c e Q = .agg [.lst true 2 X, .lst true 2 Y, .sb t] ∧ Rp4_2 H c e R = .agg [.lst true 2 X', .lst true 2 Y', .sb t']) ∨ (Rp4_2 H c e Q = .agg [.v (.slice none 0 0), .v (.slice none 0 0), .b false] ∧ Rp4_2 H c e R = .agg [.v (.slice none 0 0), .v (.slice none 0 0), .b false]) := by
  cases e with
  | zero => obtain ⟨X, Y, t, h⟩ := pt_agg (kR4_2 H c) Q; obtain ⟨X', Y', t', h'⟩ := pt_agg (kR4_2 H c) R; exact .inl ⟨_, _, _, _, _, _, h, h'⟩
  | succ e => exact .inr ⟨rfl, rfl⟩
end Go.Proofs.YtmholgclgamnnaaGreat
end
section
set_option linter.unusedVariables false
set_option linter.unusedSectionVars false
set_option linter.unusedSimpArgs false
namespace Go.Proofs.YtmholgclgamnnaaGreat
open Go Eng
set_option maxRecDepth 100000
set_option exponentiation.threshold 2000
set_option maxHeartbeats 4000000
theorem lw_bn2 {H : H5} (hH : H = H5.real) (x0 x1 y0 y1 : Nat) (i : Bool) (u0 u1 v0 v1 : Nat) (j : Bool) (k : Nat) (hk : k < 2 ^ 256) :
    Sp 8 [PLv H x0 x1 y0 y1 i, PLv H u0 u1 v0 v1 j, u4 H.lim k] (.sb true) := by
  obtain ⟨c, hc⟩ : ∃ c, c = bnC := ⟨_, rfl⟩
  have h1c : c.one = fo bnP 1 := by rw [hc]; rfl
  have hr : c.r < 2 ^ 256 := by rw [hc]; decide
  have sh := shortS hH k hk
  have hk' : short_ k < 2 ^ 256 := by unfold short_; split; exact hk; exact Nat.lt_of_le_of_lt (Nat.mod_le _ _) hk
  generalize short_ k = k' at *
  have tP := to4_2 hH x0 x1 y0 y1 i
  have rP := ref4_2 hH x0 x1 y0 y1 i
  have tQ := to4_2 hH u0 u1 v0 v1 j
  have rQ := ref4_2 hH u0 u1 v0 v1 j
  obtain ⟨P, hP⟩ : ∃ P : PtB, P = ⟨x0 % 2 ^ (64 * 4), x1 % 2 ^ (64 * 4), y0 % 2 ^ (64 * 4), y1 % 2 ^ (64 * 4), i⟩ := ⟨_, rfl⟩
  obtain ⟨Q, hQ⟩ : ∃ P : PtB, P = ⟨u0 % 2 ^ (64 * 4), u1 % 2 ^ (64 * 4), v0 % 2 ^ (64 * 4), v1 % 2 ^ (64 * 4), j⟩ := ⟨_, rfl⟩
  rw [← hP] at tP rP
  rw [← hQ] at tQ rQ
  have hPxa : P.xa < 2 ^ 256 := by rw [hP]; exact Nat.mod_lt _ (Nat.two_pow_pos _)
  have hPxb : P.xb < 2 ^ 256 := by rw [hP]; exact Nat.mod_lt _ (Nat.two_pow_pos _)
  have hPya : P.ya < 2 ^ 256 := by rw [hP]; exact Nat.mod_lt _ (Nat.two_pow_pos _)
  have hPyb : P.yb < 2 ^ 256 := by rw [hP]; exact Nat.mod_lt _ (Nat.two_pow_pos _)
  have hQxa : Q.xa < 2 ^ 256 := by rw [hQ]; exact Nat.mod_lt _ (Nat.two_pow_pos _)
  have hQxb : Q.xb < 2 ^ 256 := by rw [hQ]; exact Nat.mod_lt _ (Nat.two_pow_pos _)
  have hQya : Q.ya < 2 ^ 256 := by rw [hQ]; exact Nat.mod_lt _ (Nat.two_pow_pos _)
  have hQyb : Q.yb < 2 ^ 256 := by rw [hQ]; exact Nat.mod_lt _ (Nat.two_pow_pos _)
  clear hP hQ
  have aw := awakeS
  have cB := BnS hH hc
  have rB := rBn2S hH hc
  have cG := good2S4 hH bnPr c P hPxa hPxb hPya hPyb
  have rG := rGood4_2 hH bnPr c P hPxa hPxb hPya hPyb
  have cR := grpS2_4 hH bnPr h1c hr P hPxa hPxb hPya hPyb
  rw [grpQ_eq bnPr] at cR
  have rR := rGrp4_2 hH bnPr h1c P hPxa hPxb hPya hPyb
  generalize grpE (good2 c.b2 P) (timesPt (Cv.ops2 Cv.inv2) (ptOf2 bnP P) c.r) = gr at *
  have cA := addS2_4 hH bnPr h1c P Q hPxa hPxb hPya hPyb hQxa hQxb hQya hQyb
  rw [addQ_eq] at cA
  have rA := rAdd4_2 hH bnPr h1c P Q hPxa hPxb hPya hPyb hQxa hQxb hQya hQyb
  have cM := mulS2_4 hH bnPr h1c P hPxa hPxb hPya hPyb k' hk'
  rw [mulQ_eq bnPr] at cM
  have rM := rMul4_2 hH bnPr h1c P hPxa hPxb hPya hPyb (row4u H.lim k')
  have cN := negS2_4 hH bnPr (c := c) P hPxa hPxb hPya hPyb
  rw [negQ_eq] at cN
  have rN := rNeg4_2 hH bnPr h1c P hPxa hPxb hPya hPyb
  generalize addE (good2 c.b2 P) (good2 c.b2 Q) = eA at *
  generalize good2 c.b2 P = eP at *
  generalize Cv.sumR (Cv.ops2 Cv.inv2) (ptOf2 bnP P) (ptOf2 bnP Q) = sA at *
  generalize timesPt (Cv.ops2 Cv.inv2) (ptOf2 bnP P) k' = sM at *
  generalize Gp.ngp (Cv.ops2 Cv.inv2) (ptOf2 bnP P) = sN at *
  have aA := ansS4_2 hH bnPr c eA sA
  have lA := res_lt2 bnPr eA sA
  have fA := from4_2 (H := H) hH (resB eA sA) lA.1 lA.2.1 lA.2.2.1 lA.2.2.2
  dsimp only at cA
  generalize resB eA sA = pA at *
  clear lA
  have aM := ansS4_2 hH bnPr c eP sM
  have lM := res_lt2 bnPr eP sM
  have fM := from4_2 (H := H) hH (resB eP sM) lM.1 lM.2.1 lM.2.2.1 lM.2.2.2
  dsimp only at cM
  generalize resB eP sM = pM at *
  clear lM
  have aN := ansS4_2 hH bnPr c eP sN
  have lN := res_lt2 bnPr eP sN
  have fN := from4_2 (H := H) hH (resB eP sN) lN.1 lN.2.1 lN.2.2.1 lN.2.2.2
  dsimp only at cN
  generalize resB eP sN = pN at *
  clear lN
  have hM := Rp_or24_2 H c eP sM sN
  generalize Rp4_2 H c eP sM = wM at *
  generalize Rp4_2 H c eP sN = wN at *
  have hA := Rp_or4_2 H c eA sA
  generalize Rp4_2 H c eA sA = wA at *
  clear hc h1c hr hk hk' hPxa hPxb hPya hPyb hQxa hQxb hQya hQyb
  have key : ∀ A : Ar, A = Ar.real → A.cmp .eql (A.bin .rem .u64 (H.lim k' 0) 8) 0 = Ar.real.cmp .eql (Ar.real.bin .rem .u64 (H.lim k' 0) 8) 0 := fun A hA => by rw [hA]
  generalize Ar.real.cmp .eql (Ar.real.bin .rem .u64 (H.lim k' 0) 8) 0 = t at *
  obtain ⟨XA, YA, TA, rfl⟩ | rfl := hA <;> obtain ⟨XM, YM, TM, XN, YN, TN, rfl, rfl⟩ | ⟨rfl, rfl⟩ := hM <;> cases t
  all_goals
    refine mk Tryz.func8 rfl rfl L0 RLw4 (by decide +kernel) fun A S hA hS => ?_
    have e8 := key A hA
    have eG : A.cmp .neq (eP : Int) (eP : Int) = false := by rw [i_ne hA]; exact congrArg not (decide_eq_true rfl)
    have en : A.not true = false := i_not hA (rfl : true = true)
    have eR : A.cmp .neq (gr : Int) (gr : Int) = false := by rw [i_ne hA]; exact congrArg not (decide_eq_true rfl)
    unfold bodyOf Tryz.f8
    cbv
    repeat (first
      | (refine ABr.t (by assumption) ?_; cbv)
      | (refine ABr.f (by assumption) ?_; cbv)
      | (refine ABr.t rfl ?_; cbv)
      | (refine ABr.f rfl ?_; cbv)
      | (refine ACall.mk _ (cf hS aw) ?_; cbv)
      | (refine ACall.mk _ (cf hS cB) ?_; cbv)
      | (refine ACall.mk _ (cf hS rB) ?_; cbv)
      | (refine ACall.mk _ (cf hS sh) ?_; cbv)
      | (refine ACall.mk _ (cf hS tP) ?_; cbv)
      | (refine ACall.mk _ (cf hS rP) ?_; cbv)
      | (refine ACall.mk _ (cf hS tQ) ?_; cbv)
      | (refine ACall.mk _ (cf hS rQ) ?_; cbv)
      | (refine ACall.mk _ (cf hS cG) ?_; cbv)
      | (refine ACall.mk _ (cf hS rG) ?_; cbv)
      | (refine ACall.mk _ (cf hS cR) ?_; cbv)
      | (refine ACall.mk _ (cf hS rR) ?_; cbv)
      | (refine ACall.mk _ (cf hS cA) ?_; cbv)
      | (refine ACall.mk _ (cf hS rA) ?_; cbv)
      | (refine ACall.mk _ (cf hS fA) ?_; cbv)
      | (refine ACall.mk _ (cf hS aA) ?_; cbv)
      | (refine ACall.mk _ (cf hS cM) ?_; cbv)
      | (refine ACall.mk _ (cg hS rM ?_) ?_; (focus (cbv; done)); cbv)
      | (refine ACall.mk _ (cf hS fM) ?_; cbv)
      | (refine ACall.mk _ (cf hS aM) ?_; cbv)
      | (refine ACall.mk _ (cf hS cN) ?_; cbv)
      | (refine ACall.mk _ (cf hS rN) ?_; cbv)
      | (refine ACall.mk _ (cf hS fN) ?_; cbv)
      | (refine ACall.mk _ (cf hS aN) ?_; cbv))
    done
end Go.Proofs.YtmholgclgamnnaaGreat
end
