import Derived.Test.YtmholgclgamnnaaGreatQYGG
import Derived.Test.YtmholgclgamnnaaGreatQYD
import Derived.Test.YtmholgclgamnnaaGreatQYDL
import Derived.Test.YtmholgclgamnnaaGreatQYDB
import Derived.Test.YtmholgclgamnnaaGreatQYyXCWritesyDT
section
set_option linter.unusedVariables false
set_option linter.unusedSectionVars false
set_option linter.unusedSimpArgs false
namespace Go.Proofs.YtmholgclgamnnaaGreat
open Go Eng
set_option maxRecDepth 100000
set_option exponentiation.threshold 2000
set_option maxHeartbeats 4000000
theorem rWriteBn1S {p : Nat} [NeZero p] {H : H5} (hH : H = H5.real) {B : Nat → Nat → Int} (hB : B = byteN) (c : Cu p) (P : PtA) : Sp 62 [Cr4_1 H c, PR4_1 H P] (.new false 64 1 (by4 B (wr P.inf P.x) ++ by4 B (wr P.inf P.y))) := by
  have hl := H5.hlim hH
  have h0 := rBytesS4 hl hB P.x
  have h1 := rBytesS4 hl hB P.y
  have z := b0 hB
  obtain ⟨x, y, inf⟩ := P
  dsimp only at *
  cases inf
  · refine mk Tryz.func62 rfl rfl L0 ROw (by decide +kernel) fun A S hA hS => ?_
    unfold bodyOf Tryz.f62
    cbv
    repeat (first
      | (refine ABr.t (by assumption) ?_; cbv)
      | (refine ABr.f (by assumption) ?_; cbv)
      | (refine ABr.t rfl ?_; cbv)
      | (refine ABr.f rfl ?_; cbv)
      | (refine ACall.mk _ (cg hS h0 ?_) ?_; (focus (cbv; done)); cbv)
      | (refine ACall.mk _ (cg hS h1 ?_) ?_; (focus (cbv; done)); cbv))
    try (repeat' (first | exact rfl | exact trivial | constructor))
  · refine mk Tryz.func62 rfl rfl L0 ROw (by decide +kernel) fun A S hA hS => ?_
    unfold bodyOf Tryz.f62
    cbv
    repeat (first
      | (refine ABr.t (by assumption) ?_; cbv)
      | (refine ABr.f (by assumption) ?_; cbv)
      | (refine ABr.t rfl ?_; cbv)
      | (refine ABr.f rfl ?_; cbv))
    repeat' (first | exact (z _).symm | exact rfl | exact trivial | constructor)
theorem rWriteBn2S {p : Nat} [NeZero p] {H : H5} (hH : H = H5.real) {B : Nat → Nat → Int} (hB : B = byteN) (c : Cu p) (P : PtB) : Sp 62 [Cr4_2 H c, PR4_2 H P] (.new false 128 1 (by4 B (wr P.inf P.xb) ++ (by4 B (wr P.inf P.xa) ++ (by4 B (wr P.inf P.yb) ++ by4 B (wr P.inf P.ya))))) := by
  have hl := H5.hlim hH
  have h0 := rBytesS4 hl hB P.xa
  have h1 := rBytesS4 hl hB P.xb
  have h2 := rBytesS4 hl hB P.ya
  have h3 := rBytesS4 hl hB P.yb
  have z := b0 hB
  obtain ⟨xa, xb, ya, yb, inf⟩ := P
  dsimp only at *
  cases inf
  · refine mk Tryz.func62 rfl rfl L0 ROw (by decide +kernel) fun A S hA hS => ?_
    unfold bodyOf Tryz.f62
    cbv
    repeat (first
      | (refine ABr.t (by assumption) ?_; cbv)
      | (refine ABr.f (by assumption) ?_; cbv)
      | (refine ABr.t rfl ?_; cbv)
      | (refine ABr.f rfl ?_; cbv)
      | (refine ACall.mk _ (cg hS h0 ?_) ?_; (focus (cbv; done)); cbv)
      | (refine ACall.mk _ (cg hS h1 ?_) ?_; (focus (cbv; done)); cbv)
      | (refine ACall.mk _ (cg hS h2 ?_) ?_; (focus (cbv; done)); cbv)
      | (refine ACall.mk _ (cg hS h3 ?_) ?_; (focus (cbv; done)); cbv))
    try (repeat' (first | exact rfl | exact trivial | constructor))
  · refine mk Tryz.func62 rfl rfl L0 ROw (by decide +kernel) fun A S hA hS => ?_
    unfold bodyOf Tryz.f62
    cbv
    repeat (first
      | (refine ABr.t (by assumption) ?_; cbv)
      | (refine ABr.f (by assumption) ?_; cbv)
      | (refine ABr.t rfl ?_; cbv)
      | (refine ABr.f rfl ?_; cbv))
    repeat' (first | exact (z _).symm | exact rfl | exact trivial | constructor)
theorem by6f_eq (x f : Nat) : by6f byteN x f = [.s .u8 (wbs x f 0 : Nat), .s .u8 (wbs x f 1 : Nat), .s .u8 (wbs x f 2 : Nat), .s .u8 (wbs x f 3 : Nat), .s .u8 (wbs x f 4 : Nat), .s .u8 (wbs x f 5 : Nat), .s .u8 (wbs x f 6 : Nat), .s .u8 (wbs x f 7 : Nat), .s .u8 (wbs x f 8 : Nat), .s .u8 (wbs x f 9 : Nat), .s .u8 (wbs x f 10 : Nat), .s .u8 (wbs x f 11 : Nat), .s .u8 (wbs x f 12 : Nat), .s .u8 (wbs x f 13 : Nat), .s .u8 (wbs x f 14 : Nat), .s .u8 (wbs x f 15 : Nat), .s .u8 (wbs x f 16 : Nat), .s .u8 (wbs x f 17 : Nat), .s .u8 (wbs x f 18 : Nat), .s .u8 (wbs x f 19 : Nat), .s .u8 (wbs x f 20 : Nat), .s .u8 (wbs x f 21 : Nat), .s .u8 (wbs x f 22 : Nat), .s .u8 (wbs x f 23 : Nat), .s .u8 (wbs x f 24 : Nat), .s .u8 (wbs x f 25 : Nat), .s .u8 (wbs x f 26 : Nat), .s .u8 (wbs x f 27 : Nat), .s .u8 (wbs x f 28 : Nat), .s .u8 (wbs x f 29 : Nat), .s .u8 (wbs x f 30 : Nat), .s .u8 (wbs x f 31 : Nat), .s .u8 (wbs x f 32 : Nat), .s .u8 (wbs x f 33 : Nat), .s .u8 (wbs x f 34 : Nat), .s .u8 (wbs x f 35 : Nat), .s .u8 (wbs x f 36 : Nat), .s .u8 (wbs x f 37 : Nat), .s .u8 (wbs x f 38 : Nat), .s .u8 (wbs x f 39 : Nat), .s .u8 (wbs x f 40 : Nat), .s .u8 (wbs x f 41 : Nat), .s .u8 (wbs x f 42 : Nat), .s .u8 (wbs x f 43 : Nat), .s .u8 (wbs x f 44 : Nat), .s .u8 (wbs x f 45 : Nat), .s .u8 (wbs x f 46 : Nat), .s .u8 (wbs x f 47 : Nat)] := by
  unfold by6f
  rw [show byteN x 47 + (f : Int) = ((wbs x f 0 : Nat) : Int) from rfl]
  rfl
/-- The program reads a compressed point. -/
theorem readBls1S {H : H5} (hH : H = H5.real) {c : Cu blsP} (hc : c = blsC) {bs : Nat → Nat} (hb : ∀ i, bs i < 256) : Sp 66 [.lst false 48 [.s .u8 (bs 0 : Nat), .s .u8 (bs 1 : Nat), .s .u8 (bs 2 : Nat), .s .u8 (bs 3 : Nat), .s .u8 (bs 4 : Nat), .s .u8 (bs 5 : Nat), .s .u8 (bs 6 : Nat), .s .u8 (bs 7 : Nat), .s .u8 (bs 8 : Nat), .s .u8 (bs 9 : Nat), .s .u8 (bs 10 : Nat), .s .u8 (bs 11 : Nat), .s .u8 (bs 12 : Nat), .s .u8 (bs 13 : Nat), .s .u8 (bs 14 : Nat), .s .u8 (bs 15 : Nat), .s .u8 (bs 16 : Nat), .s .u8 (bs 17 : Nat), .s .u8 (bs 18 : Nat), .s .u8 (bs 19 : Nat), .s .u8 (bs 20 : Nat), .s .u8 (bs 21 : Nat), .s .u8 (bs 22 : Nat), .s .u8 (bs 23 : Nat), .s .u8 (bs 24 : Nat), .s .u8 (bs 25 : Nat), .s .u8 (bs 26 : Nat), .s .u8 (bs 27 : Nat), .s .u8 (bs 28 : Nat), .s .u8 (bs 29 : Nat), .s .u8 (bs 30 : Nat), .s .u8 (bs 31 : Nat), .s .u8 (bs 32 : Nat), .s .u8 (bs 33 : Nat), .s .u8 (bs 34 : Nat), .s .u8 (bs 35 : Nat), .s .u8 (bs 36 : Nat), .s .u8 (bs 37 : Nat), .s .u8 (bs 38 : Nat), .s .u8 (bs 39 : Nat), .s .u8 (bs 40 : Nat), .s .u8 (bs 41 : Nat), .s .u8 (bs 42 : Nat), .s .u8 (bs 43 : Nat), .s .u8 (bs 44 : Nat), .s .u8 (bs 45 : Nat), .s .u8 (bs 46 : Nat), .s .u8 (bs 47 : Nat)]] (.tup [P1_6 H (rdB (bs 0 / 32) (allz (bareB bs) 48) (numB (bareB bs) 48)).1, .s .i64 ((rdB (bs 0 / 32) (allz (bareB bs) 48) (numB (bareB bs) 48)).2 : Nat)]) := by
  have h8 : bs 0 / 32 < 8 := by have := hb 0; omega
  by_cases h4 : bs 0 / 32 < 4
  · have e : rdB (bs 0 / 32) (allz (bareB bs) 48) (numB (bareB bs) 48) = (⟨0, 0, false⟩, 73) := by unfold rdB; rw [if_pos h4]
    rw [e]; exact rdP2 hH hc hb h4
  by_cases h7 : bs 0 / 32 = 7
  · have e : rdB (bs 0 / 32) (allz (bareB bs) 48) (numB (bareB bs) 48) = (⟨0, 0, false⟩, 73) := by unfold rdB; rw [if_neg h4, if_pos (by omega), if_neg (fun h => by omega)]
    rw [e]; exact rdP3 hH hc hb h7
  by_cases h6 : bs 0 / 32 = 6
  · cases hz : allz (bareB bs) 48 with
    | false =>
      have e : rdB (bs 0 / 32) false (numB (bareB bs) 48) = (⟨0, 0, false⟩, 73) := by unfold rdB; rw [if_neg h4, if_pos (by omega), if_neg (fun h => Bool.false_ne_true h.2)]
      rw [e]; exact rdP3b hH hc hb h6 hz
    | true =>
      have e : rdB (bs 0 / 32) true (numB (bareB bs) 48) = (⟨0, 0, true⟩, 0) := by unfold rdB; rw [if_neg h4, if_pos (by omega), if_pos ⟨h6, rfl⟩]
      rw [e]; exact rdP4 hH hc hb h6 hz
  have h45 : bs 0 / 32 = 4 ∨ bs 0 / 32 = 5 := by omega
  have e0 : rdB (bs 0 / 32) (allz (bareB bs) 48) (numB (bareB bs) 48) = if ¬ numB (bareB bs) 48 < blsP then (⟨0, 0, false⟩, 70) else if rtF (rhsB (numB (bareB bs) 48)) * rtF (rhsB (numB (bareB bs) 48)) ≠ rhsB (numB (bareB bs) 48) then (⟨0, 0, false⟩, 71)
      else if grpP blsC.b1 (ptB (numB (bareB bs) 48) (decide (bs 0 / 32 = 5))) blsR ≠ 0 then (⟨0, 0, false⟩, grpP blsC.b1 (ptB (numB (bareB bs) 48) (decide (bs 0 / 32 = 5))) blsR) else (ptB (numB (bareB bs) 48) (decide (bs 0 / 32 = 5)), 0) := by
    unfold rdB; rw [if_neg h4, if_neg (by omega)]
  rw [e0]
  clear e0
  by_cases hx : numB (bareB bs) 48 < blsP
  · rw [if_neg (fun h => h hx)]
    by_cases hr : rtF (rhsB (numB (bareB bs) 48)) * rtF (rhsB (numB (bareB bs) 48)) = rhsB (numB (bareB bs) 48)
    · rw [if_neg (fun h => h hr)]
      rcases h45 with hf | hf
      · rw [show decide (bs 0 / 32 = 5) = false by rw [hf]; rfl]
        cases hu : decide (blsP / 2 < (rtF (rhsB (numB (bareB bs) 48))).val)
        · have ep : ptB (numB (bareB bs) 48) false = ⟨numB (bareB bs) 48, (rtF (rhsB (numB (bareB bs) 48))).val, false⟩ := by unfold ptB; rw [pickY_ff hu]
          rw [ep]
          cases hg : grpP blsC.b1 ⟨numB (bareB bs) 48, (rtF (rhsB (numB (bareB bs) 48))).val, false⟩ blsR with
          | zero => rw [if_neg (fun h => h rfl)]; exact rdP7_000 hH hc hb hf hx hr hu hg
          | succ e => rw [if_pos (Nat.succ_ne_zero e)]; exact rdP7_001 hH hc hb hf hx hr hu hg
        · have ep : ptB (numB (bareB bs) 48) false = ⟨numB (bareB bs) 48, (0 - rtF (rhsB (numB (bareB bs) 48))).val, false⟩ := by unfold ptB; rw [pickY_tf hu]
          rw [ep]
          cases hg : grpP blsC.b1 ⟨numB (bareB bs) 48, (0 - rtF (rhsB (numB (bareB bs) 48))).val, false⟩ blsR with
          | zero => rw [if_neg (fun h => h rfl)]; exact rdP7_010 hH hc hb hf hx hr hu hg
          | succ e => rw [if_pos (Nat.succ_ne_zero e)]; exact rdP7_011 hH hc hb hf hx hr hu hg
      · rw [show decide (bs 0 / 32 = 5) = true by rw [hf]; rfl]
        cases hu : decide (blsP / 2 < (rtF (rhsB (numB (bareB bs) 48))).val)
        · have ep : ptB (numB (bareB bs) 48) true = ⟨numB (bareB bs) 48, (0 - rtF (rhsB (numB (bareB bs) 48))).val, false⟩ := by unfold ptB; rw [pickY_ft hu]
          rw [ep]
          cases hg : grpP blsC.b1 ⟨numB (bareB bs) 48, (0 - rtF (rhsB (numB (bareB bs) 48))).val, false⟩ blsR with
          | zero => rw [if_neg (fun h => h rfl)]; exact rdP7_100 hH hc hb hf hx hr hu hg
          | succ e => rw [if_pos (Nat.succ_ne_zero e)]; exact rdP7_101 hH hc hb hf hx hr hu hg
        · have ep : ptB (numB (bareB bs) 48) true = ⟨numB (bareB bs) 48, (rtF (rhsB (numB (bareB bs) 48))).val, false⟩ := by unfold ptB; rw [pickY_tt hu]
          rw [ep]
          cases hg : grpP blsC.b1 ⟨numB (bareB bs) 48, (rtF (rhsB (numB (bareB bs) 48))).val, false⟩ blsR with
          | zero => rw [if_neg (fun h => h rfl)]; exact rdP7_110 hH hc hb hf hx hr hu hg
          | succ e => rw [if_pos (Nat.succ_ne_zero e)]; exact rdP7_111 hH hc hb hf hx hr hu hg
    · rw [if_pos hr]
      rcases h45 with hf | hf
      · exact rdP6_0 hH hc hb hf hx hr
      · exact rdP6_1 hH hc hb hf hx hr
  · rw [if_pos hx]
    rcases h45 with hf | hf
    · exact rdP5_0 hH hc hb hf hx
    · exact rdP5_1 hH hc hb hf hx
end Go.Proofs.YtmholgclgamnnaaGreat
end
section
set_option linter.unusedVariables false
set_option linter.unusedSectionVars false
set_option linter.unusedSimpArgs false
namespace Go.Proofs.YtmholgclgamnnaaGreat
open Go Eng
set_option maxRecDepth 100000
set_option exponentiation.threshold 2000
set_option maxHeartbeats 4000000
theorem lw_writes {H : H5} (hH : H = H5.real) (x0 x1 y0 y1 : Nat) (i : Bool) : Sp 10 [PLv H x0 x1 y0 y1 i] (.sb true) := by
  obtain ⟨B, hB⟩ : ∃ B, B = byteN := ⟨_, rfl⟩
  obtain ⟨c, hc⟩ : ∃ c, c = bnC := ⟨_, rfl⟩
  obtain ⟨d, hd⟩ : ∃ d, d = blsC := ⟨_, rfl⟩
  have h1d : d.one = fo blsP 1 := by rw [hd]; rfl
  have hr : d.r < 2 ^ 256 := by rw [hd]; decide
  have aw := awakeS
  have t1 := to4_1 hH x0 x1 y0 y1 i
  have r1 := ref4_1 hH x0 x1 y0 y1 i
  have t2 := to4_2 hH x0 x1 y0 y1 i
  have r2 := ref4_2 hH x0 x1 y0 y1 i
  have t3 := to6_1 hH x0 x1 y0 y1 i
  have r3 := ref6_1 hH x0 x1 y0 y1 i
  have hPx : x0 % 2 ^ (64 * 6) < 2 ^ 384 := Nat.mod_lt _ (Nat.two_pow_pos _)
  have hPy : y0 % 2 ^ (64 * 6) < 2 ^ 384 := Nat.mod_lt _ (Nat.two_pow_pos _)
  generalize x0 % 2 ^ (64 * 6) = px at *
  generalize y0 % 2 ^ (64 * 6) = py at *
  generalize x0 % 2 ^ (64 * 4) = qx0 at *
  generalize x1 % 2 ^ (64 * 4) = qx1 at *
  generalize y0 % 2 ^ (64 * 4) = qy0 at *
  generalize y1 % 2 ^ (64 * 4) = qy1 at *
  have w1 := writeBn1S hH hB ⟨qx0, qy0, i⟩
  have v1 := rWriteBn1S hH hB c ⟨qx0, qy0, i⟩
  have w2 := writeBn2S hH hB ⟨qx0, qx1, qy0, qy1, i⟩
  have v2 := rWriteBn2S hH hB c ⟨qx0, qx1, qy0, qy1, i⟩
  have b1 := rBn1S hH hc
  have b2 := rBn2S hH hc
  have k := BlsS hH hd
  have w3 := writeBls1S hH hB hd ⟨px, py, i⟩ hPx hPy
  have v3 := rWriteBlsS hH hB hd ⟨px, py, i⟩ hPx hPy
  have gr := grpS1_6 hH blsPr (c := d) h1d hr ⟨px, py, i⟩ hPx hPy
  have rd := fun hb => readBls1S hH hd (bs := wbs px (flg ⟨px, py, i⟩)) hb
  rw [← by6f_eq, ← hB] at rd
  have bk : grpP d.b1 ⟨px, py, i⟩ d.r = 0 → rdB (flg ⟨px, py, i⟩ / 32) (allz (bareB (wbs px (flg ⟨px, py, i⟩))) 48) (numB (bareB (wbs px (flg ⟨px, py, i⟩))) 48) = (⟨px, py, i⟩, 0) ∧ wbs px (flg ⟨px, py, i⟩) 0 / 32 = flg ⟨px, py, i⟩ / 32 ∧ ∀ j, wbs px (flg ⟨px, py, i⟩) j < 256 := fun h => by
    have h' : grpP blsC.b1 ⟨px, py, i⟩ blsR = 0 := by rw [hd] at h; exact h
    have hl := (good_lt (grp_good h')).1
    have hf := flg_cases ⟨px, py, i⟩
    have ht : px / 2 ^ (8 * 47) % 256 < 32 := top_lt hl
    refine ⟨back h', ?_, wbs_lt hl (by omega)⟩
    show (px / 2 ^ (8 * 47) % 256 + flg ⟨px, py, i⟩) / 32 = flg ⟨px, py, i⟩ / 32
    generalize px / 2 ^ (8 * 47) % 256 = t at *
    generalize flg ⟨px, py, i⟩ = f at *
    clear gr rd w3 v3 hl h'
    omega
  have gg : good1 d.b1 ⟨px, py, i⟩ ≠ 0 → grpP d.b1 ⟨px, py, i⟩ d.r ≠ 0 := fun h e => h (grp_good e)
  clear hc hd hB hPx hPy h1d hr
  generalize grpP d.b1 ⟨px, py, i⟩ d.r = e at *
  generalize good1 d.b1 ⟨px, py, i⟩ = g at *
  cases g with
  | succ g =>
    have hg : ((g + 1 : Nat) : Int) ≠ 0 := by omega
    have he : (e : Int) ≠ 0 := by have := gg (by omega); omega
    clear rd bk gg
    unfold wrB at w3 v3
    dsimp only at w3 v3
    generalize ((g + 1 : Nat) : Int) = g at *
    generalize (e : Int) = e at *
    refine mk Tryz.func10 rfl rfl L0 R1 (by decide +kernel) fun A S hA hS => ?_
    have ns := fun s => i_not hA (eqs_str hA s)
    have ng : A.cmp .neq g g = false := by rw [i_ne hA, decide_eq_true rfl]; rfl
    have ne : A.cmp .neq e 0 = true := by rw [i_ne hA, decide_eq_false he]; rfl
    unfold bodyOf Tryz.f10
    cbv
    repeat (first
      | (refine ABr.t (by assumption) ?_; cbv)
      | (refine ABr.f (by assumption) ?_; cbv)
      | (refine ABr.t rfl ?_; cbv)
      | (refine ABr.f rfl ?_; cbv)
      | (refine ABr.f (ns _) ?_; cbv)
      | (refine ACall.mk _ (cg hS aw ?_) ?_; (focus (cbv; done)); cbv)
      | (refine ACall.mk _ (cg hS t1 ?_) ?_; (focus (cbv; done)); cbv)
      | (refine ACall.mk _ (cg hS r1 ?_) ?_; (focus (cbv; done)); cbv)
      | (refine ACall.mk _ (cg hS t2 ?_) ?_; (focus (cbv; done)); cbv)
      | (refine ACall.mk _ (cg hS r2 ?_) ?_; (focus (cbv; done)); cbv)
      | (refine ACall.mk _ (cg hS t3 ?_) ?_; (focus (cbv; done)); cbv)
      | (refine ACall.mk _ (cg hS r3 ?_) ?_; (focus (cbv; done)); cbv)
      | (refine ACall.mk _ (cg hS w1 ?_) ?_; (focus (cbv; done)); cbv)
      | (refine ACall.mk _ (cg hS v1 ?_) ?_; (focus (cbv; done)); cbv)
      | (refine ACall.mk _ (cg hS w2 ?_) ?_; (focus (cbv; done)); cbv)
      | (refine ACall.mk _ (cg hS v2 ?_) ?_; (focus (cbv; done)); cbv)
      | (refine ACall.mk _ (cg hS w3 ?_) ?_; (focus (cbv; done)); cbv)
      | (refine ACall.mk _ (cg hS v3 ?_) ?_; (focus (cbv; done)); cbv)
      | (refine ACall.mk _ (cg hS b1 ?_) ?_; (focus (cbv; done)); cbv)
      | (refine ACall.mk _ (cg hS b2 ?_) ?_; (focus (cbv; done)); cbv)
      | (refine ACall.mk _ (cg hS k ?_) ?_; (focus (cbv; done)); cbv)
      | (refine ACall.mk _ (cg hS gr ?_) ?_; (focus (cbv; done)); cbv))
  | zero =>
    unfold wrB at w3 v3
    dsimp only at w3 v3
    generalize flg ⟨px, py, i⟩ = f at *
    generalize wbs px f = w at *
    cases e with
    | succ e =>
      have he : ((e + 1 : Nat) : Int) ≠ 0 := by omega
      clear rd bk gg
      generalize ((e + 1 : Nat) : Int) = e at *
      refine mk Tryz.func10 rfl rfl L0 R1 (by decide +kernel) fun A S hA hS => ?_
      have ns := fun s => i_not hA (eqs_str hA s)
      have n0 : A.cmp .neq 0 0 = false := i_ne hA
      have ne : A.cmp .neq e 0 = true := by rw [i_ne hA, decide_eq_false he]; rfl
      unfold bodyOf Tryz.f10
      cbv
      repeat (first
        | (refine ABr.t (by assumption) ?_; cbv)
        | (refine ABr.f (by assumption) ?_; cbv)
        | (refine ABr.t rfl ?_; cbv)
        | (refine ABr.f rfl ?_; cbv)
        | (refine ABr.f (ns _) ?_; cbv)
        | (refine ACall.mk _ (cg hS aw ?_) ?_; (focus (cbv; done)); cbv)
        | (refine ACall.mk _ (cg hS t1 ?_) ?_; (focus (cbv; done)); cbv)
        | (refine ACall.mk _ (cg hS r1 ?_) ?_; (focus (cbv; done)); cbv)
        | (refine ACall.mk _ (cg hS t2 ?_) ?_; (focus (cbv; done)); cbv)
        | (refine ACall.mk _ (cg hS r2 ?_) ?_; (focus (cbv; done)); cbv)
        | (refine ACall.mk _ (cg hS t3 ?_) ?_; (focus (cbv; done)); cbv)
        | (refine ACall.mk _ (cg hS r3 ?_) ?_; (focus (cbv; done)); cbv)
        | (refine ACall.mk _ (cg hS w1 ?_) ?_; (focus (cbv; done)); cbv)
        | (refine ACall.mk _ (cg hS v1 ?_) ?_; (focus (cbv; done)); cbv)
        | (refine ACall.mk _ (cg hS w2 ?_) ?_; (focus (cbv; done)); cbv)
        | (refine ACall.mk _ (cg hS v2 ?_) ?_; (focus (cbv; done)); cbv)
        | (refine ACall.mk _ (cg hS w3 ?_) ?_; (focus (cbv; done)); cbv)
        | (refine ACall.mk _ (cg hS v3 ?_) ?_; (focus (cbv; done)); cbv)
        | (refine ACall.mk _ (cg hS b1 ?_) ?_; (focus (cbv; done)); cbv)
        | (refine ACall.mk _ (cg hS b2 ?_) ?_; (focus (cbv; done)); cbv)
        | (refine ACall.mk _ (cg hS k ?_) ?_; (focus (cbv; done)); cbv)
        | (refine ACall.mk _ (cg hS gr ?_) ?_; (focus (cbv; done)); cbv))
    | zero =>
      obtain ⟨bk1, bk2, bk3⟩ := bk rfl
      have rd := rd bk3
      rw [bk2, bk1] at rd
      clear bk bk1 bk2 bk3 gg
      refine mk Tryz.func10 rfl rfl L0 R1 (by decide +kernel) fun A S hA hS => ?_
      have ns := fun s => i_not hA (eqs_str hA s)
      have n0 : A.cmp .neq 0 0 = false := i_ne hA
      have n1 : A.cmp .neq ((0 : Nat) : Int) 0 = false := i_ne hA
      have q0 : A.cmp .eql ((0 : Nat) : Int) 0 = true := i_eq hA
      have q1 := eqP16 hA (H := H) px py i
      unfold bodyOf Tryz.f10
      cbv
      repeat (first
        | (refine ABr.t (by assumption) ?_; cbv)
        | (refine ABr.f (by assumption) ?_; cbv)
        | (refine ABr.t rfl ?_; cbv)
        | (refine ABr.f rfl ?_; cbv)
        | (refine ABr.f (ns _) ?_; cbv)
        | (refine ACall.mk _ (cg hS aw ?_) ?_; (focus (cbv; done)); cbv)
        | (refine ACall.mk _ (cg hS t1 ?_) ?_; (focus (cbv; done)); cbv)
        | (refine ACall.mk _ (cg hS r1 ?_) ?_; (focus (cbv; done)); cbv)
        | (refine ACall.mk _ (cg hS t2 ?_) ?_; (focus (cbv; done)); cbv)
        | (refine ACall.mk _ (cg hS r2 ?_) ?_; (focus (cbv; done)); cbv)
        | (refine ACall.mk _ (cg hS t3 ?_) ?_; (focus (cbv; done)); cbv)
        | (refine ACall.mk _ (cg hS r3 ?_) ?_; (focus (cbv; done)); cbv)
        | (refine ACall.mk _ (cg hS w1 ?_) ?_; (focus (cbv; done)); cbv)
        | (refine ACall.mk _ (cg hS v1 ?_) ?_; (focus (cbv; done)); cbv)
        | (refine ACall.mk _ (cg hS w2 ?_) ?_; (focus (cbv; done)); cbv)
        | (refine ACall.mk _ (cg hS v2 ?_) ?_; (focus (cbv; done)); cbv)
        | (refine ACall.mk _ (cg hS w3 ?_) ?_; (focus (cbv; done)); cbv)
        | (refine ACall.mk _ (cg hS v3 ?_) ?_; (focus (cbv; done)); cbv)
        | (refine ACall.mk _ (cg hS b1 ?_) ?_; (focus (cbv; done)); cbv)
        | (refine ACall.mk _ (cg hS b2 ?_) ?_; (focus (cbv; done)); cbv)
        | (refine ACall.mk _ (cg hS k ?_) ?_; (focus (cbv; done)); cbv)
        | (refine ACall.mk _ (cg hS gr ?_) ?_; (focus (cbv; done)); cbv)
        | (refine ACall.mk _ (cg hS rd ?_) ?_; (focus (cbv; done)); cbv))
      exact q1
end Go.Proofs.YtmholgclgamnnaaGreat
end
