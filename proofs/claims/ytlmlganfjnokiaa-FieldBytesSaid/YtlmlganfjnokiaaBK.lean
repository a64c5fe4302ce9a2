import Derived.Test.YtlmlganfjnokiaaBJ
set_option linter.unusedVariables false
set_option linter.unusedSimpArgs false
namespace Go.Proofs.Ytlmlganfjnokiaa
open Go Eng
set_option maxRecDepth 100000
set_option exponentiation.threshold 2000
set_option maxHeartbeats 4000000
def RRootO : Nat → Md := fun r => match r with | 1 => .own | 13 => .all | _ => .mid
theorem rInv4 {H : H5} (hH : H = H5.real) {m a : Nat} (hR : Mod 256 m) (ha : a < m) :
    Sp 53 [rf4 H m, .lst false 4 (ws4 H.lim a)] (.lst false 4 (ws4 H.lim (H.pow m a (m - 2)))) := by
  have hl := H5.hlim hH
  have hm := hR.lt
  have h1m := hR.one
  have hsm := rsmall4 hH (m := m) (k := 2) (by decide)
  have hsub := rSub4 hl m 2 (m - 2) 0 hm (by decide) (by omega) (by omega)
  have hexp := rExp4 hH hR ha (rowx4 H.lim (m - 2)) (by decide) (show m - 2 < 2 ^ (64 * 4) by exact Nat.lt_of_le_of_lt (Nat.sub_le _ _) hm)
  generalize H.pow m a (m - 2) = r at *
  generalize m - 2 = e at *
  refine mk Try.func53 rfl rfl L0 R1 (by decide +kernel) ?_
  intro A S hA hS
  unfold bodyOf Try.f53
  cbv
  refine ACall.mk _ (cg hS hsm (by cbv)) ?_
  cbv
  refine ACall.mk _ (cf hS hsub) ?_
  cbv
  refine ACall.mk _ (cg hS hexp (by cbv)) ?_
  cbv
theorem rRoot4 {H : H5} (hH : H = H5.real) {m a : Nat} (hR : Mod 256 m) (ha : a < m) (r : Nat) (hr : r = H.pow m a ((m + 1) / 4)) :
    (H.mul m r r = a → Sp 48 [rf4 H m, .lst false 4 (ws4 H.lim a)] (.tup [.lst false 4 (ws4 H.lim r), .b true])) ∧
    (H.mul m r r ≠ a → Sp 48 [rf4 H m, .lst false 4 (ws4 H.lim a)] (.tup [.lst false 4 (ws4 H.lim 0), .b false])) := by
  have hl := H5.hlim hH
  have hm := hR.lt
  have h1m := hR.one
  have hodd := hR.odd
  have le := fun x i => lim_range hl x i
  obtain ⟨q, hq⟩ : ∃ q, q = m / 4 := ⟨_, rfl⟩
  obtain ⟨e, he⟩ : ∃ e, e = (m + 1) / 4 := ⟨_, rfl⟩
  have hqw : ∀ i, i + 1 < 4 → H.lim m i / 4 + 4611686018427387904 * (H.lim m (i + 1) % 4) = H.lim q i := fun i _ => by rw [hq, hl]; exact (limR_quarter m i).symm
  have hqt : H.lim m 3 / 4 = H.lim q 3 := by
    have : H.lim m 4 = 0 := by
      rw [hl]; unfold limR; rw [show 64 * 4 = 256 from rfl, Nat.div_eq_of_lt hm, Nat.zero_mod]; rfl
    rw [hq, hl, limR_quarter m 3]
    rw [hl] at this
    rw [this]; omega
  have he4 : e < 2 ^ (64 * 4) := Nat.lt_of_le_of_lt (by omega : e ≤ m) hm
  have hexp := rExp4 hH hR ha (rowx4 H.lim e) (by decide) he4
  rw [← he, ] at hr
  rw [← hr] at hexp
  have hrm : r < m := by rw [hr, hH]; exact Nat.mod_lt _ hR.pos
  have hmm := rMulMod4 hH hR hrm hrm
  obtain ⟨s, hs⟩ : ∃ s, s = H.mul m r r := ⟨_, rfl⟩
  rw [← hs] at hmm ⊢
  have hsm : s < m := by rw [hs, hH]; exact Nat.mod_lt _ hR.pos
  have hl1 := rLess4 hl s a (by omega) (by omega) (decide (s < a)) rfl
  have hl2 := rLess4 hl a s (by omega) (by omega) (decide (a < s)) rfl
  have hone := rsmall4 hH (m := m) (k := 1) (by decide)
  have hadd : m % 4 = 3 → _ := fun (h : m % 4 = 3) => rAdd4 hl q 1 e 0 (by omega) (by decide) (by omega) (by omega)
  have hqe : m % 4 ≠ 3 → q = e := fun h => by omega
  have h0 : ∀ i, H.lim 0 i = 0 := fun i => by rw [hH]; show ((0 / 2 ^ (64 * i) % 2 ^ 64 : Nat) : Int) = 0; rw [Nat.zero_div]; rfl
  have hm0 : H.lim m 0 = ((m % 18446744073709551616 : Nat) : Int) := lim_mod hl m
  have hrem4 : (H.lim m 0).tmod 4 = 3 ↔ m % 4 = 3 := by rw [hm0, Int.tmod_eq_emod_of_nonneg (by omega)]; omega
  clear hs hr he hq
  have key : ∀ t : Bool, t = decide (s = a) → Sp 48 [rf4 H m, .lst false 4 (ws4 H.lim a)] (.tup [.lst false 4 (match t with | true => ws4 H.lim r | false => ws4 H.lim 0), .b t]) := by
    intro t ht
    refine mk Try.func48 rfl rfl L0 RRootO (by decide +kernel) ?_
    intro A S hA hS
    unfold bodyOf Try.f48
    cbv
    have eq4 : A.cmp .eql (A.bin .rem .u64 (H.lim m 0) 4) 3 = decide (m % 4 = 3) := by
      rw [i_eq hA, hA]
      exact decide_eq_decide.2 hrem4
    have hw := fun i (hi : i + 1 < 4) => (quarter_word hA (le m i) (le m (i + 1))).trans (hqw i hi)
    have hwt := (shr_two hA (le m 3).1).trans hqt
    have e1 : (decide (s < a) = true ∧ t = false) ∨ (decide (s < a) = false ∧ decide (a < s) = true ∧ t = false) ∨ (decide (s < a) = false ∧ decide (a < s) = false ∧ t = true) := by
      rcases Nat.lt_trichotomy s a with c | c | c
      · exact .inl ⟨decide_eq_true c, ht.trans (decide_eq_false (Nat.ne_of_lt c))⟩
      · exact .inr (.inr ⟨decide_eq_false (by rw [c]; exact Nat.lt_irrefl _), decide_eq_false (by rw [c]; exact Nat.lt_irrefl _), ht.trans (decide_eq_true c)⟩)
      · exact .inr (.inl ⟨decide_eq_false (Nat.lt_asymm c), decide_eq_true c, ht.trans (decide_eq_false (Nat.ne_of_gt c))⟩)
    generalize decide (s < a) = b1 at *
    generalize decide (a < s) = b2 at *
    by_cases h4 : m % 4 = 3
    · have hadd := hadd h4
      replace eq4 := eq4.trans (decide_eq_true h4)
      refine ABr.t eq4 ?_
      cbv
      refine ACall.mk _ (cg hS hone (by cbv)) ?_
      cbv
      refine ACall.mk _ (cg hS hadd (by cbv; exact ⟨⟨hw 0 (by decide), hw 1 (by decide), hw 2 (by decide), hwt⟩, trivial⟩)) ?_
      cbv
      refine ACall.mk _ (cg hS hexp (by cbv)) ?_
      cbv
      refine ACall.mk _ (cf hS hmm) ?_
      cbv
      refine ACall.mk _ (cf hS hl1) ?_
      cbv
      rcases e1 with ⟨c1, rfl⟩ | ⟨c1, c2, rfl⟩ | ⟨c1, c2, rfl⟩
      · repeat (refine ABr.t c1 ?_; cbv)
        exact ⟨⟨(h0 0).symm, (h0 1).symm, (h0 2).symm, (h0 3).symm⟩, trivial⟩
      · repeat (refine ABr.f c1 ?_; cbv)
        refine ACall.mk _ (cf hS hmm) ?_
        cbv
        repeat (refine ABr.f c1 ?_; cbv)
        refine ACall.mk _ (cf hS hl2) ?_
        cbv
        repeat (first | (refine ABr.f c1 ?_; cbv) | (refine ABr.t c2 ?_; cbv))
        exact ⟨⟨(h0 0).symm, (h0 1).symm, (h0 2).symm, (h0 3).symm⟩, trivial⟩
      · repeat (refine ABr.f c1 ?_; cbv)
        refine ACall.mk _ (cf hS hmm) ?_
        cbv
        repeat (refine ABr.f c1 ?_; cbv)
        refine ACall.mk _ (cf hS hl2) ?_
        cbv
        repeat (first | (refine ABr.f c1 ?_; cbv) | (refine ABr.f c2 ?_; cbv))
    · obtain rfl := hqe h4
      replace eq4 := eq4.trans (decide_eq_false h4)
      refine ABr.f eq4 ?_
      cbv
      refine ACall.mk _ (cg hS hexp (by cbv; exact ⟨hw 0 (by decide), hw 1 (by decide), hw 2 (by decide), hwt⟩)) ?_
      cbv
      refine ACall.mk _ (cf hS hmm) ?_
      cbv
      refine ACall.mk _ (cf hS hl1) ?_
      cbv
      rcases e1 with ⟨c1, rfl⟩ | ⟨c1, c2, rfl⟩ | ⟨c1, c2, rfl⟩
      · repeat (refine ABr.t c1 ?_; cbv)
        exact ⟨⟨(h0 0).symm, (h0 1).symm, (h0 2).symm, (h0 3).symm⟩, trivial⟩
      · repeat (refine ABr.f c1 ?_; cbv)
        refine ACall.mk _ (cf hS hmm) ?_
        cbv
        repeat (refine ABr.f c1 ?_; cbv)
        refine ACall.mk _ (cf hS hl2) ?_
        cbv
        repeat (first | (refine ABr.f c1 ?_; cbv) | (refine ABr.t c2 ?_; cbv))
        exact ⟨⟨(h0 0).symm, (h0 1).symm, (h0 2).symm, (h0 3).symm⟩, trivial⟩
      · repeat (refine ABr.f c1 ?_; cbv)
        refine ACall.mk _ (cf hS hmm) ?_
        cbv
        repeat (refine ABr.f c1 ?_; cbv)
        refine ACall.mk _ (cf hS hl2) ?_
        cbv
        repeat (first | (refine ABr.f c1 ?_; cbv) | (refine ABr.f c2 ?_; cbv))
  constructor
  · intro h; exact key true (decide_eq_true h).symm
  · intro h; exact key false (decide_eq_false h).symm
theorem rInv6 {H : H5} (hH : H = H5.real) {m a : Nat} (hR : Mod 384 m) (ha : a < m) :
    Sp 53 [rf6 H m, .lst false 6 (ws6 H.lim a)] (.lst false 6 (ws6 H.lim (H.pow m a (m - 2)))) := by
  have hl := H5.hlim hH
  have hm := hR.lt
  have h1m := hR.one
  have hsm := rsmall6 hH (m := m) (k := 2) (by decide)
  have hsub := rSub6 hl m 2 (m - 2) 0 hm (by decide) (by omega) (by omega)
  have hexp := rExp6 hH hR ha (rowx6 H.lim (m - 2)) (by decide) (show m - 2 < 2 ^ (64 * 6) by exact Nat.lt_of_le_of_lt (Nat.sub_le _ _) hm)
  generalize H.pow m a (m - 2) = r at *
  generalize m - 2 = e at *
  refine mk Try.func53 rfl rfl L0 R1 (by decide +kernel) ?_
  intro A S hA hS
  unfold bodyOf Try.f53
  cbv
  refine ACall.mk _ (cg hS hsm (by cbv)) ?_
  cbv
  refine ACall.mk _ (cf hS hsub) ?_
  cbv
  refine ACall.mk _ (cg hS hexp (by cbv)) ?_
  cbv
theorem rRoot6 {H : H5} (hH : H = H5.real) {m a : Nat} (hR : Mod 384 m) (ha : a < m) (r : Nat) (hr : r = H.pow m a ((m + 1) / 4)) :
    (H.mul m r r = a → Sp 48 [rf6 H m, .lst false 6 (ws6 H.lim a)] (.tup [.lst false 6 (ws6 H.lim r), .b true])) ∧
    (H.mul m r r ≠ a → Sp 48 [rf6 H m, .lst false 6 (ws6 H.lim a)] (.tup [.lst false 6 (ws6 H.lim 0), .b false])) := by
  have hl := H5.hlim hH
  have hm := hR.lt
  have h1m := hR.one
  have hodd := hR.odd
  have le := fun x i => lim_range hl x i
  obtain ⟨q, hq⟩ : ∃ q, q = m / 4 := ⟨_, rfl⟩
  obtain ⟨e, he⟩ : ∃ e, e = (m + 1) / 4 := ⟨_, rfl⟩
  have hqw : ∀ i, i + 1 < 6 → H.lim m i / 4 + 4611686018427387904 * (H.lim m (i + 1) % 4) = H.lim q i := fun i _ => by rw [hq, hl]; exact (limR_quarter m i).symm
  have hqt : H.lim m 5 / 4 = H.lim q 5 := by
    have : H.lim m 6 = 0 := by
      rw [hl]; unfold limR; rw [show 64 * 6 = 384 from rfl, Nat.div_eq_of_lt hm, Nat.zero_mod]; rfl
    rw [hq, hl, limR_quarter m 5]
    rw [hl] at this
    rw [this]; omega
  have he4 : e < 2 ^ (64 * 6) := Nat.lt_of_le_of_lt (by omega : e ≤ m) hm
  have hexp := rExp6 hH hR ha (rowx6 H.lim e) (by decide) he4
  rw [← he, ] at hr
  rw [← hr] at hexp
  have hrm : r < m := by rw [hr, hH]; exact Nat.mod_lt _ hR.pos
  have hmm := rMulMod6 hH hR hrm hrm
  obtain ⟨s, hs⟩ : ∃ s, s = H.mul m r r := ⟨_, rfl⟩
  rw [← hs] at hmm ⊢
  have hsm : s < m := by rw [hs, hH]; exact Nat.mod_lt _ hR.pos
  have hl1 := rLess6 hl s a (by omega) (by omega) (decide (s < a)) rfl
  have hl2 := rLess6 hl a s (by omega) (by omega) (decide (a < s)) rfl
  have hone := rsmall6 hH (m := m) (k := 1) (by decide)
  have hadd : m % 4 = 3 → _ := fun (h : m % 4 = 3) => rAdd6 hl q 1 e 0 (by omega) (by decide) (by omega) (by omega)
  have hqe : m % 4 ≠ 3 → q = e := fun h => by omega
  have h0 : ∀ i, H.lim 0 i = 0 := fun i => by rw [hH]; show ((0 / 2 ^ (64 * i) % 2 ^ 64 : Nat) : Int) = 0; rw [Nat.zero_div]; rfl
  have hm0 : H.lim m 0 = ((m % 18446744073709551616 : Nat) : Int) := lim_mod hl m
  have hrem4 : (H.lim m 0).tmod 4 = 3 ↔ m % 4 = 3 := by rw [hm0, Int.tmod_eq_emod_of_nonneg (by omega)]; omega
  clear hs hr he hq
  have key : ∀ t : Bool, t = decide (s = a) → Sp 48 [rf6 H m, .lst false 6 (ws6 H.lim a)] (.tup [.lst false 6 (match t with | true => ws6 H.lim r | false => ws6 H.lim 0), .b t]) := by
    intro t ht
    refine mk Try.func48 rfl rfl L0 RRootO (by decide +kernel) ?_
    intro A S hA hS
    unfold bodyOf Try.f48
    cbv
    have eq4 : A.cmp .eql (A.bin .rem .u64 (H.lim m 0) 4) 3 = decide (m % 4 = 3) := by
      rw [i_eq hA, hA]
      exact decide_eq_decide.2 hrem4
    have hw := fun i (hi : i + 1 < 6) => (quarter_word hA (le m i) (le m (i + 1))).trans (hqw i hi)
    have hwt := (shr_two hA (le m 5).1).trans hqt
    have e1 : (decide (s < a) = true ∧ t = false) ∨ (decide (s < a) = false ∧ decide (a < s) = true ∧ t = false) ∨ (decide (s < a) = false ∧ decide (a < s) = false ∧ t = true) := by
      rcases Nat.lt_trichotomy s a with c | c | c
      · exact .inl ⟨decide_eq_true c, ht.trans (decide_eq_false (Nat.ne_of_lt c))⟩
      · exact .inr (.inr ⟨decide_eq_false (by rw [c]; exact Nat.lt_irrefl _), decide_eq_false (by rw [c]; exact Nat.lt_irrefl _), ht.trans (decide_eq_true c)⟩)
      · exact .inr (.inl ⟨decide_eq_false (Nat.lt_asymm c), decide_eq_true c, ht.trans (decide_eq_false (Nat.ne_of_gt c))⟩)
    generalize decide (s < a) = b1 at *
    generalize decide (a < s) = b2 at *
    by_cases h4 : m % 4 = 3
    · have hadd := hadd h4
      replace eq4 := eq4.trans (decide_eq_true h4)
      refine ABr.t eq4 ?_
      cbv
      refine ACall.mk _ (cg hS hone (by cbv)) ?_
      cbv
      refine ACall.mk _ (cg hS hadd (by cbv; exact ⟨⟨hw 0 (by decide), hw 1 (by decide), hw 2 (by decide), hw 3 (by decide), hw 4 (by decide), hwt⟩, trivial⟩)) ?_
      cbv
      refine ACall.mk _ (cg hS hexp (by cbv)) ?_
      cbv
      refine ACall.mk _ (cf hS hmm) ?_
      cbv
      refine ACall.mk _ (cf hS hl1) ?_
      cbv
      rcases e1 with ⟨c1, rfl⟩ | ⟨c1, c2, rfl⟩ | ⟨c1, c2, rfl⟩
      · repeat (refine ABr.t c1 ?_; cbv)
        exact ⟨⟨(h0 0).symm, (h0 1).symm, (h0 2).symm, (h0 3).symm, (h0 4).symm, (h0 5).symm⟩, trivial⟩
      · repeat (refine ABr.f c1 ?_; cbv)
        refine ACall.mk _ (cf hS hmm) ?_
        cbv
        repeat (refine ABr.f c1 ?_; cbv)
        refine ACall.mk _ (cf hS hl2) ?_
        cbv
        repeat (first | (refine ABr.f c1 ?_; cbv) | (refine ABr.t c2 ?_; cbv))
        exact ⟨⟨(h0 0).symm, (h0 1).symm, (h0 2).symm, (h0 3).symm, (h0 4).symm, (h0 5).symm⟩, trivial⟩
      · repeat (refine ABr.f c1 ?_; cbv)
        refine ACall.mk _ (cf hS hmm) ?_
        cbv
        repeat (refine ABr.f c1 ?_; cbv)
        refine ACall.mk _ (cf hS hl2) ?_
        cbv
        repeat (first | (refine ABr.f c1 ?_; cbv) | (refine ABr.f c2 ?_; cbv))
    · obtain rfl := hqe h4
      replace eq4 := eq4.trans (decide_eq_false h4)
      refine ABr.f eq4 ?_
      cbv
      refine ACall.mk _ (cg hS hexp (by cbv; exact ⟨hw 0 (by decide), hw 1 (by decide), hw 2 (by decide), hw 3 (by decide), hw 4 (by decide), hwt⟩)) ?_
      cbv
      refine ACall.mk _ (cf hS hmm) ?_
      cbv
      refine ACall.mk _ (cf hS hl1) ?_
      cbv
      rcases e1 with ⟨c1, rfl⟩ | ⟨c1, c2, rfl⟩ | ⟨c1, c2, rfl⟩
      · repeat (refine ABr.t c1 ?_; cbv)
        exact ⟨⟨(h0 0).symm, (h0 1).symm, (h0 2).symm, (h0 3).symm, (h0 4).symm, (h0 5).symm⟩, trivial⟩
      · repeat (refine ABr.f c1 ?_; cbv)
        refine ACall.mk _ (cf hS hmm) ?_
        cbv
        repeat (refine ABr.f c1 ?_; cbv)
        refine ACall.mk _ (cf hS hl2) ?_
        cbv
        repeat (first | (refine ABr.f c1 ?_; cbv) | (refine ABr.t c2 ?_; cbv))
        exact ⟨⟨(h0 0).symm, (h0 1).symm, (h0 2).symm, (h0 3).symm, (h0 4).symm, (h0 5).symm⟩, trivial⟩
      · repeat (refine ABr.f c1 ?_; cbv)
        refine ACall.mk _ (cf hS hmm) ?_
        cbv
        repeat (refine ABr.f c1 ?_; cbv)
        refine ACall.mk _ (cf hS hl2) ?_
        cbv
        repeat (first | (refine ABr.f c1 ?_; cbv) | (refine ABr.f c2 ?_; cbv))
  constructor
  · intro h; exact key true (decide_eq_true h).symm
  · intro h; exact key false (decide_eq_false h).symm
end Go.Proofs.Ytlmlganfjnokiaa
