import Derived.Test.YtmholgclgamnnaaGreatQYBN
import Derived.Test.YtmholgclgamnnaaGreatQYyXCWritesyBB
set_option linter.unusedVariables false
set_option linter.unusedSimpArgs false
namespace Go.Proofs.YtmholgclgamnnaaGreat
open Go Eng
set_option maxRecDepth 100000
set_option exponentiation.threshold 2000
set_option maxHeartbeats 4000000
theorem mod_step (a m t : Nat) : a / 2 ^ t % m = (2 * (a / 2 ^ (t + 1) % m) + a / 2 ^ t % 2) % m := by
  have e : a / 2 ^ (t + 1) = a / 2 ^ t / 2 := by rw [Nat.pow_succ, Nat.div_div_eq_div_mul]
  rw [e]
  generalize a / 2 ^ t = q
  rw [Nat.add_mod, Nat.mul_mod_mod, ← Nat.add_mod]
  congr 1
  omega
theorem limR_bit (a q s : Nat) (hs : s < 64) : (limR a q).toNat / 2 ^ s % 2 = a / 2 ^ (64 * q + s) % 2 := by
  unfold limR
  rw [Int.toNat_natCast, Nat.pow_add, ← Nat.div_div_eq_div_mul]
  generalize a / 2 ^ (64 * q) = x
  rw [show (2 : Nat) ^ 64 = 2 ^ s * 2 ^ (64 - s) by rw [← Nat.pow_add]; congr 1; omega, Nat.mod_mul_right_div_self, Nat.mod_mod_of_dvd]
  exact Nat.dvd_trans (by decide) (Nat.pow_dvd_pow 2 (show 1 ≤ 64 - s by omega))
theorem okb_small {A : Ar} (hA : A = Ar.real) {x : Int} {k : Nat} (h : x = k) (hk : k < 1000000) : A.okb .shr (A.wrap .u64 x) = true := by
  rw [wrap_small hA h hk]; exact (a_okbS hA (by omega)).1
theorem rMod4 {lim : Lim} (hl : lim = limR) {row : List AVal} {k a m r : Nat} (hrow : IsRow row (lim a) k) (hk : k < 1000) (ha : a < 2 ^ (64 * k)) (h0 : 0 < m) (hm : m < 2 ^ 256) (hr : r = a % m) :
    Sp 159 [.lst true k row, .lst false 4 (ws4 lim m)] (.lst false 4 (ws4 lim r)) := by
  obtain ⟨y, hy⟩ : ∃ y : Nat → Nat, y = fun j => a / 2 ^ (64 * j) % m := ⟨_, rfl⟩
  obtain ⟨z, hz⟩ : ∃ z : Nat → Nat → Nat, z = fun j q => a / 2 ^ (64 * j + q) % m := ⟨_, rfl⟩
  have hyk : y k = 0 := by rw [hy]; show a / 2 ^ (64 * k) % m = 0; rw [Nat.div_eq_of_lt ha, Nat.zero_mod]
  have hy0 : y 0 = r := by rw [hy, hr]; show a / 2 ^ (64 * 0) % m = _; rw [Nat.mul_zero, Nat.pow_zero, Nat.div_one]
  have hyz : ∀ j, z j 64 = y (j + 1) := fun j => by rw [hy, hz]; show a / 2 ^ (64 * j + 64) % m = a / 2 ^ (64 * (j + 1)) % m; rw [Nat.mul_succ]
  have hzy : ∀ j, z j 0 = y j := fun j => by rw [hy, hz]; rfl
  have hzm : ∀ j q, z j q < m := fun j q => by rw [hz]; exact Nat.mod_lt _ h0
  have hst : ∀ j q, z j q = (2 * z j (q + 1) + a / 2 ^ (64 * j + q) % 2) % m := fun j q => by rw [hz]; exact mod_step a m (64 * j + q)
  have le := fun x i => lim_range hl x i
  have hzero : ∀ i, lim 0 i = 0 := fun i => by rw [hl]; simp [limR]
  clear hy hz hr
  refine mk Tryz.func159 rfl rfl LN R2 (by decide +kernel) ?_
  intro A S hA hS
  unfold bodyOf Tryz.f159
  cbv
  refine .inv (α := Nat × Int) (fun p => ⟨[.lst true k row, .lst false 4 (ws4 lim m), .any, .any, .any, .lst false 4 (ws4 lim (y p.1)), .s .i64 p.2, .any, .any, .any, .any, .any, .any, .any, .any, .any, .any, .any, .any, .any, .any, .any, .any, .any, .any, .any, .any, .any, .any, .any, .any, .any, .any, .any], []⟩)
    (fun p => p.1 ≤ k ∧ p.2 = (p.1 : Int) - 1) (fun p => p.1) (k, (k : Int) - 1) ?_ ⟨Nat.le_refl _, rfl⟩ ?_
  · have e : A.bin .sub .i64 (A.len k) 1 = (k : Int) - 1 := e_sub hA (a_len hA k) rfl rfl (by omega)
    generalize (k : Int) - 1 = w at e
    rw [hyk]
    cbv
    simp only [and_true]
    exact ⟨⟨(hzero 0).symm, (hzero 1).symm, (hzero 2).symm, (hzero 3).symm⟩, e⟩
  rintro ⟨j, i⟩ ⟨hj, hi⟩
  dsimp only at hj hi ⊢
  by_cases h1 : i ≥ 0
  · obtain ⟨j, rfl⟩ : ∃ t, j = t + 1 := ⟨j - 1, by omega⟩
    have hij : i = (j : Int) := by omega
    have hge : A.cmp .geq i 0 = true := (i_ge hA).trans (decide_eq_true h1)
    have hjk : j < k := by omega
    have hsub : A.bin .sub .i64 i 1 = (j : Int) - 1 := e_sub hA hij rfl rfl (by omega)
    obtain ⟨w, hw⟩ : ∃ w : Int, w = (j : Int) - 1 := ⟨_, rfl⟩
    rw [← hw] at hsub
    have hle : j ≤ k := by omega
    have hmu : j < j + 1 := by omega
    have hy1 := hyz j
    have hz1 := hzy j
    have hrj := hrow.2 j hjk
    generalize y (j + 1) = yj at hy1 ⊢
    cbv
    refine ABr.t hge ?_
    cbv
    refine .inv (α := Nat × Int) (fun p => ⟨[.lst true k row, .lst false 4 (ws4 lim m), .any, .any, .any, .lst false 4 (ws4 lim (z j p.1)), .s .i64 i, .s .i64 p.2, .any, .any, .any, .any, .any, .any, .any, .any, .any, .any, .any, .any, .any, .any, .any, .any, .any, .any, .any, .any, .any, .any, .any, .any, .any, .any], []⟩)
      (fun p => p.1 ≤ 64 ∧ p.2 = (p.1 : Int) - 1) (fun p => p.1) (64, 63) ?_ ⟨Nat.le_refl _, rfl⟩ ?_
    · rw [hy1]
      cbv
    rintro ⟨q, v⟩ ⟨hq, hv⟩
    dsimp only at hq hv ⊢
    by_cases h2 : v ≥ 0
    · obtain ⟨q, rfl⟩ : ∃ t, q = t + 1 := ⟨q - 1, by omega⟩
      have hvq : v = (q : Int) := by omega
      have hge2 : A.cmp .geq v 0 = true := (i_ge hA).trans (decide_eq_true h2)
      have hsub2 : A.bin .sub .i64 v 1 = (q : Int) - 1 := e_sub hA hvq rfl rfl (by omega)
      obtain ⟨u, hu⟩ : ∃ u : Int, u = (q : Int) - 1 := ⟨_, rfl⟩
      rw [← hu] at hsub2
      have hle2 : q ≤ 64 := by omega
      have hmu2 : q < q + 1 := by omega
      have hbit : A.bin .and .u64 (A.bin .shr .u64 (lim a j) (A.wrap .u64 v)) 1 = ((a / 2 ^ (64 * j + q) % 2 : Nat) : Int) := by
        rw [u_bit hA (le a j) (wrap_small hA hvq (by omega)) (by omega), hl, limR_bit _ _ _ (by omega)]
      have hstep := hst j q
      obtain ⟨c, hc⟩ : ∃ c, c = a / 2 ^ (64 * j + q) % 2 := ⟨_, rfl⟩
      rw [← hc] at hbit hstep
      have hc1 : c ≤ 1 := by omega
      have htw := rtwice4 hl (z j (q + 1)) c m (z j q) hm (hzm _ _) hc1 hstep
      have hok := okb_small hA hvq (by omega)
      generalize z j (q + 1) = zq at htw ⊢
      cbv
      refine ABr.t hge2 ?_
      cbv
      refine .mk j hij hjk ?_
      cbv
      refine .mk _ hrj ?_
      cbv
      refine .mk hok ?_
      cbv
      refine ACall.mk _ (cg hS htw (by cbv; exact ⟨hbit, trivial⟩)) ?_
      cbv
      refine ⟨(q, u), ?_, ⟨hle2, hu⟩, hmu2⟩
      cbv
      simp only [and_true, true_and]
      exact hsub2
    · have hge2 : A.cmp .geq v 0 = false := (i_ge hA).trans (decide_eq_false h2)
      obtain rfl : q = 0 := by omega
      cbv
      refine ABr.f hge2 ?_
      cbv
      refine ⟨(j, w), ?_, ⟨hle, hw⟩, hmu⟩
      rw [← hz1]
      cbv
      simp only [and_true, true_and]
      exact hsub
  · have hge : A.cmp .geq i 0 = false := (i_ge hA).trans (decide_eq_false h1)
    obtain rfl : j = 0 := by omega
    cbv
    refine ABr.f hge ?_
    rw [hy0]
    cbv
theorem rAddMod4 {lim : Lim} (hl : lim = limR) (a b m r : Nat) (hm : m < 2 ^ 256) (ha : a < m) (hb : b < m) (hr : r = (a + b) % m) :
    Sp 162 [.lst false 4 (ws4 lim a), .lst false 4 (ws4 lim b), .lst false 4 (ws4 lim m)] (.new false 4 1 (ws4 lim r)) := by
  obtain ⟨s, hs⟩ : ∃ s, s = (a + b) % 2 ^ 256 := ⟨_, rfl⟩
  obtain ⟨c, hc⟩ : ∃ s, s = (a + b) / 2 ^ 256 := ⟨_, rfl⟩
  have hadd := rAdd4 hl a b s c (by omega) (by omega) hs hc
  have hsm : s < 2 ^ 256 := by rw [hs]; exact Nat.mod_lt _ (Nat.two_pow_pos _)
  have hab : (a + b) % m = if a + b < m then a + b else a + b - m := by
    split
    · exact Nat.mod_eq_of_lt (by omega)
    · rw [Nat.mod_eq_sub_mod (by omega)]; exact Nat.mod_eq_of_lt (by omega)
  rw [hab] at hr
  have hrm : r < 2 ^ 256 := by split at hr <;> omega
  have hcase : (c = 1 ∧ r + m = s + 2 ^ 256 * 1) ∨ (c = 0 ∧ ¬ s < m ∧ r + m = s + 2 ^ 256 * 0) ∨ (c = 0 ∧ s < m ∧ r = s) := by
    have h1 : c = 0 ∨ c = 1 := by omega
    rcases h1 with h1 | h1
    · by_cases h2 : s < m
      · refine .inr (.inr ⟨h1, h2, ?_⟩)
        split at hr <;> omega
      · refine .inr (.inl ⟨h1, h2, ?_⟩)
        split at hr <;> omega
    · refine .inl ⟨h1, ?_⟩
      split at hr <;> omega
  have hless := rLess4 hl s m hsm hm
  clear hr hab hs hc
  refine mk Tryz.func162 rfl rfl L0 R0 (by decide +kernel) ?_
  intro A S hA hS
  unfold bodyOf Tryz.f162
  cbv
  refine ACall.mk _ (cf hS hadd) ?_
  cbv
  have hcmp : A.cmp .eql (c : Int) 1 = decide ((c : Int) = 1) := i_eq hA
  rcases hcase with ⟨rfl, h2⟩ | ⟨rfl, h1, h2⟩ | ⟨rfl, h1, rfl⟩
  · replace hcmp := hcmp.trans (decide_eq_true rfl)
    repeat (refine ABr.t hcmp ?_; cbv)
    refine ACall.mk _ (cf hS (rSub4 hl s m r 1 hsm hm h2 hrm)) ?_
    cbv
  · replace hcmp := hcmp.trans (decide_eq_false (by decide))
    repeat (refine ABr.f hcmp ?_; cbv)
    refine ACall.mk _ (cf hS (hless false (decide_eq_false h1).symm)) ?_
    cbv
    repeat (refine ABr.f hcmp ?_; cbv)
    have hn := a_not hA false
    repeat (refine ABr.t hn ?_; cbv)
    refine ACall.mk _ (cf hS (rSub4 hl s m r 0 hsm hm h2 hrm)) ?_
    cbv
  · replace hcmp := hcmp.trans (decide_eq_false (by decide))
    repeat (refine ABr.f hcmp ?_; cbv)
    refine ACall.mk _ (cf hS (hless true (decide_eq_true h1).symm)) ?_
    cbv
    repeat (refine ABr.f hcmp ?_; cbv)
    have hn := a_not hA true
    repeat (refine ABr.f hn ?_; cbv)
theorem rSubMod4 {lim : Lim} (hl : lim = limR) (a b m r : Nat) (hm : m < 2 ^ 256) (ha : a < m) (hb : b < m) (hr : r = (a + m - b) % m) :
    Sp 152 [.lst false 4 (ws4 lim a), .lst false 4 (ws4 lim b), .lst false 4 (ws4 lim m)] (.new false 4 1 (ws4 lim r)) := by
  obtain ⟨d, hd⟩ : ∃ d, d = if a < b then a + 2 ^ 256 - b else a - b := ⟨_, rfl⟩
  obtain ⟨k, h1, h2, h3⟩ := less_dif (a := a) (b := b) (n := 2 ^ 256) (by omega) (by omega) (decide (a < b)) rfl hd
  have hsub := rSub4 hl a b d k (by omega) (by omega) h1 h2
  have hab : (a + m - b) % m = if a < b then a + m - b else a - b := by
    split
    · exact Nat.mod_eq_of_lt (by omega)
    · rw [Nat.mod_eq_sub_mod (by omega)]; exact (Nat.mod_eq_of_lt (by omega)).trans (by omega)
  rw [hab] at hr
  have hadd : a < b → _ := fun (h : a < b) => rAdd4 hl d m r 1 h2 hm (by rw [if_pos h] at hr hd; omega) (by rw [if_pos h] at hr hd; omega)
  have hcase : (k = 1 ∧ a < b) ∨ (k = 0 ∧ r = d) := by
    by_cases h : a < b
    · simp [h] at h3; exact .inl ⟨h3, h⟩
    · simp [h] at h3; rw [if_neg h] at hr hd; exact .inr ⟨h3, by omega⟩
  clear hr hab hd h3 h1
  refine mk Tryz.func152 rfl rfl L0 R0 (by decide +kernel) ?_
  intro A S hA hS
  unfold bodyOf Tryz.f152
  cbv
  refine ACall.mk _ (cf hS hsub) ?_
  cbv
  have hcmp : A.cmp .eql (k : Int) 1 = decide ((k : Int) = 1) := i_eq hA
  rcases hcase with ⟨rfl, h⟩ | ⟨rfl, rfl⟩
  · replace hcmp := hcmp.trans (decide_eq_true rfl)
    repeat (refine ABr.t hcmp ?_; cbv)
    refine ACall.mk _ (cf hS (hadd h)) ?_
    cbv
  · replace hcmp := hcmp.trans (decide_eq_false (by decide))
    repeat (refine ABr.f hcmp ?_; cbv)
theorem rMod6 {lim : Lim} (hl : lim = limR) {row : List AVal} {k a m r : Nat} (hrow : IsRow row (lim a) k) (hk : k < 1000) (ha : a < 2 ^ (64 * k)) (h0 : 0 < m) (hm : m < 2 ^ 384) (hr : r = a % m) :
    Sp 159 [.lst true k row, .lst false 6 (ws6 lim m)] (.lst false 6 (ws6 lim r)) := by
  obtain ⟨y, hy⟩ : ∃ y : Nat → Nat, y = fun j => a / 2 ^ (64 * j) % m := ⟨_, rfl⟩
  obtain ⟨z, hz⟩ : ∃ z : Nat → Nat → Nat, z = fun j q => a / 2 ^ (64 * j + q) % m := ⟨_, rfl⟩
  have hyk : y k = 0 := by rw [hy]; show a / 2 ^ (64 * k) % m = 0; rw [Nat.div_eq_of_lt ha, Nat.zero_mod]
  have hy0 : y 0 = r := by rw [hy, hr]; show a / 2 ^ (64 * 0) % m = _; rw [Nat.mul_zero, Nat.pow_zero, Nat.div_one]
  have hyz : ∀ j, z j 64 = y (j + 1) := fun j => by rw [hy, hz]; show a / 2 ^ (64 * j + 64) % m = a / 2 ^ (64 * (j + 1)) % m; rw [Nat.mul_succ]
  have hzy : ∀ j, z j 0 = y j := fun j => by rw [hy, hz]; rfl
  have hzm : ∀ j q, z j q < m := fun j q => by rw [hz]; exact Nat.mod_lt _ h0
  have hst : ∀ j q, z j q = (2 * z j (q + 1) + a / 2 ^ (64 * j + q) % 2) % m := fun j q => by rw [hz]; exact mod_step a m (64 * j + q)
  have le := fun x i => lim_range hl x i
  have hzero : ∀ i, lim 0 i = 0 := fun i => by rw [hl]; simp [limR]
  clear hy hz hr
  refine mk Tryz.func159 rfl rfl LN R2 (by decide +kernel) ?_
  intro A S hA hS
  unfold bodyOf Tryz.f159
  cbv
  refine .inv (α := Nat × Int) (fun p => ⟨[.lst true k row, .lst false 6 (ws6 lim m), .any, .any, .any, .lst false 6 (ws6 lim (y p.1)), .s .i64 p.2, .any, .any, .any, .any, .any, .any, .any, .any, .any, .any, .any, .any, .any, .any, .any, .any, .any, .any, .any, .any, .any, .any, .any, .any, .any, .any, .any], []⟩)
    (fun p => p.1 ≤ k ∧ p.2 = (p.1 : Int) - 1) (fun p => p.1) (k, (k : Int) - 1) ?_ ⟨Nat.le_refl _, rfl⟩ ?_
  · have e : A.bin .sub .i64 (A.len k) 1 = (k : Int) - 1 := e_sub hA (a_len hA k) rfl rfl (by omega)
    generalize (k : Int) - 1 = w at e
    rw [hyk]
    cbv
    simp only [and_true]
    exact ⟨⟨(hzero 0).symm, (hzero 1).symm, (hzero 2).symm, (hzero 3).symm, (hzero 4).symm, (hzero 5).symm⟩, e⟩
  rintro ⟨j, i⟩ ⟨hj, hi⟩
  dsimp only at hj hi ⊢
  by_cases h1 : i ≥ 0
  · obtain ⟨j, rfl⟩ : ∃ t, j = t + 1 := ⟨j - 1, by omega⟩
    have hij : i = (j : Int) := by omega
    have hge : A.cmp .geq i 0 = true := (i_ge hA).trans (decide_eq_true h1)
    have hjk : j < k := by omega
    have hsub : A.bin .sub .i64 i 1 = (j : Int) - 1 := e_sub hA hij rfl rfl (by omega)
    obtain ⟨w, hw⟩ : ∃ w : Int, w = (j : Int) - 1 := ⟨_, rfl⟩
    rw [← hw] at hsub
    have hle : j ≤ k := by omega
    have hmu : j < j + 1 := by omega
    have hy1 := hyz j
    have hz1 := hzy j
    have hrj := hrow.2 j hjk
    generalize y (j + 1) = yj at hy1 ⊢
    cbv
    refine ABr.t hge ?_
    cbv
    refine .inv (α := Nat × Int) (fun p => ⟨[.lst true k row, .lst false 6 (ws6 lim m), .any, .any, .any, .lst false 6 (ws6 lim (z j p.1)), .s .i64 i, .s .i64 p.2, .any, .any, .any, .any, .any, .any, .any, .any, .any, .any, .any, .any, .any, .any, .any, .any, .any, .any, .any, .any, .any, .any, .any, .any, .any, .any], []⟩)
      (fun p => p.1 ≤ 64 ∧ p.2 = (p.1 : Int) - 1) (fun p => p.1) (64, 63) ?_ ⟨Nat.le_refl _, rfl⟩ ?_
    · rw [hy1]
      cbv
    rintro ⟨q, v⟩ ⟨hq, hv⟩
    dsimp only at hq hv ⊢
    by_cases h2 : v ≥ 0
    · obtain ⟨q, rfl⟩ : ∃ t, q = t + 1 := ⟨q - 1, by omega⟩
      have hvq : v = (q : Int) := by omega
      have hge2 : A.cmp .geq v 0 = true := (i_ge hA).trans (decide_eq_true h2)
      have hsub2 : A.bin .sub .i64 v 1 = (q : Int) - 1 := e_sub hA hvq rfl rfl (by omega)
      obtain ⟨u, hu⟩ : ∃ u : Int, u = (q : Int) - 1 := ⟨_, rfl⟩
      rw [← hu] at hsub2
      have hle2 : q ≤ 64 := by omega
      have hmu2 : q < q + 1 := by omega
      have hbit : A.bin .and .u64 (A.bin .shr .u64 (lim a j) (A.wrap .u64 v)) 1 = ((a / 2 ^ (64 * j + q) % 2 : Nat) : Int) := by
        rw [u_bit hA (le a j) (wrap_small hA hvq (by omega)) (by omega), hl, limR_bit _ _ _ (by omega)]
      have hstep := hst j q
      obtain ⟨c, hc⟩ : ∃ c, c = a / 2 ^ (64 * j + q) % 2 := ⟨_, rfl⟩
      rw [← hc] at hbit hstep
      have hc1 : c ≤ 1 := by omega
      have htw := rtwice6 hl (z j (q + 1)) c m (z j q) hm (hzm _ _) hc1 hstep
      have hok := okb_small hA hvq (by omega)
      generalize z j (q + 1) = zq at htw ⊢
      cbv
      refine ABr.t hge2 ?_
      cbv
      refine .mk j hij hjk ?_
      cbv
      refine .mk _ hrj ?_
      cbv
      refine .mk hok ?_
      cbv
      refine ACall.mk _ (cg hS htw (by cbv; exact ⟨hbit, trivial⟩)) ?_
      cbv
      refine ⟨(q, u), ?_, ⟨hle2, hu⟩, hmu2⟩
      cbv
      simp only [and_true, true_and]
      exact hsub2
    · have hge2 : A.cmp .geq v 0 = false := (i_ge hA).trans (decide_eq_false h2)
      obtain rfl : q = 0 := by omega
      cbv
      refine ABr.f hge2 ?_
      cbv
      refine ⟨(j, w), ?_, ⟨hle, hw⟩, hmu⟩
      rw [← hz1]
      cbv
      simp only [and_true, true_and]
      exact hsub
  · have hge : A.cmp .geq i 0 = false := (i_ge hA).trans (decide_eq_false h1)
    obtain rfl : j = 0 := by omega
    cbv
    refine ABr.f hge ?_
    rw [hy0]
    cbv
theorem rAddMod6 {lim : Lim} (hl : lim = limR) (a b m r : Nat) (hm : m < 2 ^ 384) (ha : a < m) (hb : b < m) (hr : r = (a + b) % m) :
    Sp 162 [.lst false 6 (ws6 lim a), .lst false 6 (ws6 lim b), .lst false 6 (ws6 lim m)] (.new false 6 1 (ws6 lim r)) := by
  obtain ⟨s, hs⟩ : ∃ s, s = (a + b) % 2 ^ 384 := ⟨_, rfl⟩
  obtain ⟨c, hc⟩ : ∃ s, s = (a + b) / 2 ^ 384 := ⟨_, rfl⟩
  have hadd := rAdd6 hl a b s c (by omega) (by omega) hs hc
  have hsm : s < 2 ^ 384 := by rw [hs]; exact Nat.mod_lt _ (Nat.two_pow_pos _)
  have hab : (a + b) % m = if a + b < m then a + b else a + b - m := by
    split
    · exact Nat.mod_eq_of_lt (by omega)
    · rw [Nat.mod_eq_sub_mod (by omega)]; exact Nat.mod_eq_of_lt (by omega)
  rw [hab] at hr
  have hrm : r < 2 ^ 384 := by split at hr <;> omega
  have hcase : (c = 1 ∧ r + m = s + 2 ^ 384 * 1) ∨ (c = 0 ∧ ¬ s < m ∧ r + m = s + 2 ^ 384 * 0) ∨ (c = 0 ∧ s < m ∧ r = s) := by
    have h1 : c = 0 ∨ c = 1 := by omega
    rcases h1 with h1 | h1
    · by_cases h2 : s < m
      · refine .inr (.inr ⟨h1, h2, ?_⟩)
        split at hr <;> omega
      · refine .inr (.inl ⟨h1, h2, ?_⟩)
        split at hr <;> omega
    · refine .inl ⟨h1, ?_⟩
      split at hr <;> omega
  have hless := rLess6 hl s m hsm hm
  clear hr hab hs hc
  refine mk Tryz.func162 rfl rfl L0 R0 (by decide +kernel) ?_
  intro A S hA hS
  unfold bodyOf Tryz.f162
  cbv
  refine ACall.mk _ (cf hS hadd) ?_
  cbv
  have hcmp : A.cmp .eql (c : Int) 1 = decide ((c : Int) = 1) := i_eq hA
  rcases hcase with ⟨rfl, h2⟩ | ⟨rfl, h1, h2⟩ | ⟨rfl, h1, rfl⟩
  · replace hcmp := hcmp.trans (decide_eq_true rfl)
    repeat (refine ABr.t hcmp ?_; cbv)
    refine ACall.mk _ (cf hS (rSub6 hl s m r 1 hsm hm h2 hrm)) ?_
    cbv
  · replace hcmp := hcmp.trans (decide_eq_false (by decide))
    repeat (refine ABr.f hcmp ?_; cbv)
    refine ACall.mk _ (cf hS (hless false (decide_eq_false h1).symm)) ?_
    cbv
    repeat (refine ABr.f hcmp ?_; cbv)
    have hn := a_not hA false
    repeat (refine ABr.t hn ?_; cbv)
    refine ACall.mk _ (cf hS (rSub6 hl s m r 0 hsm hm h2 hrm)) ?_
    cbv
  · replace hcmp := hcmp.trans (decide_eq_false (by decide))
    repeat (refine ABr.f hcmp ?_; cbv)
    refine ACall.mk _ (cf hS (hless true (decide_eq_true h1).symm)) ?_
    cbv
    repeat (refine ABr.f hcmp ?_; cbv)
    have hn := a_not hA true
    repeat (refine ABr.f hn ?_; cbv)
theorem rSubMod6 {lim : Lim} (hl : lim = limR) (a b m r : Nat) (hm : m < 2 ^ 384) (ha : a < m) (hb : b < m) (hr : r = (a + m - b) % m) :
    Sp 152 [.lst false 6 (ws6 lim a), .lst false 6 (ws6 lim b), .lst false 6 (ws6 lim m)] (.new false 6 1 (ws6 lim r)) := by
  obtain ⟨d, hd⟩ : ∃ d, d = if a < b then a + 2 ^ 384 - b else a - b := ⟨_, rfl⟩
  obtain ⟨k, h1, h2, h3⟩ := less_dif (a := a) (b := b) (n := 2 ^ 384) (by omega) (by omega) (decide (a < b)) rfl hd
  have hsub := rSub6 hl a b d k (by omega) (by omega) h1 h2
  have hab : (a + m - b) % m = if a < b then a + m - b else a - b := by
    split
    · exact Nat.mod_eq_of_lt (by omega)
    · rw [Nat.mod_eq_sub_mod (by omega)]; exact (Nat.mod_eq_of_lt (by omega)).trans (by omega)
  rw [hab] at hr
  have hadd : a < b → _ := fun (h : a < b) => rAdd6 hl d m r 1 h2 hm (by rw [if_pos h] at hr hd; omega) (by rw [if_pos h] at hr hd; omega)
  have hcase : (k = 1 ∧ a < b) ∨ (k = 0 ∧ r = d) := by
    by_cases h : a < b
    · simp [h] at h3; exact .inl ⟨h3, h⟩
    · simp [h] at h3; rw [if_neg h] at hr hd; exact .inr ⟨h3, by omega⟩
  clear hr hab hd h3 h1
  refine mk Tryz.func152 rfl rfl L0 R0 (by decide +kernel) ?_
  intro A S hA hS
  unfold bodyOf Tryz.f152
  cbv
  refine ACall.mk _ (cf hS hsub) ?_
  cbv
  have hcmp : A.cmp .eql (k : Int) 1 = decide ((k : Int) = 1) := i_eq hA
  rcases hcase with ⟨rfl, h⟩ | ⟨rfl, rfl⟩
  · replace hcmp := hcmp.trans (decide_eq_true rfl)
    repeat (refine ABr.t hcmp ?_; cbv)
    refine ACall.mk _ (cf hS (hadd h)) ?_
    cbv
  · replace hcmp := hcmp.trans (decide_eq_false (by decide))
    repeat (refine ABr.f hcmp ?_; cbv)
end Go.Proofs.YtmholgclgamnnaaGreat
