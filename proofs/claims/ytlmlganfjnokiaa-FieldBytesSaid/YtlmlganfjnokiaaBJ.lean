import Derived.Test.YtlmlganfjnokiaaBG
set_option linter.unusedVariables false
set_option linter.unusedSimpArgs false
namespace Go.Proofs.Ytlmlganfjnokiaa
open Go Eng
set_option maxRecDepth 100000
set_option exponentiation.threshold 2000
set_option maxHeartbeats 4000000
theorem fin_num (b m x : Nat) : x % m * 2 ^ b % m = x * 2 ^ b % m % m := by rw [Nat.mod_mul_mod, Nat.mod_mod]
theorem rExp4 {H : H5} (hH : H = H5.real) {m a : Nat} (hR : Mod 256 m) (ha : a < m) {row : List AVal} {e k : Nat} (hrow : IsRow row (H.lim e) k) (hk : k < 1000) (he : e < 2 ^ (64 * k)) :
    Sp 52 [rf4 H m, .lst false 4 (ws4 H.lim a), .lst true k row] (.lst false 4 (ws4 H.lim (H.pow m a e))) := by
  have hl := H5.hlim hH
  have hm := hR.lt
  have h1m := hR.one
  have h2 : H.mf (2 * 256) m 1 < m := by rw [hH]; exact mf_lt hR.pos
  have hlt : ∀ x, H.mf 256 m x < m := fun x => by rw [hH]; exact mf_lt hR.pos
  have tx := rtimes4 hH (a := a) (b := H.mf (2 * 256) m 1) (r := H.mf 256 m a) hR (by omega) (by omega) (.inl ha) (hlt _) (by rw [hH]; exact two_num 256 m a)
  have t1 := rtimes4 hH (a := 1) (b := H.mf (2 * 256) m 1) (r := H.mf 256 m 1) hR (by omega) (by omega) (.inl h1m) (hlt _) (by rw [hH]; exact two_num 256 m 1)
  have tm : ∀ x y, Sp 96 [rf4 H m, .lst false 4 (ws4 H.lim (H.mf 256 m x)), .lst false 4 (ws4 H.lim (H.mf 256 m y))] (.lst false 4 (ws4 H.lim (H.mf 256 m (H.mul m x y)))) := fun x y => by
    have := hlt x; have := hlt y
    exact rtimes4 hH hR (by omega) (by omega) (.inl (hlt x)) (hlt _) (by rw [hH]; exact mf_mul 256 m x y)
  have hone := rOne4 hH hR
  obtain ⟨y, hy⟩ : ∃ y : Nat → Nat, y = fun j => H.mf 256 m (H.pow m a (e / 2 ^ (64 * j))) := ⟨_, rfl⟩
  obtain ⟨z, hz⟩ : ∃ z : Nat → Nat → Nat, z = fun j q => H.pow m a (e / 2 ^ (64 * j + q)) := ⟨_, rfl⟩
  have hyk : y k = H.mf 256 m 1 := by
    rw [hy]; show H.mf 256 m (H.pow m a (e / 2 ^ (64 * k))) = _
    rw [Nat.div_eq_of_lt he, hH]
    show a ^ 0 % m * 2 ^ 256 % m = 1 * 2 ^ 256 % m
    rw [Nat.pow_zero, Nat.mod_mul_mod]
  have hy0 : y 0 = H.mf 256 m (H.pow m a e) := by rw [hy]; show H.mf 256 m (H.pow m a (e / 2 ^ (64 * 0))) = _; rw [Nat.mul_zero, Nat.pow_zero, Nat.div_one]
  have hyz : ∀ j, H.mf 256 m (z j 64) = y (j + 1) := fun j => by rw [hy, hz]; show H.mf 256 m (H.pow m a (e / 2 ^ (64 * j + 64))) = H.mf 256 m (H.pow m a (e / 2 ^ (64 * (j + 1)))); rw [Nat.mul_succ]
  have hzy : ∀ j, H.mf 256 m (z j 0) = y j := fun j => by rw [hy, hz]; rfl
  have hst : ∀ j q, z j q = if e / 2 ^ (64 * j + q) % 2 = 1 then H.mul m (H.mul m (z j (q + 1)) (z j (q + 1))) a else H.mul m (z j (q + 1)) (z j (q + 1)) := fun j q => by rw [hz, hH]; exact pow_step m a e (64 * j + q)
  have hred := rreduce4 hl m (H.minv m) (H.mf (2 * 256) m 1) (y 0) (H.pow m a e) hR.lt hR.odd (by rw [hH]; exact minv_ok hR.odd) (by rw [hH]; exact minv_lt m)
    (by rw [hy0]; have := hlt (H.pow m a e); exact Nat.lt_of_lt_of_le this (Nat.le_mul_of_pos_right _ (Nat.two_pow_pos _))) (by rw [hH]; exact Nat.mod_lt _ hR.pos)
    (by rw [hy0, hH]; exact (Nat.mod_mod _ _).symm)
  have hy0m : y 0 < 2 ^ 256 := by rw [hy0]; exact Nat.lt_trans (hlt _) hm
  have hhi : ∀ i, 4 ≤ i → H.lim (y 0) i = 0 := fun i hi => by
    rw [hl]; unfold limR
    rw [Nat.div_eq_of_lt (Nat.lt_of_lt_of_le hy0m (Nat.pow_le_pow_right (n := 2) (i := 256) (by decide) (by omega))), Nat.zero_mod]; rfl
  have le := fun x i => lim_range hl x i
  have hsq := fun j q => tm (z j (q + 1)) (z j (q + 1))
  have hml := fun x => tm x a
  obtain ⟨xa, hxa⟩ : ∃ xa, xa = H.mf 256 m a := ⟨_, rfl⟩
  rw [← hxa] at tx hml
  rw [← hyk] at t1
  clear hy hz tm hlt hy0 hxa hyk
  refine mk Try.func52 rfl rfl LN R1 (by decide +kernel) ?_
  intro A S hA hS
  unfold bodyOf Try.f52
  cbv
  refine ACall.mk _ (cf hS tx) ?_
  cbv
  refine ACall.mk _ (cf hS hone) ?_
  cbv
  refine ACall.mk _ (cf hS t1) ?_
  cbv
  refine .inv (α := Nat × Int) (fun p => ⟨[.any, .any, .lst true k row, .own 0 0, .any, .any, .any, .lst false 4 (ws4 H.lim xa), .lst false 4 (ws4 H.lim (y p.1)), .s .i64 p.2, .any, .any, .any, .any, .any, .any, .any, .any, .any, .any, .any, .any, .any, .any, .any, .any, .any, .any, .any, .any, .any, .any, .any, .any, .any, .any, .any, .any, .any, .any, .any, .any, .any, .any, .any, .any, .any, .any, .any, .any, .any, .any, .any, .any, .any, .any, .any, .any, .any, .any, .any, .any],
      [⟨true, true, [.lst false 4 (ws4 H.lim m), .s .u64 (H.minv m : Nat), .lst false 4 (ws4 H.lim (H.mf (2 * 256) m 1))]⟩]⟩)
    (fun p => p.1 ≤ k ∧ p.2 = (p.1 : Int) - 1) (fun p => p.1) (k, (k : Int) - 1) ?_ ⟨Nat.le_refl _, rfl⟩ ?_
  · have e : A.bin .sub .i64 (A.len k) 1 = (k : Int) - 1 := e_sub hA (a_len hA k) rfl rfl (by omega)
    generalize (k : Int) - 1 = w at e
    cbv
    simp only [and_true, true_and]
    exact e
  rintro ⟨j, i⟩ ⟨hj, hi⟩
  dsimp only at hj hi ⊢
  by_cases h1 : i ≥ 0
  · obtain ⟨j, rfl⟩ : ∃ t, j = t + 1 := ⟨j - 1, by omega⟩
    have hij : i = (j : Int) := by omega
    have hge : A.cmp .geq i 0 = true := (i_ge hA).trans (decide_eq_true h1)
    have hjk : j < k := by omega
    have hsub : A.bin .sub .i64 i 1 = (j : Int) - 1 := e_sub hA hij rfl rfl (by omega)
    obtain ⟨w, hw⟩ : ∃ w : Int, w = (j : Int) - 1 := ⟨_, rfl⟩
    rw [← hw] at hsub
    have hle : j ≤ k := by omega
    have hmu : j < j + 1 := by omega
    have hy1 := hyz j
    have hz1 := hzy j
    have hrj := hrow.2 j hjk
    rw [← hy1]
    clear hred hone t1 tx hhi hy0m hyz hzy
    cbv
    refine ABr.t hge ?_
    cbv
    refine .inv (α := Nat × Int) (fun p => ⟨[.any, .any, .lst true k row, .own 0 0, .any, .any, .any, .lst false 4 (ws4 H.lim xa), .lst false 4 (ws4 H.lim (H.mf 256 m (z j p.1))), .s .i64 i, .s .i64 p.2, .any, .any, .any, .any, .any, .any, .any, .any, .any, .any, .any, .any, .any, .any, .any, .any, .any, .any, .any, .any, .any, .any, .any, .any, .any, .any, .any, .any, .any, .any, .any, .any, .any, .any, .any, .any, .any, .any, .any, .any, .any, .any, .any, .any, .any, .any, .any, .any, .any, .any, .any],
        [⟨true, true, [.lst false 4 (ws4 H.lim m), .s .u64 (H.minv m : Nat), .lst false 4 (ws4 H.lim (H.mf (2 * 256) m 1))]⟩]⟩)
      (fun p => p.1 ≤ 64 ∧ p.2 = (p.1 : Int) - 1) (fun p => p.1) (64, 63) ?_ ⟨Nat.le_refl _, rfl⟩ ?_
    · cbv
      repeat' (first | exact rfl | exact trivial | constructor)
    rintro ⟨q, v⟩ ⟨hq, hv⟩
    dsimp only at hq hv ⊢
    by_cases h2 : v ≥ 0
    · obtain ⟨q, rfl⟩ : ∃ t, q = t + 1 := ⟨q - 1, by omega⟩
      have hvq : v = (q : Int) := by omega
      have hge2 : A.cmp .geq v 0 = true := (i_ge hA).trans (decide_eq_true h2)
      have hsub2 : A.bin .sub .i64 v 1 = (q : Int) - 1 := e_sub hA hvq rfl rfl (by omega)
      obtain ⟨u, hu⟩ : ∃ u : Int, u = (q : Int) - 1 := ⟨_, rfl⟩
      rw [← hu] at hsub2
      have hle2 : q ≤ 64 := by omega
      have hmu2 : q < q + 1 := by omega
      have hbit : A.bin .and .u64 (A.bin .shr .u64 (H.lim e j) (A.wrap .u64 v)) 1 = ((e / 2 ^ (64 * j + q) % 2 : Nat) : Int) := by
        rw [u_bit hA (le e j) (wrap_small hA hvq (by omega)) (by omega), hl, limR_bit _ _ _ (by omega)]
      have hstep := hst j q
      have hsqq := hsq j q
      obtain ⟨c, hc⟩ : ∃ c, c = e / 2 ^ (64 * j + q) % 2 := ⟨_, rfl⟩
      rw [← hc] at hbit hstep
      have hok := okb_small hA hvq (by omega)
      have hcmp : A.cmp .eql (A.bin .and .u64 (A.bin .shr .u64 (H.lim e j) (A.wrap .u64 v)) 1) 1 = decide (c = 1) := by rw [hbit]; exact bit_eq hA c
      generalize z j (q + 1) = zq at *
      clear hst hsq hbit hc
      cbv
      refine ABr.t hge2 ?_
      cbv
      refine ACall.mk _ (cf hS hsqq) ?_
      cbv
      refine .mk j hij hjk ?_
      cbv
      refine .mk _ hrj ?_
      cbv
      refine .mk hok ?_
      cbv
      by_cases h3 : c = 1
      · rw [if_pos h3] at hstep
        replace hcmp := hcmp.trans (decide_eq_true h3)
        refine ABr.t hcmp ?_
        cbv
        refine ACall.mk _ (cf hS (hml _)) ?_
        cbv
        refine ⟨(q, u), ?_, ⟨hle2, hu⟩, hmu2⟩
        dsimp only
        rw [hstep]
        cbv
        simp only [and_true, true_and]
        exact hsub2
      · rw [if_neg h3] at hstep
        replace hcmp := hcmp.trans (decide_eq_false h3)
        refine ABr.f hcmp ?_
        cbv
        refine ⟨(q, u), ?_, ⟨hle2, hu⟩, hmu2⟩
        dsimp only
        rw [hstep]
        cbv
        simp only [and_true, true_and]
        exact hsub2
    · have hge2 : A.cmp .geq v 0 = false := (i_ge hA).trans (decide_eq_false h2)
      obtain rfl : q = 0 := by omega
      clear hst hsq
      rw [hz1]
      cbv
      refine ABr.f hge2 ?_
      cbv
      refine ⟨(j, w), ?_, ⟨hle, hw⟩, hmu⟩
      cbv
      simp only [and_true, true_and]
      exact hsub
  · have hge : A.cmp .geq i 0 = false := (i_ge hA).trans (decide_eq_false h1)
    obtain rfl : j = 0 := by omega
    clear hst hsq hyz hzy
    generalize y 0 = y0 at *
    cbv
    refine ABr.f hge ?_
    cbv
    refine ACall.mk _ (cg hS hred (by cbv; exact ⟨(hhi (4 + 0) (by decide)).symm, (hhi (4 + 1) (by decide)).symm, (hhi (4 + 2) (by decide)).symm, (hhi (4 + 3) (by decide)).symm⟩)) ?_
    cbv
theorem rExp6 {H : H5} (hH : H = H5.real) {m a : Nat} (hR : Mod 384 m) (ha : a < m) {row : List AVal} {e k : Nat} (hrow : IsRow row (H.lim e) k) (hk : k < 1000) (he : e < 2 ^ (64 * k)) :
    Sp 52 [rf6 H m, .lst false 6 (ws6 H.lim a), .lst true k row] (.lst false 6 (ws6 H.lim (H.pow m a e))) := by
  have hl := H5.hlim hH
  have hm := hR.lt
  have h1m := hR.one
  have h2 : H.mf (2 * 384) m 1 < m := by rw [hH]; exact mf_lt hR.pos
  have hlt : ∀ x, H.mf 384 m x < m := fun x => by rw [hH]; exact mf_lt hR.pos
  have tx := rtimes6 hH (a := a) (b := H.mf (2 * 384) m 1) (r := H.mf 384 m a) hR (by omega) (by omega) (.inl ha) (hlt _) (by rw [hH]; exact two_num 384 m a)
  have t1 := rtimes6 hH (a := 1) (b := H.mf (2 * 384) m 1) (r := H.mf 384 m 1) hR (by omega) (by omega) (.inl h1m) (hlt _) (by rw [hH]; exact two_num 384 m 1)
  have tm : ∀ x y, Sp 96 [rf6 H m, .lst false 6 (ws6 H.lim (H.mf 384 m x)), .lst false 6 (ws6 H.lim (H.mf 384 m y))] (.lst false 6 (ws6 H.lim (H.mf 384 m (H.mul m x y)))) := fun x y => by
    have := hlt x; have := hlt y
    exact rtimes6 hH hR (by omega) (by omega) (.inl (hlt x)) (hlt _) (by rw [hH]; exact mf_mul 384 m x y)
  have hone := rOne6 hH hR
  obtain ⟨y, hy⟩ : ∃ y : Nat → Nat, y = fun j => H.mf 384 m (H.pow m a (e / 2 ^ (64 * j))) := ⟨_, rfl⟩
  obtain ⟨z, hz⟩ : ∃ z : Nat → Nat → Nat, z = fun j q => H.pow m a (e / 2 ^ (64 * j + q)) := ⟨_, rfl⟩
  have hyk : y k = H.mf 384 m 1 := by
    rw [hy]; show H.mf 384 m (H.pow m a (e / 2 ^ (64 * k))) = _
    rw [Nat.div_eq_of_lt he, hH]
    show a ^ 0 % m * 2 ^ 384 % m = 1 * 2 ^ 384 % m
    rw [Nat.pow_zero, Nat.mod_mul_mod]
  have hy0 : y 0 = H.mf 384 m (H.pow m a e) := by rw [hy]; show H.mf 384 m (H.pow m a (e / 2 ^ (64 * 0))) = _; rw [Nat.mul_zero, Nat.pow_zero, Nat.div_one]
  have hyz : ∀ j, H.mf 384 m (z j 64) = y (j + 1) := fun j => by rw [hy, hz]; show H.mf 384 m (H.pow m a (e / 2 ^ (64 * j + 64))) = H.mf 384 m (H.pow m a (e / 2 ^ (64 * (j + 1)))); rw [Nat.mul_succ]
  have hzy : ∀ j, H.mf 384 m (z j 0) = y j := fun j => by rw [hy, hz]; rfl
  have hst : ∀ j q, z j q = if e / 2 ^ (64 * j + q) % 2 = 1 then H.mul m (H.mul m (z j (q + 1)) (z j (q + 1))) a else H.mul m (z j (q + 1)) (z j (q + 1)) := fun j q => by rw [hz, hH]; exact pow_step m a e (64 * j + q)
  have hred := rreduce6 hl m (H.minv m) (H.mf (2 * 384) m 1) (y 0) (H.pow m a e) hR.lt hR.odd (by rw [hH]; exact minv_ok hR.odd) (by rw [hH]; exact minv_lt m)
    (by rw [hy0]; have := hlt (H.pow m a e); exact Nat.lt_of_lt_of_le this (Nat.le_mul_of_pos_right _ (Nat.two_pow_pos _))) (by rw [hH]; exact Nat.mod_lt _ hR.pos)
    (by rw [hy0, hH]; exact (Nat.mod_mod _ _).symm)
  have hy0m : y 0 < 2 ^ 384 := by rw [hy0]; exact Nat.lt_trans (hlt _) hm
  have hhi : ∀ i, 6 ≤ i → H.lim (y 0) i = 0 := fun i hi => by
    rw [hl]; unfold limR
    rw [Nat.div_eq_of_lt (Nat.lt_of_lt_of_le hy0m (Nat.pow_le_pow_right (n := 2) (i := 384) (by decide) (by omega))), Nat.zero_mod]; rfl
  have le := fun x i => lim_range hl x i
  have hsq := fun j q => tm (z j (q + 1)) (z j (q + 1))
  have hml := fun x => tm x a
  obtain ⟨xa, hxa⟩ : ∃ xa, xa = H.mf 384 m a := ⟨_, rfl⟩
  rw [← hxa] at tx hml
  rw [← hyk] at t1
  clear hy hz tm hlt hy0 hxa hyk
  refine mk Try.func52 rfl rfl LN R1 (by decide +kernel) ?_
  intro A S hA hS
  unfold bodyOf Try.f52
  cbv
  refine ACall.mk _ (cf hS tx) ?_
  cbv
  refine ACall.mk _ (cf hS hone) ?_
  cbv
  refine ACall.mk _ (cf hS t1) ?_
  cbv
  refine .inv (α := Nat × Int) (fun p => ⟨[.any, .any, .lst true k row, .own 0 0, .any, .any, .any, .lst false 6 (ws6 H.lim xa), .lst false 6 (ws6 H.lim (y p.1)), .s .i64 p.2, .any, .any, .any, .any, .any, .any, .any, .any, .any, .any, .any, .any, .any, .any, .any, .any, .any, .any, .any, .any, .any, .any, .any, .any, .any, .any, .any, .any, .any, .any, .any, .any, .any, .any, .any, .any, .any, .any, .any, .any, .any, .any, .any, .any, .any, .any, .any, .any, .any, .any, .any, .any],
      [⟨true, true, [.lst false 6 (ws6 H.lim m), .s .u64 (H.minv m : Nat), .lst false 6 (ws6 H.lim (H.mf (2 * 384) m 1))]⟩]⟩)
    (fun p => p.1 ≤ k ∧ p.2 = (p.1 : Int) - 1) (fun p => p.1) (k, (k : Int) - 1) ?_ ⟨Nat.le_refl _, rfl⟩ ?_
  · have e : A.bin .sub .i64 (A.len k) 1 = (k : Int) - 1 := e_sub hA (a_len hA k) rfl rfl (by omega)
    generalize (k : Int) - 1 = w at e
    cbv
    simp only [and_true, true_and]
    exact e
  rintro ⟨j, i⟩ ⟨hj, hi⟩
  dsimp only at hj hi ⊢
  by_cases h1 : i ≥ 0
  · obtain ⟨j, rfl⟩ : ∃ t, j = t + 1 := ⟨j - 1, by omega⟩
    have hij : i = (j : Int) := by omega
    have hge : A.cmp .geq i 0 = true := (i_ge hA).trans (decide_eq_true h1)
    have hjk : j < k := by omega
    have hsub : A.bin .sub .i64 i 1 = (j : Int) - 1 := e_sub hA hij rfl rfl (by omega)
    obtain ⟨w, hw⟩ : ∃ w : Int, w = (j : Int) - 1 := ⟨_, rfl⟩
    rw [← hw] at hsub
    have hle : j ≤ k := by omega
    have hmu : j < j + 1 := by omega
    have hy1 := hyz j
    have hz1 := hzy j
    have hrj := hrow.2 j hjk
    rw [← hy1]
    clear hred hone t1 tx hhi hy0m hyz hzy
    cbv
    refine ABr.t hge ?_
    cbv
    refine .inv (α := Nat × Int) (fun p => ⟨[.any, .any, .lst true k row, .own 0 0, .any, .any, .any, .lst false 6 (ws6 H.lim xa), .lst false 6 (ws6 H.lim (H.mf 384 m (z j p.1))), .s .i64 i, .s .i64 p.2, .any, .any, .any, .any, .any, .any, .any, .any, .any, .any, .any, .any, .any, .any, .any, .any, .any, .any, .any, .any, .any, .any, .any, .any, .any, .any, .any, .any, .any, .any, .any, .any, .any, .any, .any, .any, .any, .any, .any, .any, .any, .any, .any, .any, .any, .any, .any, .any, .any, .any, .any],
        [⟨true, true, [.lst false 6 (ws6 H.lim m), .s .u64 (H.minv m : Nat), .lst false 6 (ws6 H.lim (H.mf (2 * 384) m 1))]⟩]⟩)
      (fun p => p.1 ≤ 64 ∧ p.2 = (p.1 : Int) - 1) (fun p => p.1) (64, 63) ?_ ⟨Nat.le_refl _, rfl⟩ ?_
    · cbv
      repeat' (first | exact rfl | exact trivial | constructor)
    rintro ⟨q, v⟩ ⟨hq, hv⟩
    dsimp only at hq hv ⊢
    by_cases h2 : v ≥ 0
    · obtain ⟨q, rfl⟩ : ∃ t, q = t + 1 := ⟨q - 1, by omega⟩
      have hvq : v = (q : Int) := by omega
      have hge2 : A.cmp .geq v 0 = true := (i_ge hA).trans (decide_eq_true h2)
      have hsub2 : A.bin .sub .i64 v 1 = (q : Int) - 1 := e_sub hA hvq rfl rfl (by omega)
      obtain ⟨u, hu⟩ : ∃ u : Int, u = (q : Int) - 1 := ⟨_, rfl⟩
      rw [← hu] at hsub2
      have hle2 : q ≤ 64 := by omega
      have hmu2 : q < q + 1 := by omega
      have hbit : A.bin .and .u64 (A.bin .shr .u64 (H.lim e j) (A.wrap .u64 v)) 1 = ((e / 2 ^ (64 * j + q) % 2 : Nat) : Int) := by
        rw [u_bit hA (le e j) (wrap_small hA hvq (by omega)) (by omega), hl, limR_bit _ _ _ (by omega)]
      have hstep := hst j q
      have hsqq := hsq j q
      obtain ⟨c, hc⟩ : ∃ c, c = e / 2 ^ (64 * j + q) % 2 := ⟨_, rfl⟩
      rw [← hc] at hbit hstep
      have hok := okb_small hA hvq (by omega)
      have hcmp : A.cmp .eql (A.bin .and .u64 (A.bin .shr .u64 (H.lim e j) (A.wrap .u64 v)) 1) 1 = decide (c = 1) := by rw [hbit]; exact bit_eq hA c
      generalize z j (q + 1) = zq at *
      clear hst hsq hbit hc
      cbv
      refine ABr.t hge2 ?_
      cbv
      refine ACall.mk _ (cf hS hsqq) ?_
      cbv
      refine .mk j hij hjk ?_
      cbv
      refine .mk _ hrj ?_
      cbv
      refine .mk hok ?_
      cbv
      by_cases h3 : c = 1
      · rw [if_pos h3] at hstep
        replace hcmp := hcmp.trans (decide_eq_true h3)
        refine ABr.t hcmp ?_
        cbv
        refine ACall.mk _ (cf hS (hml _)) ?_
        cbv
        refine ⟨(q, u), ?_, ⟨hle2, hu⟩, hmu2⟩
        dsimp only
        rw [hstep]
        cbv
        simp only [and_true, true_and]
        exact hsub2
      · rw [if_neg h3] at hstep
        replace hcmp := hcmp.trans (decide_eq_false h3)
        refine ABr.f hcmp ?_
        cbv
        refine ⟨(q, u), ?_, ⟨hle2, hu⟩, hmu2⟩
        dsimp only
        rw [hstep]
        cbv
        simp only [and_true, true_and]
        exact hsub2
    · have hge2 : A.cmp .geq v 0 = false := (i_ge hA).trans (decide_eq_false h2)
      obtain rfl : q = 0 := by omega
      clear hst hsq
      rw [hz1]
      cbv
      refine ABr.f hge2 ?_
      cbv
      refine ⟨(j, w), ?_, ⟨hle, hw⟩, hmu⟩
      cbv
      simp only [and_true, true_and]
      exact hsub
  · have hge : A.cmp .geq i 0 = false := (i_ge hA).trans (decide_eq_false h1)
    obtain rfl : j = 0 := by omega
    clear hst hsq hyz hzy
    generalize y 0 = y0 at *
    cbv
    refine ABr.f hge ?_
    cbv
    refine ACall.mk _ (cg hS hred (by cbv; exact ⟨(hhi (6 + 0) (by decide)).symm, (hhi (6 + 1) (by decide)).symm, (hhi (6 + 2) (by decide)).symm, (hhi (6 + 3) (by decide)).symm, (hhi (6 + 4) (by decide)).symm, (hhi (6 + 5) (by decide)).symm⟩)) ?_
    cbv
end Go.Proofs.Ytlmlganfjnokiaa
