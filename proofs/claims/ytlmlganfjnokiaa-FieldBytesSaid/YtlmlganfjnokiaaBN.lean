import Derived.Test.YtlmlganfjnokiaaBM
set_option linter.unusedVariables false
set_option linter.unusedSimpArgs false
namespace Go.Proofs.Ytlmlganfjnokiaa
open Go Eng
set_option maxRecDepth 100000
set_option exponentiation.threshold 2000
set_option maxHeartbeats 4000000
theorem gtw {A : Ar} (hA : A = Ar.real) {x y : Int} : A.cmp .gtr x y = decide (x > y) := by rw [hA]; rfl
theorem wrap_byte {A : Ar} (hA : A = Ar.real) {x : Nat} (h : x < 256) : A.wrap .u64 (x : Int) = (x : Int) := by
  rw [hA]; exact (wrap_u64 _).trans (by omega)
theorem ws_get4 {A : Ar} (hA : A = Ar.real) (lim : Lim) (v j : Nat) (hj : j < 4) : lsub (ws4 lim v) (A.offs 0 j 1) 1 = some [.s .u64 (lim v j)] := by
  subst hA
  rcases (by omega : j = 0 ∨ j = 1 ∨ j = 2 ∨ j = 3) with rfl | rfl | rfl | rfl
  all_goals rfl
theorem ws_put4 {A : Ar} (hA : A = Ar.real) (lim : Lim) (v v' j : Nat) (hj : j < 4) {x : Int} (hx : x = lim v' j) (h : ∀ m, m ≠ j → lim v' m = lim v m) : lput (ws4 lim v) (A.offs 0 j 1) [.s .u64 x] = some (ws4 lim v') := by
  subst hA
  subst hx
  have h0 := h 0
  have h1 := h 1
  have h2 := h 2
  have h3 := h 3
  clear h
  rcases (by omega : j = 0 ∨ j = 1 ∨ j = 2 ∨ j = 3) with rfl | rfl | rfl | rfl
  all_goals
    unfold ws4
    try rw [h0 (by decide)]
    try rw [h1 (by decide)]
    try rw [h2 (by decide)]
    try rw [h3 (by decide)]
    rfl
theorem rBigL4 {lim : Lim} (hl : lim = limR) {row : List AVal} {k : Nat} (hk : k ≤ 140737488355328) (h : 8 * 4 < k) : Sp 62 [.lst true k row, .i .i64 4] (.tup [.new false 4 1 (ws4 lim 0), .i .i64 2]) := by
  have hz : ∀ j, lim 0 j = 0 := fun j => by rw [hl]; unfold limR; rw [Nat.zero_div]; rfl
  refine mk Try.func62 rfl rfl LN R0 (by decide +kernel) ?_
  intro A S hA hS
  unfold bodyOf Try.f62
  cbv
  have hc : A.cmp .gtr (A.len k) ((8 * 4 : Nat) : Int) = true := by rw [a_len hA]; exact (gtw hA).trans (decide_eq_true (by omega))
  refine ABr.t hc ?_
  cbv
  repeat' (first | exact (hz _).symm | exact trivial | exact rfl | constructor)
theorem rBig4 {lim : Lim} (hl : lim = limR) {row : List AVal} {bs : Nat → Nat} {k : Nat} (hrow : IsRowB row bs k) (hk : k ≤ 8 * 4) : Sp 62 [.lst true k row, .i .i64 4] (.tup [.new false 4 1 (ws4 lim (numB bs k)), .i .i64 0]) := by
  have hz : ∀ j, lim 0 j = 0 := fun j => by rw [hl]; unfold limR; rw [Nat.zero_div]; rfl
  obtain ⟨t, ht⟩ : ∃ t, t = numB bs k := ⟨_, rfl⟩
  obtain ⟨N, hN⟩ : ∃ N : Nat → Nat, N = fun i => t % 2 ^ (8 * i) := ⟨_, rfl⟩
  have hN0 : N 0 = 0 := by rw [hN]; show t % 2 ^ 0 = 0; rw [Nat.pow_zero, Nat.mod_one]
  have hNk : N k = t := by rw [hN, ht]; exact Nat.mod_eq_of_lt (Vb_lt k fun j _ => hrow.2.2 _)
  have hstep : ∀ i, i < k → lim (N (i + 1)) (i / 8) = lim (N i) (i / 8) + (bs (k - 1 - i) * 2 ^ (8 * (i % 8)) : Nat) ∧ (∀ j, j ≠ i / 8 → lim (N (i + 1)) j = lim (N i) j) ∧ (lim (N i) (i / 8)).toNat / 2 ^ (8 * (i % 8)) % 256 = 0 := by
    intro i hi
    have e : N (i + 1) = N i + bs (k - 1 - i) * 2 ^ (8 * i) := by
      rw [hN]; show t % 2 ^ (8 * (i + 1)) = t % 2 ^ (8 * i) + _
      rw [mod_byte, ht]
      congr 2
      exact Vb_dig k (fun j _ => hrow.2.2 _) i hi
    rw [e, hl]
    refine limR_byte (hrow.2.2 _) ?_
    rw [hN]; show t % 2 ^ (8 * i) / 2 ^ (8 * i) % 256 = 0
    rw [Nat.div_eq_of_lt (Nat.mod_lt _ (Nat.two_pow_pos _)), Nat.zero_mod]
  have le := fun x i => lim_range hl x i
  rw [← ht]
  clear hN ht
  refine mk Try.func62 rfl rfl LN R0 (by decide +kernel) ?_
  intro A S hA hS
  unfold bodyOf Try.f62
  cbv
  have hlen : A.len k = (k : Int) := a_len hA k
  have hc : A.cmp .gtr (A.len k) ((8 * 4 : Nat) : Int) = false := by rw [hlen]; exact (gtw hA).trans (decide_eq_false (by omega))
  refine ABr.f hc ?_
  cbv
  refine .inv (α := Nat) (fun i => ⟨[.lst true k row, .i .i64 4, .any, .any, .any, .i .i64 0, .osl false 0 0 4 1, .any, .any, .any, .any, .any, .any, .any, .any, .any, .any, .any, .s .i64 (A.len k), .s .i64 (i : Nat), .any, .any, .any, .any, .any, .any, .any, .any, .any, .any, .any, .any, .any, .any, .any, .any, .any, .any, .any, .any, .any, .any, .any, .any, .any], [⟨true, true, ws4 lim (N i)⟩]⟩) (fun i => i ≤ k) (fun i => k - i) 0 ?_ (Nat.zero_le _) ?_
  · rw [hN0]
    cbv
    repeat' (first | exact rfl | exact (hz _).symm | exact trivial | constructor)
  intro i hi
  have hlen : A.len k = (k : Int) := a_len hA k
  by_cases h : i < k
  · have hlt : A.cmp .lss (i : Int) (A.len k) = true := by rw [hlen]; exact (i_lt hA).trans (decide_eq_true (by omega))
    have hix : A.bin .sub .i64 (A.bin .sub .i64 (A.len k) 1) (i : Int) = ((k - 1 - i : Nat) : Int) := e_sub hA (e_sub hA hlen rfl rfl (by omega)) rfl (by omega) (by omega)
    have hjx : k - 1 - i < k := by omega
    have hquo : A.bin .quo .i64 (i : Int) 8 = ((i / 8 : Nat) : Int) := e_quo hA rfl rfl (by omega) (by omega) (by omega) (by omega)
    have hrem : A.wrap .u64 (A.bin .mul .i64 8 (A.bin .rem .i64 (i : Int) 8)) = ((8 * (i % 8) : Nat) : Int) := wrap_small hA (e_mul hA rfl (e_rem hA rfl rfl (z := ((i % 8 : Nat) : Int)) (by omega) (by omega)) (by omega) (by omega)) (by omega)
    have hok : A.okb .shl (A.wrap .u64 (A.bin .mul .i64 8 (A.bin .rem .i64 (i : Int) 8))) = true := by rw [hrem]; exact (a_okbS hA (by omega)).2
    have hnext : A.bin .add .i64 (i : Int) 1 = ((i + 1 : Nat) : Int) := e_add hA rfl rfl (by omega) (by omega)
    obtain ⟨w1, w2, w3⟩ := hstep i h
    have hor := orb hA (le (N i) (i / 8)) hrem (by omega) (hrow.2.2 (k - 1 - i)) w3
    rw [← w1, ← wrap_byte hA (hrow.2.2 (k - 1 - i))] at hor
    have hq : i / 8 < 4 := by omega
    have hget := ws_get4 hA lim (N i) (i / 8) hq
    have hput := ws_put4 hA lim (N i) (N (i + 1)) (i / 8) hq hor w2
    have hrd := hrow.2.1 _ hjx
    have hdec : k - (i + 1) < k - i := by omega
    have hle : i + 1 ≤ k := h
    obtain ⟨nx, hnx⟩ : ∃ nx, nx = i + 1 := ⟨_, rfl⟩
    rw [← hnx] at hnext hput hdec hle
    clear w1 w2 w3 hor hstep hrem hN0 hNk
    generalize i / 8 = q at *
    generalize k - 1 - i = jx at *
    cbv
    refine ABr.t hlt ?_
    cbv
    refine .sym q hquo hq ?_
    cbv
    refine .mk _ hget ?_
    cbv
    refine .mk _ hix hjx ?_
    cbv
    refine .mk _ hrd ?_
    cbv
    refine .mk hok ?_
    cbv
    refine .sym q hquo hq ?_
    cbv
    refine .mk _ hput ?_
    cbv
    refine ⟨nx, ?_, hle, hdec⟩
    cbv
    repeat' (first | exact hnext | exact trivial | exact rfl | constructor)
  · have hlt : A.cmp .lss (i : Int) (A.len k) = false := by rw [hlen]; exact (i_lt hA).trans (decide_eq_false (by omega))
    obtain rfl : i = k := by omega
    rw [← hNk]
    cbv
    refine ABr.f hlt ?_
    cbv
theorem ws_get6 {A : Ar} (hA : A = Ar.real) (lim : Lim) (v j : Nat) (hj : j < 6) : lsub (ws6 lim v) (A.offs 0 j 1) 1 = some [.s .u64 (lim v j)] := by
  subst hA
  rcases (by omega : j = 0 ∨ j = 1 ∨ j = 2 ∨ j = 3 ∨ j = 4 ∨ j = 5) with rfl | rfl | rfl | rfl | rfl | rfl
  all_goals rfl
theorem ws_put6 {A : Ar} (hA : A = Ar.real) (lim : Lim) (v v' j : Nat) (hj : j < 6) {x : Int} (hx : x = lim v' j) (h : ∀ m, m ≠ j → lim v' m = lim v m) : lput (ws6 lim v) (A.offs 0 j 1) [.s .u64 x] = some (ws6 lim v') := by
  subst hA
  subst hx
  have h0 := h 0
  have h1 := h 1
  have h2 := h 2
  have h3 := h 3
  have h4 := h 4
  have h5 := h 5
  clear h
  rcases (by omega : j = 0 ∨ j = 1 ∨ j = 2 ∨ j = 3 ∨ j = 4 ∨ j = 5) with rfl | rfl | rfl | rfl | rfl | rfl
  all_goals
    unfold ws6
    try rw [h0 (by decide)]
    try rw [h1 (by decide)]
    try rw [h2 (by decide)]
    try rw [h3 (by decide)]
    try rw [h4 (by decide)]
    try rw [h5 (by decide)]
    rfl
theorem rBigL6 {lim : Lim} (hl : lim = limR) {row : List AVal} {k : Nat} (hk : k ≤ 140737488355328) (h : 8 * 6 < k) : Sp 62 [.lst true k row, .i .i64 6] (.tup [.new false 6 1 (ws6 lim 0), .i .i64 2]) := by
  have hz : ∀ j, lim 0 j = 0 := fun j => by rw [hl]; unfold limR; rw [Nat.zero_div]; rfl
  refine mk Try.func62 rfl rfl LN R0 (by decide +kernel) ?_
  intro A S hA hS
  unfold bodyOf Try.f62
  cbv
  have hc : A.cmp .gtr (A.len k) ((8 * 6 : Nat) : Int) = true := by rw [a_len hA]; exact (gtw hA).trans (decide_eq_true (by omega))
  refine ABr.t hc ?_
  cbv
  repeat' (first | exact (hz _).symm | exact trivial | exact rfl | constructor)
theorem rBig6 {lim : Lim} (hl : lim = limR) {row : List AVal} {bs : Nat → Nat} {k : Nat} (hrow : IsRowB row bs k) (hk : k ≤ 8 * 6) : Sp 62 [.lst true k row, .i .i64 6] (.tup [.new false 6 1 (ws6 lim (numB bs k)), .i .i64 0]) := by
  have hz : ∀ j, lim 0 j = 0 := fun j => by rw [hl]; unfold limR; rw [Nat.zero_div]; rfl
  obtain ⟨t, ht⟩ : ∃ t, t = numB bs k := ⟨_, rfl⟩
  obtain ⟨N, hN⟩ : ∃ N : Nat → Nat, N = fun i => t % 2 ^ (8 * i) := ⟨_, rfl⟩
  have hN0 : N 0 = 0 := by rw [hN]; show t % 2 ^ 0 = 0; rw [Nat.pow_zero, Nat.mod_one]
  have hNk : N k = t := by rw [hN, ht]; exact Nat.mod_eq_of_lt (Vb_lt k fun j _ => hrow.2.2 _)
  have hstep : ∀ i, i < k → lim (N (i + 1)) (i / 8) = lim (N i) (i / 8) + (bs (k - 1 - i) * 2 ^ (8 * (i % 8)) : Nat) ∧ (∀ j, j ≠ i / 8 → lim (N (i + 1)) j = lim (N i) j) ∧ (lim (N i) (i / 8)).toNat / 2 ^ (8 * (i % 8)) % 256 = 0 := by
    intro i hi
    have e : N (i + 1) = N i + bs (k - 1 - i) * 2 ^ (8 * i) := by
      rw [hN]; show t % 2 ^ (8 * (i + 1)) = t % 2 ^ (8 * i) + _
      rw [mod_byte, ht]
      congr 2
      exact Vb_dig k (fun j _ => hrow.2.2 _) i hi
    rw [e, hl]
    refine limR_byte (hrow.2.2 _) ?_
    rw [hN]; show t % 2 ^ (8 * i) / 2 ^ (8 * i) % 256 = 0
    rw [Nat.div_eq_of_lt (Nat.mod_lt _ (Nat.two_pow_pos _)), Nat.zero_mod]
  have le := fun x i => lim_range hl x i
  rw [← ht]
  clear hN ht
  refine mk Try.func62 rfl rfl LN R0 (by decide +kernel) ?_
  intro A S hA hS
  unfold bodyOf Try.f62
  cbv
  have hlen : A.len k = (k : Int) := a_len hA k
  have hc : A.cmp .gtr (A.len k) ((8 * 6 : Nat) : Int) = false := by rw [hlen]; exact (gtw hA).trans (decide_eq_false (by omega))
  refine ABr.f hc ?_
  cbv
  refine .inv (α := Nat) (fun i => ⟨[.lst true k row, .i .i64 6, .any, .any, .any, .i .i64 0, .osl false 0 0 6 1, .any, .any, .any, .any, .any, .any, .any, .any, .any, .any, .any, .s .i64 (A.len k), .s .i64 (i : Nat), .any, .any, .any, .any, .any, .any, .any, .any, .any, .any, .any, .any, .any, .any, .any, .any, .any, .any, .any, .any, .any, .any, .any, .any, .any], [⟨true, true, ws6 lim (N i)⟩]⟩) (fun i => i ≤ k) (fun i => k - i) 0 ?_ (Nat.zero_le _) ?_
  · rw [hN0]
    cbv
    repeat' (first | exact rfl | exact (hz _).symm | exact trivial | constructor)
  intro i hi
  have hlen : A.len k = (k : Int) := a_len hA k
  by_cases h : i < k
  · have hlt : A.cmp .lss (i : Int) (A.len k) = true := by rw [hlen]; exact (i_lt hA).trans (decide_eq_true (by omega))
    have hix : A.bin .sub .i64 (A.bin .sub .i64 (A.len k) 1) (i : Int) = ((k - 1 - i : Nat) : Int) := e_sub hA (e_sub hA hlen rfl rfl (by omega)) rfl (by omega) (by omega)
    have hjx : k - 1 - i < k := by omega
    have hquo : A.bin .quo .i64 (i : Int) 8 = ((i / 8 : Nat) : Int) := e_quo hA rfl rfl (by omega) (by omega) (by omega) (by omega)
    have hrem : A.wrap .u64 (A.bin .mul .i64 8 (A.bin .rem .i64 (i : Int) 8)) = ((8 * (i % 8) : Nat) : Int) := wrap_small hA (e_mul hA rfl (e_rem hA rfl rfl (z := ((i % 8 : Nat) : Int)) (by omega) (by omega)) (by omega) (by omega)) (by omega)
    have hok : A.okb .shl (A.wrap .u64 (A.bin .mul .i64 8 (A.bin .rem .i64 (i : Int) 8))) = true := by rw [hrem]; exact (a_okbS hA (by omega)).2
    have hnext : A.bin .add .i64 (i : Int) 1 = ((i + 1 : Nat) : Int) := e_add hA rfl rfl (by omega) (by omega)
    obtain ⟨w1, w2, w3⟩ := hstep i h
    have hor := orb hA (le (N i) (i / 8)) hrem (by omega) (hrow.2.2 (k - 1 - i)) w3
    rw [← w1, ← wrap_byte hA (hrow.2.2 (k - 1 - i))] at hor
    have hq : i / 8 < 6 := by omega
    have hget := ws_get6 hA lim (N i) (i / 8) hq
    have hput := ws_put6 hA lim (N i) (N (i + 1)) (i / 8) hq hor w2
    have hrd := hrow.2.1 _ hjx
    have hdec : k - (i + 1) < k - i := by omega
    have hle : i + 1 ≤ k := h
    obtain ⟨nx, hnx⟩ : ∃ nx, nx = i + 1 := ⟨_, rfl⟩
    rw [← hnx] at hnext hput hdec hle
    clear w1 w2 w3 hor hstep hrem hN0 hNk
    generalize i / 8 = q at *
    generalize k - 1 - i = jx at *
    cbv
    refine ABr.t hlt ?_
    cbv
    refine .sym q hquo hq ?_
    cbv
    refine .mk _ hget ?_
    cbv
    refine .mk _ hix hjx ?_
    cbv
    refine .mk _ hrd ?_
    cbv
    refine .mk hok ?_
    cbv
    refine .sym q hquo hq ?_
    cbv
    refine .mk _ hput ?_
    cbv
    refine ⟨nx, ?_, hle, hdec⟩
    cbv
    repeat' (first | exact hnext | exact trivial | exact rfl | constructor)
  · have hlt : A.cmp .lss (i : Int) (A.len k) = false := by rw [hlen]; exact (i_lt hA).trans (decide_eq_false (by omega))
    obtain rfl : i = k := by omega
    rw [← hNk]
    cbv
    refine ABr.f hlt ?_
    cbv
end Go.Proofs.Ytlmlganfjnokiaa
