import Derived.Test.YtmholgclgamnnaaGreatQYBN
set_option linter.unusedVariables false
set_option linter.unusedSimpArgs false
namespace Go.Proofs.YtmholgclgamnnaaGreat
open Go Eng
set_option maxRecDepth 100000
set_option exponentiation.threshold 2000
set_option maxHeartbeats 4000000
theorem bigS4 {lim : Lim} (hl : lim = limR) {row : List AVal} {bs : Nat → Nat} {k : Nat} (hrow : IsRowB row bs k) (hk : k ≤ 8 * 4) : Sp 179 [.lst true k row] (.tup [u4 lim (numB bs k), .i .i64 0]) := by
  have hz : ∀ j, lim 0 j = 0 := fun j => by rw [hl]; unfold limR; rw [Nat.zero_div]; rfl
  obtain ⟨t, ht⟩ : ∃ t, t = numB bs k := ⟨_, rfl⟩
  obtain ⟨N, hN⟩ : ∃ N : Nat → Nat, N = fun i => 2 ^ (8 * (k - i)) * (t / 2 ^ (8 * (k - i))) := ⟨_, rfl⟩
  have hN0 : N 0 = 0 := by
    rw [hN]; show 2 ^ (8 * (k - 0)) * (t / 2 ^ (8 * (k - 0))) = 0
    rw [Nat.sub_zero, Nat.div_eq_of_lt (by rw [ht]; exact Vb_lt k fun j _ => hrow.2.2 _), Nat.mul_zero]
  have hNk : N k = t := by
    rw [hN]; show 2 ^ (8 * (k - k)) * (t / 2 ^ (8 * (k - k))) = t
    rw [Nat.sub_self, Nat.mul_zero, Nat.pow_zero, Nat.div_one, Nat.one_mul]
  have hstep : ∀ i, i < k → ∀ p, p = k - 1 - i → lim (N (i + 1)) (p / 8) = lim (N i) (p / 8) + (bs i * 2 ^ (8 * (p % 8)) : Nat) ∧ (∀ j, j ≠ p / 8 → lim (N (i + 1)) j = lim (N i) j) ∧ (lim (N i) (p / 8)).toNat / 2 ^ (8 * (p % 8)) % 256 = 0 := by
    intro i hi p hp
    have hdig : t / 2 ^ (8 * p) % 256 = bs i := by
      rw [ht]; exact (Vb_dig k (fun j _ => hrow.2.2 _) p (by omega)).trans (congrArg bs (by omega))
    have e : N (i + 1) = N i + bs i * 2 ^ (8 * p) := by
      rw [hN]; show 2 ^ (8 * (k - (i + 1))) * (t / 2 ^ (8 * (k - (i + 1)))) = 2 ^ (8 * (k - i)) * (t / 2 ^ (8 * (k - i))) + _
      rw [show k - (i + 1) = p by omega, show k - i = p + 1 by omega, top_byte, hdig]
    rw [e, hl]
    refine limR_byte (hrow.2.2 _) ?_
    rw [hN]; show 2 ^ (8 * (k - i)) * (t / 2 ^ (8 * (k - i))) / 2 ^ (8 * p) % 256 = 0
    rw [show k - i = p + 1 by omega, show 2 ^ (8 * (p + 1)) * (t / 2 ^ (8 * (p + 1))) = 2 ^ (8 * p) * (256 * (t / 2 ^ (8 * (p + 1)))) by
      rw [show 8 * (p + 1) = 8 * p + 8 by omega, Nat.pow_add, Nat.mul_assoc], Nat.mul_div_cancel_left _ (Nat.two_pow_pos _), Nat.mul_mod_right]
  have le := fun x i => lim_range hl x i
  rw [← ht]
  clear hN ht
  refine mk Tryz.func179 rfl rfl LN R0 (by decide +kernel) ?_
  intro A S hA hS
  unfold bodyOf Tryz.f179
  cbv
  have hlen : A.len k = (k : Int) := a_len hA k
  have hc : A.cmp .gtr (A.len k) ((8 * 4 : Nat) : Int) = false := by rw [hlen]; exact (gtw hA).trans (decide_eq_false (by omega))
  refine ABr.f hc ?_
  cbv
  refine .inv (α := Nat) (fun i => ⟨[.lst true k row, .any, .own 0 0, .i .i64 0, .own 1 0, .any, .any, .any, .any, .any, .any, .any, .any, .any, .any, .lst true k row, .s .i64 (A.len k), .s .i64 (i : Nat), .any, .any, .any, .any, .any, .any, .any, .any, .any, .any, .any, .any, .any, .any, .any, .any, .any, .any, .any, .any, .any, .any, .any], [⟨true, true, [.i .u64 0, .i .u64 0, .i .u64 0, .i .u64 0]⟩, ⟨true, true, ws4 lim (N i)⟩]⟩) (fun i => i ≤ k) (fun i => k - i) 0 ?_ (Nat.zero_le _) ?_
  · rw [hN0]
    cbv
    repeat' (first | exact rfl | exact (hz _).symm | exact trivial | constructor)
  intro i hi
  have hlen : A.len k = (k : Int) := a_len hA k
  by_cases h : i < k
  · have hlt : A.cmp .lss (i : Int) (A.len k) = true := by rw [hlen]; exact (i_lt hA).trans (decide_eq_true (by omega))
    have hix : A.bin .sub .i64 (A.bin .sub .i64 (A.len k) 1) (i : Int) = ((k - 1 - i : Nat) : Int) := e_sub hA (e_sub hA hlen rfl rfl (by omega)) rfl (by omega) (by omega)
    obtain ⟨p, hp⟩ : ∃ p, p = k - 1 - i := ⟨_, rfl⟩
    rw [← hp] at hix
    have hquo : A.bin .quo .i64 (A.bin .sub .i64 (A.bin .sub .i64 (A.len k) 1) (i : Int)) 8 = ((p / 8 : Nat) : Int) := e_quo hA hix rfl (by omega) (by omega) (by omega) (by omega)
    have hrem : A.bin .mul .i64 8 (A.bin .rem .i64 (A.bin .sub .i64 (A.bin .sub .i64 (A.len k) 1) (i : Int)) 8) = ((8 * (p % 8) : Nat) : Int) := e_mul hA rfl (e_rem hA hix rfl (z := ((p % 8 : Nat) : Int)) (by omega) (by omega)) (by omega) (by omega)
    have hok : A.okb .shl (A.bin .mul .i64 8 (A.bin .rem .i64 (A.bin .sub .i64 (A.bin .sub .i64 (A.len k) 1) (i : Int)) 8)) = true := by rw [hrem]; exact (a_okbS hA (by omega)).2
    have hnext : A.bin .add .i64 (i : Int) 1 = ((i + 1 : Nat) : Int) := e_add hA rfl rfl (by omega) (by omega)
    obtain ⟨w1, w2, w3⟩ := hstep i h p hp
    have hor := orb hA (le (N i) (p / 8)) hrem (by omega) (hrow.2.2 i) w3
    rw [← w1, ← wrap_byte hA (hrow.2.2 i)] at hor
    have hq : p / 8 < 4 := by omega
    have hget := ws_get4 hA lim (N i) (p / 8) hq
    have hput := ws_put4 hA lim (N i) (N (i + 1)) (p / 8) hq hor w2
    have hrd := hrow.2.1 i h
    have hdec : k - (i + 1) < k - i := by omega
    have hle : i + 1 ≤ k := h
    obtain ⟨nx, hnx⟩ : ∃ nx, nx = i + 1 := ⟨_, rfl⟩
    rw [← hnx] at hnext hput hdec hle
    clear w1 w2 w3 hor hstep hrem hN0 hNk hix hp
    generalize p / 8 = q at *
    cbv
    refine ABr.t hlt ?_
    cbv
    refine .mk i rfl h ?_
    cbv
    refine .mk _ hrd ?_
    cbv
    refine .sym q hquo hq ?_
    cbv
    refine .mk _ hget ?_
    cbv
    refine .mk hok ?_
    cbv
    refine .sym q hquo hq ?_
    cbv
    refine .mk _ hput ?_
    cbv
    refine ⟨nx, ?_, hle, hdec⟩
    cbv
    repeat' (first | exact hnext | exact trivial | exact rfl | constructor)
  · have hlt : A.cmp .lss (i : Int) (A.len k) = false := by rw [hlen]; exact (i_lt hA).trans (decide_eq_false (by omega))
    obtain rfl : i = k := by omega
    rw [← hNk]
    cbv
    refine ABr.f hlt ?_
    cbv
theorem bigS6 {lim : Lim} (hl : lim = limR) {row : List AVal} {bs : Nat → Nat} {k : Nat} (hrow : IsRowB row bs k) (hk : k ≤ 8 * 6) : Sp 142 [.lst true k row] (.tup [u6 lim (numB bs k), .i .i64 0]) := by
  have hz : ∀ j, lim 0 j = 0 := fun j => by rw [hl]; unfold limR; rw [Nat.zero_div]; rfl
  obtain ⟨t, ht⟩ : ∃ t, t = numB bs k := ⟨_, rfl⟩
  obtain ⟨N, hN⟩ : ∃ N : Nat → Nat, N = fun i => 2 ^ (8 * (k - i)) * (t / 2 ^ (8 * (k - i))) := ⟨_, rfl⟩
  have hN0 : N 0 = 0 := by
    rw [hN]; show 2 ^ (8 * (k - 0)) * (t / 2 ^ (8 * (k - 0))) = 0
    rw [Nat.sub_zero, Nat.div_eq_of_lt (by rw [ht]; exact Vb_lt k fun j _ => hrow.2.2 _), Nat.mul_zero]
  have hNk : N k = t := by
    rw [hN]; show 2 ^ (8 * (k - k)) * (t / 2 ^ (8 * (k - k))) = t
    rw [Nat.sub_self, Nat.mul_zero, Nat.pow_zero, Nat.div_one, Nat.one_mul]
  have hstep : ∀ i, i < k → ∀ p, p = k - 1 - i → lim (N (i + 1)) (p / 8) = lim (N i) (p / 8) + (bs i * 2 ^ (8 * (p % 8)) : Nat) ∧ (∀ j, j ≠ p / 8 → lim (N (i + 1)) j = lim (N i) j) ∧ (lim (N i) (p / 8)).toNat / 2 ^ (8 * (p % 8)) % 256 = 0 := by
    intro i hi p hp
    have hdig : t / 2 ^ (8 * p) % 256 = bs i := by
      rw [ht]; exact (Vb_dig k (fun j _ => hrow.2.2 _) p (by omega)).trans (congrArg bs (by omega))
    have e : N (i + 1) = N i + bs i * 2 ^ (8 * p) := by
      rw [hN]; show 2 ^ (8 * (k - (i + 1))) * (t / 2 ^ (8 * (k - (i + 1)))) = 2 ^ (8 * (k - i)) * (t / 2 ^ (8 * (k - i))) + _
      rw [show k - (i + 1) = p by omega, show k - i = p + 1 by omega, top_byte, hdig]
    rw [e, hl]
    refine limR_byte (hrow.2.2 _) ?_
    rw [hN]; show 2 ^ (8 * (k - i)) * (t / 2 ^ (8 * (k - i))) / 2 ^ (8 * p) % 256 = 0
    rw [show k - i = p + 1 by omega, show 2 ^ (8 * (p + 1)) * (t / 2 ^ (8 * (p + 1))) = 2 ^ (8 * p) * (256 * (t / 2 ^ (8 * (p + 1)))) by
      rw [show 8 * (p + 1) = 8 * p + 8 by omega, Nat.pow_add, Nat.mul_assoc], Nat.mul_div_cancel_left _ (Nat.two_pow_pos _), Nat.mul_mod_right]
  have le := fun x i => lim_range hl x i
  rw [← ht]
  clear hN ht
  refine mk Tryz.func142 rfl rfl LN R0 (by decide +kernel) ?_
  intro A S hA hS
  unfold bodyOf Tryz.f142
  cbv
  have hlen : A.len k = (k : Int) := a_len hA k
  have hc : A.cmp .gtr (A.len k) ((8 * 6 : Nat) : Int) = false := by rw [hlen]; exact (gtw hA).trans (decide_eq_false (by omega))
  refine ABr.f hc ?_
  cbv
  refine .inv (α := Nat) (fun i => ⟨[.lst true k row, .any, .own 0 0, .i .i64 0, .own 1 0, .any, .any, .any, .any, .any, .any, .any, .any, .any, .any, .lst true k row, .s .i64 (A.len k), .s .i64 (i : Nat), .any, .any, .any, .any, .any, .any, .any, .any, .any, .any, .any, .any, .any, .any, .any, .any, .any, .any, .any, .any, .any, .any, .any], [⟨true, true, [.i .u64 0, .i .u64 0, .i .u64 0, .i .u64 0, .i .u64 0, .i .u64 0]⟩, ⟨true, true, ws6 lim (N i)⟩]⟩) (fun i => i ≤ k) (fun i => k - i) 0 ?_ (Nat.zero_le _) ?_
  · rw [hN0]
    cbv
    repeat' (first | exact rfl | exact (hz _).symm | exact trivial | constructor)
  intro i hi
  have hlen : A.len k = (k : Int) := a_len hA k
  by_cases h : i < k
  · have hlt : A.cmp .lss (i : Int) (A.len k) = true := by rw [hlen]; exact (i_lt hA).trans (decide_eq_true (by omega))
    have hix : A.bin .sub .i64 (A.bin .sub .i64 (A.len k) 1) (i : Int) = ((k - 1 - i : Nat) : Int) := e_sub hA (e_sub hA hlen rfl rfl (by omega)) rfl (by omega) (by omega)
    obtain ⟨p, hp⟩ : ∃ p, p = k - 1 - i := ⟨_, rfl⟩
    rw [← hp] at hix
    have hquo : A.bin .quo .i64 (A.bin .sub .i64 (A.bin .sub .i64 (A.len k) 1) (i : Int)) 8 = ((p / 8 : Nat) : Int) := e_quo hA hix rfl (by omega) (by omega) (by omega) (by omega)
    have hrem : A.bin .mul .i64 8 (A.bin .rem .i64 (A.bin .sub .i64 (A.bin .sub .i64 (A.len k) 1) (i : Int)) 8) = ((8 * (p % 8) : Nat) : Int) := e_mul hA rfl (e_rem hA hix rfl (z := ((p % 8 : Nat) : Int)) (by omega) (by omega)) (by omega) (by omega)
    have hok : A.okb .shl (A.bin .mul .i64 8 (A.bin .rem .i64 (A.bin .sub .i64 (A.bin .sub .i64 (A.len k) 1) (i : Int)) 8)) = true := by rw [hrem]; exact (a_okbS hA (by omega)).2
    have hnext : A.bin .add .i64 (i : Int) 1 = ((i + 1 : Nat) : Int) := e_add hA rfl rfl (by omega) (by omega)
    obtain ⟨w1, w2, w3⟩ := hstep i h p hp
    have hor := orb hA (le (N i) (p / 8)) hrem (by omega) (hrow.2.2 i) w3
    rw [← w1, ← wrap_byte hA (hrow.2.2 i)] at hor
    have hq : p / 8 < 6 := by omega
    have hget := ws_get6 hA lim (N i) (p / 8) hq
    have hput := ws_put6 hA lim (N i) (N (i + 1)) (p / 8) hq hor w2
    have hrd := hrow.2.1 i h
    have hdec : k - (i + 1) < k - i := by omega
    have hle : i + 1 ≤ k := h
    obtain ⟨nx, hnx⟩ : ∃ nx, nx = i + 1 := ⟨_, rfl⟩
    rw [← hnx] at hnext hput hdec hle
    clear w1 w2 w3 hor hstep hrem hN0 hNk hix hp
    generalize p / 8 = q at *
    cbv
    refine ABr.t hlt ?_
    cbv
    refine .mk i rfl h ?_
    cbv
    refine .mk _ hrd ?_
    cbv
    refine .sym q hquo hq ?_
    cbv
    refine .mk _ hget ?_
    cbv
    refine .mk hok ?_
    cbv
    refine .sym q hquo hq ?_
    cbv
    refine .mk _ hput ?_
    cbv
    refine ⟨nx, ?_, hle, hdec⟩
    cbv
    repeat' (first | exact hnext | exact trivial | exact rfl | constructor)
  · have hlt : A.cmp .lss (i : Int) (A.len k) = false := by rw [hlen]; exact (i_lt hA).trans (decide_eq_false (by omega))
    obtain rfl : i = k := by omega
    rw [← hNk]
    cbv
    refine ABr.f hlt ?_
    cbv
end Go.Proofs.YtmholgclgamnnaaGreat
