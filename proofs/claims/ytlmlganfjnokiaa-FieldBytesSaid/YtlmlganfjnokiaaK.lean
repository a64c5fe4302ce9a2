import Derived.Test.YtlmlganfjnokiaaJ
set_option linter.unusedVariables false
set_option linter.unusedSimpArgs false
namespace Go.Proofs.Ytlmlganfjnokiaa
open Go Eng
set_option maxRecDepth 100000
set_option exponentiation.threshold 2000

theorem limR_half (n i : Nat) : limR (n / 2) i = limR n i / 2 + 9223372036854775808 * (limR n (i + 1) % 2) := by
  unfold limR
  obtain ⟨q, hq⟩ : ∃ q, q = n / 2 ^ (64 * i) := ⟨_, rfl⟩
  have h1 : n / 2 / 2 ^ (64 * i) = q / 2 := by rw [hq, Nat.div_div_eq_div_mul, Nat.mul_comm 2, ← Nat.div_div_eq_div_mul]
  have h2 : n / 2 ^ (64 * (i + 1)) = q / 18446744073709551616 := by rw [hq, Nat.div_div_eq_div_mul, show (18446744073709551616 : Nat) = 2 ^ 64 from rfl, ← Nat.pow_add]; rfl
  rw [h1, h2, ← hq]
  omega
/-- A word's half, and the bit above. -/
theorem half_word {A : Ar} (hA : A = Ar.real) {x y : Int} (hx : 0 ≤ x ∧ x < 18446744073709551616) (hy : 0 ≤ y ∧ y < 18446744073709551616) : A.bin .or .u64 (A.bin .shr .u64 x 1) (A.bin .shl .u64 (A.bin .and .u64 y 1) 63) = x / 2 + 9223372036854775808 * (y % 2) := by
  obtain ⟨a, rfl⟩ : ∃ n : Nat, x = n := ⟨x.toNat, by omega⟩
  obtain ⟨b, rfl⟩ : ∃ n : Nat, y = n := ⟨y.toNat, by omega⟩
  rw [hA]
  show rbin .or .u64 (rbin .shr .u64 (Int.ofNat a) (Int.ofNat 1)) (rbin .shl .u64 (rbin .and .u64 (Int.ofNat b) (Int.ofNat 1)) (Int.ofNat 63)) = _
  rw [u_shr a 1 (by omega), show (Int.ofNat 1) = Int.ofNat (2 ^ 1 - 1) from rfl, u_mask b 1 (by omega) (by omega), u_shl _ 63 (by omega), Nat.mod_eq_of_lt (by omega), Nat.mul_comm (b % 2 ^ 1), u_or_add _ _ 63 (by omega) (by omega) (by omega)]
  show ((a / 2 ^ 1 + 2 ^ 63 * (b % 2 ^ 1) : Nat) : Int) = _
  omega
theorem half_top {A : Ar} (hA : A = Ar.real) {x y : Int} (hx : 0 ≤ x ∧ x < 18446744073709551616) (hy : y = 0 ∨ y = 1) : A.bin .or .u64 (A.bin .shr .u64 x 1) (A.bin .shl .u64 y 63) = x / 2 + 9223372036854775808 * y := by
  obtain ⟨a, rfl⟩ : ∃ n : Nat, x = n := ⟨x.toNat, by omega⟩
  obtain ⟨b, rfl⟩ : ∃ n : Nat, y = n := ⟨y.toNat, by omega⟩
  rw [hA]
  show rbin .or .u64 (rbin .shr .u64 (Int.ofNat a) (Int.ofNat 1)) (rbin .shl .u64 (Int.ofNat b) (Int.ofNat 63)) = _
  rw [u_shr a 1 (by omega), u_shl _ 63 (by omega), Nat.mod_eq_of_lt (by omega), Nat.mul_comm b, u_or_add _ _ 63 (by omega) (by omega) (by omega)]
  show ((a / 2 ^ 1 + 2 ^ 63 * b : Nat) : Int) = _
  omega
/-- Half of a number modulo m. -/
def hv (m a : Nat) : Nat := if a % 2 = 0 then a / 2 else (a + m) / 2
theorem half_lim4 {lim : Lim} (hl : lim = limR) {a top : Nat} (ha : a < 2 ^ 256) (ht : top ≤ 1) :
    lim a 0 / 2 + 9223372036854775808 * (lim a 1 % 2) = lim ((a + 2 ^ 256 * top) / 2) 0 ∧ lim a 1 / 2 + 9223372036854775808 * (lim a 2 % 2) = lim ((a + 2 ^ 256 * top) / 2) 1 ∧ lim a 2 / 2 + 9223372036854775808 * (lim a 3 % 2) = lim ((a + 2 ^ 256 * top) / 2) 2 ∧ lim a (4 - 1) / 2 + 9223372036854775808 * (top : Int) = lim ((a + 2 ^ 256 * top) / 2) (4 - 1) := by
  subst hl
  have e : ∀ i, i < 4 → limR (a + 2 ^ 256 * top) i = limR a i := by
    intro i hi
    unfold limR
    congr 1
    rw [show 2 ^ 256 * top = 2 ^ (64 * i) * (2 ^ 64 * (2 ^ (256 - 64 * i - 64) * top)) by
      rw [← Nat.mul_assoc, ← Nat.mul_assoc, ← Nat.pow_add, ← Nat.pow_add]; congr 2; omega]
    rw [Nat.add_mul_div_left _ _ (Nat.two_pow_pos _), Nat.add_mul_mod_self_left]
  have e4 : limR (a + 2 ^ 256 * top) 4 = (top : Int) := by
    unfold limR
    congr 1
    show (a + 2 ^ 256 * top) / 2 ^ 256 % 2 ^ 64 = top
    rw [Nat.add_mul_div_left _ _ (Nat.two_pow_pos _), Nat.div_eq_of_lt ha]
    omega
  have et : (top : Int) % 2 = top := by omega
  refine ⟨?_, ?_, ?_, ?_⟩
  all_goals rw [limR_half]
  · rw [e 0 (by omega), e 1 (by omega)]
  · rw [e 1 (by omega), e 2 (by omega)]
  · rw [e 2 (by omega), e 3 (by omega)]
  · rw [e (4 - 1) (by omega), e4, et]
theorem halfS4 {lim : Lim} (hl : lim = limR) {a top h : Nat} (ha : a < 2 ^ 256) (ht : top ≤ 1) (hh : h = (a + 2 ^ 256 * top) / 2) : Sp 102 [u4 lim a, .s .u64 top] (u4 lim h) := by
  have la := fun i => lim_range hl a i
  have hf := half_lim4 hl ha ht
  rw [← hh] at hf
  obtain ⟨h0, h1, h2, h3⟩ := hf
  have ht' : (top : Int) = 0 ∨ (top : Int) = 1 := by omega
  refine mk Try.func102 rfl rfl L0 R1 (by decide +kernel) fun A S hA hS => ?_
  unfold bodyOf Try.f102
  cbv
  exact ⟨(half_word hA (la 0) (la 1)).trans h0, (half_word hA (la 1) (la 2)).trans h1, (half_word hA (la 2) (la 3)).trans h2, (half_top hA (la (4 - 1)) ht').trans h3⟩
theorem even_lim4 {A : Ar} (hA : A = Ar.real) {lim : Lim} (hl : lim = limR) (a : Nat) : A.cmp .eql (A.bin .and .u64 (lim a 0) 1) 0 = decide (a % 2 = 0) := by
  rw [lim_mod hl, hA]
  show rcmp .eql (rbin .and .u64 (Int.ofNat (a % 18446744073709551616)) (Int.ofNat (2 ^ 1 - 1))) 0 = _
  rw [u_mask _ 1 (by omega) (by omega)]
  show ((Int.ofNat (a % 18446744073709551616 % 2 ^ 1)) == (0 : Int)) = _
  by_cases h : a % 2 = 0
  · rw [decide_eq_true h, show a % 18446744073709551616 % 2 ^ 1 = 0 by omega]; rfl
  · rw [decide_eq_false h, show a % 18446744073709551616 % 2 ^ 1 = 1 by omega]; rfl
theorem halvedS4 {lim : Lim} (hl : lim = limR) {m inv : Nat} (hR : Mod 256 m) (fast one two a h : Nat) (ha : a < m) (hh : h = hv m a) :
    Sp 103 [.ref (ring4 lim m inv fast one two) 0, u4 lim a] (u4 lim h) := by
  have hm := hR.lt
  refine mk Try.func103 rfl rfl L0 R1 (by decide +kernel) fun A S hA hS => ?_
  unfold bodyOf Try.f103
  cbv
  have e := even_lim4 hA hl a
  unfold hv at hh
  by_cases h2 : a % 2 = 0
  · rw [decide_eq_true h2] at e
    rw [if_pos h2] at hh
    refine ABr.t e ?_
    cbv
    refine ACall.mk (u4 lim h) (cg hS (halfS4 hl (a := a) (top := 0) (by omega) (by omega) (by omega)) (by cbv)) ?_
    cbv
  · rw [decide_eq_false h2] at e
    rw [if_neg h2] at hh
    refine ABr.f e ?_
    cbv
    obtain ⟨s, hs⟩ : ∃ s, s = (a + m) % 2 ^ 256 := ⟨_, rfl⟩
    obtain ⟨c, hc⟩ : ∃ s, s = (a + m) / 2 ^ 256 := ⟨_, rfl⟩
    refine ACall.mk (.tup [u4 lim s, .s .u64 c]) (cf hS (plus4 hl a m s c (by omega) (by omega) (by omega) (by omega))) ?_
    cbv
    refine ACall.mk (u4 lim h) (cf hS (halfS4 hl (a := s) (top := c) (by omega) (by omega) (by omega))) ?_
    cbv
theorem half_lim6 {lim : Lim} (hl : lim = limR) {a top : Nat} (ha : a < 2 ^ 384) (ht : top ≤ 1) :
    lim a 0 / 2 + 9223372036854775808 * (lim a 1 % 2) = lim ((a + 2 ^ 384 * top) / 2) 0 ∧ lim a 1 / 2 + 9223372036854775808 * (lim a 2 % 2) = lim ((a + 2 ^ 384 * top) / 2) 1 ∧ lim a 2 / 2 + 9223372036854775808 * (lim a 3 % 2) = lim ((a + 2 ^ 384 * top) / 2) 2 ∧ lim a 3 / 2 + 9223372036854775808 * (lim a 4 % 2) = lim ((a + 2 ^ 384 * top) / 2) 3 ∧ lim a 4 / 2 + 9223372036854775808 * (lim a 5 % 2) = lim ((a + 2 ^ 384 * top) / 2) 4 ∧ lim a (6 - 1) / 2 + 9223372036854775808 * (top : Int) = lim ((a + 2 ^ 384 * top) / 2) (6 - 1) := by
  subst hl
  have e : ∀ i, i < 6 → limR (a + 2 ^ 384 * top) i = limR a i := by
    intro i hi
    unfold limR
    congr 1
    rw [show 2 ^ 384 * top = 2 ^ (64 * i) * (2 ^ 64 * (2 ^ (384 - 64 * i - 64) * top)) by
      rw [← Nat.mul_assoc, ← Nat.mul_assoc, ← Nat.pow_add, ← Nat.pow_add]; congr 2; omega]
    rw [Nat.add_mul_div_left _ _ (Nat.two_pow_pos _), Nat.add_mul_mod_self_left]
  have e4 : limR (a + 2 ^ 384 * top) 6 = (top : Int) := by
    unfold limR
    congr 1
    show (a + 2 ^ 384 * top) / 2 ^ 384 % 2 ^ 64 = top
    rw [Nat.add_mul_div_left _ _ (Nat.two_pow_pos _), Nat.div_eq_of_lt ha]
    omega
  have et : (top : Int) % 2 = top := by omega
  refine ⟨?_, ?_, ?_, ?_, ?_, ?_⟩
  all_goals rw [limR_half]
  · rw [e 0 (by omega), e 1 (by omega)]
  · rw [e 1 (by omega), e 2 (by omega)]
  · rw [e 2 (by omega), e 3 (by omega)]
  · rw [e 3 (by omega), e 4 (by omega)]
  · rw [e 4 (by omega), e 5 (by omega)]
  · rw [e (6 - 1) (by omega), e4, et]
theorem halfS6 {lim : Lim} (hl : lim = limR) {a top h : Nat} (ha : a < 2 ^ 384) (ht : top ≤ 1) (hh : h = (a + 2 ^ 384 * top) / 2) : Sp 106 [u6 lim a, .s .u64 top] (u6 lim h) := by
  have la := fun i => lim_range hl a i
  have hf := half_lim6 hl ha ht
  rw [← hh] at hf
  obtain ⟨h0, h1, h2, h3, h4, h5⟩ := hf
  have ht' : (top : Int) = 0 ∨ (top : Int) = 1 := by omega
  refine mk Try.func106 rfl rfl L0 R1 (by decide +kernel) fun A S hA hS => ?_
  unfold bodyOf Try.f106
  cbv
  exact ⟨(half_word hA (la 0) (la 1)).trans h0, (half_word hA (la 1) (la 2)).trans h1, (half_word hA (la 2) (la 3)).trans h2, (half_word hA (la 3) (la 4)).trans h3, (half_word hA (la 4) (la 5)).trans h4, (half_top hA (la (6 - 1)) ht').trans h5⟩
theorem even_lim6 {A : Ar} (hA : A = Ar.real) {lim : Lim} (hl : lim = limR) (a : Nat) : A.cmp .eql (A.bin .and .u64 (lim a 0) 1) 0 = decide (a % 2 = 0) := by
  rw [lim_mod hl, hA]
  show rcmp .eql (rbin .and .u64 (Int.ofNat (a % 18446744073709551616)) (Int.ofNat (2 ^ 1 - 1))) 0 = _
  rw [u_mask _ 1 (by omega) (by omega)]
  show ((Int.ofNat (a % 18446744073709551616 % 2 ^ 1)) == (0 : Int)) = _
  by_cases h : a % 2 = 0
  · rw [decide_eq_true h, show a % 18446744073709551616 % 2 ^ 1 = 0 by omega]; rfl
  · rw [decide_eq_false h, show a % 18446744073709551616 % 2 ^ 1 = 1 by omega]; rfl
theorem halvedS6 {lim : Lim} (hl : lim = limR) {m inv : Nat} (hR : Mod 384 m) (fast one two a h : Nat) (ha : a < m) (hh : h = hv m a) :
    Sp 107 [.ref (ring6 lim m inv fast one two) 0, u6 lim a] (u6 lim h) := by
  have hm := hR.lt
  refine mk Try.func107 rfl rfl L0 R1 (by decide +kernel) fun A S hA hS => ?_
  unfold bodyOf Try.f107
  cbv
  have e := even_lim6 hA hl a
  unfold hv at hh
  by_cases h2 : a % 2 = 0
  · rw [decide_eq_true h2] at e
    rw [if_pos h2] at hh
    refine ABr.t e ?_
    cbv
    refine ACall.mk (u6 lim h) (cg hS (halfS6 hl (a := a) (top := 0) (by omega) (by omega) (by omega)) (by cbv)) ?_
    cbv
  · rw [decide_eq_false h2] at e
    rw [if_neg h2] at hh
    refine ABr.f e ?_
    cbv
    obtain ⟨s, hs⟩ : ∃ s, s = (a + m) % 2 ^ 384 := ⟨_, rfl⟩
    obtain ⟨c, hc⟩ : ∃ s, s = (a + m) / 2 ^ 384 := ⟨_, rfl⟩
    refine ACall.mk (.tup [u6 lim s, .s .u64 c]) (cf hS (plus6 hl a m s c (by omega) (by omega) (by omega) (by omega))) ?_
    cbv
    refine ACall.mk (u6 lim h) (cf hS (halfS6 hl (a := s) (top := c) (by omega) (by omega) (by omega))) ?_
    cbv
end Go.Proofs.Ytlmlganfjnokiaa
