import Derived.Test.YtmholgclgamnnaaGreatQYH
import Derived.Test.YtmholgclgamnnaaGreatQYG
import Derived.Test.YtmholgclgamnnaaGreatQYF
section
set_option linter.unusedVariables false
set_option linter.unusedSimpArgs false
namespace Go.Proofs.YtmholgclgamnnaaGreat
open Go Eng
set_option maxRecDepth 100000
set_option exponentiation.threshold 2000

/-- An inverse modulo 2^64, by Newton's steps; less that. -/
def newton (m : Nat) : Nat → Nat
  | 0 => 1
  | k + 1 => newton m k * ((18446744073709551616 + 2 - m * newton m k % 18446744073709551616) % 18446744073709551616) % 18446744073709551616
def minvR (m : Nat) : Nat := (18446744073709551616 - newton m 6) % 18446744073709551616
def primes4 : List Nat := [0xfffffffffffffffffffffffffffffffffffffffffffffffffffffffefffffc2f, 0xfffffffffffffffffffffffffffffffebaaedce6af48a03bbfd25e8cd0364141, 0x30644e72e131a029b85045b68181585d97816a916871ca8d3c208c16d87cfd47,
  0x30644e72e131a029b85045b68181585d2833e84879b9709143e1f593f0000001, 0x73eda753299d7d483339d80809a1d80553bda402fffe5bfeffffffff00000001]
def primes6 : List Nat := [0x1a0111ea397fe69a4b1ba7b6434bacd764774b84f38512bf6730d2a0f6b0f6241eabfffeb153ffffb9feffffffffaaab]

/-- What a walk is not to open. -/
structure H5 where
  lim : Nat → Nat → Int
  mf : Nat → Nat → Nat → Nat
  add : Nat → Nat → Nat → Nat
  sub : Nat → Nat → Nat → Nat
  mul : Nat → Nat → Nat → Nat
  mod : Nat → Nat → Nat
  lt : Nat → Nat → Bool
  minv : Nat → Nat
  fast4 : Nat → Nat
  fast6 : Nat → Nat
  pow : Nat → Nat → Nat → Nat
def H5.real : H5 where
  lim := limR
  mf := fun b m a => a * 2 ^ b % m
  add := fun m a b => (a + b) % m
  sub := fun m a b => (a + m - b) % m
  mul := fun m a b => a * b % m
  mod := fun m a => a % m
  lt := fun a b => decide (a < b)
  minv := minvR
  fast4 := fun m => if m ∈ primes4 then 1 else 0
  fast6 := fun m => if m ∈ primes6 then 1 else 0
  pow := fun m a e => a ^ e % m

theorem newton_ok {m : Nat} (hm : m % 2 = 1) : ∀ k, k ≤ 6 → m * newton m k % 2 ^ (2 ^ k) = 1 := by
  intro k
  induction k with
  | zero => intro _; simp [newton, hm]
  | succ k ih =>
    intro hk
    have ih := ih (by omega)
    obtain ⟨x, hx⟩ : ∃ x, x = newton m k := ⟨_, rfl⟩
    rw [← hx] at ih
    have hd : 2 ^ (2 ^ (k + 1)) ∣ 18446744073709551616 := Nat.pow_dvd_pow 2 (show 2 ^ (k + 1) ≤ 64 from Nat.pow_le_pow_right (n := 2) (by omega) (show k + 1 ≤ 6 by omega))
    have he : newton m (k + 1) = x * ((18446744073709551616 + 2 - m * x % 18446744073709551616) % 18446744073709551616) % 18446744073709551616 := by rw [newton, ← hx]
    rw [he, Nat.mul_mod, Nat.mod_mod_of_dvd _ hd, ← Nat.mul_mod, ← Nat.mul_assoc, Nat.mul_mod, Nat.mod_mod_of_dvd _ hd, ← Nat.mul_mod]
    -- y (2 - y) = 1 - (y - 1)^2
    obtain ⟨y, hy⟩ : ∃ y, y = m * x := ⟨_, rfl⟩
    rw [← hy] at ih ⊢
    obtain ⟨q, hq⟩ : ∃ q, q = y / 2 ^ 2 ^ k := ⟨_, rfl⟩
    have hyq : y = 2 ^ 2 ^ k * q + 1 := by rw [hq, ← ih]; exact (Nat.div_add_mod y _).symm
    obtain ⟨r, hr⟩ : ∃ r, r = y / 18446744073709551616 := ⟨_, rfl⟩
    have hyr : y % 18446744073709551616 + 18446744073709551616 * r = y := by rw [hr]; exact Nat.mod_add_div y _
    have hlt : y % 18446744073709551616 < 18446744073709551616 := Nat.mod_lt _ (by omega)
    have hs : y * (18446744073709551616 + 2 - y % 18446744073709551616) + (2 ^ 2 ^ k * q) * (2 ^ 2 ^ k * q) = 1 + 18446744073709551616 * (y * (1 + r)) := by
      have h1 : y * (18446744073709551616 + 2 - y % 18446744073709551616) + y * y = y * 2 + 18446744073709551616 * (y * (1 + r)) := by
        rw [← Nat.mul_add, show 18446744073709551616 + 2 - y % 18446744073709551616 + y = 2 + 18446744073709551616 * (1 + r) by omega, Nat.mul_add, Nat.mul_left_comm]
      have h2 : y * y = (2 ^ 2 ^ k * q) * (2 ^ 2 ^ k * q) + 2 * (2 ^ 2 ^ k * q) + 1 := by
        rw [hyq, Nat.mul_add, Nat.add_mul]; omega
      omega
    have hp : 2 ^ 2 ^ (k + 1) = 2 ^ 2 ^ k * 2 ^ 2 ^ k := by rw [← Nat.pow_add]; congr 1; omega
    have hd2 : 2 ^ 2 ^ (k + 1) ∣ (2 ^ 2 ^ k * q) * (2 ^ 2 ^ k * q) := by
      rw [hp, show (2 ^ 2 ^ k * q) * (2 ^ 2 ^ k * q) = 2 ^ 2 ^ k * 2 ^ 2 ^ k * (q * q) by simp only [Nat.mul_assoc, Nat.mul_left_comm, Nat.mul_comm]]
      exact Nat.dvd_mul_right _ _
    have hd3 : 2 ^ 2 ^ (k + 1) ∣ 18446744073709551616 * (y * (1 + r)) := Nat.dvd_trans hd (Nat.dvd_mul_right _ _)
    have h1 : 1 < 2 ^ 2 ^ (k + 1) := Nat.one_lt_two_pow (by have := Nat.two_pow_pos (k + 1); omega)
    obtain ⟨u, hu⟩ := hd2
    obtain ⟨v, hv⟩ := hd3
    rw [hu, hv] at hs
    have : (y * (18446744073709551616 + 2 - y % 18446744073709551616) + 2 ^ 2 ^ (k + 1) * u) % 2 ^ 2 ^ (k + 1) = (1 + 2 ^ 2 ^ (k + 1) * v) % 2 ^ 2 ^ (k + 1) := by rw [hs]
    rw [Nat.add_mul_mod_self_left, Nat.add_mul_mod_self_left, Nat.mod_eq_of_lt h1] at this
    exact this
theorem minv_ok {m : Nat} (hm : m % 2 = 1) : (m * minvR m + 1) % 18446744073709551616 = 0 := by
  have h := newton_ok hm 6 (by omega)
  have hb : newton m 6 < 18446744073709551616 := Nat.mod_lt _ (by omega)
  have h0 : newton m 6 ≠ 0 := by intro e; rw [e] at h; simp at h
  unfold minvR
  rw [Nat.mod_eq_of_lt (a := 18446744073709551616 - newton m 6) (by omega), Nat.mul_sub]
  have hle : m * newton m 6 ≤ m * 18446744073709551616 := Nat.mul_le_mul_left _ (by omega)
  have h2 : m * newton m 6 % 18446744073709551616 = 1 := h
  omega
theorem minv_lt (m : Nat) : minvR m < 18446744073709551616 := Nat.mod_lt _ (by omega)
theorem minv_lim {lim : Lim} (hl : lim = limR) {m : Nat} (hm : m % 2 = 1) : (lim m 0 * (minvR m : Int) + 1) % 18446744073709551616 = 0 := by
  have h := minv_ok hm
  rw [lim_mod hl]
  have : ((m % 18446744073709551616 * minvR m + 1) % 18446744073709551616 : Nat) = 0 := by
    rw [Nat.add_mod, Nat.mul_mod, Nat.mod_mod, ← Nat.mul_mod, ← Nat.add_mod]; exact h
  have h2 : (((m % 18446744073709551616 * minvR m + 1) % 18446744073709551616 : Nat) : Int) = 0 := by rw [this]; rfl
  rw [Int.natCast_emod, Int.natCast_add, Int.natCast_mul] at h2
  exact h2

/-- A ring that reckons modulo m. -/
structure Mod (b m : Nat) : Prop where
  lt : m < 2 ^ b
  odd : m % 2 = 1
  one : 1 < m
theorem Mod.pos {b m : Nat} (h : Mod b m) : 0 < m := Nat.lt_trans Nat.zero_lt_one h.one
theorem mf_lt {b m a : Nat} (h : 0 < m) : a * 2 ^ b % m < m := Nat.mod_lt _ h
theorem mf_mul (b m a c : Nat) : a * c % m * 2 ^ b % m * 2 ^ b % m = a * 2 ^ b % m * (c * 2 ^ b % m) % m := by
  simp only [Nat.mul_mod, Nat.mod_mod]
  simp only [← Nat.mul_mod]
  congr 1
  simp only [Nat.mul_assoc, Nat.mul_left_comm, Nat.mul_comm]
theorem mf_add (b m a c : Nat) : (a * 2 ^ b % m + c * 2 ^ b % m) % m = (a + c) % m * 2 ^ b % m := by
  rw [← Nat.add_mod, ← Nat.add_mul, Nat.mod_mul_mod]
theorem mf_sub {b m a c : Nat} (hm : 0 < m) (hc : c < m) : (a * 2 ^ b % m + m - c * 2 ^ b % m) % m = (a + m - c) % m * 2 ^ b % m := by
  have h1 : c * 2 ^ b % m < m := Nat.mod_lt _ hm
  have key : ((a * 2 ^ b % m + m - c * 2 ^ b % m) + c * 2 ^ b % m) % m = ((a + m - c) % m * 2 ^ b % m + c * 2 ^ b % m) % m := by
    rw [mf_add, Nat.sub_add_cancel (by omega), Nat.add_mod_right, Nat.mod_mod, Nat.mod_add_mod, Nat.sub_add_cancel (by omega), Nat.add_mod_right, Nat.mod_mul_mod]
  have h2 : (a * 2 ^ b % m + m - c * 2 ^ b % m) % m < m := Nat.mod_lt _ hm
  have h3 : (a + m - c) % m * 2 ^ b % m < m := Nat.mod_lt _ hm
  generalize (a + m - c) % m * 2 ^ b % m = y at *
  generalize c * 2 ^ b % m = z at *
  generalize a * 2 ^ b % m + m - z = x at *
  rw [Nat.add_mod, Nat.mod_eq_of_lt h1] at key
  generalize x % m = x at *
  by_cases h4 : x + z < m
  · by_cases h5 : y + z < m
    · rw [Nat.mod_eq_of_lt h4, Nat.mod_eq_of_lt h5] at key; omega
    · rw [Nat.mod_eq_of_lt h4, Nat.mod_eq_sub_mod (by omega), Nat.mod_eq_of_lt (by omega)] at key; omega
  · by_cases h5 : y + z < m
    · rw [Nat.mod_eq_of_lt h5, Nat.mod_eq_sub_mod (by omega), Nat.mod_eq_of_lt (by omega)] at key; omega
    · rw [Nat.mod_eq_sub_mod (by omega), Nat.mod_eq_of_lt (by omega), Nat.mod_eq_sub_mod (a := y + z) (by omega), Nat.mod_eq_of_lt (by omega)] at key; omega
theorem H5.hlim {H : H5} (hH : H = H5.real) : H.lim = limR := by rw [hH]; rfl
/-- An element, a ring. -/
def el4 (H : H5) (m a : Nat) : AVal := u4 H.lim (H.mf 256 m a)
def R4 (H : H5) (m : Nat) : List AVal := ring4 H.lim m (H.minv m) (H.fast4 m) (H.mf 256 m 1) (H.mf (2 * 256) m 1)
theorem mulS4 {lim : Lim} (hl : lim = limR) {m inv : Nat} (hR : Mod 256 m) (hi : inv = minvR m) (fast one two a b r : Nat) (ha : a < 2 ^ 256) (hb : b < 2 ^ 256) (hab : a < m ∨ b < m) (hr : r < m) (hrr : r * 2 ^ 256 % m = a * b % m) :
    Sp 173 [.ref (ring4 lim m inv fast one two) 0, u4 lim a, u4 lim b] (u4 lim r) := by
  obtain ⟨d, hd⟩ := mont4S hl m inv fast one two a b r ha hb hR.lt (hi ▸ minv_lim hl hR.odd) (hi ▸ minv_lt m) hR.odd hab hr hrr
  refine mk Tryz.func173 rfl rfl L0 R0 (by decide +kernel) fun A S hA hS => ?_
  unfold bodyOf Tryz.f173
  cbv
  refine AMut.mk _ _ (cm hS hd) ?_
  cbv
theorem isS4 {H : H5} (m : Nat) : Sp 172 [.ref (R4 H m) 0] (.b true) := by
  refine mk Tryz.func172 rfl rfl L0 R0 (by decide +kernel) fun A S hA hS => ?_
  unfold bodyOf Tryz.f172
  cbv
theorem mulE4 {H : H5} (hH : H = H5.real) {m a b : Nat} (hR : Mod 256 m) : Sp 173 [.ref (R4 H m) 0, el4 H m a, el4 H m b] (el4 H m (H.mul m a b)) := by
  have h1 : H.mf 256 m a < m := by rw [hH]; exact mf_lt hR.pos
  have h2 : H.mf 256 m b < m := by rw [hH]; exact mf_lt hR.pos
  exact mulS4 (H5.hlim hH) hR (by rw [hH]; rfl) _ _ _ _ _ _ (Nat.lt_trans h1 hR.lt) (Nat.lt_trans h2 hR.lt) (.inl h1) (by rw [hH]; exact mf_lt hR.pos) (by rw [hH]; exact mf_mul 256 m a b)
theorem addS4 {lim : Lim} (hl : lim = limR) {m inv : Nat} (hR : Mod 256 m) (fast one two a b r : Nat) (ha : a < m) (hb : b < m) (hr : r = (a + b) % m) :
    Sp 170 [.ref (ring4 lim m inv fast one two) 0, u4 lim a, u4 lim b] (u4 lim r) := by
  have hm := hR.lt
  obtain ⟨s, hs⟩ : ∃ s, s = (a + b) % 2 ^ 256 := ⟨_, rfl⟩
  obtain ⟨c, hc⟩ : ∃ s, s = (a + b) / 2 ^ 256 := ⟨_, rfl⟩
  obtain ⟨d, hd⟩ : ∃ d, d = if s < m then s + 2 ^ 256 - m else s - m := ⟨_, rfl⟩
  obtain ⟨k, h1, h2, h3⟩ := less_dif (a := s) (b := m) (n := 2 ^ 256) (by omega) hm (decide (s < m)) rfl hd
  have hc2 : c = 0 ∨ c = 1 := by omega
  have hcase : (c = 1 ∧ r = d) ∨ (c = 0 ∧ k = 0 ∧ r = d) ∨ (c = 0 ∧ k = 1 ∧ r = s) := by
    have hab : (a + b) % m = if a + b < m then a + b else a + b - m := by
      split
      · exact Nat.mod_eq_of_lt (by omega)
      · rw [Nat.mod_eq_sub_mod (by omega)]; exact Nat.mod_eq_of_lt (by omega)
    rw [hab] at hr
    by_cases hlt : s < m
    · simp [hlt] at h3
      split at hr <;> omega
    · simp [hlt] at h3
      split at hr <;> omega
  have hp := plus4 hl a b s c (by omega) (by omega) (by omega) (by omega)
  have hq := minus4 hl s m d k (by omega) hm h1 h2
  refine mk Tryz.func170 rfl rfl L0 R1 (by decide +kernel) fun A S hA hS => ?_
  unfold bodyOf Tryz.f170
  cbv
  refine ACall.mk (.tup [u4 lim s, .s .u64 c]) (cf hS hp) ?_
  cbv
  refine ACall.mk (.tup [u4 lim d, .s .u64 k]) (cf hS hq) ?_
  cbv
  rcases hcase with ⟨rfl, rfl⟩ | ⟨rfl, rfl, rfl⟩ | ⟨rfl, rfl, rfl⟩
  all_goals repeat (first | (refine ABr.t (cmp_lit hA rfl) ?_; cbv) | (refine ABr.f (cmp_lit hA rfl) ?_; cbv))
theorem addE4 {H : H5} (hH : H = H5.real) {m a b : Nat} (hR : Mod 256 m) : Sp 170 [.ref (R4 H m) 0, el4 H m a, el4 H m b] (el4 H m (H.add m a b)) :=
  addS4 (H5.hlim hH) hR _ _ _ _ _ _ (by rw [hH]; exact mf_lt hR.pos) (by rw [hH]; exact mf_lt hR.pos) (by rw [hH]; exact (mf_add 256 m a b).symm)
theorem rlessS4 {lim : Lim} (hl : lim = limR) {m inv : Nat} (hR : Mod 256 m) (fast one two a b r : Nat) (ha : a < m) (hb : b < m) (hr : r = (a + m - b) % m) :
    Sp 211 [.ref (ring4 lim m inv fast one two) 0, u4 lim a, u4 lim b] (u4 lim r) := by
  have hm := hR.lt
  obtain ⟨d, hd⟩ : ∃ d, d = if a < b then a + 2 ^ 256 - b else a - b := ⟨_, rfl⟩
  obtain ⟨k, h1, h2, h3⟩ := less_dif (a := a) (b := b) (n := 2 ^ 256) (by omega) (by omega) (decide (a < b)) rfl hd
  have hq := minus4 hl a b d k (by omega) (by omega) h1 h2
  have hab : (a + m - b) % m = if a < b then a + m - b else a - b := by
    split
    · exact Nat.mod_eq_of_lt (by omega)
    · rw [Nat.mod_eq_sub_mod (by omega)]; exact (Nat.mod_eq_of_lt (by omega)).trans (by omega)
  rw [hab] at hr
  refine mk Tryz.func211 rfl rfl L0 R1 (by decide +kernel) fun A S hA hS => ?_
  unfold bodyOf Tryz.f211
  cbv
  refine ACall.mk (.tup [u4 lim d, .s .u64 k]) (cf hS hq) ?_
  cbv
  by_cases hlt : a < b
  · simp [hlt] at h3
    subst h3
    refine ABr.t (cmp_lit hA rfl) ?_
    cbv
    refine ACall.mk (.tup [u4 lim r, .s .u64 (1 : Nat)]) (cf hS (plus4 hl d m r 1 h2 hm (by rw [if_pos hlt] at hr hd; omega) (by rw [if_pos hlt] at hr; omega))) ?_
    cbv
  · simp [hlt] at h3
    subst h3
    rw [if_neg hlt] at hr hd
    obtain rfl : r = d := hr.trans hd.symm
    refine ABr.f (cmp_lit hA rfl) ?_
    cbv
theorem rlessE4 {H : H5} (hH : H = H5.real) {m a b : Nat} (hR : Mod 256 m) (hb : b < m) : Sp 211 [.ref (R4 H m) 0, el4 H m a, el4 H m b] (el4 H m (H.sub m a b)) :=
  rlessS4 (H5.hlim hH) hR _ _ _ _ _ _ (by rw [hH]; exact mf_lt hR.pos) (by rw [hH]; exact mf_lt hR.pos) (by rw [hH]; exact (mf_sub hR.pos hb).symm)
/-- What is of no ring. -/
def z4 (H : H5) : AVal := u4 H.lim 0
theorem zS4 {H : H5} (hH : H = H5.real) : Sp 169 [] (z4 H) := Spec.res none4S (by rw [hH]; exact ⟨rfl, rfl, rfl, rfl⟩)
theorem ModulusS4 {H : H5} (m : Nat) : Sp 109 [.ref (R4 H m) 0] (u4 H.lim m) := by
  refine mk Tryz.func109 rfl rfl L0 R1 (by decide +kernel) fun A S hA hS => ?_
  unfold bodyOf Tryz.f109
  cbv
  refine ACall.mk _ (cf hS (isS4 (H := H) m)) ?_
  cbv
theorem MulS4 {H : H5} (hH : H = H5.real) {m a b : Nat} (hR : Mod 256 m) : Sp 175 [.ref (R4 H m) 0, el4 H m a, el4 H m b] (el4 H m (H.mul m a b)) := by
  refine mk Tryz.func175 rfl rfl L0 R1 (by decide +kernel) fun A S hA hS => ?_
  unfold bodyOf Tryz.f175
  cbv
  refine ACall.mk _ (cf hS (isS4 (H := H) m)) ?_
  cbv
  refine ACall.mk _ (cf hS (mulE4 hH hR (a := a) (b := b))) ?_
  cbv
theorem AddS4 {H : H5} (hH : H = H5.real) {m a b : Nat} (hR : Mod 256 m) : Sp 176 [.ref (R4 H m) 0, el4 H m a, el4 H m b] (el4 H m (H.add m a b)) := by
  refine mk Tryz.func176 rfl rfl L0 R1 (by decide +kernel) fun A S hA hS => ?_
  unfold bodyOf Tryz.f176
  cbv
  refine ACall.mk _ (cf hS (isS4 (H := H) m)) ?_
  cbv
  refine ACall.mk _ (cf hS (addE4 hH hR (a := a) (b := b))) ?_
  cbv
theorem SubS4 {H : H5} (hH : H = H5.real) {m a b : Nat} (hR : Mod 256 m) (hb : b < m) : Sp 174 [.ref (R4 H m) 0, el4 H m a, el4 H m b] (el4 H m (H.sub m a b)) := by
  refine mk Tryz.func174 rfl rfl L0 R1 (by decide +kernel) fun A S hA hS => ?_
  unfold bodyOf Tryz.f174
  cbv
  refine ACall.mk _ (cf hS (isS4 (H := H) m)) ?_
  cbv
  refine ACall.mk _ (cf hS (rlessE4 hH hR hb (a := a) (b := b))) ?_
  cbv
theorem NegS4 {H : H5} (hH : H = H5.real) {m b : Nat} (hR : Mod 256 m) (hb : b < m) : Sp 178 [.ref (R4 H m) 0, el4 H m b] (el4 H m (H.sub m 0 b)) := by
  have hz : z4 H = el4 H m 0 := by rw [hH]; unfold z4 el4 H5.real; simp
  refine mk Tryz.func178 rfl rfl L0 R1 (by decide +kernel) fun A S hA hS => ?_
  unfold bodyOf Tryz.f178
  cbv
  refine ACall.mk (el4 H m 0) (cf hS (hz ▸ zS4 hH)) ?_
  cbv
  refine ACall.mk _ (cf hS (SubS4 hH hR hb (a := 0) (b := b))) ?_
  cbv
theorem InS4 {H : H5} (hH : H = H5.real) {m a : Nat} (hR : Mod 256 m) (ha : a < 2 ^ 256) : Sp 101 [.ref (R4 H m) 0, u4 H.lim a] (el4 H m (H.mod m a)) := by
  have h2 : H.mf (2 * 256) m 1 < m := by rw [hH]; exact mf_lt hR.pos
  have hm := mulS4 (H5.hlim hH) hR (inv := H.minv m) (by rw [hH]; rfl) (H.fast4 m) (H.mf 256 m 1) (H.mf (2 * 256) m 1) a (H.mf (2 * 256) m 1) (H.mf 256 m (H.mod m a)) ha (Nat.lt_trans h2 hR.lt) (.inr h2)
    (by rw [hH]; exact mf_lt hR.pos) (by
      rw [hH]
      show a % m * 2 ^ 256 % m * 2 ^ 256 % m = a * (1 * 2 ^ (2 * 256) % m) % m
      rw [Nat.mod_mul_mod, Nat.mul_mod_mod, Nat.one_mul, Nat.mul_assoc, Nat.mod_mul_mod, ← Nat.pow_add])
  refine mk Tryz.func101 rfl rfl L0 R1 (by decide +kernel) fun A S hA hS => ?_
  unfold bodyOf Tryz.f101
  cbv
  refine ACall.mk _ (cf hS (isS4 (H := H) m)) ?_
  cbv
  refine ACall.mk _ (cf hS hm) ?_
  cbv
theorem OutS4 {H : H5} (hH : H = H5.real) {m a : Nat} (hR : Mod 256 m) (ha : a < m) : Sp 183 [.ref (R4 H m) 0, el4 H m a] (u4 H.lim a) := by
  have h2 : H.mf 256 m a < m := by rw [hH]; exact mf_lt hR.pos
  have h1 := hR.one
  have hlt := hR.lt
  have hm := mulS4 (H5.hlim hH) hR (inv := H.minv m) (by rw [hH]; rfl) (H.fast4 m) (H.mf 256 m 1) (H.mf (2 * 256) m 1) (H.mf 256 m a) 1 a (Nat.lt_trans h2 hR.lt) (by omega) (.inl h2) ha (by
      rw [hH]
      show a * 2 ^ 256 % m = a * 2 ^ 256 % m * 1 % m
      rw [Nat.mul_one, Nat.mod_mod])
  have hone : u4 H.lim 1 = .agg [.s .u64 1, .s .u64 0, .s .u64 0, .s .u64 0] := by rw [hH]; rfl
  refine mk Tryz.func183 rfl rfl L0 R1 (by decide +kernel) fun A S hA hS => ?_
  unfold bodyOf Tryz.f183
  cbv
  refine ACall.mk _ (cf hS (isS4 (H := H) m)) ?_
  cbv
  refine ACall.mk _ (cg hS hm (by rw [hone]; cbv)) ?_
  cbv
/-- An element, a ring. -/
def el6 (H : H5) (m a : Nat) : AVal := u6 H.lim (H.mf 384 m a)
def R6 (H : H5) (m : Nat) : List AVal := ring6 H.lim m (H.minv m) (H.fast6 m) (H.mf 384 m 1) (H.mf (2 * 384) m 1)
theorem mulS6 {lim : Lim} (hl : lim = limR) {m inv : Nat} (hR : Mod 384 m) (hi : inv = minvR m) (fast one two a b r : Nat) (ha : a < 2 ^ 384) (hb : b < 2 ^ 384) (hab : a < m ∨ b < m) (hr : r < m) (hrr : r * 2 ^ 384 % m = a * b % m) :
    Sp 157 [.ref (ring6 lim m inv fast one two) 0, u6 lim a, u6 lim b] (u6 lim r) := by
  obtain ⟨d, hd⟩ := mont6S hl m inv fast one two a b r ha hb hR.lt (hi ▸ minv_lim hl hR.odd) (hi ▸ minv_lt m) hR.odd hab hr hrr
  refine mk Tryz.func157 rfl rfl L0 R0 (by decide +kernel) fun A S hA hS => ?_
  unfold bodyOf Tryz.f157
  cbv
  refine AMut.mk _ _ (cm hS hd) ?_
  cbv
theorem isS6 {H : H5} (m : Nat) : Sp 156 [.ref (R6 H m) 0] (.b true) := by
  refine mk Tryz.func156 rfl rfl L0 R0 (by decide +kernel) fun A S hA hS => ?_
  unfold bodyOf Tryz.f156
  cbv
theorem mulE6 {H : H5} (hH : H = H5.real) {m a b : Nat} (hR : Mod 384 m) : Sp 157 [.ref (R6 H m) 0, el6 H m a, el6 H m b] (el6 H m (H.mul m a b)) := by
  have h1 : H.mf 384 m a < m := by rw [hH]; exact mf_lt hR.pos
  have h2 : H.mf 384 m b < m := by rw [hH]; exact mf_lt hR.pos
  exact mulS6 (H5.hlim hH) hR (by rw [hH]; rfl) _ _ _ _ _ _ (Nat.lt_trans h1 hR.lt) (Nat.lt_trans h2 hR.lt) (.inl h1) (by rw [hH]; exact mf_lt hR.pos) (by rw [hH]; exact mf_mul 384 m a b)
theorem addS6 {lim : Lim} (hl : lim = limR) {m inv : Nat} (hR : Mod 384 m) (fast one two a b r : Nat) (ha : a < m) (hb : b < m) (hr : r = (a + b) % m) :
    Sp 154 [.ref (ring6 lim m inv fast one two) 0, u6 lim a, u6 lim b] (u6 lim r) := by
  have hm := hR.lt
  obtain ⟨s, hs⟩ : ∃ s, s = (a + b) % 2 ^ 384 := ⟨_, rfl⟩
  obtain ⟨c, hc⟩ : ∃ s, s = (a + b) / 2 ^ 384 := ⟨_, rfl⟩
  obtain ⟨d, hd⟩ : ∃ d, d = if s < m then s + 2 ^ 384 - m else s - m := ⟨_, rfl⟩
  obtain ⟨k, h1, h2, h3⟩ := less_dif (a := s) (b := m) (n := 2 ^ 384) (by omega) hm (decide (s < m)) rfl hd
  have hc2 : c = 0 ∨ c = 1 := by omega
  have hcase : (c = 1 ∧ r = d) ∨ (c = 0 ∧ k = 0 ∧ r = d) ∨ (c = 0 ∧ k = 1 ∧ r = s) := by
    have hab : (a + b) % m = if a + b < m then a + b else a + b - m := by
      split
      · exact Nat.mod_eq_of_lt (by omega)
      · rw [Nat.mod_eq_sub_mod (by omega)]; exact Nat.mod_eq_of_lt (by omega)
    rw [hab] at hr
    by_cases hlt : s < m
    · simp [hlt] at h3
      split at hr <;> omega
    · simp [hlt] at h3
      split at hr <;> omega
  have hp := plus6 hl a b s c (by omega) (by omega) (by omega) (by omega)
  have hq := minus6 hl s m d k (by omega) hm h1 h2
  refine mk Tryz.func154 rfl rfl L0 R1 (by decide +kernel) fun A S hA hS => ?_
  unfold bodyOf Tryz.f154
  cbv
  refine ACall.mk (.tup [u6 lim s, .s .u64 c]) (cf hS hp) ?_
  cbv
  refine ACall.mk (.tup [u6 lim d, .s .u64 k]) (cf hS hq) ?_
  cbv
  rcases hcase with ⟨rfl, rfl⟩ | ⟨rfl, rfl, rfl⟩ | ⟨rfl, rfl, rfl⟩
  all_goals repeat (first | (refine ABr.t (cmp_lit hA rfl) ?_; cbv) | (refine ABr.f (cmp_lit hA rfl) ?_; cbv))
theorem addE6 {H : H5} (hH : H = H5.real) {m a b : Nat} (hR : Mod 384 m) : Sp 154 [.ref (R6 H m) 0, el6 H m a, el6 H m b] (el6 H m (H.add m a b)) :=
  addS6 (H5.hlim hH) hR _ _ _ _ _ _ (by rw [hH]; exact mf_lt hR.pos) (by rw [hH]; exact mf_lt hR.pos) (by rw [hH]; exact (mf_add 384 m a b).symm)
theorem rlessS6 {lim : Lim} (hl : lim = limR) {m inv : Nat} (hR : Mod 384 m) (fast one two a b r : Nat) (ha : a < m) (hb : b < m) (hr : r = (a + m - b) % m) :
    Sp 227 [.ref (ring6 lim m inv fast one two) 0, u6 lim a, u6 lim b] (u6 lim r) := by
  have hm := hR.lt
  obtain ⟨d, hd⟩ : ∃ d, d = if a < b then a + 2 ^ 384 - b else a - b := ⟨_, rfl⟩
  obtain ⟨k, h1, h2, h3⟩ := less_dif (a := a) (b := b) (n := 2 ^ 384) (by omega) (by omega) (decide (a < b)) rfl hd
  have hq := minus6 hl a b d k (by omega) (by omega) h1 h2
  have hab : (a + m - b) % m = if a < b then a + m - b else a - b := by
    split
    · exact Nat.mod_eq_of_lt (by omega)
    · rw [Nat.mod_eq_sub_mod (by omega)]; exact (Nat.mod_eq_of_lt (by omega)).trans (by omega)
  rw [hab] at hr
  refine mk Tryz.func227 rfl rfl L0 R1 (by decide +kernel) fun A S hA hS => ?_
  unfold bodyOf Tryz.f227
  cbv
  refine ACall.mk (.tup [u6 lim d, .s .u64 k]) (cf hS hq) ?_
  cbv
  by_cases hlt : a < b
  · simp [hlt] at h3
    subst h3
    refine ABr.t (cmp_lit hA rfl) ?_
    cbv
    refine ACall.mk (.tup [u6 lim r, .s .u64 (1 : Nat)]) (cf hS (plus6 hl d m r 1 h2 hm (by rw [if_pos hlt] at hr hd; omega) (by rw [if_pos hlt] at hr; omega))) ?_
    cbv
  · simp [hlt] at h3
    subst h3
    rw [if_neg hlt] at hr hd
    obtain rfl : r = d := hr.trans hd.symm
    refine ABr.f (cmp_lit hA rfl) ?_
    cbv
theorem rlessE6 {H : H5} (hH : H = H5.real) {m a b : Nat} (hR : Mod 384 m) (hb : b < m) : Sp 227 [.ref (R6 H m) 0, el6 H m a, el6 H m b] (el6 H m (H.sub m a b)) :=
  rlessS6 (H5.hlim hH) hR _ _ _ _ _ _ (by rw [hH]; exact mf_lt hR.pos) (by rw [hH]; exact mf_lt hR.pos) (by rw [hH]; exact (mf_sub hR.pos hb).symm)
theorem ModulusS6 {H : H5} (m : Nat) : Sp 83 [.ref (R6 H m) 0] (u6 H.lim m) := by
  refine mk Tryz.func83 rfl rfl L0 R1 (by decide +kernel) fun A S hA hS => ?_
  unfold bodyOf Tryz.f83
  cbv
  refine ACall.mk _ (cf hS (isS6 (H := H) m)) ?_
  cbv
theorem MulS6 {H : H5} (hH : H = H5.real) {m a b : Nat} (hR : Mod 384 m) : Sp 145 [.ref (R6 H m) 0, el6 H m a, el6 H m b] (el6 H m (H.mul m a b)) := by
  refine mk Tryz.func145 rfl rfl L0 R1 (by decide +kernel) fun A S hA hS => ?_
  unfold bodyOf Tryz.f145
  cbv
  refine ACall.mk _ (cf hS (isS6 (H := H) m)) ?_
  cbv
  refine ACall.mk _ (cf hS (mulE6 hH hR (a := a) (b := b))) ?_
  cbv
theorem AddS6 {H : H5} (hH : H = H5.real) {m a b : Nat} (hR : Mod 384 m) : Sp 144 [.ref (R6 H m) 0, el6 H m a, el6 H m b] (el6 H m (H.add m a b)) := by
  refine mk Tryz.func144 rfl rfl L0 R1 (by decide +kernel) fun A S hA hS => ?_
  unfold bodyOf Tryz.f144
  cbv
  refine ACall.mk _ (cf hS (isS6 (H := H) m)) ?_
  cbv
  refine ACall.mk _ (cf hS (addE6 hH hR (a := a) (b := b))) ?_
  cbv
theorem SubS6 {H : H5} (hH : H = H5.real) {m a b : Nat} (hR : Mod 384 m) (hb : b < m) : Sp 218 [.ref (R6 H m) 0, el6 H m a, el6 H m b] (el6 H m (H.sub m a b)) := by
  refine mk Tryz.func218 rfl rfl L0 R1 (by decide +kernel) fun A S hA hS => ?_
  unfold bodyOf Tryz.f218
  cbv
  refine ACall.mk _ (cf hS (isS6 (H := H) m)) ?_
  cbv
  refine ACall.mk _ (cf hS (rlessE6 hH hR hb (a := a) (b := b))) ?_
  cbv
theorem InS6 {H : H5} (hH : H = H5.real) {m a : Nat} (hR : Mod 384 m) (ha : a < 2 ^ 384) : Sp 73 [.ref (R6 H m) 0, u6 H.lim a] (el6 H m (H.mod m a)) := by
  have h2 : H.mf (2 * 384) m 1 < m := by rw [hH]; exact mf_lt hR.pos
  have hm := mulS6 (H5.hlim hH) hR (inv := H.minv m) (by rw [hH]; rfl) (H.fast6 m) (H.mf 384 m 1) (H.mf (2 * 384) m 1) a (H.mf (2 * 384) m 1) (H.mf 384 m (H.mod m a)) ha (Nat.lt_trans h2 hR.lt) (.inr h2)
    (by rw [hH]; exact mf_lt hR.pos) (by
      rw [hH]
      show a % m * 2 ^ 384 % m * 2 ^ 384 % m = a * (1 * 2 ^ (2 * 384) % m) % m
      rw [Nat.mod_mul_mod, Nat.mul_mod_mod, Nat.one_mul, Nat.mul_assoc, Nat.mod_mul_mod, ← Nat.pow_add])
  refine mk Tryz.func73 rfl rfl L0 R1 (by decide +kernel) fun A S hA hS => ?_
  unfold bodyOf Tryz.f73
  cbv
  refine ACall.mk _ (cf hS (isS6 (H := H) m)) ?_
  cbv
  refine ACall.mk _ (cf hS hm) ?_
  cbv
theorem OutS6 {H : H5} (hH : H = H5.real) {m a : Nat} (hR : Mod 384 m) (ha : a < m) : Sp 146 [.ref (R6 H m) 0, el6 H m a] (u6 H.lim a) := by
  have h2 : H.mf 384 m a < m := by rw [hH]; exact mf_lt hR.pos
  have h1 := hR.one
  have hlt := hR.lt
  have hm := mulS6 (H5.hlim hH) hR (inv := H.minv m) (by rw [hH]; rfl) (H.fast6 m) (H.mf 384 m 1) (H.mf (2 * 384) m 1) (H.mf 384 m a) 1 a (Nat.lt_trans h2 hR.lt) (by omega) (.inl h2) ha (by
      rw [hH]
      show a * 2 ^ 384 % m = a * 2 ^ 384 % m * 1 % m
      rw [Nat.mul_one, Nat.mod_mod])
  have hone : u6 H.lim 1 = .agg [.s .u64 1, .s .u64 0, .s .u64 0, .s .u64 0, .s .u64 0, .s .u64 0] := by rw [hH]; rfl
  refine mk Tryz.func146 rfl rfl L0 R1 (by decide +kernel) fun A S hA hS => ?_
  unfold bodyOf Tryz.f146
  cbv
  refine ACall.mk _ (cf hS (isS6 (H := H) m)) ?_
  cbv
  refine ACall.mk _ (cg hS hm (by rw [hone]; cbv)) ?_
  cbv
end Go.Proofs.YtmholgclgamnnaaGreat
end
section
set_option linter.unusedVariables false
set_option linter.unusedSimpArgs false
namespace Go.Proofs.YtmholgclgamnnaaGreat
open Go Eng
set_option maxRecDepth 100000
set_option exponentiation.threshold 2000

abbrev secpP : Nat := 0xfffffffffffffffffffffffffffffffffffffffffffffffffffffffefffffc2f
abbrev secpN : Nat := 0xfffffffffffffffffffffffffffffffebaaedce6af48a03bbfd25e8cd0364141
abbrev bnP : Nat := 0x30644e72e131a029b85045b68181585d97816a916871ca8d3c208c16d87cfd47
abbrev bnR : Nat := 0x30644e72e131a029b85045b68181585d2833e84879b9709143e1f593f0000001
abbrev blsR : Nat := 0x73eda753299d7d483339d80809a1d80553bda402fffe5bfeffffffff00000001
abbrev blsP : Nat := 0x1a0111ea397fe69a4b1ba7b6434bacd764774b84f38512bf6730d2a0f6b0f6241eabfffeb153ffffb9feffffffffaaab

theorem leafEq_s (k : IntKind) (a b : Int) : leafEq (.s k a, .s k b) = decide (a = b) := by
  show (a == b) = _
  by_cases h : a = b <;> simp [h]
theorem eqs_real {A : Ar} (hA : A = Ar.real) (l : List (AVal × AVal)) : A.eqs l = l.all leafEq := by rw [hA]; rfl
theorem eqs4 {A : Ar} (hA : A = Ar.real) {lim : Lim} (hl : lim = limR) (a b : Nat) (ha : a < 2 ^ 256) (hb : b < 2 ^ 256) : A.eqs [(.s .u64 (lim a 0), .s .u64 (lim b 0)), (.s .u64 (lim a 1), .s .u64 (lim b 1)), (.s .u64 (lim a 2), .s .u64 (lim b 2)), (.s .u64 (lim a 3), .s .u64 (lim b 3))] = decide (a = b) := by
  rw [eqs_real hA]
  simp only [List.all_cons, List.all_nil, leafEq_s, Bool.and_true]
  by_cases h : a = b
  · subst h; simp
  · rw [decide_eq_false h]
    refine Bool.eq_false_iff.2 fun h' => h (lim_inj4 hl ha hb ?_)
    simpa using h'
theorem LessS4 {H : H5} (hH : H = H5.real) (a b : Nat) (ha : a < 2 ^ 256) (hb : b < 2 ^ 256) : Sp 110 [u4 H.lim a, u4 H.lim b] (.sb (H.lt a b)) := by
  refine mk Tryz.func110 rfl rfl L0 R1 (by decide +kernel) fun A S hA hS => ?_
  unfold bodyOf Tryz.f110
  cbv
  refine ACall.mk _ (cf hS (less4S (H5.hlim hH) a b ha hb (H.lt a b) (by rw [hH]; rfl))) ?_
  cbv
theorem wordsS4 {H : H5} (a : Nat) : Sp 214 [u4 H.lim a] (.new false 4 1 [.s .u64 (H.lim a 0), .s .u64 (H.lim a 1), .s .u64 (H.lim a 2), .s .u64 (H.lim a 3)]) := by
  refine mk Tryz.func214 rfl rfl L0 R0 (by decide +kernel) fun A S hA hS => ?_
  unfold bodyOf Tryz.f214
  cbv
theorem eqs6 {A : Ar} (hA : A = Ar.real) {lim : Lim} (hl : lim = limR) (a b : Nat) (ha : a < 2 ^ 384) (hb : b < 2 ^ 384) : A.eqs [(.s .u64 (lim a 0), .s .u64 (lim b 0)), (.s .u64 (lim a 1), .s .u64 (lim b 1)), (.s .u64 (lim a 2), .s .u64 (lim b 2)), (.s .u64 (lim a 3), .s .u64 (lim b 3)), (.s .u64 (lim a 4), .s .u64 (lim b 4)), (.s .u64 (lim a 5), .s .u64 (lim b 5))] = decide (a = b) := by
  rw [eqs_real hA]
  simp only [List.all_cons, List.all_nil, leafEq_s, Bool.and_true]
  by_cases h : a = b
  · subst h; simp
  · rw [decide_eq_false h]
    refine Bool.eq_false_iff.2 fun h' => h (lim_inj6 hl ha hb ?_)
    simpa using h'
theorem LessS6 {H : H5} (hH : H = H5.real) (a b : Nat) (ha : a < 2 ^ 384) (hb : b < 2 ^ 384) : Sp 84 [u6 H.lim a, u6 H.lim b] (.sb (H.lt a b)) := by
  refine mk Tryz.func84 rfl rfl L0 R1 (by decide +kernel) fun A S hA hS => ?_
  unfold bodyOf Tryz.f84
  cbv
  refine ACall.mk _ (cf hS (less6S (H5.hlim hH) a b ha hb (H.lt a b) (by rw [hH]; rfl))) ?_
  cbv
theorem wordsS6 {H : H5} (a : Nat) : Sp 194 [u6 H.lim a] (.new false 6 1 [.s .u64 (H.lim a 0), .s .u64 (H.lim a 1), .s .u64 (H.lim a 2), .s .u64 (H.lim a 3), .s .u64 (H.lim a 4), .s .u64 (H.lim a 5)]) := by
  refine mk Tryz.func194 rfl rfl L0 R0 (by decide +kernel) fun A S hA hS => ?_
  unfold bodyOf Tryz.f194
  cbv
theorem SecpPS {H : H5} (hH : H = H5.real) : Sp 201 [] (u4 H.lim secpP) := by
  refine mk Tryz.func201 rfl rfl L0 R1 (by decide +kernel) fun A S hA hS => ?_
  unfold bodyOf Tryz.f201
  cbv
  rw [hH]
  exact ⟨rfl, rfl, rfl, rfl⟩
theorem SecpNS {H : H5} (hH : H = H5.real) : Sp 202 [] (u4 H.lim secpN) := by
  refine mk Tryz.func202 rfl rfl L0 R1 (by decide +kernel) fun A S hA hS => ?_
  unfold bodyOf Tryz.f202
  cbv
  rw [hH]
  exact ⟨rfl, rfl, rfl, rfl⟩
theorem BnPS {H : H5} (hH : H = H5.real) : Sp 99 [] (u4 H.lim bnP) := by
  refine mk Tryz.func99 rfl rfl L0 R1 (by decide +kernel) fun A S hA hS => ?_
  unfold bodyOf Tryz.f99
  cbv
  rw [hH]
  exact ⟨rfl, rfl, rfl, rfl⟩
theorem BnRS {H : H5} (hH : H = H5.real) : Sp 105 [] (u4 H.lim bnR) := by
  refine mk Tryz.func105 rfl rfl L0 R1 (by decide +kernel) fun A S hA hS => ?_
  unfold bodyOf Tryz.f105
  cbv
  rw [hH]
  exact ⟨rfl, rfl, rfl, rfl⟩
theorem BlsRS {H : H5} (hH : H = H5.real) : Sp 75 [] (u4 H.lim blsR) := by
  refine mk Tryz.func75 rfl rfl L0 R1 (by decide +kernel) fun A S hA hS => ?_
  unfold bodyOf Tryz.f75
  cbv
  rw [hH]
  exact ⟨rfl, rfl, rfl, rfl⟩
theorem BlsPS {H : H5} (hH : H = H5.real) : Sp 72 [] (u6 H.lim blsP) := by
  refine mk Tryz.func72 rfl rfl L0 R1 (by decide +kernel) fun A S hA hS => ?_
  unfold bodyOf Tryz.f72
  cbv
  rw [hH]
  exact ⟨rfl, rfl, rfl, rfl, rfl, rfl⟩
theorem prime4S {H : H5} (hH : H = H5.real) (m : Nat) (hm : m < 2 ^ 256) : Sp 171 [u4 H.lim m] (.s .i64 (H.fast4 m)) := by
  refine mk Tryz.func171 rfl rfl L0 R1 (by decide +kernel) fun A S hA hS => ?_
  unfold bodyOf Tryz.f171
  cbv
  refine ACall.mk _ (cf hS (SecpPS hH)) ?_
  cbv
  by_cases hsecpP : m = secpP
  · have e := (eqs4 hA (H5.hlim hH) m secpP hm (by decide)).trans (decide_eq_true hsecpP)
    repeat (first | (refine ABr.f (by assumption) ?_; cbv) | (refine ABr.t (by assumption) ?_; cbv))
    rw [hH, hsecpP]
    decide
  have esecpP := (eqs4 hA (H5.hlim hH) m secpP hm (by decide)).trans (decide_eq_false hsecpP)
  repeat (refine ABr.f (by assumption) ?_; cbv)
  refine ACall.mk _ (cf hS (SecpNS hH)) ?_
  cbv
  by_cases hsecpN : m = secpN
  · have e := (eqs4 hA (H5.hlim hH) m secpN hm (by decide)).trans (decide_eq_true hsecpN)
    repeat (first | (refine ABr.f (by assumption) ?_; cbv) | (refine ABr.t (by assumption) ?_; cbv))
    rw [hH, hsecpN]
    decide
  have esecpN := (eqs4 hA (H5.hlim hH) m secpN hm (by decide)).trans (decide_eq_false hsecpN)
  repeat (refine ABr.f (by assumption) ?_; cbv)
  refine ACall.mk _ (cf hS (BnPS hH)) ?_
  cbv
  by_cases hbnP : m = bnP
  · have e := (eqs4 hA (H5.hlim hH) m bnP hm (by decide)).trans (decide_eq_true hbnP)
    repeat (first | (refine ABr.f (by assumption) ?_; cbv) | (refine ABr.t (by assumption) ?_; cbv))
    rw [hH, hbnP]
    decide
  have ebnP := (eqs4 hA (H5.hlim hH) m bnP hm (by decide)).trans (decide_eq_false hbnP)
  repeat (refine ABr.f (by assumption) ?_; cbv)
  refine ACall.mk _ (cf hS (BnRS hH)) ?_
  cbv
  by_cases hbnR : m = bnR
  · have e := (eqs4 hA (H5.hlim hH) m bnR hm (by decide)).trans (decide_eq_true hbnR)
    repeat (first | (refine ABr.f (by assumption) ?_; cbv) | (refine ABr.t (by assumption) ?_; cbv))
    rw [hH, hbnR]
    decide
  have ebnR := (eqs4 hA (H5.hlim hH) m bnR hm (by decide)).trans (decide_eq_false hbnR)
  repeat (refine ABr.f (by assumption) ?_; cbv)
  refine ACall.mk _ (cf hS (BlsRS hH)) ?_
  cbv
  by_cases hblsR : m = blsR
  · have e := (eqs4 hA (H5.hlim hH) m blsR hm (by decide)).trans (decide_eq_true hblsR)
    repeat (first | (refine ABr.f (by assumption) ?_; cbv) | (refine ABr.t (by assumption) ?_; cbv))
    rw [hH, hblsR]
    decide
  have eblsR := (eqs4 hA (H5.hlim hH) m blsR hm (by decide)).trans (decide_eq_false hblsR)
  repeat (refine ABr.f (by assumption) ?_; cbv)
  rw [hH]
  show (0 : Int) = ((if m ∈ primes4 then 1 else 0 : Nat) : Int)
  rw [if_neg (by simp only [primes4, List.mem_cons, List.not_mem_nil, or_false, not_or]; exact ⟨hsecpP, hsecpN, hbnP, hbnR, hblsR⟩)]
  rfl
theorem prime6S {H : H5} (hH : H = H5.real) (m : Nat) (hm : m < 2 ^ 384) : Sp 155 [u6 H.lim m] (.s .i64 (H.fast6 m)) := by
  refine mk Tryz.func155 rfl rfl L0 R1 (by decide +kernel) fun A S hA hS => ?_
  unfold bodyOf Tryz.f155
  cbv
  refine ACall.mk _ (cf hS (BlsPS hH)) ?_
  cbv
  by_cases hblsP : m = blsP
  · have e := (eqs6 hA (H5.hlim hH) m blsP hm (by decide)).trans (decide_eq_true hblsP)
    repeat (refine ABr.t e ?_; cbv)
    rw [hH, hblsP]
    decide
  have e := (eqs6 hA (H5.hlim hH) m blsP hm (by decide)).trans (decide_eq_false hblsP)
  repeat (refine ABr.f e ?_; cbv)
  clear e
  rw [hH]
  show (0 : Int) = ((if m ∈ primes6 then 1 else 0 : Nat) : Int)
  rw [if_neg (by simp only [primes6, List.mem_cons, List.not_mem_nil, or_false]; exact hblsP)]
  rfl
end Go.Proofs.YtmholgclgamnnaaGreat
end
