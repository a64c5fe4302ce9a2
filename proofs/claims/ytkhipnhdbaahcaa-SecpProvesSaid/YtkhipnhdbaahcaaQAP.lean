import Derived.Test.YtkhipnhdbaahcaaQAH
import Derived.KernelRfl
set_option linter.unusedVariables false
set_option linter.unusedSimpArgs false
set_option linter.unusedSectionVars false
set_option maxRecDepth 100000
set_option exponentiation.threshold 2000
section
namespace Go.Proofs.Ytkhipnhdbaahcaa
open Go Eng
def newton (m : Nat) : Nat → Nat
 | 0 => 1
 | k + 1 => newton m k * ((18446744073709551616 + 2 - m * newton m k % 18446744073709551616) % 18446744073709551616) % 18446744073709551616
def minvR (m : Nat) : Nat := (18446744073709551616 - newton m 6) % 18446744073709551616
def primes4 : List Nat := [0xfffffffffffffffffffffffffffffffffffffffffffffffffffffffefffffc2f, 0xfffffffffffffffffffffffffffffffebaaedce6af48a03bbfd25e8cd0364141, 0x30644e72e131a029b85045b68181585d97816a916871ca8d3c208c16d87cfd47,
 0x30644e72e131a029b85045b68181585d2833e84879b9709143e1f593f0000001, 0x73eda753299d7d483339d80809a1d80553bda402fffe5bfeffffffff00000001]
def primes6 : List Nat := [0x1a0111ea397fe69a4b1ba7b6434bacd764774b84f38512bf6730d2a0f6b0f6241eabfffeb153ffffb9feffffffffaaab]
structure H5 where
 lim : Nat → Nat → Int
 mf : Nat → Nat → Nat → Nat
 add : Nat → Nat → Nat → Nat
 sub : Nat → Nat → Nat → Nat
 mul : Nat → Nat → Nat → Nat
 mod : Nat → Nat → Nat
 lt : Nat → Nat → Bool
 minv : Nat → Nat
 fast4 : Nat → Nat
 fast6 : Nat → Nat
 pow : Nat → Nat → Nat → Nat
def H5.real : H5 where
 lim := limR
 mf := fun b m a => a * 2 ^ b % m
 add := fun m a b => (a + b) % m
 sub := fun m a b => (a + m - b) % m
 mul := fun m a b => a * b % m
 mod := fun m a => a % m
 lt := fun a b => decide (a < b)
 minv := minvR
 fast4 := fun m => if m ∈ primes4 then 1 else 0
 fast6 := fun m => if m ∈ primes6 then 1 else 0
 pow := fun m a e => a ^ e % m
theorem newton_ok {m : Nat} (hm : m % 2 = 1) : ∀ k, k ≤ 6 → m * newton m k % 2 ^ (2 ^ k) = 1 := by
 intro k
 induction k with
 | zero => intro _; simp [newton, hm]
 | succ k ih =>
   intro hk
   have ih := ih (by omega)
   obtain ⟨x, hx⟩ : ∃ x, x = newton m k := ⟨_, rfl⟩
   rw [← hx] at ih
   have hd : 2 ^ (2 ^ (k + 1)) ∣ 18446744073709551616 := Nat.pow_dvd_pow 2 (show 2 ^ (k + 1) ≤ 64 from Nat.pow_le_pow_right (n := 2) (by omega) (show k + 1 ≤ 6 by omega))
   have he : newton m (k + 1) = x * ((18446744073709551616 + 2 - m * x % 18446744073709551616) % 18446744073709551616) % 18446744073709551616 := by rw [newton, ← hx]
   rw [he, Nat.mul_mod, Nat.mod_mod_of_dvd _ hd, ← Nat.mul_mod, ← Nat.mul_assoc, Nat.mul_mod, Nat.mod_mod_of_dvd _ hd, ← Nat.mul_mod]
   obtain ⟨y, hy⟩ : ∃ y, y = m * x := ⟨_, rfl⟩
   rw [← hy] at ih ⊢
   obtain ⟨q, hq⟩ : ∃ q, q = y / 2 ^ 2 ^ k := ⟨_, rfl⟩
   have hyq : y = 2 ^ 2 ^ k * q + 1 := by rw [hq, ← ih]; exact (Nat.div_add_mod y _).symm
   obtain ⟨r, hr⟩ : ∃ r, r = y / 18446744073709551616 := ⟨_, rfl⟩
   have hyr : y % 18446744073709551616 + 18446744073709551616 * r = y := by rw [hr]; exact Nat.mod_add_div y _
   have hlt : y % 18446744073709551616 < 18446744073709551616 := Nat.mod_lt _ (by omega)
   have hs : y * (18446744073709551616 + 2 - y % 18446744073709551616) + (2 ^ 2 ^ k * q) * (2 ^ 2 ^ k * q) = 1 + 18446744073709551616 * (y * (1 + r)) := by
     have h1 : y * (18446744073709551616 + 2 - y % 18446744073709551616) + y * y = y * 2 + 18446744073709551616 * (y * (1 + r)) := by
       rw [← Nat.mul_add, show 18446744073709551616 + 2 - y % 18446744073709551616 + y = 2 + 18446744073709551616 * (1 + r) by omega, Nat.mul_add, Nat.mul_left_comm]
     have h2 : y * y = (2 ^ 2 ^ k * q) * (2 ^ 2 ^ k * q) + 2 * (2 ^ 2 ^ k * q) + 1 := by
       rw [hyq, Nat.mul_add, Nat.add_mul]; omega
     omega
   have hp : 2 ^ 2 ^ (k + 1) = 2 ^ 2 ^ k * 2 ^ 2 ^ k := by rw [← Nat.pow_add]; congr 1; omega
   have hd2 : 2 ^ 2 ^ (k + 1) ∣ (2 ^ 2 ^ k * q) * (2 ^ 2 ^ k * q) := by
     rw [hp, show (2 ^ 2 ^ k * q) * (2 ^ 2 ^ k * q) = 2 ^ 2 ^ k * 2 ^ 2 ^ k * (q * q) by simp only [Nat.mul_assoc, Nat.mul_left_comm, Nat.mul_comm]]
     exact Nat.dvd_mul_right _ _
   have hd3 : 2 ^ 2 ^ (k + 1) ∣ 18446744073709551616 * (y * (1 + r)) := Nat.dvd_trans hd (Nat.dvd_mul_right _ _)
   have h1 : 1 < 2 ^ 2 ^ (k + 1) := Nat.one_lt_two_pow (by have := Nat.two_pow_pos (k + 1); omega)
   obtain ⟨u, hu⟩ := hd2
   obtain ⟨v, hv⟩ := hd3
   rw [hu, hv] at hs
   have : (y * (18446744073709551616 + 2 - y % 18446744073709551616) + 2 ^ 2 ^ (k + 1) * u) % 2 ^ 2 ^ (k + 1) = (1 + 2 ^ 2 ^ (k + 1) * v) % 2 ^ 2 ^ (k + 1) := by rw [hs]
   rw [Nat.add_mul_mod_self_left, Nat.add_mul_mod_self_left, Nat.mod_eq_of_lt h1] at this
   exact this
theorem minv_ok {m : Nat} (hm : m % 2 = 1) : (m * minvR m + 1) % 18446744073709551616 = 0 := by
 have h := newton_ok hm 6 (by omega)
 have hb : newton m 6 < 18446744073709551616 := Nat.mod_lt _ (by omega)
 have h0 : newton m 6 ≠ 0 := by intro e; rw [e] at h; simp at h
 unfold minvR
 rw [Nat.mod_eq_of_lt (a := 18446744073709551616 - newton m 6) (by omega), Nat.mul_sub]
 have hle : m * newton m 6 ≤ m * 18446744073709551616 := Nat.mul_le_mul_left _ (by omega)
 have h2 : m * newton m 6 % 18446744073709551616 = 1 := h
 omega
theorem minv_lt (m : Nat) : minvR m < 18446744073709551616 := Nat.mod_lt _ (by omega)
theorem minv_lim {lim : Lim} (hl : lim = limR) {m : Nat} (hm : m % 2 = 1) : (lim m 0 * (minvR m : Int) + 1) % 18446744073709551616 = 0 := by
 have h := minv_ok hm
 rw [lim_mod hl]
 have : ((m % 18446744073709551616 * minvR m + 1) % 18446744073709551616 : Nat) = 0 := by
   rw [Nat.add_mod, Nat.mul_mod, Nat.mod_mod, ← Nat.mul_mod, ← Nat.add_mod]; exact h
 have h2 : (((m % 18446744073709551616 * minvR m + 1) % 18446744073709551616 : Nat) : Int) = 0 := by rw [this]; rfl
 rw [Int.natCast_emod, Int.natCast_add, Int.natCast_mul] at h2
 exact h2
structure Mod (b m : Nat) : Prop where
 lt : m < 2 ^ b
 odd : m % 2 = 1
 one : 1 < m
theorem Mod.pos {b m : Nat} (h : Mod b m) : 0 < m := Nat.lt_trans Nat.zero_lt_one h.one
theorem mf_lt {b m a : Nat} (h : 0 < m) : a * 2 ^ b % m < m := Nat.mod_lt _ h
theorem mf_mul (b m a c : Nat) : a * c % m * 2 ^ b % m * 2 ^ b % m = a * 2 ^ b % m * (c * 2 ^ b % m) % m := by
 simp only [Nat.mul_mod, Nat.mod_mod]
 simp only [← Nat.mul_mod]
 congr 1
 simp only [Nat.mul_assoc, Nat.mul_left_comm, Nat.mul_comm]
theorem mf_add (b m a c : Nat) : (a * 2 ^ b % m + c * 2 ^ b % m) % m = (a + c) % m * 2 ^ b % m := by
 rw [← Nat.add_mod, ← Nat.add_mul, Nat.mod_mul_mod]
theorem mf_sub {b m a c : Nat} (hm : 0 < m) (hc : c < m) : (a * 2 ^ b % m + m - c * 2 ^ b % m) % m = (a + m - c) % m * 2 ^ b % m := by
 have h1 : c * 2 ^ b % m < m := Nat.mod_lt _ hm
 have key : ((a * 2 ^ b % m + m - c * 2 ^ b % m) + c * 2 ^ b % m) % m = ((a + m - c) % m * 2 ^ b % m + c * 2 ^ b % m) % m := by
   rw [mf_add, Nat.sub_add_cancel (by omega), Nat.add_mod_right, Nat.mod_mod, Nat.mod_add_mod, Nat.sub_add_cancel (by omega), Nat.add_mod_right, Nat.mod_mul_mod]
 have h2 : (a * 2 ^ b % m + m - c * 2 ^ b % m) % m < m := Nat.mod_lt _ hm
 have h3 : (a + m - c) % m * 2 ^ b % m < m := Nat.mod_lt _ hm
 generalize (a + m - c) % m * 2 ^ b % m = y at *
 generalize c * 2 ^ b % m = z at *
 generalize a * 2 ^ b % m + m - z = x at *
 rw [Nat.add_mod, Nat.mod_eq_of_lt h1] at key
 generalize x % m = x at *
 by_cases h4 : x + z < m
 . by_cases h5 : y + z < m
   . rw [Nat.mod_eq_of_lt h4, Nat.mod_eq_of_lt h5] at key; omega
   . rw [Nat.mod_eq_of_lt h4, Nat.mod_eq_sub_mod (by omega), Nat.mod_eq_of_lt (by omega)] at key; omega
 . by_cases h5 : y + z < m
   . rw [Nat.mod_eq_of_lt h5, Nat.mod_eq_sub_mod (by omega), Nat.mod_eq_of_lt (by omega)] at key; omega
   . rw [Nat.mod_eq_sub_mod (by omega), Nat.mod_eq_of_lt (by omega), Nat.mod_eq_sub_mod (a := y + z) (by omega), Nat.mod_eq_of_lt (by omega)] at key; omega
theorem H5.hlim {H : H5} (hH : H = H5.real) : H.lim = limR := by rw [hH]; rfl
def el4 (H : H5) (m a : Nat) : AVal := u4 H.lim (H.mf 256 m a)
def R4 (H : H5) (m : Nat) : List AVal := ring4 H.lim m (H.minv m) (H.fast4 m) (H.mf 256 m 1) (H.mf (2 * 256) m 1)
theorem mulS4 {lim : Lim} (hl : lim = limR) {m inv : Nat} (hR : Mod 256 m) (hi : inv = minvR m) (fast one two a b r : Nat) (ha : a < 2 ^ 256) (hb : b < 2 ^ 256) (hab : a < m ∨ b < m) (hr : r < m) (hrr : r * 2 ^ 256 % m = a * b % m) :
   Sp 76 [.ref (ring4 lim m inv fast one two) 0, u4 lim a, u4 lim b] (u4 lim r) := by
 obtain ⟨d, hd⟩ := mont4S hl m inv fast one two a b r ha hb hR.lt (hi ▸ minv_lim hl hR.odd) (hi ▸ minv_lt m) hR.odd hab hr hrr
 refine mk Try.func76 rfl rfl L0 R0 (by decide +kernel) fun A S hA hS => ?_
 unfold bodyOf Try.f76
 cbv
 refine AMut.mk _ _ (cm hS hd) ?_
 cbv
theorem isS4 {H : H5} (m : Nat) : Sp 73 [.ref (R4 H m) 0] (.b true) := by
 refine mk Try.func73 rfl rfl L0 R0 (by decide +kernel) fun A S hA hS => ?_
 unfold bodyOf Try.f73
 cbv
theorem mulE4 {H : H5} (hH : H = H5.real) {m a b : Nat} (hR : Mod 256 m) : Sp 76 [.ref (R4 H m) 0, el4 H m a, el4 H m b] (el4 H m (H.mul m a b)) := by
 have h1 : H.mf 256 m a < m := by rw [hH]; exact mf_lt hR.pos
 have h2 : H.mf 256 m b < m := by rw [hH]; exact mf_lt hR.pos
 exact mulS4 (H5.hlim hH) hR (by rw [hH]; rfl) _ _ _ _ _ _ (Nat.lt_trans h1 hR.lt) (Nat.lt_trans h2 hR.lt) (.inl h1) (by rw [hH]; exact mf_lt hR.pos) (by rw [hH]; exact mf_mul 256 m a b)
theorem addS4 {lim : Lim} (hl : lim = limR) {m inv : Nat} (hR : Mod 256 m) (fast one two a b r : Nat) (ha : a < m) (hb : b < m) (hr : r = (a + b) % m) :
   Sp 100 [.ref (ring4 lim m inv fast one two) 0, u4 lim a, u4 lim b] (u4 lim r) := by
 have hm := hR.lt
 obtain ⟨s, hs⟩ : ∃ s, s = (a + b) % 2 ^ 256 := ⟨_, rfl⟩
 obtain ⟨c, hc⟩ : ∃ s, s = (a + b) / 2 ^ 256 := ⟨_, rfl⟩
 obtain ⟨d, hd⟩ : ∃ d, d = if s < m then s + 2 ^ 256 - m else s - m := ⟨_, rfl⟩
 obtain ⟨k, h1, h2, h3⟩ := less_dif (a := s) (b := m) (n := 2 ^ 256) (by omega) hm (decide (s < m)) rfl hd
 have hc2 : c = 0 ∨ c = 1 := by omega
 have hcase : (c = 1 ∧ r = d) ∨ (c = 0 ∧ k = 0 ∧ r = d) ∨ (c = 0 ∧ k = 1 ∧ r = s) := by
   have hab : (a + b) % m = if a + b < m then a + b else a + b - m := by
     split
     . exact Nat.mod_eq_of_lt (by omega)
     . rw [Nat.mod_eq_sub_mod (by omega)]; exact Nat.mod_eq_of_lt (by omega)
   rw [hab] at hr
   by_cases hlt : s < m
   . simp [hlt] at h3
     split at hr <;> omega
   . simp [hlt] at h3
     split at hr <;> omega
 have hp := plus4 hl a b s c (by omega) (by omega) (by omega) (by omega)
 have hq := minus4 hl s m d k (by omega) hm h1 h2
 refine mk Try.func100 rfl rfl L0 R1 (by decide +kernel) fun A S hA hS => ?_
 unfold bodyOf Try.f100
 cbv
 refine ACall.mk (.tup [u4 lim s, .s .u64 c]) (cf hS hp) ?_
 cbv
 refine ACall.mk (.tup [u4 lim d, .s .u64 k]) (cf hS hq) ?_
 cbv
 rcases hcase with ⟨rfl, rfl⟩ | ⟨rfl, rfl, rfl⟩ | ⟨rfl, rfl, rfl⟩
 all_goals repeat ((first | refine ABr.t (cmp_lit hA rfl) ?_ | refine ABr.f (cmp_lit hA rfl) ?_); cbv)
theorem addE4 {H : H5} (hH : H = H5.real) {m a b : Nat} (hR : Mod 256 m) : Sp 100 [.ref (R4 H m) 0, el4 H m a, el4 H m b] (el4 H m (H.add m a b)) :=
 addS4 (H5.hlim hH) hR _ _ _ _ _ _ (by rw [hH]; exact mf_lt hR.pos) (by rw [hH]; exact mf_lt hR.pos) (by rw [hH]; exact (mf_add 256 m a b).symm)
theorem rlessS4 {lim : Lim} (hl : lim = limR) {m inv : Nat} (hR : Mod 256 m) (fast one two a b r : Nat) (ha : a < m) (hb : b < m) (hr : r = (a + m - b) % m) :
   Sp 106 [.ref (ring4 lim m inv fast one two) 0, u4 lim a, u4 lim b] (u4 lim r) := by
 have hm := hR.lt
 obtain ⟨d, hd⟩ : ∃ d, d = if a < b then a + 2 ^ 256 - b else a - b := ⟨_, rfl⟩
 obtain ⟨k, h1, h2, h3⟩ := less_dif (a := a) (b := b) (n := 2 ^ 256) (by omega) (by omega) (decide (a < b)) rfl hd
 have hq := minus4 hl a b d k (by omega) (by omega) h1 h2
 have hab : (a + m - b) % m = if a < b then a + m - b else a - b := by
   split
   . exact Nat.mod_eq_of_lt (by omega)
   . rw [Nat.mod_eq_sub_mod (by omega)]; exact (Nat.mod_eq_of_lt (by omega)).trans (by omega)
 rw [hab] at hr
 refine mk Try.func106 rfl rfl L0 R1 (by decide +kernel) fun A S hA hS => ?_
 unfold bodyOf Try.f106
 cbv
 refine ACall.mk (.tup [u4 lim d, .s .u64 k]) (cf hS hq) ?_
 cbv
 by_cases hlt : a < b
 . simp [hlt] at h3
   subst h3
   refine ABr.t (cmp_lit hA rfl) ?_
   cbv
   refine ACall.mk (.tup [u4 lim r, .s .u64 (1 : Nat)]) (cf hS (plus4 hl d m r 1 h2 hm (by rw [if_pos hlt] at hr hd; omega) (by rw [if_pos hlt] at hr; omega))) ?_
   cbv
 . simp [hlt] at h3
   subst h3
   rw [if_neg hlt] at hr hd
   obtain rfl : r = d := hr.trans hd.symm
   refine ABr.f (cmp_lit hA rfl) ?_
   cbv
theorem rlessE4 {H : H5} (hH : H = H5.real) {m a b : Nat} (hR : Mod 256 m) (hb : b < m) : Sp 106 [.ref (R4 H m) 0, el4 H m a, el4 H m b] (el4 H m (H.sub m a b)) :=
 rlessS4 (H5.hlim hH) hR _ _ _ _ _ _ (by rw [hH]; exact mf_lt hR.pos) (by rw [hH]; exact mf_lt hR.pos) (by rw [hH]; exact (mf_sub hR.pos hb).symm)
def z4 (H : H5) : AVal := u4 H.lim 0
theorem zS4 {H : H5} (hH : H = H5.real) : Sp 74 [] (z4 H) := Spec.res none4S (by rw [hH]; exact ⟨rfl, rfl, rfl, rfl⟩)
theorem MulS4 {H : H5} (hH : H = H5.real) {m a b : Nat} (hR : Mod 256 m) : Sp 48 [.ref (R4 H m) 0, el4 H m a, el4 H m b] (el4 H m (H.mul m a b)) := by
 refine mk Try.func48 rfl rfl L0 R1 (by decide +kernel) fun A S hA hS => ?_
 unfold bodyOf Try.f48
 cbv
 refine ACall.mk _ (cf hS (isS4 (H := H) m)) ?_
 cbv
 refine ACall.mk _ (cf hS (mulE4 hH hR (a := a) (b := b))) ?_
 cbv
theorem AddS4 {H : H5} (hH : H = H5.real) {m a b : Nat} (hR : Mod 256 m) : Sp 87 [.ref (R4 H m) 0, el4 H m a, el4 H m b] (el4 H m (H.add m a b)) := by
 refine mk Try.func87 rfl rfl L0 R1 (by decide +kernel) fun A S hA hS => ?_
 unfold bodyOf Try.f87
 cbv
 refine ACall.mk _ (cf hS (isS4 (H := H) m)) ?_
 cbv
 refine ACall.mk _ (cf hS (addE4 hH hR (a := a) (b := b))) ?_
 cbv
theorem SubS4 {H : H5} (hH : H = H5.real) {m a b : Nat} (hR : Mod 256 m) (hb : b < m) : Sp 85 [.ref (R4 H m) 0, el4 H m a, el4 H m b] (el4 H m (H.sub m a b)) := by
 refine mk Try.func85 rfl rfl L0 R1 (by decide +kernel) fun A S hA hS => ?_
 unfold bodyOf Try.f85
 cbv
 refine ACall.mk _ (cf hS (isS4 (H := H) m)) ?_
 cbv
 refine ACall.mk _ (cf hS (rlessE4 hH hR hb (a := a) (b := b))) ?_
 cbv
theorem NegS4 {H : H5} (hH : H = H5.real) {m b : Nat} (hR : Mod 256 m) (hb : b < m) : Sp 47 [.ref (R4 H m) 0, el4 H m b] (el4 H m (H.sub m 0 b)) := by
 have hz : z4 H = el4 H m 0 := by rw [hH]; unfold z4 el4 H5.real; simp
 refine mk Try.func47 rfl rfl L0 R1 (by decide +kernel) fun A S hA hS => ?_
 unfold bodyOf Try.f47
 cbv
 refine ACall.mk (el4 H m 0) (cf hS (hz ▸ zS4 hH)) ?_
 cbv
 refine ACall.mk _ (cf hS (SubS4 hH hR hb (a := 0) (b := b))) ?_
 cbv
theorem InS4 {H : H5} (hH : H = H5.real) {m a : Nat} (hR : Mod 256 m) (ha : a < 2 ^ 256) : Sp 44 [.ref (R4 H m) 0, u4 H.lim a] (el4 H m (H.mod m a)) := by
 have h2 : H.mf (2 * 256) m 1 < m := by rw [hH]; exact mf_lt hR.pos
 have hm := mulS4 (H5.hlim hH) hR (inv := H.minv m) (by rw [hH]; rfl) (H.fast4 m) (H.mf 256 m 1) (H.mf (2 * 256) m 1) a (H.mf (2 * 256) m 1) (H.mf 256 m (H.mod m a)) ha (Nat.lt_trans h2 hR.lt) (.inr h2)
   (by rw [hH]; exact mf_lt hR.pos) (by
     rw [hH]
     show a % m * 2 ^ 256 % m * 2 ^ 256 % m = a * (1 * 2 ^ (2 * 256) % m) % m
     rw [Nat.mod_mul_mod, Nat.mul_mod_mod, Nat.one_mul, Nat.mul_assoc, Nat.mod_mul_mod, ← Nat.pow_add])
 refine mk Try.func44 rfl rfl L0 R1 (by decide +kernel) fun A S hA hS => ?_
 unfold bodyOf Try.f44
 cbv
 refine ACall.mk _ (cf hS (isS4 (H := H) m)) ?_
 cbv
 refine aF hS hm ?_
 cbv
theorem OutS4 {H : H5} (hH : H = H5.real) {m a : Nat} (hR : Mod 256 m) (ha : a < m) : Sp 46 [.ref (R4 H m) 0, el4 H m a] (u4 H.lim a) := by
 have h2 : H.mf 256 m a < m := by rw [hH]; exact mf_lt hR.pos
 have h1 := hR.one
 have hlt := hR.lt
 have hm := mulS4 (H5.hlim hH) hR (inv := H.minv m) (by rw [hH]; rfl) (H.fast4 m) (H.mf 256 m 1) (H.mf (2 * 256) m 1) (H.mf 256 m a) 1 a (Nat.lt_trans h2 hR.lt) (by omega) (.inl h2) ha (by
     rw [hH]
     show a * 2 ^ 256 % m = a * 2 ^ 256 % m * 1 % m
     rw [Nat.mul_one, Nat.mod_mod])
 have hone : u4 H.lim 1 = .agg [.s .u64 1, .s .u64 0, .s .u64 0, .s .u64 0] := by rw [hH]; rfl
 refine mk Try.func46 rfl rfl L0 R1 (by decide +kernel) fun A S hA hS => ?_
 unfold bodyOf Try.f46
 cbv
 refine ACall.mk _ (cf hS (isS4 (H := H) m)) ?_
 cbv
 refine ACall.mk _ (cg hS hm (by rw [hone]; cbv)) ?_
 cbv
abbrev secpP : Nat := 0xfffffffffffffffffffffffffffffffffffffffffffffffffffffffefffffc2f
abbrev secpN : Nat := 0xfffffffffffffffffffffffffffffffebaaedce6af48a03bbfd25e8cd0364141
abbrev bnP : Nat := 0x30644e72e131a029b85045b68181585d97816a916871ca8d3c208c16d87cfd47
abbrev bnR : Nat := 0x30644e72e131a029b85045b68181585d2833e84879b9709143e1f593f0000001
abbrev blsR : Nat := 0x73eda753299d7d483339d80809a1d80553bda402fffe5bfeffffffff00000001
theorem leafEq_s (k : IntKind) (a b : Int) : leafEq (.s k a, .s k b) = decide (a = b) := by
 show (a == b) = _
 by_cases h : a = b <;> simp [h]
theorem eqs_real {A : Ar} (hA : A = Ar.real) (l : List (AVal × AVal)) : A.eqs l = l.all leafEq := by rw [hA]; rfl
theorem eqs4 {A : Ar} (hA : A = Ar.real) {lim : Lim} (hl : lim = limR) (a b : Nat) (ha : a < 2 ^ 256) (hb : b < 2 ^ 256) : A.eqs [(.s .u64 (lim a 0), .s .u64 (lim b 0)), (.s .u64 (lim a 1), .s .u64 (lim b 1)), (.s .u64 (lim a 2), .s .u64 (lim b 2)), (.s .u64 (lim a 3), .s .u64 (lim b 3))] = decide (a = b) := by
 rw [eqs_real hA]
 simp only [List.all_cons, List.all_nil, leafEq_s, Bool.and_true]
 by_cases h : a = b
 . subst h; simp
 . rw [decide_eq_false h]
   refine Bool.eq_false_iff.2 fun h' => h (lim_inj4 hl ha hb ?_)
   simpa using h'
theorem wordsS4 {H : H5} (a : Nat) : Sp 80 [u4 H.lim a] (.new false 4 1 [.s .u64 (H.lim a 0), .s .u64 (H.lim a 1), .s .u64 (H.lim a 2), .s .u64 (H.lim a 3)]) := by
 refine mk Try.func80 rfl rfl L0 R0 (by decide +kernel) fun A S hA hS => ?_
 unfold bodyOf Try.f80
 cbv
theorem SecpPS {H : H5} (hH : H = H5.real) : Sp 50 [] (u4 H.lim secpP) := by
 refine mk Try.func50 rfl rfl L0 R1 (by decide +kernel) fun A S hA hS => ?_
 unfold bodyOf Try.f50
 cbv
 rw [hH]
 exact ⟨rfl, rfl, rfl, rfl⟩
theorem SecpNS {H : H5} (hH : H = H5.real) : Sp 54 [] (u4 H.lim secpN) := by
 refine mk Try.func54 rfl rfl L0 R1 (by decide +kernel) fun A S hA hS => ?_
 unfold bodyOf Try.f54
 cbv
 rw [hH]
 exact ⟨rfl, rfl, rfl, rfl⟩
theorem BnPS {H : H5} (hH : H = H5.real) : Sp 117 [] (u4 H.lim bnP) := by
 refine mk Try.func117 rfl rfl L0 R1 (by decide +kernel) fun A S hA hS => ?_
 unfold bodyOf Try.f117
 cbv
 rw [hH]
 exact ⟨rfl, rfl, rfl, rfl⟩
theorem BnRS {H : H5} (hH : H = H5.real) : Sp 118 [] (u4 H.lim bnR) := by
 refine mk Try.func118 rfl rfl L0 R1 (by decide +kernel) fun A S hA hS => ?_
 unfold bodyOf Try.f118
 cbv
 rw [hH]
 exact ⟨rfl, rfl, rfl, rfl⟩
theorem BlsRS {H : H5} (hH : H = H5.real) : Sp 119 [] (u4 H.lim blsR) := by
 refine mk Try.func119 rfl rfl L0 R1 (by decide +kernel) fun A S hA hS => ?_
 unfold bodyOf Try.f119
 cbv
 rw [hH]
 exact ⟨rfl, rfl, rfl, rfl⟩
theorem prime4S {H : H5} (hH : H = H5.real) (m : Nat) (hm : m < 2 ^ 256) : Sp 101 [u4 H.lim m] (.s .i64 (H.fast4 m)) := by
 refine mk Try.func101 rfl rfl L0 R1 (by decide +kernel) fun A S hA hS => ?_
 unfold bodyOf Try.f101
 cbv
 refine ACall.mk _ (cf hS (SecpPS hH)) ?_
 cbv
 by_cases hsecpP : m = secpP
 . have e := (eqs4 hA (H5.hlim hH) m secpP hm (by decide)).trans (decide_eq_true hsecpP)
   repeat ((first | refine ABr.f (by assumption) ?_ | refine ABr.t (by assumption) ?_); cbv)
   rw [hH, hsecpP]
   decide
 have esecpP := (eqs4 hA (H5.hlim hH) m secpP hm (by decide)).trans (decide_eq_false hsecpP)
 repeat (refine ABr.f (by assumption) ?_; cbv)
 refine ACall.mk _ (cf hS (SecpNS hH)) ?_
 cbv
 by_cases hsecpN : m = secpN
 . have e := (eqs4 hA (H5.hlim hH) m secpN hm (by decide)).trans (decide_eq_true hsecpN)
   repeat ((first | refine ABr.f (by assumption) ?_ | refine ABr.t (by assumption) ?_); cbv)
   rw [hH, hsecpN]
   decide
 have esecpN := (eqs4 hA (H5.hlim hH) m secpN hm (by decide)).trans (decide_eq_false hsecpN)
 repeat (refine ABr.f (by assumption) ?_; cbv)
 refine ACall.mk _ (cf hS (BnPS hH)) ?_
 cbv
 by_cases hbnP : m = bnP
 . have e := (eqs4 hA (H5.hlim hH) m bnP hm (by decide)).trans (decide_eq_true hbnP)
   repeat ((first | refine ABr.f (by assumption) ?_ | refine ABr.t (by assumption) ?_); cbv)
   rw [hH, hbnP]
   decide
 have ebnP := (eqs4 hA (H5.hlim hH) m bnP hm (by decide)).trans (decide_eq_false hbnP)
 repeat (refine ABr.f (by assumption) ?_; cbv)
 refine ACall.mk _ (cf hS (BnRS hH)) ?_
 cbv
 by_cases hbnR : m = bnR
 . have e := (eqs4 hA (H5.hlim hH) m bnR hm (by decide)).trans (decide_eq_true hbnR)
   repeat ((first | refine ABr.f (by assumption) ?_ | refine ABr.t (by assumption) ?_); cbv)
   rw [hH, hbnR]
   decide
 have ebnR := (eqs4 hA (H5.hlim hH) m bnR hm (by decide)).trans (decide_eq_false hbnR)
 repeat (refine ABr.f (by assumption) ?_; cbv)
 refine ACall.mk _ (cf hS (BlsRS hH)) ?_
 cbv
 by_cases hblsR : m = blsR
 . have e := (eqs4 hA (H5.hlim hH) m blsR hm (by decide)).trans (decide_eq_true hblsR)
   repeat ((first | refine ABr.f (by assumption) ?_ | refine ABr.t (by assumption) ?_); cbv)
   rw [hH, hblsR]
   decide
 have eblsR := (eqs4 hA (H5.hlim hH) m blsR hm (by decide)).trans (decide_eq_false hblsR)
 repeat (refine ABr.f (by assumption) ?_; cbv)
 rw [hH]
 show (0 : Int) = ((if m ∈ primes4 then 1 else 0 : Nat) : Int)
 rw [if_neg (by simp only [primes4, List.mem_cons, List.not_mem_nil, or_false, not_or]; exact ⟨hsecpP, hsecpN, hbnP, hbnR, hblsR⟩)]
 rfl
theorem limR_half (n i : Nat) : limR (n / 2) i = limR n i / 2 + 9223372036854775808 * (limR n (i + 1) % 2) := by
 unfold limR
 obtain ⟨q, hq⟩ : ∃ q, q = n / 2 ^ (64 * i) := ⟨_, rfl⟩
 have h1 : n / 2 / 2 ^ (64 * i) = q / 2 := by rw [hq, Nat.div_div_eq_div_mul, Nat.mul_comm 2, ← Nat.div_div_eq_div_mul]
 have h2 : n / 2 ^ (64 * (i + 1)) = q / 18446744073709551616 := by rw [hq, Nat.div_div_eq_div_mul, show (18446744073709551616 : Nat) = 2 ^ 64 from rfl, ← Nat.pow_add]; rfl
 rw [h1, h2, ← hq]
 omega
theorem half_word {A : Ar} (hA : A = Ar.real) {x y : Int} (hx : 0 ≤ x ∧ x < 18446744073709551616) (hy : 0 ≤ y ∧ y < 18446744073709551616) : A.bin .or .u64 (A.bin .shr .u64 x 1) (A.bin .shl .u64 (A.bin .and .u64 y 1) 63) = x / 2 + 9223372036854775808 * (y % 2) := by
 obtain ⟨a, rfl⟩ : ∃ n : Nat, x = n := ⟨x.toNat, by omega⟩
 obtain ⟨b, rfl⟩ : ∃ n : Nat, y = n := ⟨y.toNat, by omega⟩
 rw [hA]
 show rbin .or .u64 (rbin .shr .u64 (Int.ofNat a) (Int.ofNat 1)) (rbin .shl .u64 (rbin .and .u64 (Int.ofNat b) (Int.ofNat 1)) (Int.ofNat 63)) = _
 rw [u_shr a 1 (by omega), show (Int.ofNat 1) = Int.ofNat (2 ^ 1 - 1) from rfl, u_mask b 1 (by omega) (by omega), u_shl _ 63 (by omega), Nat.mod_eq_of_lt (by omega), Nat.mul_comm (b % 2 ^ 1), u_or_add _ _ 63 (by omega) (by omega) (by omega)]
 show ((a / 2 ^ 1 + 2 ^ 63 * (b % 2 ^ 1) : Nat) : Int) = _
 omega
theorem half_top {A : Ar} (hA : A = Ar.real) {x y : Int} (hx : 0 ≤ x ∧ x < 18446744073709551616) (hy : y = 0 ∨ y = 1) : A.bin .or .u64 (A.bin .shr .u64 x 1) (A.bin .shl .u64 y 63) = x / 2 + 9223372036854775808 * y := by
 obtain ⟨a, rfl⟩ : ∃ n : Nat, x = n := ⟨x.toNat, by omega⟩
 obtain ⟨b, rfl⟩ : ∃ n : Nat, y = n := ⟨y.toNat, by omega⟩
 rw [hA]
 show rbin .or .u64 (rbin .shr .u64 (Int.ofNat a) (Int.ofNat 1)) (rbin .shl .u64 (Int.ofNat b) (Int.ofNat 63)) = _
 rw [u_shr a 1 (by omega), u_shl _ 63 (by omega), Nat.mod_eq_of_lt (by omega), Nat.mul_comm b, u_or_add _ _ 63 (by omega) (by omega) (by omega)]
 show ((a / 2 ^ 1 + 2 ^ 63 * b : Nat) : Int) = _
 omega
def hv (m a : Nat) : Nat := if a % 2 = 0 then a / 2 else (a + m) / 2
theorem half_lim4 {lim : Lim} (hl : lim = limR) {a top : Nat} (ha : a < 2 ^ 256) (ht : top ≤ 1) :
   lim a 0 / 2 + 9223372036854775808 * (lim a 1 % 2) = lim ((a + 2 ^ 256 * top) / 2) 0 ∧ lim a 1 / 2 + 9223372036854775808 * (lim a 2 % 2) = lim ((a + 2 ^ 256 * top) / 2) 1 ∧ lim a 2 / 2 + 9223372036854775808 * (lim a 3 % 2) = lim ((a + 2 ^ 256 * top) / 2) 2 ∧ lim a (4 - 1) / 2 + 9223372036854775808 * (top : Int) = lim ((a + 2 ^ 256 * top) / 2) (4 - 1) := by
 subst hl
 have e : ∀ i, i < 4 → limR (a + 2 ^ 256 * top) i = limR a i := by
   intro i hi
   unfold limR
   congr 1
   rw [show 2 ^ 256 * top = 2 ^ (64 * i) * (2 ^ 64 * (2 ^ (256 - 64 * i - 64) * top)) by
     rw [← Nat.mul_assoc, ← Nat.mul_assoc, ← Nat.pow_add, ← Nat.pow_add]; congr 2; omega]
   rw [Nat.add_mul_div_left _ _ (Nat.two_pow_pos _), Nat.add_mul_mod_self_left]
 have e4 : limR (a + 2 ^ 256 * top) 4 = (top : Int) := by
   unfold limR
   congr 1
   show (a + 2 ^ 256 * top) / 2 ^ 256 % 2 ^ 64 = top
   rw [Nat.add_mul_div_left _ _ (Nat.two_pow_pos _), Nat.div_eq_of_lt ha]
   omega
 have et : (top : Int) % 2 = top := by omega
 refine ⟨?_, ?_, ?_, ?_⟩
 all_goals rw [limR_half]
 . rw [e 0 (by omega), e 1 (by omega)]
 . rw [e 1 (by omega), e 2 (by omega)]
 . rw [e 2 (by omega), e 3 (by omega)]
 . rw [e (4 - 1) (by omega), e4, et]
theorem halfS4 {lim : Lim} (hl : lim = limR) {a top h : Nat} (ha : a < 2 ^ 256) (ht : top ≤ 1) (hh : h = (a + 2 ^ 256 * top) / 2) : Sp 104 [u4 lim a, .s .u64 top] (u4 lim h) := by
 have la := fun i => lim_range hl a i
 have hf := half_lim4 hl ha ht
 rw [← hh] at hf
 obtain ⟨h0, h1, h2, h3⟩ := hf
 have ht' : (top : Int) = 0 ∨ (top : Int) = 1 := by omega
 refine mk Try.func104 rfl rfl L0 R1 (by decide +kernel) fun A S hA hS => ?_
 unfold bodyOf Try.f104
 cbv
 exact ⟨(half_word hA (la 0) (la 1)).trans h0, (half_word hA (la 1) (la 2)).trans h1, (half_word hA (la 2) (la 3)).trans h2, (half_top hA (la (4 - 1)) ht').trans h3⟩
theorem even_lim4 {A : Ar} (hA : A = Ar.real) {lim : Lim} (hl : lim = limR) (a : Nat) : A.cmp .eql (A.bin .and .u64 (lim a 0) 1) 0 = decide (a % 2 = 0) := by
 rw [lim_mod hl, hA]
 show rcmp .eql (rbin .and .u64 (Int.ofNat (a % 18446744073709551616)) (Int.ofNat (2 ^ 1 - 1))) 0 = _
 rw [u_mask _ 1 (by omega) (by omega)]
 show ((Int.ofNat (a % 18446744073709551616 % 2 ^ 1)) == (0 : Int)) = _
 by_cases h : a % 2 = 0
 . rw [decide_eq_true h, show a % 18446744073709551616 % 2 ^ 1 = 0 by omega]; rfl
 . rw [decide_eq_false h, show a % 18446744073709551616 % 2 ^ 1 = 1 by omega]; rfl
theorem halvedS4 {lim : Lim} (hl : lim = limR) {m inv : Nat} (hR : Mod 256 m) (fast one two a h : Nat) (ha : a < m) (hh : h = hv m a) :
   Sp 105 [.ref (ring4 lim m inv fast one two) 0, u4 lim a] (u4 lim h) := by
 have hm := hR.lt
 refine mk Try.func105 rfl rfl L0 R1 (by decide +kernel) fun A S hA hS => ?_
 unfold bodyOf Try.f105
 cbv
 have e := even_lim4 hA hl a
 unfold hv at hh
 by_cases h2 : a % 2 = 0
 . rw [decide_eq_true h2] at e
   rw [if_pos h2] at hh
   refine ABr.t e ?_
   cbv
   refine ACall.mk (u4 lim h) (cg hS (halfS4 hl (a := a) (top := 0) (by omega) (by omega) (by omega)) (by cbv)) ?_
   cbv
 . rw [decide_eq_false h2] at e
   rw [if_neg h2] at hh
   refine ABr.f e ?_
   cbv
   obtain ⟨s, hs⟩ : ∃ s, s = (a + m) % 2 ^ 256 := ⟨_, rfl⟩
   obtain ⟨c, hc⟩ : ∃ s, s = (a + m) / 2 ^ 256 := ⟨_, rfl⟩
   refine ACall.mk (.tup [u4 lim s, .s .u64 c]) (cf hS (plus4 hl a m s c (by omega) (by omega) (by omega) (by omega))) ?_
   cbv
   refine ACall.mk (u4 lim h) (cf hS (halfS4 hl (a := s) (top := c) (by omega) (by omega) (by omega))) ?_
   cbv
theorem mkE {f : FuncId} {fn : Func} {As : List AVal} {r : AVal} (hf : Try.prog.funcs[f]? = some fn) (hb : fn.body = some (bodyOf fn)) (hn : (fn.name == "runtime.NumGoroutine") = false) (Nl : Nat → Nat) (tr : Nat → Md)
   (hok : codeOK tr (bodyOf fn) = true) (h : ∀ (A : Ar) (S : SpecT), A = Ar.real → OkS true S → afun A TT S Nl tr fn.ntmps fn.results (bodyOf fn) As (fun x => x = r)) : Sp f As r :=
 spec_of_afun (P := Try.prog) (T := TT) TT.ok TT.mixed (draw_ok (P := Try.prog) (T := TT) TT.ok) (Sp := specs Try.prog) ⟨fun _ _ _ h => h, fun _ _ _ _ _ h => h, fun _ _ _ _ h => h, fun _ => rfl⟩ rfl hf hb hn (N := Nl) (tr := tr) hok (h Ar.real _ rfl ⟨rfl⟩)
theorem digitsS {row : List AVal} {n : Nat} : Sp 107 [.lst true n row] (.fn (.func 123) [] [.ref [.lst true n row] 0]) := by
 refine mkE Try.func107 rfl rfl LN R0 (by decide +kernel) fun A S hA hS => ?_
 unfold bodyOf Try.f107
 cbv
theorem bitAt_eq (e n i : Nat) (hi : i < 64 * n) : bitAt (limR e) n i = e / 2 ^ (64 * n - 1 - i) % 2 := by
 unfold bitAt limR
 obtain ⟨k, hk⟩ : ∃ k, k = 64 * n - 1 - i := ⟨_, rfl⟩
 rw [← hk, Int.toNat_natCast]
 obtain ⟨r, hr⟩ : ∃ r, r = k % 64 := ⟨_, rfl⟩
 rw [← hr]
 have hr64 : r < 64 := by omega
 have e1 : k = 64 * (k / 64) + r := by omega
 have e2 : e / 2 ^ k = e / 2 ^ (64 * (k / 64)) / 2 ^ r := by
   rw [Nat.div_div_eq_div_mul, ← Nat.pow_add, ← e1]
 rw [e2]
 generalize e / 2 ^ (64 * (k / 64)) = x
 rw [show (2 : Nat) ^ 64 = 2 ^ r * 2 ^ (64 - r) by rw [← Nat.pow_add]; congr 1; omega, Nat.mod_mul_right_div_self, Nat.mod_mod_of_dvd]
 exact Nat.dvd_trans (by decide) (Nat.pow_dvd_pow 2 (show 1 ≤ 64 - r by omega))
theorem pow_step (m a e j : Nat) : a ^ (e / 2 ^ j) % m = if e / 2 ^ j % 2 = 1 then a ^ (e / 2 ^ (j + 1)) % m * (a ^ (e / 2 ^ (j + 1)) % m) % m * a % m else a ^ (e / 2 ^ (j + 1)) % m * (a ^ (e / 2 ^ (j + 1)) % m) % m := by
 have e1 : e / 2 ^ (j + 1) = e / 2 ^ j / 2 := by rw [Nat.pow_succ, Nat.div_div_eq_div_mul]
 rw [e1]
 generalize e / 2 ^ j = x
 have sq : a ^ (x / 2) % m * (a ^ (x / 2) % m) % m = a ^ (2 * (x / 2)) % m := by
   rw [← Nat.mul_mod, ← Nat.pow_add]; congr 2; omega
 rw [sq]
 split
 . rw [Nat.mod_mul_mod, ← Nat.pow_succ]; congr 2; omega
 . congr 2; omega
theorem bit_eq {A : Ar} (hA : A = Ar.real) (t : Nat) : A.cmp .eql (t : Int) 1 = decide (t = 1) := by
 rw [i_eq hA]
 by_cases h : t = 1
 . subst h; rfl
 . rw [decide_eq_false h, decide_eq_false (by omega)]
def expH4 (H : H5) (m a x : Nat) : List Blk := [⟨true, true, [.ref (R4 H m) 0]⟩, ⟨true, true, [.s .u64 (H.lim (H.mf 256 m a) 0), .s .u64 (H.lim (H.mf 256 m a) 1), .s .u64 (H.lim (H.mf 256 m a) 2), .s .u64 (H.lim (H.mf 256 m a) 3)]⟩, ⟨true, true, [.i .u64 0, .i .u64 0, .i .u64 0, .i .u64 0]⟩, ⟨true, true, [.s .u64 (H.lim (H.mf 256 m x) 0), .s .u64 (H.lim (H.mf 256 m x) 1), .s .u64 (H.lim (H.mf 256 m x) 2), .s .u64 (H.lim (H.mf 256 m x) 3)]⟩]
theorem ExpS4 {H : H5} (hH : H = H5.real) {m a : Nat} (hR : Mod 256 m) (ha : a < m) {row : List AVal} {e k : Nat} (hrow : IsRow row (limR e) k) (hk : k < 1000) (he : e < 2 ^ (64 * k)) :
   Sp 79 [.ref (R4 H m) 0, el4 H m a, .lst true k row] (el4 H m (H.pow m a e)) := by
 obtain ⟨t, ht⟩ : ∃ t : Nat → Nat, t = bitAt (limR e) k := ⟨_, rfl⟩
 obtain ⟨x, hx⟩ : ∃ x : Nat → Nat, x = fun i => H.pow m a (e / 2 ^ (64 * k - i)) := ⟨_, rfl⟩
 have hx0 : x 0 = 1 := by
   rw [hx, hH]
   show a ^ (e / 2 ^ (64 * k)) % m = 1
   rw [Nat.div_eq_of_lt he, Nat.pow_zero, Nat.mod_eq_of_lt hR.one]
 have hxs : ∀ i, i < 64 * k → x (i + 1) = if t i = 1 then H.mul m (H.mul m (x i) (x i)) a else H.mul m (x i) (x i) := by
   intro i hi
   rw [hx, ht, bitAt_eq e k i hi, hH]
   show a ^ (e / 2 ^ (64 * k - (i + 1))) % m = if e / 2 ^ (64 * k - 1 - i) % 2 = 1 then a ^ (e / 2 ^ (64 * k - i)) % m * (a ^ (e / 2 ^ (64 * k - i)) % m) % m * a % m else a ^ (e / 2 ^ (64 * k - i)) % m * (a ^ (e / 2 ^ (64 * k - i)) % m) % m
   rw [show 64 * k - (i + 1) = 64 * k - 1 - i by omega, show 64 * k - i = 64 * k - 1 - i + 1 by omega]
   exact pow_step m a e _
 have hxe : x (64 * k) = H.pow m a e := by rw [hx]; show H.pow m a (e / 2 ^ (64 * k - 64 * k)) = _; rw [Nat.sub_self, Nat.pow_zero, Nat.div_one]
 have hd := digitsI hrow hk (fun i _ => lim_range rfl e i) (fun i => [.s .u64 (t i : Nat)]) (fun i _ => by rw [ht])
 refine mk Try.func79 rfl rfl LN R1 (by decide +kernel) fun A S hA hS => ?_
 unfold bodyOf Try.f79
 cbv
 refine ACall.mk _ (cf hS (isS4 (H := H) m)) ?_
 cbv
 refine aF hS digitsS ?_
 cbv
 refine .mk _ _ (cs hS hd) (fun i _ => rfl) (fun i => expH4 H m a (x i)) ?_ ?_ ?_
 . rw [hx0]; cbv
 . intro i hi
   have hst := hxs i hi
   have hb := bit_eq hA (t i)
   generalize x (i + 1) = y at hst ⊢
   generalize x i = xi at hst ⊢
   generalize t i = ti at hst hb ⊢
   cbv
   refine ACall.mk _ (cf hS (mulE4 hH hR (a := xi) (b := xi))) ?_
   cbv
   by_cases h1 : ti = 1
   . rw [if_pos h1] at hst
     rw [decide_eq_true h1] at hb
     refine ABr.t hb ?_
     cbv
     refine ACall.mk _ (cf hS (mulE4 hH hR (a := H.mul m xi xi) (b := a))) ?_
     rw [hst]
     cbv
   . rw [if_neg h1] at hst
     rw [decide_eq_false h1] at hb
     rw [hst]
     refine ABr.f hb ?_
     cbv
 . rw [hxe]
   cbv
def LMk : Nat → Nat := fun b => match b with | 0 => 20 | _ => 0
theorem newton_lt (m : Nat) : ∀ k, newton m k < 18446744073709551616
 | 0 => by show 1 < 18446744073709551616; decide
 | k + 1 => Nat.mod_lt _ (by omega)
theorem newton_bin {A : Ar} (hA : A = Ar.real) {lim : Lim} (hl : lim = limR) (m k : Nat) {x : Int} (hx : x = (newton m k : Nat)) : A.bin .mul .u64 x (A.bin .sub .u64 2 (A.bin .mul .u64 (lim m 0) x)) = (newton m (k + 1) : Nat) := by
 subst hx
 rw [lim_mod hl, hA]
 show rbin .mul .u64 (Int.ofNat (newton m k)) (rbin .sub .u64 (Int.ofNat 2) (rbin .mul .u64 (Int.ofNat (m % 18446744073709551616)) (Int.ofNat (newton m k)))) = _
 rw [u_mul, u_sub _ _ (by omega), u_mul]
 show ((newton m k * ((2 + 18446744073709551616 - m % 18446744073709551616 * newton m k % 18446744073709551616) % 18446744073709551616) % 18446744073709551616 : Nat) : Int) = ((newton m k * ((18446744073709551616 + 2 - m * newton m k % 18446744073709551616) % 18446744073709551616) % 18446744073709551616 : Nat) : Int)
 rw [Nat.mod_mul_mod, Nat.add_comm 2]
theorem neg_bin {A : Ar} (hA : A = Ar.real) {x : Int} {n : Nat} (hx : x = (n : Nat)) (hn : n < 18446744073709551616) : A.un .neg .u64 x = ((18446744073709551616 - n) % 18446744073709551616 : Nat) := by
 subst hx
 rw [hA]
 show IntKind.u64.wrap (0 - (n : Int)) = _
 rw [wrap_u64]
 omega
theorem leafEq_si (k k' : IntKind) (a b : Int) : leafEq (.s k a, .i k' b) = decide (a = b) := by
 show (a == b) = _
 by_cases h : a = b <;> simp [h]
theorem leafEq_ii (k k' : IntKind) (a b : Int) : leafEq (.i k a, .i k' b) = decide (a = b) := by
 show (a == b) = _
 by_cases h : a = b <;> simp [h]
theorem small4 {A : Ar} (hA : A = Ar.real) {lim : Lim} (hl : lim = limR) {m : Nat} (hm : m < 2 ^ 256) : A.eqs [(.i .u64 0, .i .u64 0), (.s .u64 (lim m 1), .i .u64 0), (.s .u64 (lim m 2), .i .u64 0), (.s .u64 (lim m 3), .i .u64 0)] = decide (m < 18446744073709551616) := by
 rw [eqs_real hA]
 simp only [List.all_cons, List.all_nil, leafEq_si, leafEq_ii, Bool.and_true]
 have e := split4 hl m hm
 have hr := fun i => lim_range hl m i
 have r0 := hr 0
 have r1 := hr 1
 have r2 := hr 2
 have r3 := hr 3
 clear hr
 by_cases h : m < 18446744073709551616
 . rw [decide_eq_true h]
   simp only [Bool.and_eq_true, decide_eq_true_eq]
   refine ⟨trivial, ?_, ?_, ?_⟩ <;> omega
 . rw [decide_eq_false h]
   refine Bool.eq_false_iff.2 fun h' => h ?_
   simp only [Bool.and_eq_true, decide_eq_true_eq] at h'
   omega
theorem MakeS4 {H : H5} (hH : H = H5.real) {m : Nat} (hR : Mod 256 m) : Sp 72 [u4 H.lim m] (.tup [.ref (R4 H m) 0, .i .i64 0]) := by
 have hl := H5.hlim hH
 have hlim := hR.lt
 obtain ⟨X, hX⟩ : ∃ X : Nat → Nat, X = fun i => 2 ^ i % m := ⟨_, rfl⟩
 obtain ⟨O, hO⟩ : ∃ O : Nat → Nat, O = fun i => if i ≤ 256 then 0 else 2 ^ 256 % m := ⟨_, rfl⟩
 have hX0 : X 0 = 1 := by rw [hX]; exact Nat.mod_eq_of_lt hR.one
 have hXs : ∀ i, X (i + 1) = (X i + X i) % m := by
   intro i; rw [hX]; show 2 ^ (i + 1) % m = (2 ^ i % m + 2 ^ i % m) % m
   rw [← Nat.add_mod, Nat.pow_succ, Nat.mul_two]
 have hXm : ∀ i, X i < m := by intro i; rw [hX]; exact Nat.mod_lt _ hR.pos
 have hO0 : O 0 = 0 := by rw [hO]; rfl
 have hOs : ∀ i, O (i + 1) = if i = 256 then X i else O i := by
   intro i; rw [hO, hX]
   show (if i + 1 ≤ 256 then 0 else 2 ^ 256 % m) = if i = 256 then 2 ^ i % m else if i ≤ 256 then 0 else 2 ^ 256 % m
   by_cases h : i = 256
   . subst h; rfl
   . rw [if_neg h]; by_cases h2 : i ≤ 256
     . rw [if_pos h2, if_pos (by omega)]
     . rw [if_neg h2, if_neg (by omega)]
 have hOe : O (2 * 256) = H.mf 256 m 1 := by rw [hO, hH]; show 2 ^ 256 % m = 1 * 2 ^ 256 % m; rw [Nat.one_mul]
 have hXe : X (2 * 256) = H.mf (2 * 256) m 1 := by rw [hX, hH]; show 2 ^ (2 * 256) % m = 1 * 2 ^ (2 * 256) % m; rw [Nat.one_mul]
 have hz : ∀ i, H.lim 0 i = 0 := by intro i; rw [hH]; show ((0 / 2 ^ (64 * i) % 2 ^ 64 : Nat) : Int) = 0; rw [Nat.zero_div]; rfl
 have h10 : H.lim 1 0 = 1 := by rw [hH]; rfl
 have h1s : ∀ i, i < 4 - 1 → H.lim 1 (i + 1) = 0 := by
   intro i hi; rw [hH]; show ((1 / 2 ^ (64 * (i + 1)) % 2 ^ 64 : Nat) : Int) = 0
   rw [Nat.div_eq_of_lt (Nat.one_lt_two_pow (by omega))]; rfl
 refine mk Try.func72 rfl rfl LMk R1 (by decide +kernel) fun A S hA hS => ?_
 have e1 : A.cmp .eql (A.bin .and .u64 (H.lim m 0) 1) 0 = false := (even_lim4 hA hl m).trans (decide_eq_false (by have := hR.odd; omega))
 have e2 := small4 hA hl hR.lt
 have e3 : m < 18446744073709551616 → A.cmp .lss (H.lim m 0) 3 = false := by
   intro h
   refine (i_lt hA).trans (decide_eq_false ?_)
   rw [lim_mod hl, Nat.mod_eq_of_lt h]
   have := hR.odd; have := hR.one
   omega
 have n1 := newton_bin hA hl m 0 (x := 1) rfl
 have n2 := newton_bin hA hl m 1 n1
 have n3 := newton_bin hA hl m 2 n2
 have n4 := newton_bin hA hl m 3 n3
 have n5 := newton_bin hA hl m 4 n4
 have n6 := newton_bin hA hl m 5 n5
 have hinv := (neg_bin hA n6 (newton_lt m 6)).trans (show (((18446744073709551616 - newton m 6) % 18446744073709551616 : Nat) : Int) = ((H.minv m : Nat) : Int) from by rw [hH]; rfl)
 clear n1 n2 n3 n4 n5 n6
 unfold bodyOf Try.f72
 cbv
 repeat (refine ABr.f e1 ?_; cbv)
 refine aF hS none4S ?_
 cbv
 repeat (refine ABr.f e1 ?_; cbv)
 have hcase : (A.eqs [(.i .u64 0, .i .u64 0), (.s .u64 (H.lim m 1), .i .u64 0), (.s .u64 (H.lim m 2), .i .u64 0), (.s .u64 (H.lim m 3), .i .u64 0)] = true ∧ A.cmp .lss (H.lim m 0) 3 = false) ∨ A.eqs [(.i .u64 0, .i .u64 0), (.s .u64 (H.lim m 1), .i .u64 0), (.s .u64 (H.lim m 2), .i .u64 0), (.s .u64 (H.lim m 3), .i .u64 0)] = false := by
   rw [e2]
   by_cases h : m < 18446744073709551616
   . exact .inl ⟨decide_eq_true h, e3 h⟩
   . exact .inr (decide_eq_false h)
 clear e2 e3
 rcases hcase with ⟨e2, e3⟩ | e2
 all_goals
   repeat ((first | refine ABr.f (by assumption) ?_ | refine ABr.t (by assumption) ?_); cbv)
   refine .inv (α := Nat) (fun i => ⟨[.agg [.s .u64 (H.lim m 0), .s .u64 (H.lim m 1), .s .u64 (H.lim m 2), .s .u64 (H.lim m 3)], .own 0 0, .v (.pointer none), .i .i64 0, .own 1 0, .own 2 0, .any, .own 3 0, .any, .any, .any, .any, .any, .any, .any, .any, .any, .any, .any, .any, .any, .any, .any, .any, .any, .any, .any, .any, .any, .any, .any, .any, .any, .any, .any, .any, .any, .any, .any, .any, .any, .any, .any, .any, .any, .any, .i .i64 512, .s .i64 (i : Nat), .any, .any, .any, .any, .any, .any, .any, .any, .any, .any, .any, .any, .any, .any, .any, .any, .any, .any, .any, .any, .any, .any, .any, .any, .any, .any],
       [⟨true, true, [.s .u64 (H.lim m 0), .s .u64 (H.lim m 1), .s .u64 (H.lim m 2), .s .u64 (H.lim m 3)]⟩, ⟨true, true, [.any, .any, .any, .any]⟩, ⟨true, true, [.i .i64 1, .s .u64 (H.lim m 0), .s .u64 (H.lim m 1), .s .u64 (H.lim m 2), .s .u64 (H.lim m 3), .s .u64 (H.minv m : Nat), .i .i64 0, .s .u64 (H.lim (O i) 0), .s .u64 (H.lim (O i) 1), .s .u64 (H.lim (O i) 2), .s .u64 (H.lim (O i) 3), .i .u64 0, .i .u64 0, .i .u64 0, .i .u64 0]⟩, ⟨true, true, [.s .u64 (H.lim (X i) 0), .s .u64 (H.lim (X i) 1), .s .u64 (H.lim (X i) 2), .s .u64 (H.lim (X i) 3)]⟩]⟩) (fun i => i ≤ 2 * 256) (fun i => 2 * 256 - i) 0 ?_ (Nat.zero_le _) ?_
   . rw [hO0, hX0]
     cbv
     repeat' (first | exact hinv | exact (hz _).symm | exact h10.symm | exact (h1s _ (by omega)).symm | constructor)
   intro i hi
   have hxs := hXs i
   have hxm := hXm i
   have hos := hOs i
   have hxm2 := hXm (i + 1)
   by_cases hlt : i < 2 * 256
   . have hc : A.cmp .lss (i : Int) 512 = true := (i_lt hA).trans (decide_eq_true (by omega))
     have hadd : A.bin .add .i64 (i : Int) 1 = ((i + 1 : Nat) : Int) := e_add hA rfl rfl rfl (by omega)
     have hdec : 2 * 256 - (i + 1) < 2 * 256 - i := by omega
     have hev : (A.cmp .eql (i : Int) 256 = true ∧ O (i + 1) = X i) ∨ (A.cmp .eql (i : Int) 256 = false ∧ O (i + 1) = O i) := by
       rw [i_eq hA]
       by_cases h : i = 256
       . rw [if_pos h] at hos
         exact .inl ⟨decide_eq_true (by omega), hos⟩
       . rw [if_neg h] at hos
         exact .inr ⟨decide_eq_false (by omega), hos⟩
     have hend : ∃ j : Nat, j = i + 1 := ⟨_, rfl⟩
     obtain ⟨j, hj⟩ := hend
     rw [← hj] at hxs hxm2 hev hadd hdec
     generalize X i = x at hxs hxm hev ⊢
     generalize hxj : X j = y at hxs hxm2
     generalize hoj : O j = o' at hev
     generalize O i = o at hev ⊢
     cbv
     refine ABr.t hc ?_
     cbv
     rcases hev with ⟨hev, ho⟩ | ⟨hev, ho⟩
     . refine ABr.t hev ?_
       cbv
       refine ACall.mk _ (cg hS (addS4 hl hR (inv := H.minv m) 0 x 0 x x y hxm hxm hxs) ?_) ?_
       . cbv
         repeat' (first | exact (hz _).symm | constructor)
       cbv
       refine ⟨j, ?_, by omega, hdec⟩
       rw [hxj, hoj, ho]
       cbv
       repeat' (first | exact hadd | constructor)
     . refine ABr.f hev ?_
       cbv
       refine ACall.mk _ (cg hS (addS4 hl hR (inv := H.minv m) 0 o 0 x x y hxm hxm hxs) ?_) ?_
       . cbv
         repeat' (first | exact (hz _).symm | constructor)
       cbv
       refine ⟨j, ?_, by omega, hdec⟩
       rw [hxj, hoj, ho]
       cbv
       repeat' (first | exact hadd | constructor)
   . obtain rfl : i = 2 * 256 := by omega
     have hc : A.cmp .lss ((2 * 256 : Nat) : Int) 512 = false := (i_lt hA).trans (decide_eq_false (by omega))
     rw [hOe, hXe]
     cbv
     refine ABr.f hc ?_
     cbv
     refine ACall.mk _ (cf hS (prime4S hH m hlim)) ?_
     cbv
end Go.Proofs.Ytkhipnhdbaahcaa
end
section
namespace NT
def Pr (p : Nat) : Prop := 1 < p ∧ ∀ d, d ∣ p → d = 1 ∨ d = p
theorem bezout : ∀ (a b : Nat), ∃ x y : Int, ((Nat.gcd a b : Nat) : Int) = a * x + b * y := by
 intro a b
 induction a, b using Nat.gcd.induction with
 | H0 n => exact ⟨0, 1, by simp⟩
 | H1 m n hm ih =>
   obtain ⟨x, y, h⟩ := ih
   refine ⟨y - (n / m : Nat) * x, x, ?_⟩
   rw [Nat.gcd_rec, h]
   have e : ((n % m : Nat) : Int) = n - m * ((n / m : Nat) : Int) := by
     have := Nat.div_add_mod n m
     omega
   rw [e, Int.sub_mul, Int.mul_sub, Int.mul_assoc]
   omega
theorem inv_mod {a m : Nat} (h : Nat.Coprime a m) (hm : 1 < m) : ∃ x, x < m ∧ a * x % m = 1 := by
 obtain ⟨x, y, e⟩ := bezout a m
 rw [show Nat.gcd a m = 1 from h] at e
 have hm0 : (m : Int) ≠ 0 := by omega
 refine ⟨(x % m).toNat, ?_, ?_⟩
 . have := Int.emod_lt_of_pos x (show (0 : Int) < m by omega)
   have := Int.emod_nonneg x hm0
   omega
 . have h0 := Int.emod_nonneg x hm0
   have h1 : ((a * (x % m).toNat % m : Nat) : Int) = 1 := by
     rw [Int.natCast_emod, Int.natCast_mul, Int.toNat_of_nonneg h0, Int.mul_emod, Int.emod_emod, ← Int.mul_emod]
     have : (a : Int) * x = 1 + m * (-y) := by rw [Int.mul_neg]; omega
     rw [this, Int.add_mul_emod_self_left]
     exact Int.emod_eq_of_lt (by omega) (by omega)
   omega
theorem Pr.pos {p : Nat} (h : Pr p) : 0 < p := Nat.lt_trans Nat.zero_lt_one h.1
theorem Pr.coprime {p a : Nat} (h : Pr p) (ha : ¬ p ∣ a) : Nat.Coprime a p := by
 rcases h.2 (Nat.gcd a p) (Nat.gcd_dvd_right a p) with e | e
 . exact e
 . exact absurd (e ▸ Nat.gcd_dvd_left a p) ha
theorem Pr.dvd_mul {p a b : Nat} (h : Pr p) (hd : p ∣ a * b) : p ∣ a ∨ p ∣ b := by
 by_cases ha : p ∣ a
 . exact .inl ha
 . exact .inr ((h.coprime ha).symm.dvd_of_dvd_mul_left hd)
theorem Pr.dvd_pow {p a : Nat} (h : Pr p) : ∀ {k : Nat}, p ∣ a ^ k → p ∣ a
 | 0, hd => by have h1 := Nat.le_of_dvd (Nat.lt_of_lt_of_le Nat.zero_lt_one (Nat.le_of_eq (Nat.pow_zero a).symm)) hd; have h2 := h.1; rw [Nat.pow_zero] at h1; omega
 | k + 1, hd => by
   rw [Nat.pow_succ] at hd
   rcases h.dvd_mul hd with h1 | h1
   . exact Pr.dvd_pow h h1
   . exact h1
theorem cancel {a x y m : Nat} (h : Nat.Coprime a m) (e : a * x % m = a * y % m) : x % m = y % m := by
 rcases Nat.lt_or_ge 1 m with hm | hm
 . obtain ⟨z, _, hz⟩ := inv_mod h hm
   have h1 : ∀ x, x % m = z * (a * x % m) % m := by
     intro x
     rw [Nat.mul_mod_mod, ← Nat.mul_assoc, Nat.mul_comm z a, Nat.mul_mod, hz, Nat.one_mul, Nat.mod_mod]
   rw [h1 x, h1 y, e]
 . have : m = 0 ∨ m = 1 := by omega
   rcases this with rfl | rfl
   . have ha : a = 1 := by simpa [Nat.Coprime] using h
     subst ha
     simpa using e
   . omega
theorem fermat {p a : Nat} (hp : Pr p) (ha : ¬ p ∣ a) : a ^ (p - 1) % p = 1 := by
 have h1 := hp.1
 have hc := hp.coprime ha
 let l := List.range' 1 (p - 1)
 have mem : ∀ x, x ∈ l ↔ 1 ≤ x ∧ x < p := by
   intro x
   simp only [l, List.mem_range'_1]
   omega
 have hnd : l.Nodup := List.nodup_range'
 have hnm : ∀ x, x ∈ l → ¬ p ∣ x := by
   intro x hx hd
   have := (mem x).1 hx
   have := Nat.le_of_dvd (by omega) hd
   omega
 have hinj : ∀ x ∈ l, ∀ y ∈ l, a * x % p = a * y % p → x = y := by
   intro x hx y hy e
   have := cancel hc e
   rwa [Nat.mod_eq_of_lt ((mem x).1 hx).2, Nat.mod_eq_of_lt ((mem y).1 hy).2] at this
 have hperm : (l.map (a * · % p)).Perm l := by
   refine (List.perm_ext_iff_of_nodup ?_ hnd).2 fun b => ?_
   . refine List.pairwise_map.2 ?_
     exact hnd.imp_of_mem fun {x y} hx hy hxy e => hxy (hinj x hx y hy e)
   . constructor
     . intro hb
       obtain ⟨x, hx, rfl⟩ := List.mem_map.1 hb
       refine (mem _).2 ⟨?_, Nat.mod_lt _ hp.pos⟩
       rcases Nat.eq_zero_or_pos (a * x % p) with h0 | h0
       . rcases hp.dvd_mul (Nat.dvd_of_mod_eq_zero h0) with h2 | h2
         . exact absurd h2 ha
         . exact absurd h2 (hnm x hx)
       . exact h0
     . intro hb
       obtain ⟨z, hz, hz1⟩ := inv_mod hc h1
       have hb' := (mem b).1 hb
       refine List.mem_map.2 ⟨z * b % p, (mem _).2 ⟨?_, Nat.mod_lt _ hp.pos⟩, ?_⟩
       . rcases Nat.eq_zero_or_pos (z * b % p) with h0 | h0
         . have : a * (z * b) % p = b := by rw [← Nat.mul_assoc, Nat.mul_mod, hz1, Nat.one_mul, Nat.mod_mod, Nat.mod_eq_of_lt hb'.2]
           rw [Nat.mul_mod, h0] at this
           simp at this
           omega
         . exact h0
       . show a * (z * b % p) % p = b
         rw [Nat.mul_mod_mod, ← Nat.mul_assoc, Nat.mul_mod, hz1, Nat.one_mul, Nat.mod_mod, Nat.mod_eq_of_lt hb'.2]
 have hprod : ∀ l : List Nat, (l.map (a * · % p)).prod % p = a ^ l.length * l.prod % p := by
   intro l
   induction l with
   | nil => simp
   | cons x l ih =>
     rw [List.map_cons, List.prod_cons, Nat.mul_mod, ih, List.length_cons, List.prod_cons, Nat.pow_succ, Nat.mod_mod, ← Nat.mul_mod]
     congr 1
     simp only [Nat.mul_assoc, Nat.mul_left_comm, Nat.mul_comm]
 have e := hprod l
 rw [hperm.prod_nat] at e
 have hcl : ∀ l : List Nat, (∀ x ∈ l, ¬ p ∣ x) → Nat.Coprime l.prod p := by
   intro l
   induction l with
   | nil => intro _; simp [Nat.Coprime]
   | cons x l ih =>
     intro h
     rw [List.prod_cons]
     exact Nat.Coprime.mul_left (hp.coprime (h x (by simp))) (ih fun y hy => h y (by simp [hy]))
 have e2 : l.prod * 1 % p = l.prod * a ^ l.length % p := by rw [Nat.mul_one, e, Nat.mul_comm]
 have := cancel (hcl l hnm) e2
 rw [Nat.mod_eq_of_lt h1] at this
 have hl : l.length = p - 1 := by simp [l]
 rw [← hl]
 exact this.symm
theorem pow_mul_mod {b m x : Nat} (h : b ^ x % m = 1 % m) (k : Nat) : b ^ (x * k) % m = 1 % m := by
 induction k with
 | zero => simp
 | succ k ih => rw [Nat.mul_succ, Nat.pow_add, Nat.mul_mod, ih, h, ← Nat.mul_mod, Nat.one_mul]
theorem pow_gcd {b m : Nat} (hb : Nat.Coprime b m) (x y : Nat) : b ^ x % m = 1 % m → b ^ y % m = 1 % m → b ^ Nat.gcd x y % m = 1 % m := by
 induction x, y using Nat.gcd.induction with
 | H0 n => intro _ h; simpa using h
 | H1 x y hx ih =>
   intro h1 h2
   rw [Nat.gcd_rec]
   refine ih ?_ h1
   have h3 := pow_mul_mod h1 (y / x)
   have e : b ^ (x * (y / x)) * b ^ (y % x) % m = b ^ (x * (y / x)) * 1 % m := by
     rw [← Nat.pow_add, Nat.div_add_mod, Nat.mul_one, h2, h3]
   exact cancel (Nat.Coprime.pow_left _ hb) e
theorem dvd_pow_or {q g e : Nat} (hq : Pr q) (h : g ∣ q ^ (e + 1)) : g ∣ q ^ e ∨ g = q ^ (e + 1) := by
 obtain ⟨k, hk⟩ := h
 by_cases hd : q ∣ k
 . obtain ⟨j, rfl⟩ := hd
   left
   refine ⟨j, ?_⟩
   have : q * q ^ e = q * (g * j) := by rw [← Nat.pow_succ', hk, Nat.mul_left_comm]
   exact Nat.eq_of_mul_eq_mul_left hq.pos this
 . right
   have hc : Nat.Coprime k (q ^ (e + 1)) := Nat.Coprime.pow_right _ (hq.coprime hd)
   have : k = 1 := hc.eq_one_of_dvd ⟨g, by rw [hk, Nat.mul_comm]⟩
   rw [hk, this, Nat.mul_one]
theorem pock_part {n p q e a : Nat} (hn : 1 < n) (hq : Pr q) (hp : Pr p) (hpn : p ∣ n) (hd : q ^ (e + 1) ∣ n - 1) (h1 : a ^ (n - 1) % n = 1 % n) (h2 : Nat.gcd (a ^ ((n - 1) / q) % n + (n - 1)) n = 1) : q ^ (e + 1) ∣ p - 1 := by
 obtain ⟨k, hk⟩ := hd
 have hp1 := hp.1
 have red : ∀ x y, x % n = y % n → x % p = y % p := by
   intro x y h
   have := congrArg (· % p) h
   simpa [Nat.mod_mod_of_dvd _ hpn] using this
 have ha1 := red _ _ h1
 have hb1 : (a ^ k) ^ q ^ (e + 1) % p = 1 % p := by rw [← Nat.pow_mul, Nat.mul_comm, ← hk]; exact ha1
 have hpa : ¬ p ∣ a := by
   intro hd
   obtain ⟨j, hj⟩ : ∃ j, n - 1 = j + 1 := ⟨n - 2, by omega⟩
   rw [hj, Nat.pow_succ, Nat.mul_mod, Nat.mod_eq_zero_of_dvd hd, Nat.mul_zero, Nat.zero_mod, Nat.mod_eq_of_lt hp1] at ha1
   cases ha1
 have hca := hp.coprime hpa
 have hcb : Nat.Coprime (a ^ k) p := Nat.Coprime.pow_left _ hca
 have hf := fermat hp (a := a ^ k) (fun hd => hpa (hp.dvd_pow hd))
 have hg := pow_gcd hcb (q ^ (e + 1)) (p - 1) hb1 (by rw [hf, Nat.mod_eq_of_lt hp1])
 rcases dvd_pow_or hq (Nat.gcd_dvd_left (q ^ (e + 1)) (p - 1)) with h3 | h3
 . exfalso
   obtain ⟨j, hj⟩ := h3
   have h4 := pow_mul_mod hg j
   rw [← hj, ← Nat.pow_mul] at h4
   have h5 : (n - 1) / q = k * q ^ e := by
     rw [hk, Nat.pow_succ, Nat.mul_comm (q ^ e) q, Nat.mul_assoc, Nat.mul_div_cancel_left _ hq.pos, Nat.mul_comm]
   rw [← h5] at h4
   have h6 : p ∣ a ^ ((n - 1) / q) % n + (n - 1) := by
     refine Nat.dvd_of_mod_eq_zero ?_
     rw [Nat.add_mod, Nat.mod_mod_of_dvd _ hpn, h4, ← Nat.add_mod, show 1 + (n - 1) = n by omega]
     exact Nat.mod_eq_zero_of_dvd hpn
   have h7 : p ∣ 1 := h2 ▸ Nat.dvd_gcd h6 hpn
   have := Nat.le_of_dvd (by omega) h7
   omega
 . rw [← h3]; exact Nat.gcd_dvd_right _ _
def pm (m : Nat) : Nat → Nat → Nat → Nat
 | 0, _, _ => 1 % m
 | f + 1, a, e => if e % 2 = 1 then a * pm m f (a * a % m) (e / 2) % m else pm m f (a * a % m) (e / 2)
theorem pm_eq (m : Nat) : ∀ (f a e : Nat), e < 2 ^ f → pm m f a e = a ^ e % m
 | 0, a, e, h => by
   have : e = 0 := by simpa using h
   subst this; rfl
 | f + 1, a, e, h => by
   have ih := pm_eq m f (a * a % m) (e / 2) (by rw [Nat.pow_succ] at h; omega)
   rw [pm, ih, ← Nat.pow_mod, ← Nat.pow_two, ← Nat.pow_mul]
   split
   . rename_i h1
     rw [Nat.mul_mod_mod, ← Nat.pow_succ']
     congr 2; omega
   . congr 2; omega
def rowOk (n : Nat) (r : Nat × Nat × Nat) : Bool :=
 decide ((n - 1) % r.1 ^ (r.2.1 + 1) = 0) && decide (pm n 400 r.2.2 (n - 1) = 1) && decide (Nat.gcd (pm n 400 r.2.2 ((n - 1) / r.1) + (n - 1)) n = 1)
def prodOf : List (Nat × Nat × Nat) → Nat
 | [] => 1
 | r :: l => r.1 ^ (r.2.1 + 1) * prodOf l
def distinct : List (Nat × Nat × Nat) → Bool
 | [] => true
 | r :: l => (l.all fun s => decide (r.1 ≠ s.1)) && distinct l
def certOk (n : Nat) (l : List (Nat × Nat × Nat)) : Bool :=
 decide (1 < n) && decide (n < 2 ^ 400) && l.all (rowOk n) && distinct l && decide (n < (prodOf l + 1) * (prodOf l + 1))
theorem prod_dvd {x : Nat} : ∀ (l : List (Nat × Nat × Nat)), (∀ r ∈ l, Pr r.1) → distinct l = true → (∀ r ∈ l, r.1 ^ (r.2.1 + 1) ∣ x) → prodOf l ∣ x
 | [], _, _, _ => Nat.one_dvd x
 | r :: l, hp, hd, hx => by
   simp only [distinct, Bool.and_eq_true, List.all_eq_true, decide_eq_true_eq] at hd
   refine Nat.Coprime.mul_dvd_of_dvd_of_dvd ?_ (hx r (by simp)) (prod_dvd l (fun s hs => hp s (by simp [hs])) hd.2 fun s hs => hx s (by simp [hs]))
   have hr := hp r (by simp)
   have : ∀ (k : List (Nat × Nat × Nat)), (∀ s ∈ k, s ∈ l) → Nat.Coprime (r.1 ^ (r.2.1 + 1)) (prodOf k) := by
     intro k
     induction k with
     | nil => intro _; simp [prodOf]
     | cons s k ih =>
       intro hk
       have hsl := hk s (by simp)
       have hs := hp s (by simp [hsl])
       refine Nat.Coprime.mul_right ?_ (ih fun t ht => hk t (by simp [ht]))
       refine Nat.Coprime.pow _ _ (hs.coprime fun h => ?_)
       rcases hr.2 _ h with h1 | h1
       . have := hs.1; omega
       . exact hd.1 s hsl h1.symm
   exact this l fun s hs => hs
theorem cert {n : Nat} {l : List (Nat × Nat × Nat)} (h : certOk n l = true) (hl : ∀ r ∈ l, Pr r.1) : Pr n := by
 simp only [certOk, Bool.and_eq_true, decide_eq_true_eq, List.all_eq_true] at h
 obtain ⟨⟨⟨⟨hn, hb⟩, hr⟩, hd⟩, hF⟩ := h
 have key : ∀ p, Pr p → p ∣ n → prodOf l < p := by
   intro p hp hpn
   have h1 : prodOf l ∣ p - 1 := by
     refine prod_dvd l hl hd fun r hrl => ?_
     have hrow := hr r hrl
     simp only [rowOk, Bool.and_eq_true, decide_eq_true_eq] at hrow
     obtain ⟨⟨h1, h2⟩, h3⟩ := hrow
     have hq := hl r hrl
     have hdiv : (n - 1) / r.1 ≤ n - 1 := Nat.div_le_self _ _
     rw [pm_eq _ _ _ _ (by omega)] at h2 h3
     exact pock_part hn hq hp hpn (Nat.dvd_of_mod_eq_zero h1) (by rw [h2, Nat.mod_eq_of_lt hn]) h3
   have := Nat.le_of_dvd (by have := hp.1; omega) h1
   have := hp.1
   omega
 have least : ∀ k, 1 < k → k ∣ n → (∃ p, Pr p ∧ p ∣ k) := by
   intro k
   induction k using Nat.strongRecOn with
   | ind k ih =>
     intro hk hkn
     by_cases hpr : ∀ d, d ∣ k → d = 1 ∨ d = k
     . exact ⟨k, ⟨hk, hpr⟩, Nat.dvd_refl k⟩
     . simp only [Classical.not_forall, not_or] at hpr
       obtain ⟨d, hdk, h1, h2⟩ := hpr
       have hle := Nat.le_of_dvd (by omega) hdk
       have h0 : d ≠ 0 := by rintro rfl; have := Nat.eq_zero_of_zero_dvd hdk; omega
       obtain ⟨p, hp, hpd⟩ := ih d (by omega) (by omega) (Nat.dvd_trans hdk hkn)
       exact ⟨p, hp, Nat.dvd_trans hpd hdk⟩
 refine ⟨hn, fun d hdn => ?_⟩
 obtain ⟨e, rfl⟩ := hdn
 by_cases h1 : d = 1
 . exact .inl h1
 . by_cases h2 : e = 1
   . exact .inr (by rw [h2, Nat.mul_one])
   . exfalso
     have hd0 : d ≠ 0 := by rintro rfl; simp at hn
     have he0 : e ≠ 0 := by rintro rfl; simp at hn
     obtain ⟨p, hp, hpd⟩ := least d (by omega) (Nat.dvd_mul_right d e)
     obtain ⟨q, hq, hqe⟩ := least e (by omega) (Nat.dvd_mul_left e d)
     have k1 := key p hp (Nat.dvd_trans hpd (Nat.dvd_mul_right d e))
     have k2 := key q hq (Nat.dvd_trans hqe (Nat.dvd_mul_left e d))
     have l1 := Nat.le_of_dvd (by omega) hpd
     have l2 := Nat.le_of_dvd (by omega) hqe
     have := Nat.mul_le_mul (show prodOf l + 1 ≤ d by omega) (show prodOf l + 1 ≤ e by omega)
     omega
def smallOk (n : Nat) : Bool := decide (1 < n) && (List.range n).all fun d => decide (d < 2) || !decide (n % d = 0)
theorem small {n : Nat} (h : smallOk n = true) : Pr n := by
 simp only [smallOk, Bool.and_eq_true, decide_eq_true_eq, List.all_eq_true, List.mem_range, Bool.or_eq_true, Bool.not_eq_true', decide_eq_false_iff_not] at h
 refine ⟨h.1, fun d hd => ?_⟩
 have hle := Nat.le_of_dvd (by omega) hd
 have h0 : d ≠ 0 := by rintro rfl; have := Nat.eq_zero_of_zero_dvd hd; omega
 rcases Nat.lt_or_ge d n with h1 | h1
 . rcases h.2 d h1 with h2 | h2
   . left; omega
   . exact absurd (Nat.mod_eq_zero_of_dvd hd) h2
 . right; omega
end NT
end
