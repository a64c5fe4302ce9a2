import Derived.Test.YtmholgclgamnnaaGreatQXH
import Derived.Test.YtmholgclgamnnaaGreatQXBB
set_option linter.unusedVariables false
set_option linter.unusedSimpArgs false
set_option linter.unusedSectionVars false
set_option maxRecDepth 100000
set_option exponentiation.threshold 2000
section
namespace Go.Proofs.YtmholgclgamnnaaGreat
open Go Eng
def newton (m : Nat) : Nat → Nat
 | 0 => 1
 | k + 1 => newton m k * ((18446744073709551616 + 2 - m * newton m k % 18446744073709551616) % 18446744073709551616) % 18446744073709551616
def minvR (m : Nat) : Nat := (18446744073709551616 - newton m 6) % 18446744073709551616
def primes4 : List Nat := [0xfffffffffffffffffffffffffffffffffffffffffffffffffffffffefffffc2f, 0xfffffffffffffffffffffffffffffffebaaedce6af48a03bbfd25e8cd0364141, 0x30644e72e131a029b85045b68181585d97816a916871ca8d3c208c16d87cfd47,
 0x30644e72e131a029b85045b68181585d2833e84879b9709143e1f593f0000001, 0x73eda753299d7d483339d80809a1d80553bda402fffe5bfeffffffff00000001]
def primes6 : List Nat := [0x1a0111ea397fe69a4b1ba7b6434bacd764774b84f38512bf6730d2a0f6b0f6241eabfffeb153ffffb9feffffffffaaab]
structure H5 where
 lim : Nat → Nat → Int
 mf : Nat → Nat → Nat → Nat
 add : Nat → Nat → Nat → Nat
 sub : Nat → Nat → Nat → Nat
 mul : Nat → Nat → Nat → Nat
 mod : Nat → Nat → Nat
 lt : Nat → Nat → Bool
 minv : Nat → Nat
 fast4 : Nat → Nat
 fast6 : Nat → Nat
 pow : Nat → Nat → Nat → Nat
def H5.real : H5 where
 lim := limR
 mf := fun b m a => a * 2 ^ b % m
 add := fun m a b => (a + b) % m
 sub := fun m a b => (a + m - b) % m
 mul := fun m a b => a * b % m
 mod := fun m a => a % m
 lt := fun a b => decide (a < b)
 minv := minvR
 fast4 := fun m => if m ∈ primes4 then 1 else 0
 fast6 := fun m => if m ∈ primes6 then 1 else 0
 pow := fun m a e => a ^ e % m
theorem newton_ok {m : Nat} (hm : m % 2 = 1) : ∀ k, k ≤ 6 → m * newton m k % 2 ^ (2 ^ k) = 1 := by
 intro k
 induction k with
 | zero => intro _; simp [newton, hm]
 | succ k ih =>
   intro hk
   have ih := ih (by omega)
   obtain ⟨x, hx⟩ : ∃ x, x = newton m k := ⟨_, rfl⟩
   rw [← hx] at ih
   have hd : 2 ^ (2 ^ (k + 1)) ∣ 18446744073709551616 := Nat.pow_dvd_pow 2 (show 2 ^ (k + 1) ≤ 64 from Nat.pow_le_pow_right (n := 2) (by omega) (show k + 1 ≤ 6 by omega))
   have he : newton m (k + 1) = x * ((18446744073709551616 + 2 - m * x % 18446744073709551616) % 18446744073709551616) % 18446744073709551616 := by rw [newton, ← hx]
   rw [he, Nat.mul_mod, Nat.mod_mod_of_dvd _ hd, ← Nat.mul_mod, ← Nat.mul_assoc, Nat.mul_mod, Nat.mod_mod_of_dvd _ hd, ← Nat.mul_mod]
   obtain ⟨y, hy⟩ : ∃ y, y = m * x := ⟨_, rfl⟩
   rw [← hy] at ih ⊢
   obtain ⟨q, hq⟩ : ∃ q, q = y / 2 ^ 2 ^ k := ⟨_, rfl⟩
   have hyq : y = 2 ^ 2 ^ k * q + 1 := by rw [hq, ← ih]; exact (Nat.div_add_mod y _).symm
   obtain ⟨r, hr⟩ : ∃ r, r = y / 18446744073709551616 := ⟨_, rfl⟩
   have hyr : y % 18446744073709551616 + 18446744073709551616 * r = y := by rw [hr]; exact Nat.mod_add_div y _
   have hlt : y % 18446744073709551616 < 18446744073709551616 := Nat.mod_lt _ (by omega)
   have hs : y * (18446744073709551616 + 2 - y % 18446744073709551616) + (2 ^ 2 ^ k * q) * (2 ^ 2 ^ k * q) = 1 + 18446744073709551616 * (y * (1 + r)) := by
     have h1 : y * (18446744073709551616 + 2 - y % 18446744073709551616) + y * y = y * 2 + 18446744073709551616 * (y * (1 + r)) := by
       rw [← Nat.mul_add, show 18446744073709551616 + 2 - y % 18446744073709551616 + y = 2 + 18446744073709551616 * (1 + r) by omega, Nat.mul_add, Nat.mul_left_comm]
     have h2 : y * y = (2 ^ 2 ^ k * q) * (2 ^ 2 ^ k * q) + 2 * (2 ^ 2 ^ k * q) + 1 := by
       rw [hyq, Nat.mul_add, Nat.add_mul]; omega
     omega
   have hp : 2 ^ 2 ^ (k + 1) = 2 ^ 2 ^ k * 2 ^ 2 ^ k := by rw [← Nat.pow_add]; congr 1; omega
   have hd2 : 2 ^ 2 ^ (k + 1) ∣ (2 ^ 2 ^ k * q) * (2 ^ 2 ^ k * q) := by
     rw [hp, show (2 ^ 2 ^ k * q) * (2 ^ 2 ^ k * q) = 2 ^ 2 ^ k * 2 ^ 2 ^ k * (q * q) by simp only [Nat.mul_assoc, Nat.mul_left_comm, Nat.mul_comm]]
     exact Nat.dvd_mul_right _ _
   have hd3 : 2 ^ 2 ^ (k + 1) ∣ 18446744073709551616 * (y * (1 + r)) := Nat.dvd_trans hd (Nat.dvd_mul_right _ _)
   have h1 : 1 < 2 ^ 2 ^ (k + 1) := Nat.one_lt_two_pow (by have := Nat.two_pow_pos (k + 1); omega)
   obtain ⟨u, hu⟩ := hd2
   obtain ⟨v, hv⟩ := hd3
   rw [hu, hv] at hs
   have : (y * (18446744073709551616 + 2 - y % 18446744073709551616) + 2 ^ 2 ^ (k + 1) * u) % 2 ^ 2 ^ (k + 1) = (1 + 2 ^ 2 ^ (k + 1) * v) % 2 ^ 2 ^ (k + 1) := by rw [hs]
   rw [Nat.add_mul_mod_self_left, Nat.add_mul_mod_self_left, Nat.mod_eq_of_lt h1] at this
   exact this
theorem minv_ok {m : Nat} (hm : m % 2 = 1) : (m * minvR m + 1) % 18446744073709551616 = 0 := by
 have h := newton_ok hm 6 (by omega)
 have hb : newton m 6 < 18446744073709551616 := Nat.mod_lt _ (by omega)
 have h0 : newton m 6 ≠ 0 := by intro e; rw [e] at h; simp at h
 unfold minvR
 rw [Nat.mod_eq_of_lt (a := 18446744073709551616 - newton m 6) (by omega), Nat.mul_sub]
 have hle : m * newton m 6 ≤ m * 18446744073709551616 := Nat.mul_le_mul_left _ (by omega)
 have h2 : m * newton m 6 % 18446744073709551616 = 1 := h
 omega
theorem minv_lt (m : Nat) : minvR m < 18446744073709551616 := Nat.mod_lt _ (by omega)
theorem minv_lim {lim : Lim} (hl : lim = limR) {m : Nat} (hm : m % 2 = 1) : (lim m 0 * (minvR m : Int) + 1) % 18446744073709551616 = 0 := by
 have h := minv_ok hm
 rw [lim_mod hl]
 have : ((m % 18446744073709551616 * minvR m + 1) % 18446744073709551616 : Nat) = 0 := by
   rw [Nat.add_mod, Nat.mul_mod, Nat.mod_mod, ← Nat.mul_mod, ← Nat.add_mod]; exact h
 have h2 : (((m % 18446744073709551616 * minvR m + 1) % 18446744073709551616 : Nat) : Int) = 0 := by rw [this]; rfl
 rw [Int.natCast_emod, Int.natCast_add, Int.natCast_mul] at h2
 exact h2
structure Mod (b m : Nat) : Prop where
 lt : m < 2 ^ b
 odd : m % 2 = 1
 one : 1 < m
theorem Mod.pos {b m : Nat} (h : Mod b m) : 0 < m := Nat.lt_trans Nat.zero_lt_one h.one
theorem mf_lt {b m a : Nat} (h : 0 < m) : a * 2 ^ b % m < m := Nat.mod_lt _ h
theorem mf_mul (b m a c : Nat) : a * c % m * 2 ^ b % m * 2 ^ b % m = a * 2 ^ b % m * (c * 2 ^ b % m) % m := by
 simp only [Nat.mul_mod, Nat.mod_mod]
 simp only [← Nat.mul_mod]
 congr 1
 simp only [Nat.mul_assoc, Nat.mul_left_comm, Nat.mul_comm]
theorem mf_add (b m a c : Nat) : (a * 2 ^ b % m + c * 2 ^ b % m) % m = (a + c) % m * 2 ^ b % m := by
 rw [← Nat.add_mod, ← Nat.add_mul, Nat.mod_mul_mod]
theorem mf_sub {b m a c : Nat} (hm : 0 < m) (hc : c < m) : (a * 2 ^ b % m + m - c * 2 ^ b % m) % m = (a + m - c) % m * 2 ^ b % m := by
 have h1 : c * 2 ^ b % m < m := Nat.mod_lt _ hm
 have key : ((a * 2 ^ b % m + m - c * 2 ^ b % m) + c * 2 ^ b % m) % m = ((a + m - c) % m * 2 ^ b % m + c * 2 ^ b % m) % m := by
   rw [mf_add, Nat.sub_add_cancel (by omega), Nat.add_mod_right, Nat.mod_mod, Nat.mod_add_mod, Nat.sub_add_cancel (by omega), Nat.add_mod_right, Nat.mod_mul_mod]
 have h2 : (a * 2 ^ b % m + m - c * 2 ^ b % m) % m < m := Nat.mod_lt _ hm
 have h3 : (a + m - c) % m * 2 ^ b % m < m := Nat.mod_lt _ hm
 generalize (a + m - c) % m * 2 ^ b % m = y at *
 generalize c * 2 ^ b % m = z at *
 generalize a * 2 ^ b % m + m - z = x at *
 rw [Nat.add_mod, Nat.mod_eq_of_lt h1] at key
 generalize x % m = x at *
 by_cases h4 : x + z < m
 . by_cases h5 : y + z < m
   . rw [Nat.mod_eq_of_lt h4, Nat.mod_eq_of_lt h5] at key; omega
   . rw [Nat.mod_eq_of_lt h4, Nat.mod_eq_sub_mod (by omega), Nat.mod_eq_of_lt (by omega)] at key; omega
 . by_cases h5 : y + z < m
   . rw [Nat.mod_eq_of_lt h5, Nat.mod_eq_sub_mod (by omega), Nat.mod_eq_of_lt (by omega)] at key; omega
   . rw [Nat.mod_eq_sub_mod (by omega), Nat.mod_eq_of_lt (by omega), Nat.mod_eq_sub_mod (a := y + z) (by omega), Nat.mod_eq_of_lt (by omega)] at key; omega
theorem H5.hlim {H : H5} (hH : H = H5.real) : H.lim = limR := by rw [hH]; rfl
def el4 (H : H5) (m a : Nat) : AVal := u4 H.lim (H.mf 256 m a)
def R4 (H : H5) (m : Nat) : List AVal := ring4 H.lim m (H.minv m) (H.fast4 m) (H.mf 256 m 1) (H.mf (2 * 256) m 1)
theorem mulS4 {lim : Lim} (hl : lim = limR) {m inv : Nat} (hR : Mod 256 m) (hi : inv = minvR m) (fast one two a b r : Nat) (ha : a < 2 ^ 256) (hb : b < 2 ^ 256) (hab : a < m ∨ b < m) (hr : r < m) (hrr : r * 2 ^ 256 % m = a * b % m) :
   Sp 173 [.ref (ring4 lim m inv fast one two) 0, u4 lim a, u4 lim b] (u4 lim r) := by
 obtain ⟨d, hd⟩ := mont4S hl m inv fast one two a b r ha hb hR.lt (hi ▸ minv_lim hl hR.odd) (hi ▸ minv_lt m) hR.odd hab hr hrr
 refine mk Tryz.func173 rfl rfl L0 R0 (by decide +kernel) fun A S hA hS => ?_
 unfold bodyOf Tryz.f173
 cbv
 refine AMut.mk _ _ (cm hS hd) ?_
 cbv
theorem isS4 {H : H5} (m : Nat) : Sp 172 [.ref (R4 H m) 0] (.b true) := by
 refine mk Tryz.func172 rfl rfl L0 R0 (by decide +kernel) fun A S hA hS => ?_
 unfold bodyOf Tryz.f172
 cbv
theorem mulE4 {H : H5} (hH : H = H5.real) {m a b : Nat} (hR : Mod 256 m) : Sp 173 [.ref (R4 H m) 0, el4 H m a, el4 H m b] (el4 H m (H.mul m a b)) := by
 have h1 : H.mf 256 m a < m := by rw [hH]; exact mf_lt hR.pos
 have h2 : H.mf 256 m b < m := by rw [hH]; exact mf_lt hR.pos
 exact mulS4 (H5.hlim hH) hR (by rw [hH]; rfl) _ _ _ _ _ _ (Nat.lt_trans h1 hR.lt) (Nat.lt_trans h2 hR.lt) (.inl h1) (by rw [hH]; exact mf_lt hR.pos) (by rw [hH]; exact mf_mul 256 m a b)
theorem addS4 {lim : Lim} (hl : lim = limR) {m inv : Nat} (hR : Mod 256 m) (fast one two a b r : Nat) (ha : a < m) (hb : b < m) (hr : r = (a + b) % m) :
   Sp 170 [.ref (ring4 lim m inv fast one two) 0, u4 lim a, u4 lim b] (u4 lim r) := by
 have hm := hR.lt
 obtain ⟨s, hs⟩ : ∃ s, s = (a + b) % 2 ^ 256 := ⟨_, rfl⟩
 obtain ⟨c, hc⟩ : ∃ s, s = (a + b) / 2 ^ 256 := ⟨_, rfl⟩
 obtain ⟨d, hd⟩ : ∃ d, d = if s < m then s + 2 ^ 256 - m else s - m := ⟨_, rfl⟩
 obtain ⟨k, h1, h2, h3⟩ := less_dif (a := s) (b := m) (n := 2 ^ 256) (by omega) hm (decide (s < m)) rfl hd
 have hc2 : c = 0 ∨ c = 1 := by omega
 have hcase : (c = 1 ∧ r = d) ∨ (c = 0 ∧ k = 0 ∧ r = d) ∨ (c = 0 ∧ k = 1 ∧ r = s) := by
   have hab : (a + b) % m = if a + b < m then a + b else a + b - m := by
     split
     . exact Nat.mod_eq_of_lt (by omega)
     . rw [Nat.mod_eq_sub_mod (by omega)]; exact Nat.mod_eq_of_lt (by omega)
   rw [hab] at hr
   by_cases hlt : s < m
   . simp [hlt] at h3
     split at hr <;> omega
   . simp [hlt] at h3
     split at hr <;> omega
 have hp := plus4 hl a b s c (by omega) (by omega) (by omega) (by omega)
 have hq := minus4 hl s m d k (by omega) hm h1 h2
 refine mk Tryz.func170 rfl rfl L0 R1 (by decide +kernel) fun A S hA hS => ?_
 unfold bodyOf Tryz.f170
 cbv
 refine ACall.mk (.tup [u4 lim s, .s .u64 c]) (cf hS hp) ?_
 cbv
 refine ACall.mk (.tup [u4 lim d, .s .u64 k]) (cf hS hq) ?_
 cbv
 rcases hcase with ⟨rfl, rfl⟩ | ⟨rfl, rfl, rfl⟩ | ⟨rfl, rfl, rfl⟩
 all_goals repeat ((first | refine ABr.t (cmp_lit hA rfl) ?_ | refine ABr.f (cmp_lit hA rfl) ?_); cbv)
theorem addE4 {H : H5} (hH : H = H5.real) {m a b : Nat} (hR : Mod 256 m) : Sp 170 [.ref (R4 H m) 0, el4 H m a, el4 H m b] (el4 H m (H.add m a b)) :=
 addS4 (H5.hlim hH) hR _ _ _ _ _ _ (by rw [hH]; exact mf_lt hR.pos) (by rw [hH]; exact mf_lt hR.pos) (by rw [hH]; exact (mf_add 256 m a b).symm)
theorem rlessS4 {lim : Lim} (hl : lim = limR) {m inv : Nat} (hR : Mod 256 m) (fast one two a b r : Nat) (ha : a < m) (hb : b < m) (hr : r = (a + m - b) % m) :
   Sp 211 [.ref (ring4 lim m inv fast one two) 0, u4 lim a, u4 lim b] (u4 lim r) := by
 have hm := hR.lt
 obtain ⟨d, hd⟩ : ∃ d, d = if a < b then a + 2 ^ 256 - b else a - b := ⟨_, rfl⟩
 obtain ⟨k, h1, h2, h3⟩ := less_dif (a := a) (b := b) (n := 2 ^ 256) (by omega) (by omega) (decide (a < b)) rfl hd
 have hq := minus4 hl a b d k (by omega) (by omega) h1 h2
 have hab : (a + m - b) % m = if a < b then a + m - b else a - b := by
   split
   . exact Nat.mod_eq_of_lt (by omega)
   . rw [Nat.mod_eq_sub_mod (by omega)]; exact (Nat.mod_eq_of_lt (by omega)).trans (by omega)
 rw [hab] at hr
 refine mk Tryz.func211 rfl rfl L0 R1 (by decide +kernel) fun A S hA hS => ?_
 unfold bodyOf Tryz.f211
 cbv
 refine ACall.mk (.tup [u4 lim d, .s .u64 k]) (cf hS hq) ?_
 cbv
 by_cases hlt : a < b
 . simp [hlt] at h3
   subst h3
   refine ABr.t (cmp_lit hA rfl) ?_
   cbv
   refine ACall.mk (.tup [u4 lim r, .s .u64 (1 : Nat)]) (cf hS (plus4 hl d m r 1 h2 hm (by rw [if_pos hlt] at hr hd; omega) (by rw [if_pos hlt] at hr; omega))) ?_
   cbv
 . simp [hlt] at h3
   subst h3
   rw [if_neg hlt] at hr hd
   obtain rfl : r = d := hr.trans hd.symm
   refine ABr.f (cmp_lit hA rfl) ?_
   cbv
theorem rlessE4 {H : H5} (hH : H = H5.real) {m a b : Nat} (hR : Mod 256 m) (hb : b < m) : Sp 211 [.ref (R4 H m) 0, el4 H m a, el4 H m b] (el4 H m (H.sub m a b)) :=
 rlessS4 (H5.hlim hH) hR _ _ _ _ _ _ (by rw [hH]; exact mf_lt hR.pos) (by rw [hH]; exact mf_lt hR.pos) (by rw [hH]; exact (mf_sub hR.pos hb).symm)
def z4 (H : H5) : AVal := u4 H.lim 0
theorem zS4 {H : H5} (hH : H = H5.real) : Sp 169 [] (z4 H) := Spec.res none4S (by rw [hH]; exact ⟨rfl, rfl, rfl, rfl⟩)
theorem ModulusS4 {H : H5} (m : Nat) : Sp 109 [.ref (R4 H m) 0] (u4 H.lim m) := by
 refine mk Tryz.func109 rfl rfl L0 R1 (by decide +kernel) fun A S hA hS => ?_
 unfold bodyOf Tryz.f109
 cbv
 refine ACall.mk _ (cf hS (isS4 (H := H) m)) ?_
 cbv
theorem MulS4 {H : H5} (hH : H = H5.real) {m a b : Nat} (hR : Mod 256 m) : Sp 175 [.ref (R4 H m) 0, el4 H m a, el4 H m b] (el4 H m (H.mul m a b)) := by
 refine mk Tryz.func175 rfl rfl L0 R1 (by decide +kernel) fun A S hA hS => ?_
 unfold bodyOf Tryz.f175
 cbv
 refine ACall.mk _ (cf hS (isS4 (H := H) m)) ?_
 cbv
 refine ACall.mk _ (cf hS (mulE4 hH hR (a := a) (b := b))) ?_
 cbv
theorem AddS4 {H : H5} (hH : H = H5.real) {m a b : Nat} (hR : Mod 256 m) : Sp 176 [.ref (R4 H m) 0, el4 H m a, el4 H m b] (el4 H m (H.add m a b)) := by
 refine mk Tryz.func176 rfl rfl L0 R1 (by decide +kernel) fun A S hA hS => ?_
 unfold bodyOf Tryz.f176
 cbv
 refine ACall.mk _ (cf hS (isS4 (H := H) m)) ?_
 cbv
 refine ACall.mk _ (cf hS (addE4 hH hR (a := a) (b := b))) ?_
 cbv
theorem SubS4 {H : H5} (hH : H = H5.real) {m a b : Nat} (hR : Mod 256 m) (hb : b < m) : Sp 174 [.ref (R4 H m) 0, el4 H m a, el4 H m b] (el4 H m (H.sub m a b)) := by
 refine mk Tryz.func174 rfl rfl L0 R1 (by decide +kernel) fun A S hA hS => ?_
 unfold bodyOf Tryz.f174
 cbv
 refine ACall.mk _ (cf hS (isS4 (H := H) m)) ?_
 cbv
 refine ACall.mk _ (cf hS (rlessE4 hH hR hb (a := a) (b := b))) ?_
 cbv
theorem NegS4 {H : H5} (hH : H = H5.real) {m b : Nat} (hR : Mod 256 m) (hb : b < m) : Sp 178 [.ref (R4 H m) 0, el4 H m b] (el4 H m (H.sub m 0 b)) := by
 have hz : z4 H = el4 H m 0 := by rw [hH]; unfold z4 el4 H5.real; simp
 refine mk Tryz.func178 rfl rfl L0 R1 (by decide +kernel) fun A S hA hS => ?_
 unfold bodyOf Tryz.f178
 cbv
 refine ACall.mk (el4 H m 0) (cf hS (hz ▸ zS4 hH)) ?_
 cbv
 refine ACall.mk _ (cf hS (SubS4 hH hR hb (a := 0) (b := b))) ?_
 cbv
theorem InS4 {H : H5} (hH : H = H5.real) {m a : Nat} (hR : Mod 256 m) (ha : a < 2 ^ 256) : Sp 101 [.ref (R4 H m) 0, u4 H.lim a] (el4 H m (H.mod m a)) := by
 have h2 : H.mf (2 * 256) m 1 < m := by rw [hH]; exact mf_lt hR.pos
 have hm := mulS4 (H5.hlim hH) hR (inv := H.minv m) (by rw [hH]; rfl) (H.fast4 m) (H.mf 256 m 1) (H.mf (2 * 256) m 1) a (H.mf (2 * 256) m 1) (H.mf 256 m (H.mod m a)) ha (Nat.lt_trans h2 hR.lt) (.inr h2)
   (by rw [hH]; exact mf_lt hR.pos) (by
     rw [hH]
     show a % m * 2 ^ 256 % m * 2 ^ 256 % m = a * (1 * 2 ^ (2 * 256) % m) % m
     rw [Nat.mod_mul_mod, Nat.mul_mod_mod, Nat.one_mul, Nat.mul_assoc, Nat.mod_mul_mod, ← Nat.pow_add])
 refine mk Tryz.func101 rfl rfl L0 R1 (by decide +kernel) fun A S hA hS => ?_
 unfold bodyOf Tryz.f101
 cbv
 refine ACall.mk _ (cf hS (isS4 (H := H) m)) ?_
 cbv
 refine aF hS hm ?_
 cbv
theorem OutS4 {H : H5} (hH : H = H5.real) {m a : Nat} (hR : Mod 256 m) (ha : a < m) : Sp 183 [.ref (R4 H m) 0, el4 H m a] (u4 H.lim a) := by
 have h2 : H.mf 256 m a < m := by rw [hH]; exact mf_lt hR.pos
 have h1 := hR.one
 have hlt := hR.lt
 have hm := mulS4 (H5.hlim hH) hR (inv := H.minv m) (by rw [hH]; rfl) (H.fast4 m) (H.mf 256 m 1) (H.mf (2 * 256) m 1) (H.mf 256 m a) 1 a (Nat.lt_trans h2 hR.lt) (by omega) (.inl h2) ha (by
     rw [hH]
     show a * 2 ^ 256 % m = a * 2 ^ 256 % m * 1 % m
     rw [Nat.mul_one, Nat.mod_mod])
 have hone : u4 H.lim 1 = .agg [.s .u64 1, .s .u64 0, .s .u64 0, .s .u64 0] := by rw [hH]; rfl
 refine mk Tryz.func183 rfl rfl L0 R1 (by decide +kernel) fun A S hA hS => ?_
 unfold bodyOf Tryz.f183
 cbv
 refine ACall.mk _ (cf hS (isS4 (H := H) m)) ?_
 cbv
 refine ACall.mk _ (cg hS hm (by rw [hone]; cbv)) ?_
 cbv
def el6 (H : H5) (m a : Nat) : AVal := u6 H.lim (H.mf 384 m a)
def R6 (H : H5) (m : Nat) : List AVal := ring6 H.lim m (H.minv m) (H.fast6 m) (H.mf 384 m 1) (H.mf (2 * 384) m 1)
theorem mulS6 {lim : Lim} (hl : lim = limR) {m inv : Nat} (hR : Mod 384 m) (hi : inv = minvR m) (fast one two a b r : Nat) (ha : a < 2 ^ 384) (hb : b < 2 ^ 384) (hab : a < m ∨ b < m) (hr : r < m) (hrr : r * 2 ^ 384 % m = a * b % m) :
   Sp 157 [.ref (ring6 lim m inv fast one two) 0, u6 lim a, u6 lim b] (u6 lim r) := by
 obtain ⟨d, hd⟩ := mont6S hl m inv fast one two a b r ha hb hR.lt (hi ▸ minv_lim hl hR.odd) (hi ▸ minv_lt m) hR.odd hab hr hrr
 refine mk Tryz.func157 rfl rfl L0 R0 (by decide +kernel) fun A S hA hS => ?_
 unfold bodyOf Tryz.f157
 cbv
 refine AMut.mk _ _ (cm hS hd) ?_
 cbv
theorem isS6 {H : H5} (m : Nat) : Sp 156 [.ref (R6 H m) 0] (.b true) := by
 refine mk Tryz.func156 rfl rfl L0 R0 (by decide +kernel) fun A S hA hS => ?_
 unfold bodyOf Tryz.f156
 cbv
theorem mulE6 {H : H5} (hH : H = H5.real) {m a b : Nat} (hR : Mod 384 m) : Sp 157 [.ref (R6 H m) 0, el6 H m a, el6 H m b] (el6 H m (H.mul m a b)) := by
 have h1 : H.mf 384 m a < m := by rw [hH]; exact mf_lt hR.pos
 have h2 : H.mf 384 m b < m := by rw [hH]; exact mf_lt hR.pos
 exact mulS6 (H5.hlim hH) hR (by rw [hH]; rfl) _ _ _ _ _ _ (Nat.lt_trans h1 hR.lt) (Nat.lt_trans h2 hR.lt) (.inl h1) (by rw [hH]; exact mf_lt hR.pos) (by rw [hH]; exact mf_mul 384 m a b)
theorem addS6 {lim : Lim} (hl : lim = limR) {m inv : Nat} (hR : Mod 384 m) (fast one two a b r : Nat) (ha : a < m) (hb : b < m) (hr : r = (a + b) % m) :
   Sp 154 [.ref (ring6 lim m inv fast one two) 0, u6 lim a, u6 lim b] (u6 lim r) := by
 have hm := hR.lt
 obtain ⟨s, hs⟩ : ∃ s, s = (a + b) % 2 ^ 384 := ⟨_, rfl⟩
 obtain ⟨c, hc⟩ : ∃ s, s = (a + b) / 2 ^ 384 := ⟨_, rfl⟩
 obtain ⟨d, hd⟩ : ∃ d, d = if s < m then s + 2 ^ 384 - m else s - m := ⟨_, rfl⟩
 obtain ⟨k, h1, h2, h3⟩ := less_dif (a := s) (b := m) (n := 2 ^ 384) (by omega) hm (decide (s < m)) rfl hd
 have hc2 : c = 0 ∨ c = 1 := by omega
 have hcase : (c = 1 ∧ r = d) ∨ (c = 0 ∧ k = 0 ∧ r = d) ∨ (c = 0 ∧ k = 1 ∧ r = s) := by
   have hab : (a + b) % m = if a + b < m then a + b else a + b - m := by
     split
     . exact Nat.mod_eq_of_lt (by omega)
     . rw [Nat.mod_eq_sub_mod (by omega)]; exact Nat.mod_eq_of_lt (by omega)
   rw [hab] at hr
   by_cases hlt : s < m
   . simp [hlt] at h3
     split at hr <;> omega
   . simp [hlt] at h3
     split at hr <;> omega
 have hp := plus6 hl a b s c (by omega) (by omega) (by omega) (by omega)
 have hq := minus6 hl s m d k (by omega) hm h1 h2
 refine mk Tryz.func154 rfl rfl L0 R1 (by decide +kernel) fun A S hA hS => ?_
 unfold bodyOf Tryz.f154
 cbv
 refine ACall.mk (.tup [u6 lim s, .s .u64 c]) (cf hS hp) ?_
 cbv
 refine ACall.mk (.tup [u6 lim d, .s .u64 k]) (cf hS hq) ?_
 cbv
 rcases hcase with ⟨rfl, rfl⟩ | ⟨rfl, rfl, rfl⟩ | ⟨rfl, rfl, rfl⟩
 all_goals repeat ((first | refine ABr.t (cmp_lit hA rfl) ?_ | refine ABr.f (cmp_lit hA rfl) ?_); cbv)
theorem addE6 {H : H5} (hH : H = H5.real) {m a b : Nat} (hR : Mod 384 m) : Sp 154 [.ref (R6 H m) 0, el6 H m a, el6 H m b] (el6 H m (H.add m a b)) :=
 addS6 (H5.hlim hH) hR _ _ _ _ _ _ (by rw [hH]; exact mf_lt hR.pos) (by rw [hH]; exact mf_lt hR.pos) (by rw [hH]; exact (mf_add 384 m a b).symm)
theorem rlessS6 {lim : Lim} (hl : lim = limR) {m inv : Nat} (hR : Mod 384 m) (fast one two a b r : Nat) (ha : a < m) (hb : b < m) (hr : r = (a + m - b) % m) :
   Sp 227 [.ref (ring6 lim m inv fast one two) 0, u6 lim a, u6 lim b] (u6 lim r) := by
 have hm := hR.lt
 obtain ⟨d, hd⟩ : ∃ d, d = if a < b then a + 2 ^ 384 - b else a - b := ⟨_, rfl⟩
 obtain ⟨k, h1, h2, h3⟩ := less_dif (a := a) (b := b) (n := 2 ^ 384) (by omega) (by omega) (decide (a < b)) rfl hd
 have hq := minus6 hl a b d k (by omega) (by omega) h1 h2
 have hab : (a + m - b) % m = if a < b then a + m - b else a - b := by
   split
   . exact Nat.mod_eq_of_lt (by omega)
   . rw [Nat.mod_eq_sub_mod (by omega)]; exact (Nat.mod_eq_of_lt (by omega)).trans (by omega)
 rw [hab] at hr
 refine mk Tryz.func227 rfl rfl L0 R1 (by decide +kernel) fun A S hA hS => ?_
 unfold bodyOf Tryz.f227
 cbv
 refine ACall.mk (.tup [u6 lim d, .s .u64 k]) (cf hS hq) ?_
 cbv
 by_cases hlt : a < b
 . simp [hlt] at h3
   subst h3
   refine ABr.t (cmp_lit hA rfl) ?_
   cbv
   refine ACall.mk (.tup [u6 lim r, .s .u64 (1 : Nat)]) (cf hS (plus6 hl d m r 1 h2 hm (by rw [if_pos hlt] at hr hd; omega) (by rw [if_pos hlt] at hr; omega))) ?_
   cbv
 . simp [hlt] at h3
   subst h3
   rw [if_neg hlt] at hr hd
   obtain rfl : r = d := hr.trans hd.symm
   refine ABr.f (cmp_lit hA rfl) ?_
   cbv
theorem rlessE6 {H : H5} (hH : H = H5.real) {m a b : Nat} (hR : Mod 384 m) (hb : b < m) : Sp 227 [.ref (R6 H m) 0, el6 H m a, el6 H m b] (el6 H m (H.sub m a b)) :=
 rlessS6 (H5.hlim hH) hR _ _ _ _ _ _ (by rw [hH]; exact mf_lt hR.pos) (by rw [hH]; exact mf_lt hR.pos) (by rw [hH]; exact (mf_sub hR.pos hb).symm)
def z6 (H : H5) : AVal := u6 H.lim 0
theorem zS6 {H : H5} (hH : H = H5.real) : Sp 153 [] (z6 H) := Spec.res none6S (by rw [hH]; exact ⟨rfl, rfl, rfl, rfl, rfl, rfl⟩)
theorem ModulusS6 {H : H5} (m : Nat) : Sp 83 [.ref (R6 H m) 0] (u6 H.lim m) := by
 refine mk Tryz.func83 rfl rfl L0 R1 (by decide +kernel) fun A S hA hS => ?_
 unfold bodyOf Tryz.f83
 cbv
 refine ACall.mk _ (cf hS (isS6 (H := H) m)) ?_
 cbv
theorem MulS6 {H : H5} (hH : H = H5.real) {m a b : Nat} (hR : Mod 384 m) : Sp 145 [.ref (R6 H m) 0, el6 H m a, el6 H m b] (el6 H m (H.mul m a b)) := by
 refine mk Tryz.func145 rfl rfl L0 R1 (by decide +kernel) fun A S hA hS => ?_
 unfold bodyOf Tryz.f145
 cbv
 refine ACall.mk _ (cf hS (isS6 (H := H) m)) ?_
 cbv
 refine ACall.mk _ (cf hS (mulE6 hH hR (a := a) (b := b))) ?_
 cbv
theorem AddS6 {H : H5} (hH : H = H5.real) {m a b : Nat} (hR : Mod 384 m) : Sp 144 [.ref (R6 H m) 0, el6 H m a, el6 H m b] (el6 H m (H.add m a b)) := by
 refine mk Tryz.func144 rfl rfl L0 R1 (by decide +kernel) fun A S hA hS => ?_
 unfold bodyOf Tryz.f144
 cbv
 refine ACall.mk _ (cf hS (isS6 (H := H) m)) ?_
 cbv
 refine ACall.mk _ (cf hS (addE6 hH hR (a := a) (b := b))) ?_
 cbv
theorem SubS6 {H : H5} (hH : H = H5.real) {m a b : Nat} (hR : Mod 384 m) (hb : b < m) : Sp 218 [.ref (R6 H m) 0, el6 H m a, el6 H m b] (el6 H m (H.sub m a b)) := by
 refine mk Tryz.func218 rfl rfl L0 R1 (by decide +kernel) fun A S hA hS => ?_
 unfold bodyOf Tryz.f218
 cbv
 refine ACall.mk _ (cf hS (isS6 (H := H) m)) ?_
 cbv
 refine ACall.mk _ (cf hS (rlessE6 hH hR hb (a := a) (b := b))) ?_
 cbv
theorem NegS6 {H : H5} (hH : H = H5.real) {m b : Nat} (hR : Mod 384 m) (hb : b < m) : Sp 196 [.ref (R6 H m) 0, el6 H m b] (el6 H m (H.sub m 0 b)) := by
 have hz : z6 H = el6 H m 0 := by rw [hH]; unfold z6 el6 H5.real; simp
 refine mk Tryz.func196 rfl rfl L0 R1 (by decide +kernel) fun A S hA hS => ?_
 unfold bodyOf Tryz.f196
 cbv
 refine ACall.mk (el6 H m 0) (cf hS (hz ▸ zS6 hH)) ?_
 cbv
 refine ACall.mk _ (cf hS (SubS6 hH hR hb (a := 0) (b := b))) ?_
 cbv
theorem InS6 {H : H5} (hH : H = H5.real) {m a : Nat} (hR : Mod 384 m) (ha : a < 2 ^ 384) : Sp 73 [.ref (R6 H m) 0, u6 H.lim a] (el6 H m (H.mod m a)) := by
 have h2 : H.mf (2 * 384) m 1 < m := by rw [hH]; exact mf_lt hR.pos
 have hm := mulS6 (H5.hlim hH) hR (inv := H.minv m) (by rw [hH]; rfl) (H.fast6 m) (H.mf 384 m 1) (H.mf (2 * 384) m 1) a (H.mf (2 * 384) m 1) (H.mf 384 m (H.mod m a)) ha (Nat.lt_trans h2 hR.lt) (.inr h2)
   (by rw [hH]; exact mf_lt hR.pos) (by
     rw [hH]
     show a % m * 2 ^ 384 % m * 2 ^ 384 % m = a * (1 * 2 ^ (2 * 384) % m) % m
     rw [Nat.mod_mul_mod, Nat.mul_mod_mod, Nat.one_mul, Nat.mul_assoc, Nat.mod_mul_mod, ← Nat.pow_add])
 refine mk Tryz.func73 rfl rfl L0 R1 (by decide +kernel) fun A S hA hS => ?_
 unfold bodyOf Tryz.f73
 cbv
 refine ACall.mk _ (cf hS (isS6 (H := H) m)) ?_
 cbv
 refine aF hS hm ?_
 cbv
theorem OutS6 {H : H5} (hH : H = H5.real) {m a : Nat} (hR : Mod 384 m) (ha : a < m) : Sp 146 [.ref (R6 H m) 0, el6 H m a] (u6 H.lim a) := by
 have h2 : H.mf 384 m a < m := by rw [hH]; exact mf_lt hR.pos
 have h1 := hR.one
 have hlt := hR.lt
 have hm := mulS6 (H5.hlim hH) hR (inv := H.minv m) (by rw [hH]; rfl) (H.fast6 m) (H.mf 384 m 1) (H.mf (2 * 384) m 1) (H.mf 384 m a) 1 a (Nat.lt_trans h2 hR.lt) (by omega) (.inl h2) ha (by
     rw [hH]
     show a * 2 ^ 384 % m = a * 2 ^ 384 % m * 1 % m
     rw [Nat.mul_one, Nat.mod_mod])
 have hone : u6 H.lim 1 = .agg [.s .u64 1, .s .u64 0, .s .u64 0, .s .u64 0, .s .u64 0, .s .u64 0] := by rw [hH]; rfl
 refine mk Tryz.func146 rfl rfl L0 R1 (by decide +kernel) fun A S hA hS => ?_
 unfold bodyOf Tryz.f146
 cbv
 refine ACall.mk _ (cf hS (isS6 (H := H) m)) ?_
 cbv
 refine ACall.mk _ (cg hS hm (by rw [hone]; cbv)) ?_
 cbv
abbrev secpP : Nat := 0xfffffffffffffffffffffffffffffffffffffffffffffffffffffffefffffc2f
abbrev secpN : Nat := 0xfffffffffffffffffffffffffffffffebaaedce6af48a03bbfd25e8cd0364141
abbrev bnP : Nat := 0x30644e72e131a029b85045b68181585d97816a916871ca8d3c208c16d87cfd47
abbrev bnR : Nat := 0x30644e72e131a029b85045b68181585d2833e84879b9709143e1f593f0000001
abbrev blsR : Nat := 0x73eda753299d7d483339d80809a1d80553bda402fffe5bfeffffffff00000001
abbrev blsP : Nat := 0x1a0111ea397fe69a4b1ba7b6434bacd764774b84f38512bf6730d2a0f6b0f6241eabfffeb153ffffb9feffffffffaaab
theorem leafEq_s (k : IntKind) (a b : Int) : leafEq (.s k a, .s k b) = decide (a = b) := by
 show (a == b) = _
 by_cases h : a = b <;> simp [h]
theorem eqs_real {A : Ar} (hA : A = Ar.real) (l : List (AVal × AVal)) : A.eqs l = l.all leafEq := by rw [hA]; rfl
theorem eqs4 {A : Ar} (hA : A = Ar.real) {lim : Lim} (hl : lim = limR) (a b : Nat) (ha : a < 2 ^ 256) (hb : b < 2 ^ 256) : A.eqs [(.s .u64 (lim a 0), .s .u64 (lim b 0)), (.s .u64 (lim a 1), .s .u64 (lim b 1)), (.s .u64 (lim a 2), .s .u64 (lim b 2)), (.s .u64 (lim a 3), .s .u64 (lim b 3))] = decide (a = b) := by
 rw [eqs_real hA]
 simp only [List.all_cons, List.all_nil, leafEq_s, Bool.and_true]
 by_cases h : a = b
 . subst h; simp
 . rw [decide_eq_false h]
   refine Bool.eq_false_iff.2 fun h' => h (lim_inj4 hl ha hb ?_)
   simpa using h'
theorem LessS4 {H : H5} (hH : H = H5.real) (a b : Nat) (ha : a < 2 ^ 256) (hb : b < 2 ^ 256) : Sp 110 [u4 H.lim a, u4 H.lim b] (.sb (H.lt a b)) := by
 refine mk Tryz.func110 rfl rfl L0 R1 (by decide +kernel) fun A S hA hS => ?_
 unfold bodyOf Tryz.f110
 cbv
 refine ACall.mk _ (cf hS (less4S (H5.hlim hH) a b ha hb (H.lt a b) (by rw [hH]; rfl))) ?_
 cbv
theorem wordsS4 {H : H5} (a : Nat) : Sp 214 [u4 H.lim a] (.new false 4 1 [.s .u64 (H.lim a 0), .s .u64 (H.lim a 1), .s .u64 (H.lim a 2), .s .u64 (H.lim a 3)]) := by
 refine mk Tryz.func214 rfl rfl L0 R0 (by decide +kernel) fun A S hA hS => ?_
 unfold bodyOf Tryz.f214
 cbv
theorem eqs6 {A : Ar} (hA : A = Ar.real) {lim : Lim} (hl : lim = limR) (a b : Nat) (ha : a < 2 ^ 384) (hb : b < 2 ^ 384) : A.eqs [(.s .u64 (lim a 0), .s .u64 (lim b 0)), (.s .u64 (lim a 1), .s .u64 (lim b 1)), (.s .u64 (lim a 2), .s .u64 (lim b 2)), (.s .u64 (lim a 3), .s .u64 (lim b 3)), (.s .u64 (lim a 4), .s .u64 (lim b 4)), (.s .u64 (lim a 5), .s .u64 (lim b 5))] = decide (a = b) := by
 rw [eqs_real hA]
 simp only [List.all_cons, List.all_nil, leafEq_s, Bool.and_true]
 by_cases h : a = b
 . subst h; simp
 . rw [decide_eq_false h]
   refine Bool.eq_false_iff.2 fun h' => h (lim_inj6 hl ha hb ?_)
   simpa using h'
theorem LessS6 {H : H5} (hH : H = H5.real) (a b : Nat) (ha : a < 2 ^ 384) (hb : b < 2 ^ 384) : Sp 84 [u6 H.lim a, u6 H.lim b] (.sb (H.lt a b)) := by
 refine mk Tryz.func84 rfl rfl L0 R1 (by decide +kernel) fun A S hA hS => ?_
 unfold bodyOf Tryz.f84
 cbv
 refine ACall.mk _ (cf hS (less6S (H5.hlim hH) a b ha hb (H.lt a b) (by rw [hH]; rfl))) ?_
 cbv
theorem wordsS6 {H : H5} (a : Nat) : Sp 194 [u6 H.lim a] (.new false 6 1 [.s .u64 (H.lim a 0), .s .u64 (H.lim a 1), .s .u64 (H.lim a 2), .s .u64 (H.lim a 3), .s .u64 (H.lim a 4), .s .u64 (H.lim a 5)]) := by
 refine mk Tryz.func194 rfl rfl L0 R0 (by decide +kernel) fun A S hA hS => ?_
 unfold bodyOf Tryz.f194
 cbv
theorem SecpPS {H : H5} (hH : H = H5.real) : Sp 201 [] (u4 H.lim secpP) := by
 refine mk Tryz.func201 rfl rfl L0 R1 (by decide +kernel) fun A S hA hS => ?_
 unfold bodyOf Tryz.f201
 cbv
 rw [hH]
 exact ⟨rfl, rfl, rfl, rfl⟩
theorem SecpNS {H : H5} (hH : H = H5.real) : Sp 202 [] (u4 H.lim secpN) := by
 refine mk Tryz.func202 rfl rfl L0 R1 (by decide +kernel) fun A S hA hS => ?_
 unfold bodyOf Tryz.f202
 cbv
 rw [hH]
 exact ⟨rfl, rfl, rfl, rfl⟩
theorem BnPS {H : H5} (hH : H = H5.real) : Sp 99 [] (u4 H.lim bnP) := by
 refine mk Tryz.func99 rfl rfl L0 R1 (by decide +kernel) fun A S hA hS => ?_
 unfold bodyOf Tryz.f99
 cbv
 rw [hH]
 exact ⟨rfl, rfl, rfl, rfl⟩
theorem BnRS {H : H5} (hH : H = H5.real) : Sp 105 [] (u4 H.lim bnR) := by
 refine mk Tryz.func105 rfl rfl L0 R1 (by decide +kernel) fun A S hA hS => ?_
 unfold bodyOf Tryz.f105
 cbv
 rw [hH]
 exact ⟨rfl, rfl, rfl, rfl⟩
theorem BlsRS {H : H5} (hH : H = H5.real) : Sp 75 [] (u4 H.lim blsR) := by
 refine mk Tryz.func75 rfl rfl L0 R1 (by decide +kernel) fun A S hA hS => ?_
 unfold bodyOf Tryz.f75
 cbv
 rw [hH]
 exact ⟨rfl, rfl, rfl, rfl⟩
theorem BlsPS {H : H5} (hH : H = H5.real) : Sp 72 [] (u6 H.lim blsP) := by
 refine mk Tryz.func72 rfl rfl L0 R1 (by decide +kernel) fun A S hA hS => ?_
 unfold bodyOf Tryz.f72
 cbv
 rw [hH]
 exact ⟨rfl, rfl, rfl, rfl, rfl, rfl⟩
theorem prime4S {H : H5} (hH : H = H5.real) (m : Nat) (hm : m < 2 ^ 256) : Sp 171 [u4 H.lim m] (.s .i64 (H.fast4 m)) := by
 refine mk Tryz.func171 rfl rfl L0 R1 (by decide +kernel) fun A S hA hS => ?_
 unfold bodyOf Tryz.f171
 cbv
 refine ACall.mk _ (cf hS (SecpPS hH)) ?_
 cbv
 by_cases hsecpP : m = secpP
 . have e := (eqs4 hA (H5.hlim hH) m secpP hm (by decide)).trans (decide_eq_true hsecpP)
   repeat ((first | refine ABr.f (by assumption) ?_ | refine ABr.t (by assumption) ?_); cbv)
   rw [hH, hsecpP]
   decide
 have esecpP := (eqs4 hA (H5.hlim hH) m secpP hm (by decide)).trans (decide_eq_false hsecpP)
 repeat (refine ABr.f (by assumption) ?_; cbv)
 refine ACall.mk _ (cf hS (SecpNS hH)) ?_
 cbv
 by_cases hsecpN : m = secpN
 . have e := (eqs4 hA (H5.hlim hH) m secpN hm (by decide)).trans (decide_eq_true hsecpN)
   repeat ((first | refine ABr.f (by assumption) ?_ | refine ABr.t (by assumption) ?_); cbv)
   rw [hH, hsecpN]
   decide
 have esecpN := (eqs4 hA (H5.hlim hH) m secpN hm (by decide)).trans (decide_eq_false hsecpN)
 repeat (refine ABr.f (by assumption) ?_; cbv)
 refine ACall.mk _ (cf hS (BnPS hH)) ?_
 cbv
 by_cases hbnP : m = bnP
 . have e := (eqs4 hA (H5.hlim hH) m bnP hm (by decide)).trans (decide_eq_true hbnP)
   repeat ((first | refine ABr.f (by assumption) ?_ | refine ABr.t (by assumption) ?_); cbv)
   rw [hH, hbnP]
   decide
 have ebnP := (eqs4 hA (H5.hlim hH) m bnP hm (by decide)).trans (decide_eq_false hbnP)
 repeat (refine ABr.f (by assumption) ?_; cbv)
 refine ACall.mk _ (cf hS (BnRS hH)) ?_
 cbv
 by_cases hbnR : m = bnR
 . have e := (eqs4 hA (H5.hlim hH) m bnR hm (by decide)).trans (decide_eq_true hbnR)
   repeat ((first | refine ABr.f (by assumption) ?_ | refine ABr.t (by assumption) ?_); cbv)
   rw [hH, hbnR]
   decide
 have ebnR := (eqs4 hA (H5.hlim hH) m bnR hm (by decide)).trans (decide_eq_false hbnR)
 repeat (refine ABr.f (by assumption) ?_; cbv)
 refine ACall.mk _ (cf hS (BlsRS hH)) ?_
 cbv
 by_cases hblsR : m = blsR
 . have e := (eqs4 hA (H5.hlim hH) m blsR hm (by decide)).trans (decide_eq_true hblsR)
   repeat ((first | refine ABr.f (by assumption) ?_ | refine ABr.t (by assumption) ?_); cbv)
   rw [hH, hblsR]
   decide
 have eblsR := (eqs4 hA (H5.hlim hH) m blsR hm (by decide)).trans (decide_eq_false hblsR)
 repeat (refine ABr.f (by assumption) ?_; cbv)
 rw [hH]
 show (0 : Int) = ((if m ∈ primes4 then 1 else 0 : Nat) : Int)
 rw [if_neg (by simp only [primes4, List.mem_cons, List.not_mem_nil, or_false, not_or]; exact ⟨hsecpP, hsecpN, hbnP, hbnR, hblsR⟩)]
 rfl
theorem prime6S {H : H5} (hH : H = H5.real) (m : Nat) (hm : m < 2 ^ 384) : Sp 155 [u6 H.lim m] (.s .i64 (H.fast6 m)) := by
 refine mk Tryz.func155 rfl rfl L0 R1 (by decide +kernel) fun A S hA hS => ?_
 unfold bodyOf Tryz.f155
 cbv
 refine ACall.mk _ (cf hS (BlsPS hH)) ?_
 cbv
 by_cases hblsP : m = blsP
 . have e := (eqs6 hA (H5.hlim hH) m blsP hm (by decide)).trans (decide_eq_true hblsP)
   repeat (refine ABr.t e ?_; cbv)
   rw [hH, hblsP]
   decide
 have e := (eqs6 hA (H5.hlim hH) m blsP hm (by decide)).trans (decide_eq_false hblsP)
 repeat (refine ABr.f e ?_; cbv)
 clear e
 rw [hH]
 show (0 : Int) = ((if m ∈ primes6 then 1 else 0 : Nat) : Int)
 rw [if_neg (by simp only [primes6, List.mem_cons, List.not_mem_nil, or_false]; exact hblsP)]
 rfl
theorem limR_half (n i : Nat) : limR (n / 2) i = limR n i / 2 + 9223372036854775808 * (limR n (i + 1) % 2) := by
 unfold limR
 obtain ⟨q, hq⟩ : ∃ q, q = n / 2 ^ (64 * i) := ⟨_, rfl⟩
 have h1 : n / 2 / 2 ^ (64 * i) = q / 2 := by rw [hq, Nat.div_div_eq_div_mul, Nat.mul_comm 2, ← Nat.div_div_eq_div_mul]
 have h2 : n / 2 ^ (64 * (i + 1)) = q / 18446744073709551616 := by rw [hq, Nat.div_div_eq_div_mul, show (18446744073709551616 : Nat) = 2 ^ 64 from rfl, ← Nat.pow_add]; rfl
 rw [h1, h2, ← hq]
 omega
theorem half_word {A : Ar} (hA : A = Ar.real) {x y : Int} (hx : 0 ≤ x ∧ x < 18446744073709551616) (hy : 0 ≤ y ∧ y < 18446744073709551616) : A.bin .or .u64 (A.bin .shr .u64 x 1) (A.bin .shl .u64 (A.bin .and .u64 y 1) 63) = x / 2 + 9223372036854775808 * (y % 2) := by
 obtain ⟨a, rfl⟩ : ∃ n : Nat, x = n := ⟨x.toNat, by omega⟩
 obtain ⟨b, rfl⟩ : ∃ n : Nat, y = n := ⟨y.toNat, by omega⟩
 rw [hA]
 show rbin .or .u64 (rbin .shr .u64 (Int.ofNat a) (Int.ofNat 1)) (rbin .shl .u64 (rbin .and .u64 (Int.ofNat b) (Int.ofNat 1)) (Int.ofNat 63)) = _
 rw [u_shr a 1 (by omega), show (Int.ofNat 1) = Int.ofNat (2 ^ 1 - 1) from rfl, u_mask b 1 (by omega) (by omega), u_shl _ 63 (by omega), Nat.mod_eq_of_lt (by omega), Nat.mul_comm (b % 2 ^ 1), u_or_add _ _ 63 (by omega) (by omega) (by omega)]
 show ((a / 2 ^ 1 + 2 ^ 63 * (b % 2 ^ 1) : Nat) : Int) = _
 omega
theorem half_top {A : Ar} (hA : A = Ar.real) {x y : Int} (hx : 0 ≤ x ∧ x < 18446744073709551616) (hy : y = 0 ∨ y = 1) : A.bin .or .u64 (A.bin .shr .u64 x 1) (A.bin .shl .u64 y 63) = x / 2 + 9223372036854775808 * y := by
 obtain ⟨a, rfl⟩ : ∃ n : Nat, x = n := ⟨x.toNat, by omega⟩
 obtain ⟨b, rfl⟩ : ∃ n : Nat, y = n := ⟨y.toNat, by omega⟩
 rw [hA]
 show rbin .or .u64 (rbin .shr .u64 (Int.ofNat a) (Int.ofNat 1)) (rbin .shl .u64 (Int.ofNat b) (Int.ofNat 63)) = _
 rw [u_shr a 1 (by omega), u_shl _ 63 (by omega), Nat.mod_eq_of_lt (by omega), Nat.mul_comm b, u_or_add _ _ 63 (by omega) (by omega) (by omega)]
 show ((a / 2 ^ 1 + 2 ^ 63 * b : Nat) : Int) = _
 omega
def hv (m a : Nat) : Nat := if a % 2 = 0 then a / 2 else (a + m) / 2
theorem half_lim4 {lim : Lim} (hl : lim = limR) {a top : Nat} (ha : a < 2 ^ 256) (ht : top ≤ 1) :
   lim a 0 / 2 + 9223372036854775808 * (lim a 1 % 2) = lim ((a + 2 ^ 256 * top) / 2) 0 ∧ lim a 1 / 2 + 9223372036854775808 * (lim a 2 % 2) = lim ((a + 2 ^ 256 * top) / 2) 1 ∧ lim a 2 / 2 + 9223372036854775808 * (lim a 3 % 2) = lim ((a + 2 ^ 256 * top) / 2) 2 ∧ lim a (4 - 1) / 2 + 9223372036854775808 * (top : Int) = lim ((a + 2 ^ 256 * top) / 2) (4 - 1) := by
 subst hl
 have e : ∀ i, i < 4 → limR (a + 2 ^ 256 * top) i = limR a i := by
   intro i hi
   unfold limR
   congr 1
   rw [show 2 ^ 256 * top = 2 ^ (64 * i) * (2 ^ 64 * (2 ^ (256 - 64 * i - 64) * top)) by
     rw [← Nat.mul_assoc, ← Nat.mul_assoc, ← Nat.pow_add, ← Nat.pow_add]; congr 2; omega]
   rw [Nat.add_mul_div_left _ _ (Nat.two_pow_pos _), Nat.add_mul_mod_self_left]
 have e4 : limR (a + 2 ^ 256 * top) 4 = (top : Int) := by
   unfold limR
   congr 1
   show (a + 2 ^ 256 * top) / 2 ^ 256 % 2 ^ 64 = top
   rw [Nat.add_mul_div_left _ _ (Nat.two_pow_pos _), Nat.div_eq_of_lt ha]
   omega
 have et : (top : Int) % 2 = top := by omega
 refine ⟨?_, ?_, ?_, ?_⟩
 all_goals rw [limR_half]
 . rw [e 0 (by omega), e 1 (by omega)]
 . rw [e 1 (by omega), e 2 (by omega)]
 . rw [e 2 (by omega), e 3 (by omega)]
 . rw [e (4 - 1) (by omega), e4, et]
theorem halfS4 {lim : Lim} (hl : lim = limR) {a top h : Nat} (ha : a < 2 ^ 256) (ht : top ≤ 1) (hh : h = (a + 2 ^ 256 * top) / 2) : Sp 224 [u4 lim a, .s .u64 top] (u4 lim h) := by
 have la := fun i => lim_range hl a i
 have hf := half_lim4 hl ha ht
 rw [← hh] at hf
 obtain ⟨h0, h1, h2, h3⟩ := hf
 have ht' : (top : Int) = 0 ∨ (top : Int) = 1 := by omega
 refine mk Tryz.func224 rfl rfl L0 R1 (by decide +kernel) fun A S hA hS => ?_
 unfold bodyOf Tryz.f224
 cbv
 exact ⟨(half_word hA (la 0) (la 1)).trans h0, (half_word hA (la 1) (la 2)).trans h1, (half_word hA (la 2) (la 3)).trans h2, (half_top hA (la (4 - 1)) ht').trans h3⟩
theorem even_lim4 {A : Ar} (hA : A = Ar.real) {lim : Lim} (hl : lim = limR) (a : Nat) : A.cmp .eql (A.bin .and .u64 (lim a 0) 1) 0 = decide (a % 2 = 0) := by
 rw [lim_mod hl, hA]
 show rcmp .eql (rbin .and .u64 (Int.ofNat (a % 18446744073709551616)) (Int.ofNat (2 ^ 1 - 1))) 0 = _
 rw [u_mask _ 1 (by omega) (by omega)]
 show ((Int.ofNat (a % 18446744073709551616 % 2 ^ 1)) == (0 : Int)) = _
 by_cases h : a % 2 = 0
 . rw [decide_eq_true h, show a % 18446744073709551616 % 2 ^ 1 = 0 by omega]; rfl
 . rw [decide_eq_false h, show a % 18446744073709551616 % 2 ^ 1 = 1 by omega]; rfl
theorem halvedS4 {lim : Lim} (hl : lim = limR) {m inv : Nat} (hR : Mod 256 m) (fast one two a h : Nat) (ha : a < m) (hh : h = hv m a) :
   Sp 225 [.ref (ring4 lim m inv fast one two) 0, u4 lim a] (u4 lim h) := by
 have hm := hR.lt
 refine mk Tryz.func225 rfl rfl L0 R1 (by decide +kernel) fun A S hA hS => ?_
 unfold bodyOf Tryz.f225
 cbv
 have e := even_lim4 hA hl a
 unfold hv at hh
 by_cases h2 : a % 2 = 0
 . rw [decide_eq_true h2] at e
   rw [if_pos h2] at hh
   refine ABr.t e ?_
   cbv
   refine ACall.mk (u4 lim h) (cg hS (halfS4 hl (a := a) (top := 0) (by omega) (by omega) (by omega)) (by cbv)) ?_
   cbv
 . rw [decide_eq_false h2] at e
   rw [if_neg h2] at hh
   refine ABr.f e ?_
   cbv
   obtain ⟨s, hs⟩ : ∃ s, s = (a + m) % 2 ^ 256 := ⟨_, rfl⟩
   obtain ⟨c, hc⟩ : ∃ s, s = (a + m) / 2 ^ 256 := ⟨_, rfl⟩
   refine ACall.mk (.tup [u4 lim s, .s .u64 c]) (cf hS (plus4 hl a m s c (by omega) (by omega) (by omega) (by omega))) ?_
   cbv
   refine ACall.mk (u4 lim h) (cf hS (halfS4 hl (a := s) (top := c) (by omega) (by omega) (by omega))) ?_
   cbv
theorem half_lim6 {lim : Lim} (hl : lim = limR) {a top : Nat} (ha : a < 2 ^ 384) (ht : top ≤ 1) :
   lim a 0 / 2 + 9223372036854775808 * (lim a 1 % 2) = lim ((a + 2 ^ 384 * top) / 2) 0 ∧ lim a 1 / 2 + 9223372036854775808 * (lim a 2 % 2) = lim ((a + 2 ^ 384 * top) / 2) 1 ∧ lim a 2 / 2 + 9223372036854775808 * (lim a 3 % 2) = lim ((a + 2 ^ 384 * top) / 2) 2 ∧ lim a 3 / 2 + 9223372036854775808 * (lim a 4 % 2) = lim ((a + 2 ^ 384 * top) / 2) 3 ∧ lim a 4 / 2 + 9223372036854775808 * (lim a 5 % 2) = lim ((a + 2 ^ 384 * top) / 2) 4 ∧ lim a (6 - 1) / 2 + 9223372036854775808 * (top : Int) = lim ((a + 2 ^ 384 * top) / 2) (6 - 1) := by
 subst hl
 have e : ∀ i, i < 6 → limR (a + 2 ^ 384 * top) i = limR a i := by
   intro i hi
   unfold limR
   congr 1
   rw [show 2 ^ 384 * top = 2 ^ (64 * i) * (2 ^ 64 * (2 ^ (384 - 64 * i - 64) * top)) by
     rw [← Nat.mul_assoc, ← Nat.mul_assoc, ← Nat.pow_add, ← Nat.pow_add]; congr 2; omega]
   rw [Nat.add_mul_div_left _ _ (Nat.two_pow_pos _), Nat.add_mul_mod_self_left]
 have e4 : limR (a + 2 ^ 384 * top) 6 = (top : Int) := by
   unfold limR
   congr 1
   show (a + 2 ^ 384 * top) / 2 ^ 384 % 2 ^ 64 = top
   rw [Nat.add_mul_div_left _ _ (Nat.two_pow_pos _), Nat.div_eq_of_lt ha]
   omega
 have et : (top : Int) % 2 = top := by omega
 refine ⟨?_, ?_, ?_, ?_, ?_, ?_⟩
 all_goals rw [limR_half]
 . rw [e 0 (by omega), e 1 (by omega)]
 . rw [e 1 (by omega), e 2 (by omega)]
 . rw [e 2 (by omega), e 3 (by omega)]
 . rw [e 3 (by omega), e 4 (by omega)]
 . rw [e 4 (by omega), e 5 (by omega)]
 . rw [e (6 - 1) (by omega), e4, et]
theorem halfS6 {lim : Lim} (hl : lim = limR) {a top h : Nat} (ha : a < 2 ^ 384) (ht : top ≤ 1) (hh : h = (a + 2 ^ 384 * top) / 2) : Sp 255 [u6 lim a, .s .u64 top] (u6 lim h) := by
 have la := fun i => lim_range hl a i
 have hf := half_lim6 hl ha ht
 rw [← hh] at hf
 obtain ⟨h0, h1, h2, h3, h4, h5⟩ := hf
 have ht' : (top : Int) = 0 ∨ (top : Int) = 1 := by omega
 refine mk Tryz.func255 rfl rfl L0 R1 (by decide +kernel) fun A S hA hS => ?_
 unfold bodyOf Tryz.f255
 cbv
 exact ⟨(half_word hA (la 0) (la 1)).trans h0, (half_word hA (la 1) (la 2)).trans h1, (half_word hA (la 2) (la 3)).trans h2, (half_word hA (la 3) (la 4)).trans h3, (half_word hA (la 4) (la 5)).trans h4, (half_top hA (la (6 - 1)) ht').trans h5⟩
theorem even_lim6 {A : Ar} (hA : A = Ar.real) {lim : Lim} (hl : lim = limR) (a : Nat) : A.cmp .eql (A.bin .and .u64 (lim a 0) 1) 0 = decide (a % 2 = 0) := by
 rw [lim_mod hl, hA]
 show rcmp .eql (rbin .and .u64 (Int.ofNat (a % 18446744073709551616)) (Int.ofNat (2 ^ 1 - 1))) 0 = _
 rw [u_mask _ 1 (by omega) (by omega)]
 show ((Int.ofNat (a % 18446744073709551616 % 2 ^ 1)) == (0 : Int)) = _
 by_cases h : a % 2 = 0
 . rw [decide_eq_true h, show a % 18446744073709551616 % 2 ^ 1 = 0 by omega]; rfl
 . rw [decide_eq_false h, show a % 18446744073709551616 % 2 ^ 1 = 1 by omega]; rfl
theorem halvedS6 {lim : Lim} (hl : lim = limR) {m inv : Nat} (hR : Mod 384 m) (fast one two a h : Nat) (ha : a < m) (hh : h = hv m a) :
   Sp 250 [.ref (ring6 lim m inv fast one two) 0, u6 lim a] (u6 lim h) := by
 have hm := hR.lt
 refine mk Tryz.func250 rfl rfl L0 R1 (by decide +kernel) fun A S hA hS => ?_
 unfold bodyOf Tryz.f250
 cbv
 have e := even_lim6 hA hl a
 unfold hv at hh
 by_cases h2 : a % 2 = 0
 . rw [decide_eq_true h2] at e
   rw [if_pos h2] at hh
   refine ABr.t e ?_
   cbv
   refine ACall.mk (u6 lim h) (cg hS (halfS6 hl (a := a) (top := 0) (by omega) (by omega) (by omega)) (by cbv)) ?_
   cbv
 . rw [decide_eq_false h2] at e
   rw [if_neg h2] at hh
   refine ABr.f e ?_
   cbv
   obtain ⟨s, hs⟩ : ∃ s, s = (a + m) % 2 ^ 384 := ⟨_, rfl⟩
   obtain ⟨c, hc⟩ : ∃ s, s = (a + m) / 2 ^ 384 := ⟨_, rfl⟩
   refine ACall.mk (.tup [u6 lim s, .s .u64 c]) (cf hS (plus6 hl a m s c (by omega) (by omega) (by omega) (by omega))) ?_
   cbv
   refine ACall.mk (u6 lim h) (cf hS (halfS6 hl (a := s) (top := c) (by omega) (by omega) (by omega))) ?_
   cbv
theorem mkE {f : FuncId} {fn : Func} {As : List AVal} {r : AVal} (hf : Tryz.prog.funcs[f]? = some fn) (hb : fn.body = some (bodyOf fn)) (hn : (fn.name == "runtime.NumGoroutine") = false) (Nl : Nat → Nat) (tr : Nat → Md)
   (hok : codeOK tr (bodyOf fn) = true) (h : ∀ (A : Ar) (S : SpecT), A = Ar.real → S = specs Tryz.prog → afun A TT S Nl tr fn.ntmps fn.results (bodyOf fn) As (fun x => x = r)) : Sp f As r :=
 spec_of_afun (P := Tryz.prog) (T := TT) TT.ok TT.mixed (draw_ok (P := Tryz.prog) (T := TT) TT.ok) (Sp := specs Tryz.prog) ⟨fun _ _ _ h => h, fun _ _ _ _ _ h => h, fun _ _ _ _ h => h, fun _ => rfl⟩ rfl hf hb hn (N := Nl) (tr := tr) hok (h Ar.real _ rfl rfl)
theorem digitsS {row : List AVal} {n : Nat} : Sp 217 [.lst true n row] (.fn (.func 226) [] [.ref [.lst true n row] 0]) := by
 refine mkE Tryz.func217 rfl rfl LN R0 (by decide +kernel) fun A S hA hS => ?_
 unfold bodyOf Tryz.f217
 cbv
theorem bitAt_eq (e n i : Nat) (hi : i < 64 * n) : bitAt (limR e) n i = e / 2 ^ (64 * n - 1 - i) % 2 := by
 unfold bitAt limR
 obtain ⟨k, hk⟩ : ∃ k, k = 64 * n - 1 - i := ⟨_, rfl⟩
 rw [← hk, Int.toNat_natCast]
 obtain ⟨r, hr⟩ : ∃ r, r = k % 64 := ⟨_, rfl⟩
 rw [← hr]
 have hr64 : r < 64 := by omega
 have e1 : k = 64 * (k / 64) + r := by omega
 have e2 : e / 2 ^ k = e / 2 ^ (64 * (k / 64)) / 2 ^ r := by
   rw [Nat.div_div_eq_div_mul, ← Nat.pow_add, ← e1]
 rw [e2]
 generalize e / 2 ^ (64 * (k / 64)) = x
 rw [show (2 : Nat) ^ 64 = 2 ^ r * 2 ^ (64 - r) by rw [← Nat.pow_add]; congr 1; omega, Nat.mod_mul_right_div_self, Nat.mod_mod_of_dvd]
 exact Nat.dvd_trans (by decide) (Nat.pow_dvd_pow 2 (show 1 ≤ 64 - r by omega))
theorem pow_step (m a e j : Nat) : a ^ (e / 2 ^ j) % m = if e / 2 ^ j % 2 = 1 then a ^ (e / 2 ^ (j + 1)) % m * (a ^ (e / 2 ^ (j + 1)) % m) % m * a % m else a ^ (e / 2 ^ (j + 1)) % m * (a ^ (e / 2 ^ (j + 1)) % m) % m := by
 have e1 : e / 2 ^ (j + 1) = e / 2 ^ j / 2 := by rw [Nat.pow_succ, Nat.div_div_eq_div_mul]
 rw [e1]
 generalize e / 2 ^ j = x
 have sq : a ^ (x / 2) % m * (a ^ (x / 2) % m) % m = a ^ (2 * (x / 2)) % m := by
   rw [← Nat.mul_mod, ← Nat.pow_add]; congr 2; omega
 rw [sq]
 split
 . rw [Nat.mod_mul_mod, ← Nat.pow_succ]; congr 2; omega
 . congr 2; omega
theorem bit_eq {A : Ar} (hA : A = Ar.real) (t : Nat) : A.cmp .eql (t : Int) 1 = decide (t = 1) := by
 rw [i_eq hA]
 by_cases h : t = 1
 . subst h; rfl
 . rw [decide_eq_false h, decide_eq_false (by omega)]
def expH4 (H : H5) (m a x : Nat) : List Blk := [⟨true, true, [.ref (R4 H m) 0]⟩, ⟨true, true, [.s .u64 (H.lim (H.mf 256 m a) 0), .s .u64 (H.lim (H.mf 256 m a) 1), .s .u64 (H.lim (H.mf 256 m a) 2), .s .u64 (H.lim (H.mf 256 m a) 3)]⟩, ⟨true, true, [.i .u64 0, .i .u64 0, .i .u64 0, .i .u64 0]⟩, ⟨true, true, [.s .u64 (H.lim (H.mf 256 m x) 0), .s .u64 (H.lim (H.mf 256 m x) 1), .s .u64 (H.lim (H.mf 256 m x) 2), .s .u64 (H.lim (H.mf 256 m x) 3)]⟩]
theorem ExpS4 {H : H5} (hH : H = H5.real) {m a : Nat} (hR : Mod 256 m) (ha : a < m) {row : List AVal} {e k : Nat} (hrow : IsRow row (limR e) k) (hk : k < 1000) (he : e < 2 ^ (64 * k)) :
   Sp 213 [.ref (R4 H m) 0, el4 H m a, .lst true k row] (el4 H m (H.pow m a e)) := by
 obtain ⟨t, ht⟩ : ∃ t : Nat → Nat, t = bitAt (limR e) k := ⟨_, rfl⟩
 obtain ⟨x, hx⟩ : ∃ x : Nat → Nat, x = fun i => H.pow m a (e / 2 ^ (64 * k - i)) := ⟨_, rfl⟩
 have hx0 : x 0 = 1 := by
   rw [hx, hH]
   show a ^ (e / 2 ^ (64 * k)) % m = 1
   rw [Nat.div_eq_of_lt he, Nat.pow_zero, Nat.mod_eq_of_lt hR.one]
 have hxs : ∀ i, i < 64 * k → x (i + 1) = if t i = 1 then H.mul m (H.mul m (x i) (x i)) a else H.mul m (x i) (x i) := by
   intro i hi
   rw [hx, ht, bitAt_eq e k i hi, hH]
   show a ^ (e / 2 ^ (64 * k - (i + 1))) % m = if e / 2 ^ (64 * k - 1 - i) % 2 = 1 then a ^ (e / 2 ^ (64 * k - i)) % m * (a ^ (e / 2 ^ (64 * k - i)) % m) % m * a % m else a ^ (e / 2 ^ (64 * k - i)) % m * (a ^ (e / 2 ^ (64 * k - i)) % m) % m
   rw [show 64 * k - (i + 1) = 64 * k - 1 - i by omega, show 64 * k - i = 64 * k - 1 - i + 1 by omega]
   exact pow_step m a e _
 have hxe : x (64 * k) = H.pow m a e := by rw [hx]; show H.pow m a (e / 2 ^ (64 * k - 64 * k)) = _; rw [Nat.sub_self, Nat.pow_zero, Nat.div_one]
 have hd := digitsI hrow hk (fun i _ => lim_range rfl e i) (fun i => [.s .u64 (t i : Nat)]) (fun i _ => by rw [ht])
 refine mk Tryz.func213 rfl rfl LN R1 (by decide +kernel) fun A S hA hS => ?_
 unfold bodyOf Tryz.f213
 cbv
 refine ACall.mk _ (cf hS (isS4 (H := H) m)) ?_
 cbv
 refine aF hS digitsS ?_
 cbv
 refine .mk _ _ (cs hS hd) (fun i _ => rfl) (fun i => expH4 H m a (x i)) ?_ ?_ ?_
 . rw [hx0]; cbv
 . intro i hi
   have hst := hxs i hi
   have hb := bit_eq hA (t i)
   generalize x (i + 1) = y at hst ⊢
   generalize x i = xi at hst ⊢
   generalize t i = ti at hst hb ⊢
   cbv
   refine ACall.mk _ (cf hS (mulE4 hH hR (a := xi) (b := xi))) ?_
   cbv
   by_cases h1 : ti = 1
   . rw [if_pos h1] at hst
     rw [decide_eq_true h1] at hb
     refine ABr.t hb ?_
     cbv
     refine ACall.mk _ (cf hS (mulE4 hH hR (a := H.mul m xi xi) (b := a))) ?_
     rw [hst]
     cbv
   . rw [if_neg h1] at hst
     rw [decide_eq_false h1] at hb
     rw [hst]
     refine ABr.f hb ?_
     cbv
 . rw [hxe]
   cbv
def expH6 (H : H5) (m a x : Nat) : List Blk := [⟨true, true, [.ref (R6 H m) 0]⟩, ⟨true, true, [.s .u64 (H.lim (H.mf 384 m a) 0), .s .u64 (H.lim (H.mf 384 m a) 1), .s .u64 (H.lim (H.mf 384 m a) 2), .s .u64 (H.lim (H.mf 384 m a) 3), .s .u64 (H.lim (H.mf 384 m a) 4), .s .u64 (H.lim (H.mf 384 m a) 5)]⟩, ⟨true, true, [.i .u64 0, .i .u64 0, .i .u64 0, .i .u64 0, .i .u64 0, .i .u64 0]⟩, ⟨true, true, [.s .u64 (H.lim (H.mf 384 m x) 0), .s .u64 (H.lim (H.mf 384 m x) 1), .s .u64 (H.lim (H.mf 384 m x) 2), .s .u64 (H.lim (H.mf 384 m x) 3), .s .u64 (H.lim (H.mf 384 m x) 4), .s .u64 (H.lim (H.mf 384 m x) 5)]⟩]
theorem ExpS6 {H : H5} (hH : H = H5.real) {m a : Nat} (hR : Mod 384 m) (ha : a < m) {row : List AVal} {e k : Nat} (hrow : IsRow row (limR e) k) (hk : k < 1000) (he : e < 2 ^ (64 * k)) :
   Sp 195 [.ref (R6 H m) 0, el6 H m a, .lst true k row] (el6 H m (H.pow m a e)) := by
 obtain ⟨t, ht⟩ : ∃ t : Nat → Nat, t = bitAt (limR e) k := ⟨_, rfl⟩
 obtain ⟨x, hx⟩ : ∃ x : Nat → Nat, x = fun i => H.pow m a (e / 2 ^ (64 * k - i)) := ⟨_, rfl⟩
 have hx0 : x 0 = 1 := by
   rw [hx, hH]
   show a ^ (e / 2 ^ (64 * k)) % m = 1
   rw [Nat.div_eq_of_lt he, Nat.pow_zero, Nat.mod_eq_of_lt hR.one]
 have hxs : ∀ i, i < 64 * k → x (i + 1) = if t i = 1 then H.mul m (H.mul m (x i) (x i)) a else H.mul m (x i) (x i) := by
   intro i hi
   rw [hx, ht, bitAt_eq e k i hi, hH]
   show a ^ (e / 2 ^ (64 * k - (i + 1))) % m = if e / 2 ^ (64 * k - 1 - i) % 2 = 1 then a ^ (e / 2 ^ (64 * k - i)) % m * (a ^ (e / 2 ^ (64 * k - i)) % m) % m * a % m else a ^ (e / 2 ^ (64 * k - i)) % m * (a ^ (e / 2 ^ (64 * k - i)) % m) % m
   rw [show 64 * k - (i + 1) = 64 * k - 1 - i by omega, show 64 * k - i = 64 * k - 1 - i + 1 by omega]
   exact pow_step m a e _
 have hxe : x (64 * k) = H.pow m a e := by rw [hx]; show H.pow m a (e / 2 ^ (64 * k - 64 * k)) = _; rw [Nat.sub_self, Nat.pow_zero, Nat.div_one]
 have hd := digitsI hrow hk (fun i _ => lim_range rfl e i) (fun i => [.s .u64 (t i : Nat)]) (fun i _ => by rw [ht])
 refine mk Tryz.func195 rfl rfl LN R1 (by decide +kernel) fun A S hA hS => ?_
 unfold bodyOf Tryz.f195
 cbv
 refine ACall.mk _ (cf hS (isS6 (H := H) m)) ?_
 cbv
 refine aF hS digitsS ?_
 cbv
 refine .mk _ _ (cs hS hd) (fun i _ => rfl) (fun i => expH6 H m a (x i)) ?_ ?_ ?_
 . rw [hx0]; cbv
 . intro i hi
   have hst := hxs i hi
   have hb := bit_eq hA (t i)
   generalize x (i + 1) = y at hst ⊢
   generalize x i = xi at hst ⊢
   generalize t i = ti at hst hb ⊢
   cbv
   refine ACall.mk _ (cf hS (mulE6 hH hR (a := xi) (b := xi))) ?_
   cbv
   by_cases h1 : ti = 1
   . rw [if_pos h1] at hst
     rw [decide_eq_true h1] at hb
     refine ABr.t hb ?_
     cbv
     refine ACall.mk _ (cf hS (mulE6 hH hR (a := H.mul m xi xi) (b := a))) ?_
     rw [hst]
     cbv
   . rw [if_neg h1] at hst
     rw [decide_eq_false h1] at hb
     rw [hst]
     refine ABr.f hb ?_
     cbv
 . rw [hxe]
   cbv
end Go.Proofs.YtmholgclgamnnaaGreat
end
section
namespace Cv
structure Ops (α : Type) where
 add : α → α → α
 sub : α → α → α
 mul : α → α → α
 inv : α → α
 zero : α
 one : α
structure Laws {α : Type} (O : Ops α) : Prop where
 mul_one : ∀ a, O.mul a O.one = a
 one_mul : ∀ a, O.mul O.one a = a
 mul_zero : ∀ a, O.mul a O.zero = O.zero
 zero_mul : ∀ a, O.mul O.zero a = O.zero
 add_zero : O.add O.zero O.zero = O.zero
 assoc : ∀ a b c, O.mul (O.mul a b) c = O.mul a (O.mul b c)
 sub_zero : ∀ a b, O.sub a b = O.zero ↔ a = b
 ne : O.one ≠ O.zero
structure Jac (α : Type) where
 x : α
 y : α
 z : α
variable {α : Type} [DecidableEq α] (O : Ops α)
def dbl (p : Jac α) : Jac α :=
 let a := O.mul p.x p.x
 let b := O.mul p.y p.y
 let s := O.mul p.x b
 let s := O.add s s
 let s := O.add s s
 let e := O.add (O.add a a) a
 let c := O.mul b b
 let c := O.add c c
 let c := O.add c c
 let c := O.add c c
 let x := O.sub (O.mul e e) (O.add s s)
 let z := O.mul p.y p.z
 ⟨x, O.sub (O.mul e (O.sub s x)) c, O.add z z⟩
def inf : Jac α := ⟨O.zero, O.zero, O.zero⟩
def plus (p q : Jac α) : Jac α :=
 if p.z = O.zero then q else if q.z = O.zero then p else
 let pz := O.mul p.z p.z
 let qz := O.mul q.z q.z
 let u := O.mul p.x qz
 let v := O.mul q.x pz
 let s := O.mul (O.mul p.y qz) q.z
 let t := O.mul (O.mul q.y pz) p.z
 if u = v then (if s = t then dbl O p else inf O) else
 let h := O.sub v u
 let r := O.sub t s
 let hh := O.mul h h
 let hhh := O.mul hh h
 let w := O.mul u hh
 let x := O.sub (O.sub (O.mul r r) hhh) (O.add w w)
 ⟨x, O.sub (O.mul r (O.sub w x)) (O.mul s hhh), O.mul (O.mul p.z q.z) h⟩
def dblR (p : Jac α) : Jac α := if p.z = O.zero ∨ p.y = O.zero then ⟨p.x, p.y, O.zero⟩ else dbl O p
def plusR (p : Jac α) (qx qy : α) : Jac α :=
 if p.z = O.zero then ⟨qx, qy, O.one⟩ else
 let zz := O.mul p.z p.z
 let h := O.sub (O.mul qx zz) p.x
 let r := O.sub (O.mul qy (O.mul zz p.z)) p.y
 if h = O.zero then (if r = O.zero then dblR O p else ⟨p.x, p.y, O.zero⟩) else
 let hh := O.mul h h
 let hhh := O.mul hh h
 let v := O.mul p.x hh
 let x := O.sub (O.sub (O.mul r r) hhh) (O.add v v)
 ⟨x, O.sub (O.mul r (O.sub v x)) (O.mul p.y hhh), O.mul p.z h⟩
def tm (p : Jac α) (k n : Nat) : Nat → Jac α
 | 0 => inf O
 | i + 1 => if k / 2 ^ (n - 1 - i) % 2 = 1 then plus O (dbl O (tm p k n i)) p else dbl O (tm p k n i)
def stepR (z : Jac α) : Jac α := if z.z = O.zero then z else dblR O z
def tr (x y : α) (k n : Nat) : Nat → Jac α
 | 0 => ⟨x, y, O.zero⟩
 | i + 1 => if k / 2 ^ (n - 1 - i) % 2 = 1 then plusR O (stepR O (tr x y k n i)) x y else stepR O (tr x y k n i)
def alike (p q : Jac α) : Prop := (p.z = O.zero ∧ q.z = O.zero) ∨ (p = q ∧ q.z ≠ O.zero)
variable {O}
theorem dbl_inf (L : Laws O) {p : Jac α} (h : p.z = O.zero ∨ p.y = O.zero) : (dbl O p).z = O.zero := by
 show O.add (O.mul p.y p.z) (O.mul p.y p.z) = O.zero
 rcases h with h | h
 . rw [h, L.mul_zero, L.add_zero]
 . rw [h, L.zero_mul, L.add_zero]
theorem alike_eq (p : Jac α) : alike O p p := by
 by_cases h : p.z = O.zero
 . exact .inl ⟨h, h⟩
 . exact .inr ⟨rfl, h⟩
theorem dbl_dblR (L : Laws O) (p : Jac α) : alike O (dbl O p) (dblR O p) := by
 unfold dblR
 split
 . rename_i h; exact .inl ⟨dbl_inf L h, rfl⟩
 . exact alike_eq _
theorem dbl_alike (L : Laws O) {p q : Jac α} (h : alike O p q) : alike O (dbl O p) (stepR O q) := by
 unfold stepR
 rcases h with ⟨h1, h2⟩ | ⟨rfl, h⟩
 . rw [if_pos h2]; exact .inl ⟨dbl_inf L (.inl h1), h2⟩
 . rw [if_neg h]; exact dbl_dblR L p
theorem plus_alike (L : Laws O) {p q : Jac α} (x y : α) (h : alike O p q) : alike O (plus O p ⟨x, y, O.one⟩) (plusR O q x y) := by
 rcases h with ⟨h1, h2⟩ | ⟨rfl, h⟩
 . unfold plus plusR
   rw [if_pos h1, if_pos h2]
   exact alike_eq _
 . have e1 : O.mul O.one O.one = O.one := L.mul_one _
   unfold plus plusR
   rw [if_neg h, if_neg h, if_neg L.ne]
   simp only [e1, L.mul_one, L.assoc]
   by_cases hx : p.x = O.mul x (O.mul p.z p.z)
   . rw [if_pos hx, if_pos ((L.sub_zero _ _).2 hx.symm)]
     by_cases hy : p.y = O.mul y (O.mul p.z (O.mul p.z p.z))
     . rw [if_pos hy, if_pos ((L.sub_zero _ _).2 hy.symm)]
       exact dbl_dblR L p
     . rw [if_neg hy, if_neg (fun e => hy ((L.sub_zero _ _).1 e).symm)]
       exact .inl ⟨rfl, rfl⟩
   . rw [if_neg hx, if_neg (fun e => hx ((L.sub_zero _ _).1 e).symm)]
     exact alike_eq _
theorem tm_alike (L : Laws O) (x y : α) (k n : Nat) : ∀ i, alike O (tm O ⟨x, y, O.one⟩ k n i) (tr O x y k n i)
 | 0 => .inl ⟨rfl, rfl⟩
 | i + 1 => by
   have ih := dbl_alike L (tm_alike L x y k n i)
   rw [tm, tr]
   split
   . exact plus_alike L x y ih
   . exact ih
end Cv
namespace Cv
variable {α : Type} [DecidableEq α] (O : Ops α)
abbrev Pt (α : Type) := Option (α × α)
def up : Pt α → Jac α
 | none => inf O
 | some (x, y) => ⟨x, y, O.one⟩
def down (p : Jac α) : Pt α := if p.z = O.zero then none else
 some (O.mul p.x (O.mul (O.inv p.z) (O.inv p.z)), O.mul (O.mul p.y (O.mul (O.inv p.z) (O.inv p.z))) (O.inv p.z))
def slope (x1 y1 s x2 : α) : Pt α :=
 let x := O.sub (O.sub (O.mul s s) x1) x2
 some (x, O.sub (O.mul s (O.sub x1 x)) y1)
def sumR : Pt α → Pt α → Pt α
 | none, q => q
 | p, none => p
 | some (x1, y1), some (x2, y2) => if x1 = x2 then (if O.add y1 y2 = O.zero then none else
     slope O x1 y1 (O.mul (O.add (O.add (O.mul x1 x1) (O.mul x1 x1)) (O.mul x1 x1)) (O.inv (O.add y1 y1))) x2)
   else slope O x1 y1 (O.mul (O.sub y2 y1) (O.inv (O.sub x2 x1))) x2
def onC (b : α) : Pt α → Prop
 | none => True
 | some (x, y) => O.mul y y = O.add (O.mul (O.mul x x) x) b
section F1
variable {p : Nat} [NeZero p]
def ops1 (inv : Fin p → Fin p) : Ops (Fin p) := ⟨(· + ·), (· - ·), (· * ·), inv, 0, 1⟩
theorem laws1 (inv : Fin p → Fin p) (hp : (1 : Fin p) ≠ 0) : Laws (ops1 inv) where
 mul_one a := by show a * 1 = a; grind
 one_mul a := by show 1 * a = a; grind
 mul_zero a := by show a * 0 = 0; grind
 zero_mul a := by show 0 * a = 0; grind
 add_zero := by show (0 : Fin p) + 0 = 0; grind
 assoc a b c := by show a * b * c = a * (b * c); grind
 sub_zero a b := by show a - b = 0 ↔ a = b; constructor <;> intro h <;> grind
 ne := hp
end F1
end Cv
namespace Cv
structure F2 (p : Nat) where
 a : Fin p
 b : Fin p
 deriving DecidableEq
section
variable {p : Nat} [NeZero p]
def ops2 (inv : F2 p → F2 p) : Ops (F2 p) := ⟨fun x y => ⟨x.a + y.a, x.b + y.b⟩, fun x y => ⟨x.a - y.a, x.b - y.b⟩, fun x y => ⟨x.a * y.a - x.b * y.b, x.a * y.b + x.b * y.a⟩, inv, ⟨0, 0⟩, ⟨1, 0⟩⟩
theorem laws2 (inv : F2 p → F2 p) (hp : (1 : Fin p) ≠ 0) : Laws (ops2 inv) where
 mul_one := by rintro ⟨a, b⟩; show F2.mk (a * 1 - b * 0) (a * 0 + b * 1) = ⟨a, b⟩; simp only [F2.mk.injEq]; constructor <;> grind
 one_mul := by rintro ⟨a, b⟩; show F2.mk (1 * a - 0 * b) (1 * b + 0 * a) = ⟨a, b⟩; simp only [F2.mk.injEq]; constructor <;> grind
 mul_zero := by rintro ⟨a, b⟩; show F2.mk (a * 0 - b * 0) (a * 0 + b * 0) = ⟨0, 0⟩; simp only [F2.mk.injEq]; constructor <;> grind
 zero_mul := by rintro ⟨a, b⟩; show F2.mk (0 * a - 0 * b) (0 * b + 0 * a) = ⟨0, 0⟩; simp only [F2.mk.injEq]; constructor <;> grind
 add_zero := by show F2.mk ((0 : Fin p) + 0) (0 + 0) = ⟨0, 0⟩; simp only [F2.mk.injEq]; constructor <;> grind
 assoc := by
   rintro ⟨a, b⟩ ⟨c, d⟩ ⟨e, f⟩
   show F2.mk ((a * c - b * d) * e - (a * d + b * c) * f) ((a * c - b * d) * f + (a * d + b * c) * e) = ⟨a * (c * e - d * f) - b * (c * f + d * e), a * (c * f + d * e) + b * (c * e - d * f)⟩
   simp only [F2.mk.injEq]; constructor <;> grind
 sub_zero := by
   rintro ⟨a, b⟩ ⟨c, d⟩
   show F2.mk (a - c) (b - d) = ⟨0, 0⟩ ↔ F2.mk a b = ⟨c, d⟩
   simp only [F2.mk.injEq]; constructor <;> rintro ⟨h1, h2⟩ <;> constructor <;> grind
 ne := by
   show F2.mk (1 : Fin p) 0 ≠ ⟨0, 0⟩
   simp only [ne_eq, F2.mk.injEq, not_and]
   intro h; exact absurd h hp
end
end Cv
end
