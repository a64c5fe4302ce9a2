import Derived.Test.YtmholgclgamnnaaGreatQYBN
import Derived.Test.YtmholgclgamnnaaGreatQYyXCWritesyBA
set_option linter.unusedVariables false
set_option linter.unusedSimpArgs false
namespace Go.Proofs.YtmholgclgamnnaaGreat
open Go Eng
set_option maxRecDepth 100000
set_option exponentiation.threshold 2000
set_option maxHeartbeats 4000000
theorem half_num (x y hi lo al ah bl bh : Nat) (hx : x < 18446744073709551616) (hy : y < 18446744073709551616) (h : lo + 18446744073709551616 * hi = x * y) (hlo : lo < 18446744073709551616) (e1 : al = x % 4294967296) (e2 : ah = x / 4294967296) (e3 : bl = y % 4294967296) (e4 : bh = y / 4294967296) :
    al * bl < 18446744065119617026 ∧ al * bh < 18446744065119617026 ∧ ah * bl < 18446744065119617026 ∧ ah * bh < 18446744065119617026 ∧
    hi = ah * bh + al * bh / 4294967296 + ah * bl / 4294967296 + (al * bl / 4294967296 + al * bh % 4294967296 + ah * bl % 4294967296) / 4294967296 ∧
    lo = al * bl % 4294967296 + 4294967296 * ((al * bl / 4294967296 + al * bh % 4294967296 + ah * bl % 4294967296) % 4294967296) := by
  have f : ∀ p q : Nat, p ≤ 4294967295 → q ≤ 4294967295 → p * q < 18446744065119617026 := fun p q hp hq => Nat.lt_of_le_of_lt (Nat.mul_le_mul hp hq) (by decide)
  have hx' : x = al + 4294967296 * ah := by omega
  have hy' : y = bl + 4294967296 * bh := by omega
  have g1 := f al bl (by omega) (by omega)
  have g2 := f al bh (by omega) (by omega)
  have g3 := f ah bl (by omega) (by omega)
  have g4 := f ah bh (by omega) (by omega)
  have hp : x * y = al * bl + 4294967296 * (al * bh) + 4294967296 * (ah * bl) + 18446744073709551616 * (ah * bh) := by
    rw [hx', hy', Nat.add_mul, Nat.mul_add, Nat.mul_add, Nat.mul_left_comm al, Nat.mul_assoc, Nat.mul_assoc, Nat.mul_left_comm ah, ← Nat.mul_assoc 4294967296 4294967296]
    omega
  rw [hp] at h
  generalize al * bl = p at *
  generalize al * bh = q at *
  generalize ah * bl = r at *
  generalize ah * bh = s at *
  clear f hp hx' hy'
  omega
theorem rhalf (x y hi lo : Nat) (hx : x < 18446744073709551616) (hy : y < 18446744073709551616) (h : lo + 18446744073709551616 * hi = x * y) (hlo : lo < 18446744073709551616) : Sp 228 [.s .u64 x, .s .u64 y] (.tup [.s .u64 hi, .s .u64 lo]) := by
  obtain ⟨al, e1⟩ : ∃ n, n = x % 4294967296 := ⟨_, rfl⟩
  obtain ⟨ah, e2⟩ : ∃ n, n = x / 4294967296 := ⟨_, rfl⟩
  obtain ⟨bl, e3⟩ : ∃ n, n = y % 4294967296 := ⟨_, rfl⟩
  obtain ⟨bh, e4⟩ : ∃ n, n = y / 4294967296 := ⟨_, rfl⟩
  obtain ⟨h1, h2, h3, h4, h5, h6⟩ := half_num x y hi lo al ah bl bh hx hy h hlo e1 e2 e3 e4
  have hhi : hi < 18446744073709551616 := by
    have : 18446744073709551616 * hi < 18446744073709551616 * 18446744073709551616 := Nat.lt_of_le_of_lt (by omega : 18446744073709551616 * hi ≤ x * y) (Nat.mul_lt_mul'' hx hy)
    exact Nat.lt_of_mul_lt_mul_left this
  refine mk Tryz.func228 rfl rfl L0 R0 (by decide +kernel) ?_
  intro A S hA hS
  unfold bodyOf Tryz.f228
  cbv
  subst hA
  dsimp only [Ar.real]
  clear hS S
  have a1 : rbin .and .u64 (Int.ofNat x) 4294967295 = Int.ofNat al := (and32 x hx).trans (by rw [e1])
  have a2 : rbin .shr .u64 (Int.ofNat x) 32 = Int.ofNat ah := (shr32 x).trans (by rw [e2])
  have a3 : rbin .and .u64 (Int.ofNat y) 4294967295 = Int.ofNat bl := (and32 y hy).trans (by rw [e3])
  have a4 : rbin .shr .u64 (Int.ofNat y) 32 = Int.ofNat bh := (shr32 y).trans (by rw [e4])
  rw [a1, a2, a3, a4]
  clear a1 a2 a3 a4 e1 e2 e3 e4 h
  simp only [u_mul]
  rw [Nat.mod_eq_of_lt (show al * bl < 18446744073709551616 by omega), Nat.mod_eq_of_lt (show al * bh < 18446744073709551616 by omega), Nat.mod_eq_of_lt (show ah * bl < 18446744073709551616 by omega), Nat.mod_eq_of_lt (show ah * bh < 18446744073709551616 by omega)]
  generalize al * bl = p at *
  generalize al * bh = q at *
  generalize ah * bl = r at *
  generalize ah * bh = s at *
  simp only [shr32]
  rw [and32 p (by omega), and32 q (by omega), and32 r (by omega)]
  simp only [u_add]
  rw [Nat.mod_eq_of_lt (show p / 4294967296 + q % 4294967296 < 18446744073709551616 by omega), Nat.mod_eq_of_lt (show p / 4294967296 + q % 4294967296 + r % 4294967296 < 18446744073709551616 by omega)]
  have el : rbin .or .u64 (Int.ofNat (p % 4294967296)) (rbin .shl .u64 (Int.ofNat (p / 4294967296 + q % 4294967296 + r % 4294967296)) 32) = Int.ofNat lo := by
    rw [show rbin .shl .u64 (Int.ofNat (p / 4294967296 + q % 4294967296 + r % 4294967296)) 32 = Int.ofNat (2 ^ 32 * ((p / 4294967296 + q % 4294967296 + r % 4294967296) % 4294967296)) from (u_shl _ 32 (by omega)).trans (congrArg Int.ofNat (by omega))]
    rw [u_or_add _ _ 32 (by omega) (by omega) (by omega)]
    exact congrArg Int.ofNat (by omega)
  rw [el]
  simp only [shr32, u_add]
  rw [show ((s + q / 4294967296) % 18446744073709551616 + r / 4294967296) % 18446744073709551616 + (p / 4294967296 + q % 4294967296 + r % 4294967296) / 4294967296 = hi by omega, Nat.mod_eq_of_lt hhi]
  exact ⟨rfl, trivial⟩
/-- A word twice, and a bit. -/
theorem dblw {A : Ar} (hA : A = Ar.real) {x c : Int} (hx : 0 ≤ x ∧ x < 18446744073709551616) (hc : 0 ≤ c ∧ c ≤ 1) : A.bin .or .u64 (A.bin .shl .u64 x 1) c = (2 * x + c) % 18446744073709551616 := by
  obtain ⟨a, rfl⟩ : ∃ n : Nat, x = n := ⟨x.toNat, by omega⟩
  obtain ⟨b, rfl⟩ : ∃ n : Nat, c = n := ⟨c.toNat, by omega⟩
  rw [hA]
  show rbin .or .u64 (rbin .shl .u64 (Int.ofNat a) (Int.ofNat 1)) (Int.ofNat b) = _
  rw [u_shl a 1 (by omega), u_or _ _ (by omega) (by omega), Nat.or_comm, show a * 2 ^ 1 % 18446744073709551616 = 2 ^ 1 * (a % 9223372036854775808) by omega, Nat.or_comm, ← Nat.two_pow_add_eq_or_of_lt (show b < 2 ^ 1 by omega)]
  show ((2 ^ 1 * (a % 9223372036854775808) + b : Nat) : Int) = _
  omega
theorem topw {A : Ar} (hA : A = Ar.real) {x : Int} (hx : 0 ≤ x ∧ x < 18446744073709551616) : A.bin .shr .u64 x 63 = x / 9223372036854775808 := by
  obtain ⟨a, rfl⟩ : ∃ n : Nat, x = n := ⟨x.toNat, by omega⟩
  rw [hA]
  show rbin .shr .u64 (Int.ofNat a) (Int.ofNat 63) = _
  rw [u_shr a 63 (by omega)]
  show ((a / 2 ^ 63 : Nat) : Int) = _
  omega
theorem limR_dbl (a c i : Nat) (hc : c ≤ 1) : limR (2 * a + c) (i + 1) = (2 * limR a (i + 1) + limR a i / 9223372036854775808) % 18446744073709551616 := by
  unfold limR
  have e1 : (2 * a + c) / 2 ^ (64 * (i + 1)) = a / 2 ^ (64 * i + 63) := by
    rw [show 64 * (i + 1) = 1 + (64 * i + 63) by omega, Nat.pow_add, ← Nat.div_div_eq_div_mul, show (2 * a + c) / 2 ^ 1 = a by omega]
  have e2 : a / 2 ^ (64 * (i + 1)) = a / 2 ^ (64 * i) / 2 ^ 64 := by rw [show 64 * (i + 1) = 64 * i + 64 by omega, Nat.pow_add, Nat.div_div_eq_div_mul]
  have e3 : a / 2 ^ (64 * i + 63) = a / 2 ^ (64 * i) / 2 ^ 63 := by rw [Nat.pow_add, Nat.div_div_eq_div_mul]
  rw [e1, e2, e3]
  generalize a / 2 ^ (64 * i) = q
  omega
theorem limR_dbl0 (a c : Nat) : limR (2 * a + c) 0 = (2 * limR a 0 + c) % 18446744073709551616 := by
  unfold limR
  simp only [Nat.mul_zero, Nat.pow_zero, Nat.div_one]
  omega
theorem twice_num {a c m r : Nat} (ha : a < m) (hc : c ≤ 1) (hr : r = (2 * a + c) % m) : r = if 2 * a + c < m then 2 * a + c else 2 * a + c - m := by
  rw [hr]
  split
  · exact Nat.mod_eq_of_lt (by omega)
  · rw [Nat.mod_eq_sub_mod (by omega)]; exact Nat.mod_eq_of_lt (by omega)
theorem rtwice4 {lim : Lim} (hl : lim = limR) (a c m r : Nat) (hm : m < 2 ^ 256) (ha : a < m) (hc : c ≤ 1) (hr : r = (2 * a + c) % m) :
    Sp 205 [.lst false 4 (ws4 lim a), .s .u64 c, .lst false 4 (ws4 lim m)] (.new false 4 1 (ws4 lim r)) := by
  have hr' := twice_num ha hc hr
  obtain ⟨o, ho⟩ : ∃ o, o = (2 * a + c) % 2 ^ 256 := ⟨_, rfl⟩
  have le := fun x i => lim_range hl x i
  have hw0 : (2 * lim a 0 + c) % 18446744073709551616 = lim o 0 := by
    rw [ho, hl, limR_low (n := 4) (by decide), limR_dbl0]
  have hws : ∀ i, i + 1 < 4 → (2 * lim a (i + 1) + lim a i / 9223372036854775808) % 18446744073709551616 = lim o (i + 1) := by
    intro i hi
    rw [ho, hl, limR_low (n := 4) hi, limR_dbl _ _ _ hc]
  have htop : lim a 3 / 9223372036854775808 = ((2 * a + c) / 2 ^ 256 : Nat) := by
    have := le a 3
    have e : ((2 * a + c) / 2 ^ 256) = a / 2 ^ (64 * 3) / 2 ^ 63 := by
      rw [Nat.div_div_eq_div_mul, ← Nat.pow_add, show 256 = 1 + (64 * 3 + 63) by decide, Nat.pow_add, ← Nat.div_div_eq_div_mul, show (2 * a + c) / 2 ^ 1 = a by omega]
    rw [e, hl]
    unfold limR
    have h3 : a / 2 ^ (64 * 3) < 2 ^ 64 := by
      rw [Nat.div_lt_iff_lt_mul (Nat.two_pow_pos _), ← Nat.pow_add]
      exact Nat.lt_of_lt_of_le ha (Nat.le_of_lt hm)
    generalize a / 2 ^ (64 * 3) = q at *
    omega
  obtain ⟨t, ht⟩ : ∃ t : Nat, t = (2 * a + c) / 2 ^ 256 := ⟨_, rfl⟩
  rw [← ht] at htop
  have hom : o < 2 ^ 256 := by rw [ho]; exact Nat.mod_lt _ (Nat.two_pow_pos _)
  have hcase : (t = 1 ∧ r + m = o + 2 ^ 256 * 1) ∨ (t = 0 ∧ ¬ o < m ∧ r + m = o + 2 ^ 256 * 0) ∨ (t = 0 ∧ o < m ∧ r = o) := by
    have h1 : t = 0 ∨ t = 1 := by omega
    rcases h1 with h1 | h1
    · by_cases h2 : o < m
      · refine .inr (.inr ⟨h1, h2, ?_⟩)
        split at hr' <;> omega
      · refine .inr (.inl ⟨h1, h2, ?_⟩)
        split at hr' <;> omega
    · refine .inl ⟨h1, ?_⟩
      split at hr' <;> omega
  have hrm : r < 2 ^ 256 := Nat.lt_trans (hr ▸ Nat.mod_lt _ (by omega)) hm
  have hc' : 0 ≤ (c : Int) ∧ (c : Int) ≤ 1 := by omega
  have hless := rLess4 hl o m hom hm
  clear hr' ho hr
  refine mk Tryz.func205 rfl rfl L0 R0 (by decide +kernel) ?_
  intro A S hA hS
  unfold bodyOf Tryz.f205
  cbv
  have hq : ∀ i, 0 ≤ lim a i / 9223372036854775808 ∧ lim a i / 9223372036854775808 ≤ 1 := fun i => by have := le a i; omega
  have e0 : A.bin .or .u64 (A.bin .shl .u64 (lim a 0) 1) (c : Int) = lim o 0 := (dblw hA (le a 0) hc').trans hw0
  have es : ∀ i, i + 1 < 4 → A.bin .or .u64 (A.bin .shl .u64 (lim a (i + 1)) 1) (A.bin .shr .u64 (lim a i) 63) = lim o (i + 1) := fun i hi => by
    rw [topw hA (le a i)]
    exact (dblw hA (le a _) (hq i)).trans (hws i hi)
  have et : A.bin .shr .u64 (lim a 3) 63 = (t : Int) := (topw hA (le a _)).trans htop
  have hS1 : SimL [.lst false 4 [.s .u64 (A.bin .or .u64 (A.bin .shl .u64 (lim a 0) 1) (c : Int)), .s .u64 (A.bin .or .u64 (A.bin .shl .u64 (lim a 1) 1) (A.bin .shr .u64 (lim a 0) 63)), .s .u64 (A.bin .or .u64 (A.bin .shl .u64 (lim a 2) 1) (A.bin .shr .u64 (lim a 1) 63)), .s .u64 (A.bin .or .u64 (A.bin .shl .u64 (lim a 3) 1) (A.bin .shr .u64 (lim a 2) 63))], .lst false 4 (ws4 lim m)] [.lst false 4 (ws4 lim o), .lst false 4 (ws4 lim m)] := by
    cbv
    exact ⟨⟨e0, es 0 (by decide), es 1 (by decide), es 2 (by decide)⟩, trivial⟩
  have hcmp : A.cmp .eql (A.bin .shr .u64 (lim a 3) 63) 1 = decide ((t : Int) = 1) := by rw [et]; exact i_eq hA
  rcases hcase with ⟨rfl, h2⟩ | ⟨rfl, h1, h2⟩ | ⟨rfl, h1, rfl⟩
  · replace hcmp := hcmp.trans (decide_eq_true rfl)
    repeat (refine ABr.t hcmp ?_; cbv)
    refine ACall.mk _ (cg hS (rSub4 hl o m r 1 hom hm h2 hrm) hS1) ?_
    cbv
  · replace hcmp := hcmp.trans (decide_eq_false (by decide))
    repeat (refine ABr.f hcmp ?_; cbv)
    refine ACall.mk _ (cg hS (hless false (decide_eq_false h1).symm) hS1) ?_
    cbv
    repeat (refine ABr.f hcmp ?_; cbv)
    have hn := a_not hA false
    repeat (refine ABr.t hn ?_; cbv)
    refine ACall.mk _ (cg hS (rSub4 hl o m r 0 hom hm h2 hrm) hS1) ?_
    cbv
  · replace hcmp := hcmp.trans (decide_eq_false (by decide))
    repeat (refine ABr.f hcmp ?_; cbv)
    refine ACall.mk _ (cg hS (hless true (decide_eq_true h1).symm) hS1) ?_
    cbv
    repeat (refine ABr.f hcmp ?_; cbv)
    have hn := a_not hA true
    repeat (refine ABr.f hn ?_; cbv)
    exact ⟨e0, es 0 (by decide), es 1 (by decide), es 2 (by decide)⟩
theorem rtwice6 {lim : Lim} (hl : lim = limR) (a c m r : Nat) (hm : m < 2 ^ 384) (ha : a < m) (hc : c ≤ 1) (hr : r = (2 * a + c) % m) :
    Sp 205 [.lst false 6 (ws6 lim a), .s .u64 c, .lst false 6 (ws6 lim m)] (.new false 6 1 (ws6 lim r)) := by
  have hr' := twice_num ha hc hr
  obtain ⟨o, ho⟩ : ∃ o, o = (2 * a + c) % 2 ^ 384 := ⟨_, rfl⟩
  have le := fun x i => lim_range hl x i
  have hw0 : (2 * lim a 0 + c) % 18446744073709551616 = lim o 0 := by
    rw [ho, hl, limR_low (n := 6) (by decide), limR_dbl0]
  have hws : ∀ i, i + 1 < 6 → (2 * lim a (i + 1) + lim a i / 9223372036854775808) % 18446744073709551616 = lim o (i + 1) := by
    intro i hi
    rw [ho, hl, limR_low (n := 6) hi, limR_dbl _ _ _ hc]
  have htop : lim a 5 / 9223372036854775808 = ((2 * a + c) / 2 ^ 384 : Nat) := by
    have := le a 5
    have e : ((2 * a + c) / 2 ^ 384) = a / 2 ^ (64 * 5) / 2 ^ 63 := by
      rw [Nat.div_div_eq_div_mul, ← Nat.pow_add, show 384 = 1 + (64 * 5 + 63) by decide, Nat.pow_add, ← Nat.div_div_eq_div_mul, show (2 * a + c) / 2 ^ 1 = a by omega]
    rw [e, hl]
    unfold limR
    have h3 : a / 2 ^ (64 * 5) < 2 ^ 64 := by
      rw [Nat.div_lt_iff_lt_mul (Nat.two_pow_pos _), ← Nat.pow_add]
      exact Nat.lt_of_lt_of_le ha (Nat.le_of_lt hm)
    generalize a / 2 ^ (64 * 5) = q at *
    omega
  obtain ⟨t, ht⟩ : ∃ t : Nat, t = (2 * a + c) / 2 ^ 384 := ⟨_, rfl⟩
  rw [← ht] at htop
  have hom : o < 2 ^ 384 := by rw [ho]; exact Nat.mod_lt _ (Nat.two_pow_pos _)
  have hcase : (t = 1 ∧ r + m = o + 2 ^ 384 * 1) ∨ (t = 0 ∧ ¬ o < m ∧ r + m = o + 2 ^ 384 * 0) ∨ (t = 0 ∧ o < m ∧ r = o) := by
    have h1 : t = 0 ∨ t = 1 := by omega
    rcases h1 with h1 | h1
    · by_cases h2 : o < m
      · refine .inr (.inr ⟨h1, h2, ?_⟩)
        split at hr' <;> omega
      · refine .inr (.inl ⟨h1, h2, ?_⟩)
        split at hr' <;> omega
    · refine .inl ⟨h1, ?_⟩
      split at hr' <;> omega
  have hrm : r < 2 ^ 384 := Nat.lt_trans (hr ▸ Nat.mod_lt _ (by omega)) hm
  have hc' : 0 ≤ (c : Int) ∧ (c : Int) ≤ 1 := by omega
  have hless := rLess6 hl o m hom hm
  clear hr' ho hr
  refine mk Tryz.func205 rfl rfl L0 R0 (by decide +kernel) ?_
  intro A S hA hS
  unfold bodyOf Tryz.f205
  cbv
  have hq : ∀ i, 0 ≤ lim a i / 9223372036854775808 ∧ lim a i / 9223372036854775808 ≤ 1 := fun i => by have := le a i; omega
  have e0 : A.bin .or .u64 (A.bin .shl .u64 (lim a 0) 1) (c : Int) = lim o 0 := (dblw hA (le a 0) hc').trans hw0
  have es : ∀ i, i + 1 < 6 → A.bin .or .u64 (A.bin .shl .u64 (lim a (i + 1)) 1) (A.bin .shr .u64 (lim a i) 63) = lim o (i + 1) := fun i hi => by
    rw [topw hA (le a i)]
    exact (dblw hA (le a _) (hq i)).trans (hws i hi)
  have et : A.bin .shr .u64 (lim a 5) 63 = (t : Int) := (topw hA (le a _)).trans htop
  have hS1 : SimL [.lst false 6 [.s .u64 (A.bin .or .u64 (A.bin .shl .u64 (lim a 0) 1) (c : Int)), .s .u64 (A.bin .or .u64 (A.bin .shl .u64 (lim a 1) 1) (A.bin .shr .u64 (lim a 0) 63)), .s .u64 (A.bin .or .u64 (A.bin .shl .u64 (lim a 2) 1) (A.bin .shr .u64 (lim a 1) 63)), .s .u64 (A.bin .or .u64 (A.bin .shl .u64 (lim a 3) 1) (A.bin .shr .u64 (lim a 2) 63)), .s .u64 (A.bin .or .u64 (A.bin .shl .u64 (lim a 4) 1) (A.bin .shr .u64 (lim a 3) 63)), .s .u64 (A.bin .or .u64 (A.bin .shl .u64 (lim a 5) 1) (A.bin .shr .u64 (lim a 4) 63))], .lst false 6 (ws6 lim m)] [.lst false 6 (ws6 lim o), .lst false 6 (ws6 lim m)] := by
    cbv
    exact ⟨⟨e0, es 0 (by decide), es 1 (by decide), es 2 (by decide), es 3 (by decide), es 4 (by decide)⟩, trivial⟩
  have hcmp : A.cmp .eql (A.bin .shr .u64 (lim a 5) 63) 1 = decide ((t : Int) = 1) := by rw [et]; exact i_eq hA
  rcases hcase with ⟨rfl, h2⟩ | ⟨rfl, h1, h2⟩ | ⟨rfl, h1, rfl⟩
  · replace hcmp := hcmp.trans (decide_eq_true rfl)
    repeat (refine ABr.t hcmp ?_; cbv)
    refine ACall.mk _ (cg hS (rSub6 hl o m r 1 hom hm h2 hrm) hS1) ?_
    cbv
  · replace hcmp := hcmp.trans (decide_eq_false (by decide))
    repeat (refine ABr.f hcmp ?_; cbv)
    refine ACall.mk _ (cg hS (hless false (decide_eq_false h1).symm) hS1) ?_
    cbv
    repeat (refine ABr.f hcmp ?_; cbv)
    have hn := a_not hA false
    repeat (refine ABr.t hn ?_; cbv)
    refine ACall.mk _ (cg hS (rSub6 hl o m r 0 hom hm h2 hrm) hS1) ?_
    cbv
  · replace hcmp := hcmp.trans (decide_eq_false (by decide))
    repeat (refine ABr.f hcmp ?_; cbv)
    refine ACall.mk _ (cg hS (hless true (decide_eq_true h1).symm) hS1) ?_
    cbv
    repeat (refine ABr.f hcmp ?_; cbv)
    have hn := a_not hA true
    repeat (refine ABr.f hn ?_; cbv)
    exact ⟨e0, es 0 (by decide), es 1 (by decide), es 2 (by decide), es 3 (by decide), es 4 (by decide)⟩
end Go.Proofs.YtmholgclgamnnaaGreat
