import Derived.Test.YtmholgclgamnnaaGreatQXX2
import Derived.Test.YtmholgclgamnnaaGreatQXN
set_option linter.unusedVariables false
set_option linter.unusedSimpArgs false
namespace Go.Proofs.YtmholgclgamnnaaGreat
open Go Eng
set_option maxRecDepth 100000
set_option exponentiation.threshold 2000
set_option maxHeartbeats 4000000
def RQ : Nat → Md := fun r => match r with | 14 | 17 | 24 | 25 => .jn | 27 | 28 => .mid | _ => .own
theorem odd_inj {m b x y : Nat} (hm : m % 2 = 1) (hx : x < m) (hy : y < m) (h : x * 2 ^ b % m = y * 2 ^ b % m) : x = y := by
 have h2 : Nat.Coprime 2 m := by
   unfold Nat.Coprime
   rw [Nat.gcd_rec, hm]
   rfl
 rw [Nat.mul_comm x, Nat.mul_comm y] at h
 have := NT.cancel (Nat.Coprime.pow_left _ h2) h
 rwa [Nat.mod_eq_of_lt hx, Nat.mod_eq_of_lt hy] at this
theorem red_core {b a m r Q T : Nat} (hQ : Q < 2 ^ b) (h : 2 ^ b * T = a + m * Q) (ha : a < m * 2 ^ b) (hr : r < m) (hm : m % 2 = 1) (hrr : r * 2 ^ b % m = a % m) : T = r ∨ T = r + m := by
 have hM : 0 < 2 ^ b := Nat.two_pow_pos _
 have hT : T < 2 * m := by
   have h1 : m * Q ≤ m * 2 ^ b := Nat.mul_le_mul_left _ (Nat.le_of_lt hQ)
   have h2 : 2 ^ b * T < 2 ^ b * (2 * m) := by
     have : 2 ^ b * (2 * m) = m * 2 ^ b + m * 2 ^ b := by rw [Nat.mul_comm, Nat.two_mul, Nat.add_mul]
     omega
   exact Nat.lt_of_mul_lt_mul_left h2
 have h1 : r * 2 ^ b % m = T % m * 2 ^ b % m := by
   rw [hrr, Nat.mod_mul_mod, Nat.mul_comm T, h, Nat.add_mul_mod_self_left]
 have h2 := odd_inj hm hr (Nat.mod_lt _ (by omega)) h1
 by_cases h3 : T < m
 . rw [Nat.mod_eq_of_lt h3] at h2; exact .inl h2.symm
 . rw [Nat.mod_eq_sub_mod (by omega), Nat.mod_eq_of_lt (by omega)] at h2; exact .inr (by omega)
theorem low0N {m f q l z g : Nat} (hi : (m * f + 1) % 18446744073709551616 = 0) (hq : q = l * f % 18446744073709551616) (h : z + 18446744073709551616 * g = q * m + l + 0) (hz : z < 18446744073709551616) : z = 0 := by
 have h1 : z = (q * m + l) % 18446744073709551616 := by omega
 have h2 : (q * m + l) % 18446744073709551616 = (l * (m * f + 1)) % 18446744073709551616 := by
   rw [hq, Nat.add_mod, Nat.mod_mul_mod, ← Nat.add_mod]
   congr 1
   rw [Nat.mul_add, Nat.mul_one]
   congr 1
   ac_rfl
 rw [h1, h2, Nat.mul_mod, hi, Nat.mul_zero, Nat.zero_mod]
theorem addc {A : Ar} (hA : A = Ar.real) {o c : Nat} (ho : o < 18446744073709551616) (hc : c < 18446744073709551616) : ∃ Z v : Nat, A.bin .add .u64 (o : Int) (c : Int) = (Z : Int) ∧ (A.cmp .lss (A.bin .add .u64 (o : Int) (c : Int)) (c : Int) = true → (1 : Int) = (v : Int)) ∧
   (A.cmp .lss (A.bin .add .u64 (o : Int) (c : Int)) (c : Int) = false → (0 : Int) = (v : Int)) ∧ Z + 18446744073709551616 * v = o + c ∧ Z < 18446744073709551616 ∧ v < 18446744073709551616 := by
 obtain ⟨Z, hZ⟩ : ∃ Z, Z = (o + c) % 18446744073709551616 := ⟨_, rfl⟩
 have e1 : A.bin .add .u64 (o : Int) (c : Int) = (Z : Int) := by rw [hA, hZ]; exact u_add o c
 rw [e1, i_lt hA]
 by_cases h : Z < c
 . exact ⟨Z, 1, rfl, fun _ => rfl, fun e => absurd (of_decide_eq_false e) (by omega), by omega, by omega, by decide⟩
 . exact ⟨Z, 0, rfl, fun e => absurd (of_decide_eq_true e) (by omega), fun _ => rfl, by omega, by omega, by decide⟩
abbrev wp4 (o : Nat → Nat) : List AVal := [.s .u64 ((o 0 : Nat) : Int), .s .u64 ((o 1 : Nat) : Int), .s .u64 ((o 2 : Nat) : Int), .s .u64 ((o 3 : Nat) : Int), .s .u64 ((o 4 : Nat) : Int), .s .u64 ((o 5 : Nat) : Int), .s .u64 ((o 6 : Nat) : Int), .s .u64 ((o 7 : Nat) : Int), .s .u64 ((o 8 : Nat) : Int)]
theorem wp_get4 {A : Ar} (hA : A = Ar.real) (o : Nat → Nat) (j : Nat) (hj : j < 2 * 4 + 1) : lsub (wp4 o) (A.offs 0 j 1) 1 = some [.s .u64 ((o j : Nat) : Int)] := by
 subst hA
 rcases (by omega : j = 0 ∨ j = 1 ∨ j = 2 ∨ j = 3 ∨ j = 4 ∨ j = 5 ∨ j = 6 ∨ j = 7 ∨ j = 8) with rfl | rfl | rfl | rfl | rfl | rfl | rfl | rfl | rfl
 all_goals rfl
theorem wp_put4 {A : Ar} (hA : A = Ar.real) (o o2 : Nat → Nat) (j : Nat) (hj : j < 2 * 4 + 1) {x : Int} (hx : x = (o2 j : Nat)) (h : ∀ m, m ≠ j → o2 m = o m) : lput (wp4 o) (A.offs 0 j 1) [.s .u64 x] = some (wp4 o2) := by
 subst hA
 subst hx
 have h0 := h 0
 have h1 := h 1
 have h2 := h 2
 have h3 := h 3
 have h4 := h 4
 have h5 := h 5
 have h6 := h 6
 have h7 := h 7
 have h8 := h 8
 clear h
 rcases (by omega : j = 0 ∨ j = 1 ∨ j = 2 ∨ j = 3 ∨ j = 4 ∨ j = 5 ∨ j = 6 ∨ j = 7 ∨ j = 8) with rfl | rfl | rfl | rfl | rfl | rfl | rfl | rfl | rfl
 all_goals
   unfold wp4
   try rw [h0 (by decide)]
   try rw [h1 (by decide)]
   try rw [h2 (by decide)]
   try rw [h3 (by decide)]
   try rw [h4 (by decide)]
   try rw [h5 (by decide)]
   try rw [h6 (by decide)]
   try rw [h7 (by decide)]
   try rw [h8 (by decide)]
   rfl
abbrev fld4 (lim : Lim) (m fold two : Nat) : AVal := .agg [.lst false 4 (ws4 lim m), .s .u64 (fold : Nat), .lst false 4 (ws4 lim two)]
theorem rreduce4 {lim : Lim} (hl : lim = limR) (m fold two a r : Nat) (hm : m < 2 ^ 256) (hodd : m % 2 = 1) (hf : (m * fold + 1) % 18446744073709551616 = 0) (hfw : fold < 18446744073709551616) (ha : a < m * 2 ^ 256) (hr : r < m) (hrr : r * 2 ^ 256 % m = a % m) :
   Sp 220 [fld4 lim m fold two, .lst false (2 * 4) [.s .u64 (lim a 0), .s .u64 (lim a 1), .s .u64 (lim a 2), .s .u64 (lim a 3), .s .u64 (lim a 4), .s .u64 (lim a 5), .s .u64 (lim a 6), .s .u64 (lim a 7)]] (.lst false 4 (ws4 lim r)) := by
 obtain ⟨dm, hdm⟩ : ∃ d : Nat → Nat, d = dg m := ⟨_, rfl⟩
 obtain ⟨da, hda⟩ : ∃ d : Nat → Nat, d = fun i => if i < 2 * 4 then dg a i else 0 := ⟨_, rfl⟩
 have lm : ∀ i, lim m i = (dm i : Int) := fun i => by rw [hdm]; exact lim_dg hl m i
 have la : ∀ i, i < 2 * 4 → lim a i = (da i : Int) := fun i hi => by rw [hda]; show _ = ((if i < 2 * 4 then dg a i else 0 : Nat) : Int); rw [if_pos hi]; exact lim_dg hl a i
 have la0 : da (2 * 4) = 0 := by rw [hda]; rfl
 have rm : ∀ i, dm i < 18446744073709551616 := fun i => by rw [hdm]; exact dg_lt m i
 have ra : ∀ i, da i < 18446744073709551616 := fun i => by
   rw [hda]; show (if i < 2 * 4 then dg a i else 0) < _
   split
   . exact dg_lt a i
   . decide
 have hWn : (2 : Nat) ^ 256 = 18446744073709551616 ^ 4 := pow_W 4
 have ha2 : a < 18446744073709551616 ^ (2 * 4) := by
   have h1 : m * 2 ^ 256 ≤ 18446744073709551616 ^ 4 * 18446744073709551616 ^ 4 := by rw [← hWn]; exact Nat.mul_le_mul_right _ (Nat.le_of_lt hm)
   rw [← Nat.pow_add] at h1
   exact Nat.lt_of_lt_of_le ha h1
 have hVa : V da (2 * 4 + 1) = a := by
   rw [V, la0, Nat.zero_mul, Nat.add_zero, V_congr (o := da) (p := fun i => (limR a i).toNat) (2 * 4) (fun j hj => by
     rw [hda]; show (if j < 2 * 4 then dg a j else 0) = _
     rw [if_pos hj, lim_dg rfl a j, Int.toNat_natCast]), V_lim, Nat.mod_eq_of_lt ha2]
 have hf0 : (dm 0 * fold + 1) % 18446744073709551616 = 0 := by
   have : dm 0 = m % 18446744073709551616 := by rw [hdm]; show m / 18446744073709551616 ^ 0 % 18446744073709551616 = _; rw [Nat.pow_zero, Nat.div_one]
   rw [this, Nat.add_mod, Nat.mod_mul_mod, ← Nat.add_mod]
   exact hf
 have hEs : ∀ (V0 kk i j : Nat), V0 + kk * 18446744073709551616 ^ i * (m % 18446744073709551616 ^ (j + 1)) = V0 + kk * 18446744073709551616 ^ i * (m % 18446744073709551616 ^ j) + kk * dm j * 18446744073709551616 ^ (i + j) := by
   intro V0 kk i j
   have e : m % 18446744073709551616 ^ (j + 1) = m % 18446744073709551616 ^ j + 18446744073709551616 ^ j * dm j := by rw [hdm]; exact Nat.mod_pow_succ
   rw [e, Nat.mul_add, Nat.pow_add]
   have : kk * 18446744073709551616 ^ i * (18446744073709551616 ^ j * dm j) = kk * dm j * (18446744073709551616 ^ i * 18446744073709551616 ^ j) := by ac_rfl
   omega
 have hmn : m % 18446744073709551616 ^ 4 = m := Nat.mod_eq_of_lt (by rw [← hWn]; exact hm)
 have hbnd : ∀ i K, i ≤ 4 → K < 18446744073709551616 ^ i → a + m * K < 18446744073709551616 ^ (2 * 4 + 1) := by
   intro i K hi hK
   have h1 : m * K ≤ m * 18446744073709551616 ^ 4 := Nat.mul_le_mul_left _ (Nat.le_of_lt (Nat.lt_of_lt_of_le hK (Nat.pow_le_pow_right (by decide) hi)))
   have h2 : m * 18446744073709551616 ^ 4 ≤ 18446744073709551616 ^ 4 * 18446744073709551616 ^ 4 := Nat.mul_le_mul_right _ (by rw [← hWn]; exact Nat.le_of_lt hm)
   rw [← Nat.pow_add] at h2
   have h3 : 18446744073709551616 ^ (2 * 4 + 1) = 18446744073709551616 ^ (4 + 4) * 18446744073709551616 := by rw [Nat.pow_succ, Nat.two_mul]
   have h4 : 18446744073709551616 ^ (2 * 4) = 18446744073709551616 ^ (4 + 4) := by rw [Nat.two_mul]
   rw [h3]
   rw [h4] at ha2
   generalize 18446744073709551616 ^ (4 + 4) = z at *
   omega
 have hhalf : ∀ kk k, kk < 18446744073709551616 → ∃ hi lo : Nat, lo + 18446744073709551616 * hi = kk * dm k ∧ lo < 18446744073709551616 ∧ Sp 228 [.s .u64 (kk : Nat), .s .u64 (lim m k)] (.tup [.s .u64 hi, .s .u64 lo]) := fun kk k hkk =>
   ⟨kk * dm k / 18446744073709551616, kk * dm k % 18446744073709551616, by omega, by omega, by rw [lm]; exact rhalf _ _ _ _ hkk (rm k) (by omega) (by omega)⟩
 have hlast : ∀ (o : Nat → Nat), (∀ j, o j < 18446744073709551616) → (∀ j, j < 4 → o j = 0) → (∃ K, K < 18446744073709551616 ^ 4 ∧ V o (2 * 4 + 1) = a + m * K) → ∃ s : Nat, (∀ j, j < 4 → (o (4 + j) : Int) = lim s j) ∧ s < 2 ^ 256 ∧
     ((o (2 * 4) ≠ 0 ∧ r + m = s + 2 ^ 256 * 1) ∨ (o (2 * 4) = 0 ∧ ¬ s < m ∧ r + m = s + 2 ^ 256 * 0) ∨ (o (2 * 4) = 0 ∧ s < m ∧ r = s)) := by
   rintro o g1 g2 ⟨K, g3, g4⟩
   obtain ⟨s, hs⟩ : ∃ s, s = V (fun j => o (4 + j)) 4 := ⟨_, rfl⟩
   have hs2 : s < 18446744073709551616 ^ 4 := by rw [hs]; exact V_lt 4 (fun j _ => g1 _)
   have e1 : V o (2 * 4 + 1) = V o 4 + 18446744073709551616 ^ 4 * V (fun j => o (4 + j)) (4 + 1) := by rw [show 2 * 4 + 1 = 4 + (4 + 1) by omega, V_shift]
   have e2 : V (fun j => o (4 + j)) (4 + 1) = s + o (2 * 4) * 18446744073709551616 ^ 4 := by rw [hs]; rfl
   rw [V_zero g2, Nat.zero_add, e2, g4] at e1
   have hT := red_core (T := s + o (2 * 4) * 18446744073709551616 ^ 4) (by rw [hWn]; exact g3) (by rw [hWn]; exact e1.symm) ha hr hodd hrr
   refine ⟨s, fun j hj => ?_, by rw [hWn]; exact hs2, ?_⟩
   . rw [hl, hs]; exact (limR_V (o := fun j => o (4 + j)) (fun j _ => g1 _) hj).symm
   . rw [hWn]
     have hmw : m < 18446744073709551616 ^ 4 := by rw [← hWn]; exact hm
     generalize 18446744073709551616 ^ 4 = z at *
     by_cases h0 : o (2 * 4) = 0
     . rw [h0] at hT
       by_cases h1 : s < m
       . exact .inr (.inr ⟨h0, h1, by omega⟩)
       . exact .inr (.inl ⟨h0, h1, by omega⟩)
     . refine .inl ⟨h0, ?_⟩
       by_cases h2 : o (2 * 4) = 1
       . rw [h2] at hT; omega
       . have : 2 * z ≤ o (2 * 4) * z := Nat.mul_le_mul_right _ (by omega)
         omega
 have hrm : r < 2 ^ 256 := Nat.lt_trans hr hm
 clear hdm hda hrr
 refine mk Tryz.func220 rfl rfl LN RQ (by decide +kernel) ?_
 intro A S hA hS
 unfold bodyOf Tryz.f220
 cbv
 refine .inv (α := Nat × (Nat → Nat)) (fun p => ⟨[.any, .any, .own 0 0, .any, .any, .i .i64 4, .osl false 3 0 (2 * 4 + 1) 1, .s .i64 (p.1 : Nat), .any, .any, .any, .any, .any, .any, .any, .any, .any, .any, .any, .any, .any, .any, .any, .any, .any, .any, .any, .any, .any, .any, .any, .any, .any, .any, .any, .any, .any, .any, .any, .any, .any, .any, .any, .any, .any, .any, .any, .any, .any, .any, .any, .any, .any, .any, .any, .any, .any, .any, .any, .any, .any, .any, .any, .any, .any, .any, .any, .any, .any, .any, .any, .any, .any, .any, .any, .any, .any, .any, .any, .any, .any, .any, .any, .any, .any, .any, .any, .any, .any, .any, .any, .any, .any, .any, .any, .any, .any, .any, .any, .any, .any, .any, .any, .any, .any, .any, .any, .any, .any, .any, .any, .any, .any, .any, .any, .any, .any, .any, .any, .any, .any, .any, .any, .any, .any, .any, .any, .any, .any, .any, .any, .any, .any, .any],
     [⟨true, true, [.lst false 4 (ws4 lim m), .s .u64 (fold : Nat), .lst false 4 (ws4 lim two)]⟩, ⟨false, true, []⟩, ⟨false, true, []⟩, ⟨true, true, wp4 p.2⟩]⟩)
     (fun p => p.1 ≤ 4 ∧ (∀ j, p.2 j < 18446744073709551616) ∧ (∀ j, j < p.1 → p.2 j = 0) ∧ ∃ K, K < 18446744073709551616 ^ p.1 ∧ V p.2 (2 * 4 + 1) = a + m * K) (fun p => 4 - p.1) (0, da) ?_
     ⟨Nat.zero_le _, ra, fun j hj => by omega, 0, by rw [Nat.pow_zero]; decide, by rw [hVa, Nat.mul_zero, Nat.add_zero]⟩ ?_
 . have hz0 := congrArg Int.ofNat la0
   cbv
   repeat' (first | exact rfl | exact la _ (by decide) | exact hz0.symm | exact trivial | constructor)
 rintro ⟨i, o⟩ ⟨h1, h2, h3, h4⟩
 dsimp only at h1 h2 h3 h4 ⊢
 by_cases hi : i < 4
 . obtain ⟨K, hK, hV⟩ := h4
   obtain ⟨kk, hkk⟩ : ∃ kk, kk = o i * fold % 18446744073709551616 := ⟨_, rfl⟩
   have hkw : kk < 18446744073709551616 := by rw [hkk]; exact Nat.mod_lt _ (by decide)
   have hkb : A.bin .mul .u64 (o i : Int) (fold : Int) = (kk : Int) := by rw [hA, hkk]; exact u_mul _ _
   obtain ⟨E, hE⟩ : ∃ E : Nat → Nat, E = fun j => a + m * K + kk * 18446744073709551616 ^ i * (m % 18446744073709551616 ^ j) := ⟨_, rfl⟩
   have hE0 : E 0 = V o (2 * 4 + 1) := by rw [hE, hV]; show a + m * K + kk * 18446744073709551616 ^ i * (m % 18446744073709551616 ^ 0) = _; rw [Nat.pow_zero, Nat.mod_one, Nat.mul_zero, Nat.add_zero]
   have hE1 : ∀ j, E (j + 1) = E j + kk * dm j * 18446744073709551616 ^ (i + j) := fun j => by rw [hE]; exact hEs _ _ _ _
   have hEn : E 4 = a + m * (K + kk * 18446744073709551616 ^ i) := by rw [hE]; show a + m * K + kk * 18446744073709551616 ^ i * (m % 18446744073709551616 ^ 4) = _; rw [hmn, Nat.mul_add, Nat.mul_comm (kk * 18446744073709551616 ^ i)]; omega
   have hK1 : K + kk * 18446744073709551616 ^ i < 18446744073709551616 ^ (i + 1) := by
     have : (kk + 1) * 18446744073709551616 ^ i ≤ 18446744073709551616 * 18446744073709551616 ^ i := Nat.mul_le_mul_right _ hkw
     rw [Nat.add_mul, Nat.one_mul] at this
     rw [Nat.pow_succ, Nat.mul_comm (18446744073709551616 ^ i) 18446744073709551616]
     omega
   have hTb : E 4 < 18446744073709551616 ^ (2 * 4 + 1) := by rw [hEn]; exact hbnd (i + 1) _ hi hK1
   have hih := fun k => hhalf kk k hkw
   have hle : i + 1 ≤ 4 := hi
   have hmu : 4 - (i + 1) < 4 - i := by omega
   have step : ∀ (p : Nat → Nat) (k Z c v : Nat), k < 4 → Z < 18446744073709551616 → (∀ j, p j < 18446744073709551616) → (∀ j, j < i → p j = 0) → (k = 0 → c = 0 ∧ p i = o i) → (0 < k → p i = 0) → V p (2 * 4 + 1) + c * 18446744073709551616 ^ (i + k) = E k → Z + 18446744073709551616 * v = kk * dm k + p (i + k) + c →
       ∃ o2 : Nat → Nat, o2 (i + k) = Z ∧ (∀ j, j ≠ i + k → o2 j = p j) ∧ (∀ j, o2 j < 18446744073709551616) ∧ (∀ j, j < i → o2 j = 0) ∧ (k + 1 = 0 → v = 0 ∧ o2 i = o i) ∧ (0 < k + 1 → o2 i = 0) ∧ V o2 (2 * 4 + 1) + v * 18446744073709551616 ^ (i + (k + 1)) = E (k + 1) := by
     intro p k Z c v hk hZ g1 g2 g3 g3' g4 g5
     refine ⟨upd p (i + k) Z, upd_eq _ _ _, fun j hj => upd_ne _ _ _ _ hj, fun j => ?_, fun j hj => ?_, fun h => absurd h (by omega), fun _ => ?_, ?_⟩
     . by_cases e : j = i + k
       . rw [e, upd_eq]; exact hZ
       . rw [upd_ne _ _ _ _ e]; exact g1 j
     . rw [upd_ne _ _ _ _ (by omega)]; exact g2 j hj
     . by_cases e : k = 0
       . subst e
         obtain ⟨rfl, e2⟩ := g3 rfl
         rw [Nat.add_zero, upd_eq]
         rw [show p (i + 0) = o i from e2] at g5
         exact low0N hf0 hkk g5 hZ
       . rw [upd_ne _ _ _ _ (by omega)]; exact g3' (by omega)
     . have hu := V_upd p (i + k) Z (2 * 4 + 1) (by omega)
       rw [hE1 k, ← Nat.add_assoc, Nat.pow_succ]
       exact mac_num hu g5 g4
   have prop : ∀ (p : Nat → Nat) (t Z c v : Nat), i + 4 + t < 2 * 4 + 1 → Z < 18446744073709551616 → (∀ j, p j < 18446744073709551616) → (∀ j, j < i + 1 → p j = 0) → V p (2 * 4 + 1) + c * 18446744073709551616 ^ (i + 4 + t) = E 4 → Z + 18446744073709551616 * v = p (i + 4 + t) + c →
       ∃ o2 : Nat → Nat, o2 (i + 4 + t) = Z ∧ (∀ j, j ≠ i + 4 + t → o2 j = p j) ∧ (∀ j, o2 j < 18446744073709551616) ∧ (∀ j, j < i + 1 → o2 j = 0) ∧ V o2 (2 * 4 + 1) + v * 18446744073709551616 ^ (i + 4 + (t + 1)) = E 4 := by
     intro p t Z c v ht hZ g1 g2 g4 g5
     refine ⟨upd p (i + 4 + t) Z, upd_eq _ _ _, fun j hj => upd_ne _ _ _ _ hj, fun j => ?_, fun j hj => ?_, ?_⟩
     . by_cases e : j = i + 4 + t
       . rw [e, upd_eq]; exact hZ
       . rw [upd_ne _ _ _ _ e]; exact g1 j
     . rw [upd_ne _ _ _ _ (by omega)]; exact g2 j hj
     . have hu := V_upd p (i + 4 + t) Z (2 * 4 + 1) ht
       rw [← Nat.add_assoc, Nat.pow_succ]
       have := mac_num (x := 0) (y := 0) (hi := v) hu (by rw [g5]; omega) g4
       omega
   have hexit : ∀ (p : Nat → Nat) (t c : Nat), i + 4 + t ≤ 2 * 4 + 1 → V p (2 * 4 + 1) + c * 18446744073709551616 ^ (i + 4 + t) = E 4 → c ≠ 0 → i + 4 + t < 2 * 4 + 1 := by
     intro p t c g1 g2 g3
     refine Nat.lt_of_le_of_ne g1 fun e => ?_
     rw [e] at g2
     have : 1 * 18446744073709551616 ^ (2 * 4 + 1) ≤ c * 18446744073709551616 ^ (2 * 4 + 1) := Nat.mul_le_mul_right _ (by omega)
     rw [Nat.one_mul] at this
     omega
   have hdone : ∀ (p : Nat → Nat) (t c : Nat), V p (2 * 4 + 1) + c * 18446744073709551616 ^ (i + 4 + t) = E 4 → c = 0 → ∃ K, K < 18446744073709551616 ^ (i + 1) ∧ V p (2 * 4 + 1) = a + m * K := by
     intro p t c g1 g2
     rw [g2, Nat.zero_mul, Nat.add_zero] at g1
     exact ⟨_, hK1, g1.trans hEn⟩
   clear hE hEn
   have hcmp : A.cmp .lss ((i : Nat) : Int) ((4 : Nat) : Int) = true := (i_lt hA).trans (decide_eq_true (by omega))
   have hnext : A.bin .add .i64 ((i : Nat) : Int) 1 = ((i + 1 : Nat) : Int) := e_add hA rfl rfl (by omega) (by omega)
   have hin : A.bin .add .i64 ((i : Nat) : Int) ((4 : Nat) : Int) = ((i + 4 + 0 : Nat) : Int) := e_add hA rfl rfl (by omega) (by omega)
   have hget := wp_get4 hA o i (by omega)
   have hi1 : i < 2 * 4 + 1 := by omega
   cbv
   refine ABr.t hcmp ?_
   cbv
   refine .sym i rfl hi1 ?_
   cbv
   refine .mk _ hget ?_
   cbv
   refine .inv (α := Nat × (Nat → Nat) × Nat) (fun p => ⟨[.any, .any, .own 0 0, .any, .any, .i .i64 (4 : Nat), .osl false 3 0 (2 * 4 + 1) 1, .s .i64 (i : Nat), .s .u64 (kk : Nat), .s .u64 (p.2.2 : Nat), .s .i64 (p.1 : Nat), .any, .any, .any, .any, .any, .any, .any, .any, .any, .any, .any, .any, .any, .any, .any, .any, .any, .any, .any, .any, .any, .any, .any, .any, .any, .any, .any, .any, .any, .any, .any, .any, .any, .any, .any, .any, .any, .any, .any, .any, .any, .any, .any, .any, .any, .any, .any, .any, .any, .any, .any, .any, .any, .any, .any, .any, .any, .any, .any, .any, .any, .any, .any, .any, .any, .any, .any, .any, .any, .any, .any, .any, .any, .any, .any, .any, .any, .any, .any, .any, .any, .any, .any, .any, .any, .any, .any, .any, .any, .any, .any, .any, .any, .any, .any, .any, .any, .any, .any, .any, .any, .any, .any, .any, .any, .any, .any, .any, .any, .any, .any, .any, .any, .any, .any, .any, .any, .any, .any, .any, .any, .any, .any],
         [⟨true, true, [.lst false 4 (ws4 lim m), .s .u64 (fold : Nat), .lst false 4 (ws4 lim two)]⟩, ⟨false, true, []⟩, ⟨false, true, []⟩, ⟨true, true, wp4 p.2.1⟩]⟩)
         (fun p => p.1 ≤ 4 ∧ (∀ j, p.2.1 j < 18446744073709551616) ∧ (∀ j, j < i → p.2.1 j = 0) ∧ (p.1 = 0 → p.2.2 = 0 ∧ p.2.1 i = o i) ∧ (0 < p.1 → p.2.1 i = 0) ∧ p.2.2 < 18446744073709551616 ∧ V p.2.1 (2 * 4 + 1) + p.2.2 * 18446744073709551616 ^ (i + p.1) = E p.1) (fun p => 4 - p.1) (0, o, 0) ?_
         ⟨Nat.zero_le _, h2, h3, fun _ => ⟨rfl, rfl⟩, fun h => (Nat.lt_irrefl 0 h).elim, (by decide : 0 < 18446744073709551616), by rw [Nat.zero_mul, Nat.add_zero]; exact hE0.symm⟩ ?_
   . cbv
     repeat' (first | exact rfl | exact hkb | exact trivial | constructor)
   rintro ⟨k, p, c⟩ ⟨g1, g2, g3, g3a, g3b, g4, g5⟩
   dsimp only at g1 g2 g3 g3a g3b g4 g5 ⊢
   by_cases hk : k < 4
   . obtain ⟨hi', lo', u1, u2, u3⟩ := hih k
     obtain ⟨v1, v2, Z, p1, q1, p2, q2, eZ, eq, rv, rZ⟩ := macj hA hkw (rm k) (g2 (i + k)) g4 u1 u2
     obtain ⟨o2, w1, w2, w3, w4, w5, w6, w7⟩ := step p k Z c v2 hk rZ g2 g3 g3a g3b g5 eq
     have hlek : k + 1 ≤ 4 := hk
     have hmuk : 4 - (k + 1) < 4 - k := by omega
     rw [← w1] at eZ
     have hik : i + k < 2 * 4 + 1 := by omega
     have hcmpk : A.cmp .lss ((k : Nat) : Int) ((4 : Nat) : Int) = true := (i_lt hA).trans (decide_eq_true (by omega))
     have hadd : A.bin .add .i64 ((i : Nat) : Int) ((k : Nat) : Int) = ((i + k : Nat) : Int) := e_add hA rfl rfl (by omega) (by omega)
     have hnextk : A.bin .add .i64 ((k : Nat) : Int) 1 = ((k + 1 : Nat) : Int) := e_add hA rfl rfl (by omega) (by omega)
     have hrow := (rowx4 lim m).2 k hk
     have hgetk := wp_get4 hA p (i + k) hik
     have hputk := wp_put4 hA p o2 (i + k) hik eZ w2
     clear w1 w2 eZ eq step
     generalize i + k = ik at *
     generalize k + 1 = k1 at *
     cbv
     refine ABr.t hcmpk ?_
     cbv
     refine .sym k rfl hk ?_
     cbv
     refine .mk _ hrow ?_
     cbv
     refine aF hS u3 ?_
     cbv
     refine .sym ik hadd hik ?_
     cbv
     refine .mk _ hgetk ?_
     cbv
     refine .sym ik hadd hik ?_
     cbv
     refine .mk _ hgetk ?_
     cbv
     refine AJ.mk _ p1 q1 ?_
     cbv
     refine AJ.mk _ p2 q2 ?_
     cbv
     refine .sym ik hadd hik ?_
     cbv
     refine .mk _ hputk ?_
     cbv
     refine ⟨(k1, o2, v2), ?_, ⟨hlek, w3, w4, w5, w6, rv, w7⟩, hmuk⟩
     cbv
     repeat' (first | exact hnextk | exact trivial | exact rfl | constructor)
   . obtain rfl : k = 4 := by omega
     have g6 : ∀ j, j < i + 1 → p j = 0 := fun j hj => by
       by_cases e : j = i
       . rw [e]; exact g3b (by decide)
       . exact g3 j (by omega)
     have hcmpk : A.cmp .lss ((4 : Nat) : Int) ((4 : Nat) : Int) = false := (i_lt hA).trans (decide_eq_false (by omega))
     have hple : i + 4 + 0 ≤ 2 * 4 + 1 := by omega
     clear g3 g3a g3b step
     cbv
     refine ABr.f hcmpk ?_
     cbv
     refine .inv (α := Nat × (Nat → Nat) × Nat) (fun p => ⟨[.any, .any, .own 0 0, .any, .any, .i .i64 (4 : Nat), .osl false 3 0 (2 * 4 + 1) 1, .s .i64 (i : Nat), .any, .s .u64 (p.2.2 : Nat), .any, .any, .any, .s .i64 ((i + 4 + p.1 : Nat)), .any, .any, .any, .any, .any, .any, .any, .any, .any, .any, .any, .any, .any, .any, .any, .any, .any, .any, .any, .any, .any, .any, .any, .any, .any, .any, .any, .any, .any, .any, .any, .any, .any, .any, .any, .any, .any, .any, .any, .any, .any, .any, .any, .any, .any, .any, .any, .any, .any, .any, .any, .any, .any, .any, .any, .any, .any, .any, .any, .any, .any, .any, .any, .any, .any, .any, .any, .any, .any, .any, .any, .any, .any, .any, .any, .any, .any, .any, .any, .any, .any, .any, .any, .any, .any, .any, .any, .any, .any, .any, .any, .any, .any, .any, .any, .any, .any, .any, .any, .any, .any, .any, .any, .any, .any, .any, .any, .any, .any, .any, .any, .any, .any, .any, .any, .any, .any, .any, .any, .any],
         [⟨true, true, [.lst false 4 (ws4 lim m), .s .u64 (fold : Nat), .lst false 4 (ws4 lim two)]⟩, ⟨false, true, []⟩, ⟨false, true, []⟩, ⟨true, true, wp4 p.2.1⟩]⟩)
         (fun p => i + 4 + p.1 ≤ 2 * 4 + 1 ∧ (∀ j, p.2.1 j < 18446744073709551616) ∧ (∀ j, j < i + 1 → p.2.1 j = 0) ∧ p.2.2 < 18446744073709551616 ∧ V p.2.1 (2 * 4 + 1) + p.2.2 * 18446744073709551616 ^ (i + 4 + p.1) = E 4) (fun p => 2 * 4 + 1 - p.1) (0, p, c) ?_
         ⟨hple, g2, g6, g4, g5⟩ ?_
     . have hin' := hin
       generalize i + 4 + 0 = x at hin' ⊢
       cbv
       repeat' (first | exact rfl | exact hin' | exact trivial | constructor)
     rintro ⟨t, p, c⟩ ⟨g1, g2, g3, g4, g5⟩
     dsimp only at g1 g2 g3 g4 g5 ⊢
     have hcmpc : A.cmp .neq (c : Int) 0 = !decide ((c : Int) = 0) := i_ne hA
     by_cases hc : c = 0
     . have hd := hdone p t c g5 hc
       have hP : i + 1 ≤ 4 ∧ (∀ j, p j < 18446744073709551616) ∧ (∀ j, j < i + 1 → p j = 0) ∧ ∃ K, K < 18446744073709551616 ^ (i + 1) ∧ V p (2 * 4 + 1) = a + m * K := ⟨hle, g2, g3, hd⟩
       rw [decide_eq_true (by omega : (c : Int) = 0)] at hcmpc
       clear hdone hexit prop g1 g5 hd hE0 hE1 hin
       generalize i + 4 + t = tt at *
       obtain ⟨i1, hi1'⟩ : ∃ i1, i1 = i + 1 := ⟨_, rfl⟩
       rw [← hi1'] at hnext hP hmu
       clear hi1'
       cbv
       repeat (refine ABr.f hcmpc ?_; cbv)
       refine ⟨(i1, p), ?_, hP, hmu⟩
       cbv
       repeat' (first | exact hnext | exact rfl | exact trivial | constructor)
     . have hx := hexit p t c g1 g5 hc
       rw [decide_eq_false (by omega : ¬ (c : Int) = 0)] at hcmpc
       obtain ⟨Z, v, eZ, p1, q1, eq, rZ, rv⟩ := addc hA (g2 (i + 4 + t)) g4
       obtain ⟨o2, w1, w2, w3, w4, w5⟩ := prop p t Z c v hx rZ g2 g3 g5 eq
       have hlet : i + 4 + (t + 1) ≤ 2 * 4 + 1 := hx
       have hmut : 2 * 4 + 1 - (t + 1) < 2 * 4 + 1 - t := by omega
       rw [← w1] at eZ
       have hgett := wp_get4 hA p _ hx
       have hputt := wp_put4 hA p o2 _ hx eZ w2
       have hgett2 := wp_get4 hA o2 _ hx
       have hltt : A.cmp .lss ((i + 4 + t : Nat) : Int) ((2 * 4 + 1 : Nat) : Int) = true := (i_lt hA).trans (decide_eq_true (by omega))
       have hnextt : A.bin .add .i64 ((i + 4 + t : Nat) : Int) 1 = ((i + 4 + (t + 1) : Nat) : Int) := e_add hA rfl rfl (by omega) (by omega)
       obtain ⟨t1, ht1⟩ : ∃ t1, t1 = i + 4 + (t + 1) := ⟨_, rfl⟩
       rw [eZ] at p1 q1
       obtain ⟨nx, hnx⟩ : ∃ nx : Nat × (Nat → Nat) × Nat, nx = (t + 1, o2, v) := ⟨_, rfl⟩
       have hPn : i + 4 + nx.1 ≤ 2 * 4 + 1 ∧ (∀ j, nx.2.1 j < 18446744073709551616) ∧ (∀ j, j < i + 1 → nx.2.1 j = 0) ∧ nx.2.2 < 18446744073709551616 ∧ V nx.2.1 (2 * 4 + 1) + nx.2.2 * 18446744073709551616 ^ (i + 4 + nx.1) = E 4 := by rw [hnx]; exact ⟨hlet, w3, w4, rv, w5⟩
       have hmun : 2 * 4 + 1 - nx.1 < 2 * 4 + 1 - t := by rw [hnx]; exact hmut
       rw [← ht1] at hnextt
       clear w1 w2 w3 w4 w5 eZ eq prop hexit hdone hlet hmut g1 g5 hin
       have hst : ∀ X : Nat × (Nat → Nat) × Nat, X = (t + 1, o2, v) → i + 4 + X.1 = t1 := by intro X hX; rw [hX, ht1]
       generalize i + 4 + t = tt at *
       cbv
       repeat (first | (refine ABr.t hcmpc ?_; cbv) | (refine ABr.t hltt ?_; cbv))
       refine .sym tt rfl hx ?_
       cbv
       refine .mk _ hgett ?_
       cbv
       refine .sym tt rfl hx ?_
       cbv
       refine .mk _ hputt ?_
       cbv
       refine .sym tt rfl hx ?_
       cbv
       refine .mk _ hgett2 ?_
       cbv
       refine AJ.mk _ p1 q1 ?_
       cbv
       refine ⟨nx, ?_, hPn, hmun⟩
       rw [hst nx hnx, hnx]
       cbv
       repeat' (first | exact hnextt | exact trivial | exact rfl | constructor)
 . have hin : i = 4 := by omega
   rw [hin] at h3 h4
   obtain ⟨s, hs, hsm, hcase⟩ := hlast o h2 h3 h4
   subst hin
   have hless := rLess4 hl s m hsm hm
   have hcmp : A.cmp .neq (o (2 * 4) : Int) 0 = !decide ((o (2 * 4) : Int) = 0) := i_ne hA
   have hcmpn : A.cmp .lss ((4 : Nat) : Int) ((4 : Nat) : Int) = false := (i_lt hA).trans (decide_eq_false (by omega))
   clear hlast hhalf hEs hbnd h4
   cbv
   refine ABr.f hcmpn ?_
   cbv
   have hS1 : SimL [.lst false 4 [.s .u64 (o (4 + 0) : Nat), .s .u64 (o (4 + 1) : Nat), .s .u64 (o (4 + 2) : Nat), .s .u64 (o (4 + 3) : Nat)], .lst false 4 (ws4 lim m)] [.lst false 4 (ws4 lim s), .lst false 4 (ws4 lim m)] := by
     cbv
     exact ⟨⟨hs 0 (by decide), hs 1 (by decide), hs 2 (by decide), hs 3 (by decide)⟩, trivial⟩
   rcases hcase with ⟨h0, h1⟩ | ⟨h0, h1, h2⟩ | ⟨h0, h1, rfl⟩
   . rw [decide_eq_false (show ¬ ((o (2 * 4) : Nat) : Int) = 0 by omega)] at hcmp
     repeat (refine ABr.t hcmp ?_; cbv)
     refine ACall.mk _ (cg hS (rSub4 hl s m r 1 hsm hm h1 hrm) hS1) ?_
     cbv
   . rw [decide_eq_true (show ((o (2 * 4) : Nat) : Int) = 0 by omega)] at hcmp
     repeat (refine ABr.f hcmp ?_; cbv)
     refine ACall.mk _ (cg hS (hless false (decide_eq_false h1).symm) hS1) ?_
     cbv
     repeat (refine ABr.f hcmp ?_; cbv)
     have hn := a_not hA false
     repeat (refine ABr.t hn ?_; cbv)
     refine ACall.mk _ (cg hS (rSub4 hl s m r 0 hsm hm h2 hrm) hS1) ?_
     cbv
   . rw [decide_eq_true (show ((o (2 * 4) : Nat) : Int) = 0 by omega)] at hcmp
     repeat (refine ABr.f hcmp ?_; cbv)
     refine ACall.mk _ (cg hS (hless true (decide_eq_true h1).symm) hS1) ?_
     cbv
     repeat (refine ABr.f hcmp ?_; cbv)
     have hn := a_not hA true
     repeat (refine ABr.f hn ?_; cbv)
     exact ⟨hs 0 (by decide), hs 1 (by decide), hs 2 (by decide), hs 3 (by decide)⟩
abbrev wp6 (o : Nat → Nat) : List AVal := [.s .u64 ((o 0 : Nat) : Int), .s .u64 ((o 1 : Nat) : Int), .s .u64 ((o 2 : Nat) : Int), .s .u64 ((o 3 : Nat) : Int), .s .u64 ((o 4 : Nat) : Int), .s .u64 ((o 5 : Nat) : Int), .s .u64 ((o 6 : Nat) : Int), .s .u64 ((o 7 : Nat) : Int), .s .u64 ((o 8 : Nat) : Int), .s .u64 ((o 9 : Nat) : Int), .s .u64 ((o 10 : Nat) : Int), .s .u64 ((o 11 : Nat) : Int), .s .u64 ((o 12 : Nat) : Int)]
theorem wp_get6 {A : Ar} (hA : A = Ar.real) (o : Nat → Nat) (j : Nat) (hj : j < 2 * 6 + 1) : lsub (wp6 o) (A.offs 0 j 1) 1 = some [.s .u64 ((o j : Nat) : Int)] := by
 subst hA
 rcases (by omega : j = 0 ∨ j = 1 ∨ j = 2 ∨ j = 3 ∨ j = 4 ∨ j = 5 ∨ j = 6 ∨ j = 7 ∨ j = 8 ∨ j = 9 ∨ j = 10 ∨ j = 11 ∨ j = 12) with rfl | rfl | rfl | rfl | rfl | rfl | rfl | rfl | rfl | rfl | rfl | rfl | rfl
 all_goals rfl
theorem wp_put6 {A : Ar} (hA : A = Ar.real) (o o2 : Nat → Nat) (j : Nat) (hj : j < 2 * 6 + 1) {x : Int} (hx : x = (o2 j : Nat)) (h : ∀ m, m ≠ j → o2 m = o m) : lput (wp6 o) (A.offs 0 j 1) [.s .u64 x] = some (wp6 o2) := by
 subst hA
 subst hx
 have h0 := h 0
 have h1 := h 1
 have h2 := h 2
 have h3 := h 3
 have h4 := h 4
 have h5 := h 5
 have h6 := h 6
 have h7 := h 7
 have h8 := h 8
 have h9 := h 9
 have h10 := h 10
 have h11 := h 11
 have h12 := h 12
 clear h
 rcases (by omega : j = 0 ∨ j = 1 ∨ j = 2 ∨ j = 3 ∨ j = 4 ∨ j = 5 ∨ j = 6 ∨ j = 7 ∨ j = 8 ∨ j = 9 ∨ j = 10 ∨ j = 11 ∨ j = 12) with rfl | rfl | rfl | rfl | rfl | rfl | rfl | rfl | rfl | rfl | rfl | rfl | rfl
 all_goals
   unfold wp6
   try rw [h0 (by decide)]
   try rw [h1 (by decide)]
   try rw [h2 (by decide)]
   try rw [h3 (by decide)]
   try rw [h4 (by decide)]
   try rw [h5 (by decide)]
   try rw [h6 (by decide)]
   try rw [h7 (by decide)]
   try rw [h8 (by decide)]
   try rw [h9 (by decide)]
   try rw [h10 (by decide)]
   try rw [h11 (by decide)]
   try rw [h12 (by decide)]
   rfl
abbrev fld6 (lim : Lim) (m fold two : Nat) : AVal := .agg [.lst false 6 (ws6 lim m), .s .u64 (fold : Nat), .lst false 6 (ws6 lim two)]
theorem rreduce6 {lim : Lim} (hl : lim = limR) (m fold two a r : Nat) (hm : m < 2 ^ 384) (hodd : m % 2 = 1) (hf : (m * fold + 1) % 18446744073709551616 = 0) (hfw : fold < 18446744073709551616) (ha : a < m * 2 ^ 384) (hr : r < m) (hrr : r * 2 ^ 384 % m = a % m) :
   Sp 220 [fld6 lim m fold two, .lst false (2 * 6) [.s .u64 (lim a 0), .s .u64 (lim a 1), .s .u64 (lim a 2), .s .u64 (lim a 3), .s .u64 (lim a 4), .s .u64 (lim a 5), .s .u64 (lim a 6), .s .u64 (lim a 7), .s .u64 (lim a 8), .s .u64 (lim a 9), .s .u64 (lim a 10), .s .u64 (lim a 11)]] (.lst false 6 (ws6 lim r)) := by
 obtain ⟨dm, hdm⟩ : ∃ d : Nat → Nat, d = dg m := ⟨_, rfl⟩
 obtain ⟨da, hda⟩ : ∃ d : Nat → Nat, d = fun i => if i < 2 * 6 then dg a i else 0 := ⟨_, rfl⟩
 have lm : ∀ i, lim m i = (dm i : Int) := fun i => by rw [hdm]; exact lim_dg hl m i
 have la : ∀ i, i < 2 * 6 → lim a i = (da i : Int) := fun i hi => by rw [hda]; show _ = ((if i < 2 * 6 then dg a i else 0 : Nat) : Int); rw [if_pos hi]; exact lim_dg hl a i
 have la0 : da (2 * 6) = 0 := by rw [hda]; rfl
 have rm : ∀ i, dm i < 18446744073709551616 := fun i => by rw [hdm]; exact dg_lt m i
 have ra : ∀ i, da i < 18446744073709551616 := fun i => by
   rw [hda]; show (if i < 2 * 6 then dg a i else 0) < _
   split
   . exact dg_lt a i
   . decide
 have hWn : (2 : Nat) ^ 384 = 18446744073709551616 ^ 6 := pow_W 6
 have ha2 : a < 18446744073709551616 ^ (2 * 6) := by
   have h1 : m * 2 ^ 384 ≤ 18446744073709551616 ^ 6 * 18446744073709551616 ^ 6 := by rw [← hWn]; exact Nat.mul_le_mul_right _ (Nat.le_of_lt hm)
   rw [← Nat.pow_add] at h1
   exact Nat.lt_of_lt_of_le ha h1
 have hVa : V da (2 * 6 + 1) = a := by
   rw [V, la0, Nat.zero_mul, Nat.add_zero, V_congr (o := da) (p := fun i => (limR a i).toNat) (2 * 6) (fun j hj => by
     rw [hda]; show (if j < 2 * 6 then dg a j else 0) = _
     rw [if_pos hj, lim_dg rfl a j, Int.toNat_natCast]), V_lim, Nat.mod_eq_of_lt ha2]
 have hf0 : (dm 0 * fold + 1) % 18446744073709551616 = 0 := by
   have : dm 0 = m % 18446744073709551616 := by rw [hdm]; show m / 18446744073709551616 ^ 0 % 18446744073709551616 = _; rw [Nat.pow_zero, Nat.div_one]
   rw [this, Nat.add_mod, Nat.mod_mul_mod, ← Nat.add_mod]
   exact hf
 have hEs : ∀ (V0 kk i j : Nat), V0 + kk * 18446744073709551616 ^ i * (m % 18446744073709551616 ^ (j + 1)) = V0 + kk * 18446744073709551616 ^ i * (m % 18446744073709551616 ^ j) + kk * dm j * 18446744073709551616 ^ (i + j) := by
   intro V0 kk i j
   have e : m % 18446744073709551616 ^ (j + 1) = m % 18446744073709551616 ^ j + 18446744073709551616 ^ j * dm j := by rw [hdm]; exact Nat.mod_pow_succ
   rw [e, Nat.mul_add, Nat.pow_add]
   have : kk * 18446744073709551616 ^ i * (18446744073709551616 ^ j * dm j) = kk * dm j * (18446744073709551616 ^ i * 18446744073709551616 ^ j) := by ac_rfl
   omega
 have hmn : m % 18446744073709551616 ^ 6 = m := Nat.mod_eq_of_lt (by rw [← hWn]; exact hm)
 have hbnd : ∀ i K, i ≤ 6 → K < 18446744073709551616 ^ i → a + m * K < 18446744073709551616 ^ (2 * 6 + 1) := by
   intro i K hi hK
   have h1 : m * K ≤ m * 18446744073709551616 ^ 6 := Nat.mul_le_mul_left _ (Nat.le_of_lt (Nat.lt_of_lt_of_le hK (Nat.pow_le_pow_right (by decide) hi)))
   have h2 : m * 18446744073709551616 ^ 6 ≤ 18446744073709551616 ^ 6 * 18446744073709551616 ^ 6 := Nat.mul_le_mul_right _ (by rw [← hWn]; exact Nat.le_of_lt hm)
   rw [← Nat.pow_add] at h2
   have h3 : 18446744073709551616 ^ (2 * 6 + 1) = 18446744073709551616 ^ (6 + 6) * 18446744073709551616 := by rw [Nat.pow_succ, Nat.two_mul]
   have h4 : 18446744073709551616 ^ (2 * 6) = 18446744073709551616 ^ (6 + 6) := by rw [Nat.two_mul]
   rw [h3]
   rw [h4] at ha2
   generalize 18446744073709551616 ^ (6 + 6) = z at *
   omega
 have hhalf : ∀ kk k, kk < 18446744073709551616 → ∃ hi lo : Nat, lo + 18446744073709551616 * hi = kk * dm k ∧ lo < 18446744073709551616 ∧ Sp 228 [.s .u64 (kk : Nat), .s .u64 (lim m k)] (.tup [.s .u64 hi, .s .u64 lo]) := fun kk k hkk =>
   ⟨kk * dm k / 18446744073709551616, kk * dm k % 18446744073709551616, by omega, by omega, by rw [lm]; exact rhalf _ _ _ _ hkk (rm k) (by omega) (by omega)⟩
 have hlast : ∀ (o : Nat → Nat), (∀ j, o j < 18446744073709551616) → (∀ j, j < 6 → o j = 0) → (∃ K, K < 18446744073709551616 ^ 6 ∧ V o (2 * 6 + 1) = a + m * K) → ∃ s : Nat, (∀ j, j < 6 → (o (6 + j) : Int) = lim s j) ∧ s < 2 ^ 384 ∧
     ((o (2 * 6) ≠ 0 ∧ r + m = s + 2 ^ 384 * 1) ∨ (o (2 * 6) = 0 ∧ ¬ s < m ∧ r + m = s + 2 ^ 384 * 0) ∨ (o (2 * 6) = 0 ∧ s < m ∧ r = s)) := by
   rintro o g1 g2 ⟨K, g3, g4⟩
   obtain ⟨s, hs⟩ : ∃ s, s = V (fun j => o (6 + j)) 6 := ⟨_, rfl⟩
   have hs2 : s < 18446744073709551616 ^ 6 := by rw [hs]; exact V_lt 6 (fun j _ => g1 _)
   have e1 : V o (2 * 6 + 1) = V o 6 + 18446744073709551616 ^ 6 * V (fun j => o (6 + j)) (6 + 1) := by rw [show 2 * 6 + 1 = 6 + (6 + 1) by omega, V_shift]
   have e2 : V (fun j => o (6 + j)) (6 + 1) = s + o (2 * 6) * 18446744073709551616 ^ 6 := by rw [hs]; rfl
   rw [V_zero g2, Nat.zero_add, e2, g4] at e1
   have hT := red_core (T := s + o (2 * 6) * 18446744073709551616 ^ 6) (by rw [hWn]; exact g3) (by rw [hWn]; exact e1.symm) ha hr hodd hrr
   refine ⟨s, fun j hj => ?_, by rw [hWn]; exact hs2, ?_⟩
   . rw [hl, hs]; exact (limR_V (o := fun j => o (6 + j)) (fun j _ => g1 _) hj).symm
   . rw [hWn]
     have hmw : m < 18446744073709551616 ^ 6 := by rw [← hWn]; exact hm
     generalize 18446744073709551616 ^ 6 = z at *
     by_cases h0 : o (2 * 6) = 0
     . rw [h0] at hT
       by_cases h1 : s < m
       . exact .inr (.inr ⟨h0, h1, by omega⟩)
       . exact .inr (.inl ⟨h0, h1, by omega⟩)
     . refine .inl ⟨h0, ?_⟩
       by_cases h2 : o (2 * 6) = 1
       . rw [h2] at hT; omega
       . have : 2 * z ≤ o (2 * 6) * z := Nat.mul_le_mul_right _ (by omega)
         omega
 have hrm : r < 2 ^ 384 := Nat.lt_trans hr hm
 clear hdm hda hrr
 refine mk Tryz.func220 rfl rfl LN RQ (by decide +kernel) ?_
 intro A S hA hS
 unfold bodyOf Tryz.f220
 cbv
 refine .inv (α := Nat × (Nat → Nat)) (fun p => ⟨[.any, .any, .own 0 0, .any, .any, .i .i64 6, .osl false 3 0 (2 * 6 + 1) 1, .s .i64 (p.1 : Nat), .any, .any, .any, .any, .any, .any, .any, .any, .any, .any, .any, .any, .any, .any, .any, .any, .any, .any, .any, .any, .any, .any, .any, .any, .any, .any, .any, .any, .any, .any, .any, .any, .any, .any, .any, .any, .any, .any, .any, .any, .any, .any, .any, .any, .any, .any, .any, .any, .any, .any, .any, .any, .any, .any, .any, .any, .any, .any, .any, .any, .any, .any, .any, .any, .any, .any, .any, .any, .any, .any, .any, .any, .any, .any, .any, .any, .any, .any, .any, .any, .any, .any, .any, .any, .any, .any, .any, .any, .any, .any, .any, .any, .any, .any, .any, .any, .any, .any, .any, .any, .any, .any, .any, .any, .any, .any, .any, .any, .any, .any, .any, .any, .any, .any, .any, .any, .any, .any, .any, .any, .any, .any, .any, .any, .any, .any],
     [⟨true, true, [.lst false 6 (ws6 lim m), .s .u64 (fold : Nat), .lst false 6 (ws6 lim two)]⟩, ⟨false, true, []⟩, ⟨false, true, []⟩, ⟨true, true, wp6 p.2⟩]⟩)
     (fun p => p.1 ≤ 6 ∧ (∀ j, p.2 j < 18446744073709551616) ∧ (∀ j, j < p.1 → p.2 j = 0) ∧ ∃ K, K < 18446744073709551616 ^ p.1 ∧ V p.2 (2 * 6 + 1) = a + m * K) (fun p => 6 - p.1) (0, da) ?_
     ⟨Nat.zero_le _, ra, fun j hj => by omega, 0, by rw [Nat.pow_zero]; decide, by rw [hVa, Nat.mul_zero, Nat.add_zero]⟩ ?_
 . have hz0 := congrArg Int.ofNat la0
   cbv
   repeat' (first | exact rfl | exact la _ (by decide) | exact hz0.symm | exact trivial | constructor)
 rintro ⟨i, o⟩ ⟨h1, h2, h3, h4⟩
 dsimp only at h1 h2 h3 h4 ⊢
 by_cases hi : i < 6
 . obtain ⟨K, hK, hV⟩ := h4
   obtain ⟨kk, hkk⟩ : ∃ kk, kk = o i * fold % 18446744073709551616 := ⟨_, rfl⟩
   have hkw : kk < 18446744073709551616 := by rw [hkk]; exact Nat.mod_lt _ (by decide)
   have hkb : A.bin .mul .u64 (o i : Int) (fold : Int) = (kk : Int) := by rw [hA, hkk]; exact u_mul _ _
   obtain ⟨E, hE⟩ : ∃ E : Nat → Nat, E = fun j => a + m * K + kk * 18446744073709551616 ^ i * (m % 18446744073709551616 ^ j) := ⟨_, rfl⟩
   have hE0 : E 0 = V o (2 * 6 + 1) := by rw [hE, hV]; show a + m * K + kk * 18446744073709551616 ^ i * (m % 18446744073709551616 ^ 0) = _; rw [Nat.pow_zero, Nat.mod_one, Nat.mul_zero, Nat.add_zero]
   have hE1 : ∀ j, E (j + 1) = E j + kk * dm j * 18446744073709551616 ^ (i + j) := fun j => by rw [hE]; exact hEs _ _ _ _
   have hEn : E 6 = a + m * (K + kk * 18446744073709551616 ^ i) := by rw [hE]; show a + m * K + kk * 18446744073709551616 ^ i * (m % 18446744073709551616 ^ 6) = _; rw [hmn, Nat.mul_add, Nat.mul_comm (kk * 18446744073709551616 ^ i)]; omega
   have hK1 : K + kk * 18446744073709551616 ^ i < 18446744073709551616 ^ (i + 1) := by
     have : (kk + 1) * 18446744073709551616 ^ i ≤ 18446744073709551616 * 18446744073709551616 ^ i := Nat.mul_le_mul_right _ hkw
     rw [Nat.add_mul, Nat.one_mul] at this
     rw [Nat.pow_succ, Nat.mul_comm (18446744073709551616 ^ i) 18446744073709551616]
     omega
   have hTb : E 6 < 18446744073709551616 ^ (2 * 6 + 1) := by rw [hEn]; exact hbnd (i + 1) _ hi hK1
   have hih := fun k => hhalf kk k hkw
   have hle : i + 1 ≤ 6 := hi
   have hmu : 6 - (i + 1) < 6 - i := by omega
   have step : ∀ (p : Nat → Nat) (k Z c v : Nat), k < 6 → Z < 18446744073709551616 → (∀ j, p j < 18446744073709551616) → (∀ j, j < i → p j = 0) → (k = 0 → c = 0 ∧ p i = o i) → (0 < k → p i = 0) → V p (2 * 6 + 1) + c * 18446744073709551616 ^ (i + k) = E k → Z + 18446744073709551616 * v = kk * dm k + p (i + k) + c →
       ∃ o2 : Nat → Nat, o2 (i + k) = Z ∧ (∀ j, j ≠ i + k → o2 j = p j) ∧ (∀ j, o2 j < 18446744073709551616) ∧ (∀ j, j < i → o2 j = 0) ∧ (k + 1 = 0 → v = 0 ∧ o2 i = o i) ∧ (0 < k + 1 → o2 i = 0) ∧ V o2 (2 * 6 + 1) + v * 18446744073709551616 ^ (i + (k + 1)) = E (k + 1) := by
     intro p k Z c v hk hZ g1 g2 g3 g3' g4 g5
     refine ⟨upd p (i + k) Z, upd_eq _ _ _, fun j hj => upd_ne _ _ _ _ hj, fun j => ?_, fun j hj => ?_, fun h => absurd h (by omega), fun _ => ?_, ?_⟩
     . by_cases e : j = i + k
       . rw [e, upd_eq]; exact hZ
       . rw [upd_ne _ _ _ _ e]; exact g1 j
     . rw [upd_ne _ _ _ _ (by omega)]; exact g2 j hj
     . by_cases e : k = 0
       . subst e
         obtain ⟨rfl, e2⟩ := g3 rfl
         rw [Nat.add_zero, upd_eq]
         rw [show p (i + 0) = o i from e2] at g5
         exact low0N hf0 hkk g5 hZ
       . rw [upd_ne _ _ _ _ (by omega)]; exact g3' (by omega)
     . have hu := V_upd p (i + k) Z (2 * 6 + 1) (by omega)
       rw [hE1 k, ← Nat.add_assoc, Nat.pow_succ]
       exact mac_num hu g5 g4
   have prop : ∀ (p : Nat → Nat) (t Z c v : Nat), i + 6 + t < 2 * 6 + 1 → Z < 18446744073709551616 → (∀ j, p j < 18446744073709551616) → (∀ j, j < i + 1 → p j = 0) → V p (2 * 6 + 1) + c * 18446744073709551616 ^ (i + 6 + t) = E 6 → Z + 18446744073709551616 * v = p (i + 6 + t) + c →
       ∃ o2 : Nat → Nat, o2 (i + 6 + t) = Z ∧ (∀ j, j ≠ i + 6 + t → o2 j = p j) ∧ (∀ j, o2 j < 18446744073709551616) ∧ (∀ j, j < i + 1 → o2 j = 0) ∧ V o2 (2 * 6 + 1) + v * 18446744073709551616 ^ (i + 6 + (t + 1)) = E 6 := by
     intro p t Z c v ht hZ g1 g2 g4 g5
     refine ⟨upd p (i + 6 + t) Z, upd_eq _ _ _, fun j hj => upd_ne _ _ _ _ hj, fun j => ?_, fun j hj => ?_, ?_⟩
     . by_cases e : j = i + 6 + t
       . rw [e, upd_eq]; exact hZ
       . rw [upd_ne _ _ _ _ e]; exact g1 j
     . rw [upd_ne _ _ _ _ (by omega)]; exact g2 j hj
     . have hu := V_upd p (i + 6 + t) Z (2 * 6 + 1) ht
       rw [← Nat.add_assoc, Nat.pow_succ]
       have := mac_num (x := 0) (y := 0) (hi := v) hu (by rw [g5]; omega) g4
       omega
   have hexit : ∀ (p : Nat → Nat) (t c : Nat), i + 6 + t ≤ 2 * 6 + 1 → V p (2 * 6 + 1) + c * 18446744073709551616 ^ (i + 6 + t) = E 6 → c ≠ 0 → i + 6 + t < 2 * 6 + 1 := by
     intro p t c g1 g2 g3
     refine Nat.lt_of_le_of_ne g1 fun e => ?_
     rw [e] at g2
     have : 1 * 18446744073709551616 ^ (2 * 6 + 1) ≤ c * 18446744073709551616 ^ (2 * 6 + 1) := Nat.mul_le_mul_right _ (by omega)
     rw [Nat.one_mul] at this
     omega
   have hdone : ∀ (p : Nat → Nat) (t c : Nat), V p (2 * 6 + 1) + c * 18446744073709551616 ^ (i + 6 + t) = E 6 → c = 0 → ∃ K, K < 18446744073709551616 ^ (i + 1) ∧ V p (2 * 6 + 1) = a + m * K := by
     intro p t c g1 g2
     rw [g2, Nat.zero_mul, Nat.add_zero] at g1
     exact ⟨_, hK1, g1.trans hEn⟩
   clear hE hEn
   have hcmp : A.cmp .lss ((i : Nat) : Int) ((6 : Nat) : Int) = true := (i_lt hA).trans (decide_eq_true (by omega))
   have hnext : A.bin .add .i64 ((i : Nat) : Int) 1 = ((i + 1 : Nat) : Int) := e_add hA rfl rfl (by omega) (by omega)
   have hin : A.bin .add .i64 ((i : Nat) : Int) ((6 : Nat) : Int) = ((i + 6 + 0 : Nat) : Int) := e_add hA rfl rfl (by omega) (by omega)
   have hget := wp_get6 hA o i (by omega)
   have hi1 : i < 2 * 6 + 1 := by omega
   cbv
   refine ABr.t hcmp ?_
   cbv
   refine .sym i rfl hi1 ?_
   cbv
   refine .mk _ hget ?_
   cbv
   refine .inv (α := Nat × (Nat → Nat) × Nat) (fun p => ⟨[.any, .any, .own 0 0, .any, .any, .i .i64 (6 : Nat), .osl false 3 0 (2 * 6 + 1) 1, .s .i64 (i : Nat), .s .u64 (kk : Nat), .s .u64 (p.2.2 : Nat), .s .i64 (p.1 : Nat), .any, .any, .any, .any, .any, .any, .any, .any, .any, .any, .any, .any, .any, .any, .any, .any, .any, .any, .any, .any, .any, .any, .any, .any, .any, .any, .any, .any, .any, .any, .any, .any, .any, .any, .any, .any, .any, .any, .any, .any, .any, .any, .any, .any, .any, .any, .any, .any, .any, .any, .any, .any, .any, .any, .any, .any, .any, .any, .any, .any, .any, .any, .any, .any, .any, .any, .any, .any, .any, .any, .any, .any, .any, .any, .any, .any, .any, .any, .any, .any, .any, .any, .any, .any, .any, .any, .any, .any, .any, .any, .any, .any, .any, .any, .any, .any, .any, .any, .any, .any, .any, .any, .any, .any, .any, .any, .any, .any, .any, .any, .any, .any, .any, .any, .any, .any, .any, .any, .any, .any, .any, .any, .any],
         [⟨true, true, [.lst false 6 (ws6 lim m), .s .u64 (fold : Nat), .lst false 6 (ws6 lim two)]⟩, ⟨false, true, []⟩, ⟨false, true, []⟩, ⟨true, true, wp6 p.2.1⟩]⟩)
         (fun p => p.1 ≤ 6 ∧ (∀ j, p.2.1 j < 18446744073709551616) ∧ (∀ j, j < i → p.2.1 j = 0) ∧ (p.1 = 0 → p.2.2 = 0 ∧ p.2.1 i = o i) ∧ (0 < p.1 → p.2.1 i = 0) ∧ p.2.2 < 18446744073709551616 ∧ V p.2.1 (2 * 6 + 1) + p.2.2 * 18446744073709551616 ^ (i + p.1) = E p.1) (fun p => 6 - p.1) (0, o, 0) ?_
         ⟨Nat.zero_le _, h2, h3, fun _ => ⟨rfl, rfl⟩, fun h => (Nat.lt_irrefl 0 h).elim, (by decide : 0 < 18446744073709551616), by rw [Nat.zero_mul, Nat.add_zero]; exact hE0.symm⟩ ?_
   . cbv
     repeat' (first | exact rfl | exact hkb | exact trivial | constructor)
   rintro ⟨k, p, c⟩ ⟨g1, g2, g3, g3a, g3b, g4, g5⟩
   dsimp only at g1 g2 g3 g3a g3b g4 g5 ⊢
   by_cases hk : k < 6
   . obtain ⟨hi', lo', u1, u2, u3⟩ := hih k
     obtain ⟨v1, v2, Z, p1, q1, p2, q2, eZ, eq, rv, rZ⟩ := macj hA hkw (rm k) (g2 (i + k)) g4 u1 u2
     obtain ⟨o2, w1, w2, w3, w4, w5, w6, w7⟩ := step p k Z c v2 hk rZ g2 g3 g3a g3b g5 eq
     have hlek : k + 1 ≤ 6 := hk
     have hmuk : 6 - (k + 1) < 6 - k := by omega
     rw [← w1] at eZ
     have hik : i + k < 2 * 6 + 1 := by omega
     have hcmpk : A.cmp .lss ((k : Nat) : Int) ((6 : Nat) : Int) = true := (i_lt hA).trans (decide_eq_true (by omega))
     have hadd : A.bin .add .i64 ((i : Nat) : Int) ((k : Nat) : Int) = ((i + k : Nat) : Int) := e_add hA rfl rfl (by omega) (by omega)
     have hnextk : A.bin .add .i64 ((k : Nat) : Int) 1 = ((k + 1 : Nat) : Int) := e_add hA rfl rfl (by omega) (by omega)
     have hrow := (rowx6 lim m).2 k hk
     have hgetk := wp_get6 hA p (i + k) hik
     have hputk := wp_put6 hA p o2 (i + k) hik eZ w2
     clear w1 w2 eZ eq step
     generalize i + k = ik at *
     generalize k + 1 = k1 at *
     cbv
     refine ABr.t hcmpk ?_
     cbv
     refine .sym k rfl hk ?_
     cbv
     refine .mk _ hrow ?_
     cbv
     refine aF hS u3 ?_
     cbv
     refine .sym ik hadd hik ?_
     cbv
     refine .mk _ hgetk ?_
     cbv
     refine .sym ik hadd hik ?_
     cbv
     refine .mk _ hgetk ?_
     cbv
     refine AJ.mk _ p1 q1 ?_
     cbv
     refine AJ.mk _ p2 q2 ?_
     cbv
     refine .sym ik hadd hik ?_
     cbv
     refine .mk _ hputk ?_
     cbv
     refine ⟨(k1, o2, v2), ?_, ⟨hlek, w3, w4, w5, w6, rv, w7⟩, hmuk⟩
     cbv
     repeat' (first | exact hnextk | exact trivial | exact rfl | constructor)
   . obtain rfl : k = 6 := by omega
     have g6 : ∀ j, j < i + 1 → p j = 0 := fun j hj => by
       by_cases e : j = i
       . rw [e]; exact g3b (by decide)
       . exact g3 j (by omega)
     have hcmpk : A.cmp .lss ((6 : Nat) : Int) ((6 : Nat) : Int) = false := (i_lt hA).trans (decide_eq_false (by omega))
     have hple : i + 6 + 0 ≤ 2 * 6 + 1 := by omega
     clear g3 g3a g3b step
     cbv
     refine ABr.f hcmpk ?_
     cbv
     refine .inv (α := Nat × (Nat → Nat) × Nat) (fun p => ⟨[.any, .any, .own 0 0, .any, .any, .i .i64 (6 : Nat), .osl false 3 0 (2 * 6 + 1) 1, .s .i64 (i : Nat), .any, .s .u64 (p.2.2 : Nat), .any, .any, .any, .s .i64 ((i + 6 + p.1 : Nat)), .any, .any, .any, .any, .any, .any, .any, .any, .any, .any, .any, .any, .any, .any, .any, .any, .any, .any, .any, .any, .any, .any, .any, .any, .any, .any, .any, .any, .any, .any, .any, .any, .any, .any, .any, .any, .any, .any, .any, .any, .any, .any, .any, .any, .any, .any, .any, .any, .any, .any, .any, .any, .any, .any, .any, .any, .any, .any, .any, .any, .any, .any, .any, .any, .any, .any, .any, .any, .any, .any, .any, .any, .any, .any, .any, .any, .any, .any, .any, .any, .any, .any, .any, .any, .any, .any, .any, .any, .any, .any, .any, .any, .any, .any, .any, .any, .any, .any, .any, .any, .any, .any, .any, .any, .any, .any, .any, .any, .any, .any, .any, .any, .any, .any, .any, .any, .any, .any, .any, .any],
         [⟨true, true, [.lst false 6 (ws6 lim m), .s .u64 (fold : Nat), .lst false 6 (ws6 lim two)]⟩, ⟨false, true, []⟩, ⟨false, true, []⟩, ⟨true, true, wp6 p.2.1⟩]⟩)
         (fun p => i + 6 + p.1 ≤ 2 * 6 + 1 ∧ (∀ j, p.2.1 j < 18446744073709551616) ∧ (∀ j, j < i + 1 → p.2.1 j = 0) ∧ p.2.2 < 18446744073709551616 ∧ V p.2.1 (2 * 6 + 1) + p.2.2 * 18446744073709551616 ^ (i + 6 + p.1) = E 6) (fun p => 2 * 6 + 1 - p.1) (0, p, c) ?_
         ⟨hple, g2, g6, g4, g5⟩ ?_
     . have hin' := hin
       generalize i + 6 + 0 = x at hin' ⊢
       cbv
       repeat' (first | exact rfl | exact hin' | exact trivial | constructor)
     rintro ⟨t, p, c⟩ ⟨g1, g2, g3, g4, g5⟩
     dsimp only at g1 g2 g3 g4 g5 ⊢
     have hcmpc : A.cmp .neq (c : Int) 0 = !decide ((c : Int) = 0) := i_ne hA
     by_cases hc : c = 0
     . have hd := hdone p t c g5 hc
       have hP : i + 1 ≤ 6 ∧ (∀ j, p j < 18446744073709551616) ∧ (∀ j, j < i + 1 → p j = 0) ∧ ∃ K, K < 18446744073709551616 ^ (i + 1) ∧ V p (2 * 6 + 1) = a + m * K := ⟨hle, g2, g3, hd⟩
       rw [decide_eq_true (by omega : (c : Int) = 0)] at hcmpc
       clear hdone hexit prop g1 g5 hd hE0 hE1 hin
       generalize i + 6 + t = tt at *
       obtain ⟨i1, hi1'⟩ : ∃ i1, i1 = i + 1 := ⟨_, rfl⟩
       rw [← hi1'] at hnext hP hmu
       clear hi1'
       cbv
       repeat (refine ABr.f hcmpc ?_; cbv)
       refine ⟨(i1, p), ?_, hP, hmu⟩
       cbv
       repeat' (first | exact hnext | exact rfl | exact trivial | constructor)
     . have hx := hexit p t c g1 g5 hc
       rw [decide_eq_false (by omega : ¬ (c : Int) = 0)] at hcmpc
       obtain ⟨Z, v, eZ, p1, q1, eq, rZ, rv⟩ := addc hA (g2 (i + 6 + t)) g4
       obtain ⟨o2, w1, w2, w3, w4, w5⟩ := prop p t Z c v hx rZ g2 g3 g5 eq
       have hlet : i + 6 + (t + 1) ≤ 2 * 6 + 1 := hx
       have hmut : 2 * 6 + 1 - (t + 1) < 2 * 6 + 1 - t := by omega
       rw [← w1] at eZ
       have hgett := wp_get6 hA p _ hx
       have hputt := wp_put6 hA p o2 _ hx eZ w2
       have hgett2 := wp_get6 hA o2 _ hx
       have hltt : A.cmp .lss ((i + 6 + t : Nat) : Int) ((2 * 6 + 1 : Nat) : Int) = true := (i_lt hA).trans (decide_eq_true (by omega))
       have hnextt : A.bin .add .i64 ((i + 6 + t : Nat) : Int) 1 = ((i + 6 + (t + 1) : Nat) : Int) := e_add hA rfl rfl (by omega) (by omega)
       obtain ⟨t1, ht1⟩ : ∃ t1, t1 = i + 6 + (t + 1) := ⟨_, rfl⟩
       rw [eZ] at p1 q1
       obtain ⟨nx, hnx⟩ : ∃ nx : Nat × (Nat → Nat) × Nat, nx = (t + 1, o2, v) := ⟨_, rfl⟩
       have hPn : i + 6 + nx.1 ≤ 2 * 6 + 1 ∧ (∀ j, nx.2.1 j < 18446744073709551616) ∧ (∀ j, j < i + 1 → nx.2.1 j = 0) ∧ nx.2.2 < 18446744073709551616 ∧ V nx.2.1 (2 * 6 + 1) + nx.2.2 * 18446744073709551616 ^ (i + 6 + nx.1) = E 6 := by rw [hnx]; exact ⟨hlet, w3, w4, rv, w5⟩
       have hmun : 2 * 6 + 1 - nx.1 < 2 * 6 + 1 - t := by rw [hnx]; exact hmut
       rw [← ht1] at hnextt
       clear w1 w2 w3 w4 w5 eZ eq prop hexit hdone hlet hmut g1 g5 hin
       have hst : ∀ X : Nat × (Nat → Nat) × Nat, X = (t + 1, o2, v) → i + 6 + X.1 = t1 := by intro X hX; rw [hX, ht1]
       generalize i + 6 + t = tt at *
       cbv
       repeat (first | (refine ABr.t hcmpc ?_; cbv) | (refine ABr.t hltt ?_; cbv))
       refine .sym tt rfl hx ?_
       cbv
       refine .mk _ hgett ?_
       cbv
       refine .sym tt rfl hx ?_
       cbv
       refine .mk _ hputt ?_
       cbv
       refine .sym tt rfl hx ?_
       cbv
       refine .mk _ hgett2 ?_
       cbv
       refine AJ.mk _ p1 q1 ?_
       cbv
       refine ⟨nx, ?_, hPn, hmun⟩
       rw [hst nx hnx, hnx]
       cbv
       repeat' (first | exact hnextt | exact trivial | exact rfl | constructor)
 . have hin : i = 6 := by omega
   rw [hin] at h3 h4
   obtain ⟨s, hs, hsm, hcase⟩ := hlast o h2 h3 h4
   subst hin
   have hless := rLess6 hl s m hsm hm
   have hcmp : A.cmp .neq (o (2 * 6) : Int) 0 = !decide ((o (2 * 6) : Int) = 0) := i_ne hA
   have hcmpn : A.cmp .lss ((6 : Nat) : Int) ((6 : Nat) : Int) = false := (i_lt hA).trans (decide_eq_false (by omega))
   clear hlast hhalf hEs hbnd h4
   cbv
   refine ABr.f hcmpn ?_
   cbv
   have hS1 : SimL [.lst false 6 [.s .u64 (o (6 + 0) : Nat), .s .u64 (o (6 + 1) : Nat), .s .u64 (o (6 + 2) : Nat), .s .u64 (o (6 + 3) : Nat), .s .u64 (o (6 + 4) : Nat), .s .u64 (o (6 + 5) : Nat)], .lst false 6 (ws6 lim m)] [.lst false 6 (ws6 lim s), .lst false 6 (ws6 lim m)] := by
     cbv
     exact ⟨⟨hs 0 (by decide), hs 1 (by decide), hs 2 (by decide), hs 3 (by decide), hs 4 (by decide), hs 5 (by decide)⟩, trivial⟩
   rcases hcase with ⟨h0, h1⟩ | ⟨h0, h1, h2⟩ | ⟨h0, h1, rfl⟩
   . rw [decide_eq_false (show ¬ ((o (2 * 6) : Nat) : Int) = 0 by omega)] at hcmp
     repeat (refine ABr.t hcmp ?_; cbv)
     refine ACall.mk _ (cg hS (rSub6 hl s m r 1 hsm hm h1 hrm) hS1) ?_
     cbv
   . rw [decide_eq_true (show ((o (2 * 6) : Nat) : Int) = 0 by omega)] at hcmp
     repeat (refine ABr.f hcmp ?_; cbv)
     refine ACall.mk _ (cg hS (hless false (decide_eq_false h1).symm) hS1) ?_
     cbv
     repeat (refine ABr.f hcmp ?_; cbv)
     have hn := a_not hA false
     repeat (refine ABr.t hn ?_; cbv)
     refine ACall.mk _ (cg hS (rSub6 hl s m r 0 hsm hm h2 hrm) hS1) ?_
     cbv
   . rw [decide_eq_true (show ((o (2 * 6) : Nat) : Int) = 0 by omega)] at hcmp
     repeat (refine ABr.f hcmp ?_; cbv)
     refine ACall.mk _ (cg hS (hless true (decide_eq_true h1).symm) hS1) ?_
     cbv
     repeat (refine ABr.f hcmp ?_; cbv)
     have hn := a_not hA true
     repeat (refine ABr.f hn ?_; cbv)
     exact ⟨hs 0 (by decide), hs 1 (by decide), hs 2 (by decide), hs 3 (by decide), hs 4 (by decide), hs 5 (by decide)⟩
end Go.Proofs.YtmholgclgamnnaaGreat
