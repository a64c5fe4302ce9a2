import Derived.Test.YtlmlganfjnokiaaBH
set_option linter.unusedVariables false
set_option linter.unusedSimpArgs false
namespace Go.Proofs.Ytlmlganfjnokiaa
open Go Eng
set_option maxRecDepth 100000
set_option exponentiation.threshold 2000
set_option maxHeartbeats 4000000
/-- The number of bytes, the least ahead. -/
def Vb (d : Nat → Nat) : Nat → Nat
  | 0 => 0
  | n + 1 => Vb d n + d n * 2 ^ (8 * n)
theorem Vb_lt {o : Nat → Nat} : ∀ n, (∀ j, j < n → o j < 256) → Vb o n < 2 ^ (8 * n)
  | 0, _ => by simp [Vb]
  | n + 1, h => by
    have h1 := Vb_lt n (fun j hj => h j (by omega))
    have h2 : (o n + 1) * 2 ^ (8 * n) ≤ 256 * 2 ^ (8 * n) := Nat.mul_le_mul_right _ (h n (by omega))
    rw [Vb, show 8 * (n + 1) = 8 * n + 8 by omega, Nat.pow_add]
    rw [Nat.add_mul, Nat.one_mul] at h2
    omega
theorem Vb_dig {o : Nat → Nat} : ∀ n, (∀ j, j < n → o j < 256) → ∀ j, j < n → Vb o n / 2 ^ (8 * j) % 256 = o j
  | 0, _, j, hj => by omega
  | n + 1, h, j, hj => by
    rw [Vb]
    have hp : 0 < 2 ^ (8 * j) := Nat.two_pow_pos _
    by_cases e : j = n
    · subst e
      rw [Nat.add_mul_div_right _ _ hp, Nat.div_eq_of_lt (Vb_lt j (fun i hi => h i (by omega))), Nat.zero_add, Nat.mod_eq_of_lt (h j (by omega))]
    · have ih := Vb_dig n (fun i hi => h i (by omega)) j (by omega)
      have e2 : o n * 2 ^ (8 * n) = 2 ^ (8 * j) * (256 * (o n * 2 ^ (8 * (n - j - 1)))) := by
        rw [show 8 * n = 8 * j + (8 + 8 * (n - j - 1)) by omega, Nat.pow_add, Nat.pow_add]
        ac_rfl
      rw [e2, Nat.add_mul_div_left _ _ hp, Nat.add_mul_mod_self_left]
      exact ih
theorem mod_byte (t p : Nat) : t % 2 ^ (8 * (p + 1)) = t % 2 ^ (8 * p) + t / 2 ^ (8 * p) % 256 * 2 ^ (8 * p) := by
  rw [show 8 * (p + 1) = 8 * p + 8 by omega, Nat.pow_add, Nat.mod_mul, Nat.mul_comm (2 ^ (8 * p)) (t / 2 ^ (8 * p) % 2 ^ 8)]
theorem top_byte (t p : Nat) : 2 ^ (8 * p) * (t / 2 ^ (8 * p)) = 2 ^ (8 * (p + 1)) * (t / 2 ^ (8 * (p + 1))) + t / 2 ^ (8 * p) % 256 * 2 ^ (8 * p) := by
  have h := mod_byte t p
  have h1 := Nat.div_add_mod t (2 ^ (8 * p))
  have h2 := Nat.div_add_mod t (2 ^ (8 * (p + 1)))
  omega
/-- Bits put where there are none. -/
theorem or_put {w x s : Nat} (hx : x < 256) (hs : s + 8 ≤ 64) (hw : w < 18446744073709551616) (h0 : w / 2 ^ s % 256 = 0) : w ||| x * 2 ^ s = w + x * 2 ^ s := by
  obtain ⟨q, hq⟩ : ∃ q, q = w / 2 ^ (s + 8) := ⟨_, rfl⟩
  obtain ⟨l, hl⟩ : ∃ l, l = w % 2 ^ s := ⟨_, rfl⟩
  have hp : 0 < 2 ^ s := Nat.two_pow_pos _
  have hls : l < 2 ^ s := by rw [hl]; exact Nat.mod_lt _ hp
  have hw2 : w = 2 ^ (s + 8) * q + l := by
    have h1 := Nat.div_add_mod w (2 ^ s)
    have h2 := Nat.div_add_mod (w / 2 ^ s) 256
    rw [Nat.div_div_eq_div_mul, h0, Nat.add_zero] at h2
    have h3 : w / (2 ^ s * 256) = q := by rw [hq, Nat.pow_add]
    rw [h3] at h2
    rw [Nat.pow_add, ← hl] at *
    rw [← h2] at h1
    rw [← h1, show (2 : Nat) ^ 8 = 256 from rfl, Nat.mul_assoc]
  have hxl : x * 2 ^ s + l < 2 ^ (s + 8) := by
    have : (x + 1) * 2 ^ s ≤ 256 * 2 ^ s := Nat.mul_le_mul_right _ hx
    rw [Nat.add_mul, Nat.one_mul] at this
    rw [Nat.pow_add, Nat.mul_comm (2 ^ s)]
    omega
  rw [hw2, Nat.two_pow_add_eq_or_of_lt (Nat.lt_of_lt_of_le hls (Nat.pow_le_pow_right (by decide) (by omega))), Nat.or_assoc, Nat.or_comm l, Nat.mul_comm x, ← Nat.two_pow_add_eq_or_of_lt hls, ← Nat.two_pow_add_eq_or_of_lt (by rw [Nat.mul_comm]; exact hxl),
    ← Nat.two_pow_add_eq_or_of_lt (Nat.lt_of_lt_of_le hls (Nat.pow_le_pow_right (by decide) (by omega)))]
  omega
theorem limR_byte {v x p : Nat} (hx : x < 256) (h0 : v / 2 ^ (8 * p) % 256 = 0) : limR (v + x * 2 ^ (8 * p)) (p / 8) = limR v (p / 8) + (x * 2 ^ (8 * (p % 8)) : Nat) ∧ (∀ i, i ≠ p / 8 → limR (v + x * 2 ^ (8 * p)) i = limR v i) ∧
    (limR v (p / 8)).toNat / 2 ^ (8 * (p % 8)) % 256 = 0 := by
  obtain ⟨j, hj⟩ : ∃ j, j = p / 8 := ⟨_, rfl⟩
  obtain ⟨s, hs⟩ : ∃ s, s = 8 * (p % 8) := ⟨_, rfl⟩
  have hs56 : s + 8 ≤ 64 := by omega
  have hk : 8 * p = 64 * j + s := by omega
  rw [← hj, ← hs, hk]
  rw [hk] at h0
  clear hj hs hk
  have hP : 0 < 2 ^ (64 * j) := Nat.two_pow_pos _
  obtain ⟨u, hu⟩ : ∃ u, u = v / 2 ^ (64 * j) := ⟨_, rfl⟩
  rw [Nat.pow_add, ← Nat.div_div_eq_div_mul, ← hu] at h0
  have e1 : (v + x * 2 ^ (64 * j + s)) / 2 ^ (64 * j) = u + x * 2 ^ s := by rw [Nat.pow_add, Nat.mul_left_comm, Nat.add_mul_div_left _ _ hP, ← hu]
  have e64 : (2 : Nat) ^ 64 = 2 ^ s * (256 * 2 ^ (56 - s)) := by
    rw [show (256 : Nat) = 2 ^ 8 from rfl, ← Nat.pow_add, ← Nat.pow_add]; congr 1; omega
  have hps : 0 < 2 ^ s := Nat.two_pow_pos _
  have hum : (u % 2 ^ 64) / 2 ^ s % 256 = 0 := by
    rw [e64, Nat.mod_mul_right_div_self, Nat.mod_mul_right_mod]; exact h0
  have hno : (u + x * 2 ^ s) % 2 ^ 64 = u % 2 ^ 64 + x * 2 ^ s ∧ (u + x * 2 ^ s) / 2 ^ 64 = u / 2 ^ 64 := by
    have h1 := Nat.div_add_mod u (2 ^ 64)
    have hlt : u % 2 ^ 64 + x * 2 ^ s < 2 ^ 64 := by
      obtain ⟨y, hy⟩ : ∃ y, y = u % 2 ^ 64 := ⟨_, rfl⟩
      rw [← hy] at hum ⊢
      have hy64 : y < 2 ^ 64 := by rw [hy]; exact Nat.mod_lt _ (by decide)
      have h2 := Nat.div_add_mod y (2 ^ s)
      have h3 := Nat.div_add_mod (y / 2 ^ s) 256
      have h4 := Nat.mod_lt y hps
      rw [hum, Nat.add_zero] at h3
      have h5 : y / 2 ^ s < 256 * 2 ^ (56 - s) := by rw [Nat.div_lt_iff_lt_mul hps, Nat.mul_comm, ← e64]; exact hy64
      have h6 : y / 2 ^ s / 256 < 2 ^ (56 - s) := by rw [Nat.div_lt_iff_lt_mul (by decide), Nat.mul_comm]; exact h5
      have h7 : y / 2 ^ s + x < 256 * 2 ^ (56 - s) := by
        have : 256 * (y / 2 ^ s / 256 + 1) ≤ 256 * 2 ^ (56 - s) := Nat.mul_le_mul_left _ h6
        omega
      have h8 : 2 ^ s * (y / 2 ^ s + x + 1) ≤ 2 ^ s * (256 * 2 ^ (56 - s)) := Nat.mul_le_mul_left _ h7
      rw [← e64, Nat.mul_add, Nat.mul_add, Nat.mul_one] at h8
      rw [Nat.mul_comm x]
      omega
    have e : u + x * 2 ^ s = (u % 2 ^ 64 + x * 2 ^ s) + 2 ^ 64 * (u / 2 ^ 64) := by omega
    rw [e]
    exact ⟨by rw [Nat.add_mul_mod_self_left, Nat.mod_eq_of_lt hlt], by rw [Nat.add_mul_div_left _ _ (by decide), Nat.div_eq_of_lt hlt, Nat.zero_add]⟩
  refine ⟨?_, fun i hi => ?_, ?_⟩
  · unfold limR
    rw [e1, hno.1, ← hu]
    omega
  · unfold limR
    congr 1
    rcases Nat.lt_or_gt_of_ne hi with h | h
    · rw [show x * 2 ^ (64 * j + s) = 2 ^ (64 * i) * (2 ^ 64 * (x * 2 ^ (64 * j + s - 64 * i - 64))) by
        rw [show 64 * j + s = 64 * i + (64 + (64 * j + s - 64 * i - 64)) by omega, Nat.pow_add, Nat.pow_add, ← show 64 * j + s = 64 * i + (64 + (64 * j + s - 64 * i - 64)) by omega]; ac_rfl]
      rw [Nat.add_mul_div_left _ _ (Nat.two_pow_pos _), Nat.add_mul_mod_self_left]
    · have e3 : (2 : Nat) ^ (64 * i) = 2 ^ (64 * j) * (2 ^ 64 * 2 ^ (64 * i - 64 * j - 64)) := by rw [← Nat.pow_add, ← Nat.pow_add]; congr 1; omega
      rw [e3, ← Nat.div_div_eq_div_mul, ← Nat.div_div_eq_div_mul, ← Nat.div_div_eq_div_mul, ← Nat.div_div_eq_div_mul, e1, hno.2, ← hu]
  · unfold limR
    rw [Int.toNat_natCast, ← hu]
    exact hum
theorem orb {A : Ar} (hA : A = Ar.real) {w : Int} {x k : Nat} {s : Int} (hw : 0 ≤ w ∧ w < 18446744073709551616) (hs : s = (k : Nat)) (hk : k + 8 ≤ 64) (hx : x < 256) (hl : w.toNat / 2 ^ k % 256 = 0) : A.bin .or .u64 w (A.bin .shl .u64 (x : Int) s) = w + (x * 2 ^ k : Nat) := by
  obtain ⟨v, rfl⟩ : ∃ n : Nat, w = n := ⟨w.toNat, by omega⟩
  rw [Int.toNat_natCast] at hl
  have hx2 : x * 2 ^ k < 18446744073709551616 := by
    have h1 : x * 2 ^ k < 256 * 2 ^ k := Nat.mul_lt_mul_of_pos_right hx (Nat.two_pow_pos _)
    have h2 : 256 * 2 ^ k ≤ 2 ^ 64 := by rw [show (256 : Nat) = 2 ^ 8 from rfl, ← Nat.pow_add]; exact Nat.pow_le_pow_right (by decide) (by omega)
    omega
  rw [hA, hs]
  show rbin .or .u64 (Int.ofNat v) (rbin .shl .u64 (Int.ofNat x) (Int.ofNat k)) = _
  rw [u_shl x k (by omega), Nat.mod_eq_of_lt hx2, u_or v _ (by omega) hx2, or_put hx hk (by omega) hl]
  rfl
/-- Bytes as a row. -/
def IsRowB (cs : List AVal) (bs : Nat → Nat) (n : Nat) : Prop := cs.length = n ∧ (∀ i, i < n → lsub cs (i * 1) 1 = some [.s .u8 (bs i : Nat)]) ∧ ∀ i, bs i < 256
/-- Their number. -/
def numB (bs : Nat → Nat) (n : Nat) : Nat := Vb (fun p => bs (n - 1 - p)) n
end Go.Proofs.Ytlmlganfjnokiaa
