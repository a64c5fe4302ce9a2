import Derived.Test.YtkhipnhdbaahcaaGreatQBSG
import Derived.Test.YtkhipnhdbaahcaaGreatQBF
import Derived.Test.YtkhipnhdbaahcaaGreatQBM
section
set_option linter.unusedVariables false
set_option linter.unusedSimpArgs false
set_option exponentiation.threshold 2000
namespace Dg
/-- Numbers of digits to a base. -/
def V (B : Nat) (o : Nat → Nat) : Nat → Nat
  | 0 => 0
  | n + 1 => V B o n + o n * B ^ n
def upd (o : Nat → Nat) (j v : Nat) : Nat → Nat := fun m => if m = j then v else o m
theorem upd_eq (o : Nat → Nat) (j v : Nat) : upd o j v j = v := if_pos rfl
theorem upd_ne (o : Nat → Nat) (j v m : Nat) (h : m ≠ j) : upd o j v m = o m := if_neg h
section
variable {B : Nat} {o p : Nat → Nat}
theorem V_congr : ∀ n, (∀ j, j < n → o j = p j) → V B o n = V B p n
  | 0, _ => rfl
  | n + 1, h => by rw [V, V, V_congr n (fun j hj => h j (by omega)), h n (by omega)]
theorem V_upd (o : Nat → Nat) (j v : Nat) : ∀ n, j < n → V B (upd o j v) n + o j * B ^ j = V B o n + v * B ^ j
  | 0, h => by omega
  | n + 1, h => by
    rw [V, V]
    by_cases e : j = n
    · subst e
      rw [upd_eq, V_congr (o := upd o j v) (p := o) j (fun m hm => upd_ne _ _ _ _ (by omega))]
      omega
    · rw [upd_ne _ _ _ _ (fun h => e h.symm)]
      have := V_upd o j v n (by omega)
      omega
theorem V_lt : ∀ n, (∀ j, j < n → o j < B) → V B o n < B ^ n
  | 0, _ => by simp [V]
  | n + 1, h => by
    have h1 := V_lt n (fun j hj => h j (by omega))
    have h2 : (o n + 1) * B ^ n ≤ B * B ^ n := Nat.mul_le_mul_right _ (h n (by omega))
    rw [V, Nat.pow_succ, Nat.mul_comm (B ^ n)]
    rw [Nat.add_mul, Nat.one_mul] at h2
    omega
theorem V_dig (hB : 0 < B) : ∀ n, (∀ j, j < n → o j < B) → ∀ j, j < n → V B o n / B ^ j % B = o j
  | 0, _, j, hj => by omega
  | n + 1, h, j, hj => by
    rw [V]
    have hp : 0 < B ^ j := Nat.pow_pos hB
    by_cases e : j = n
    · subst e
      rw [Nat.add_mul_div_right _ _ hp, Nat.div_eq_of_lt (V_lt j (fun i hi => h i (by omega))), Nat.zero_add, Nat.mod_eq_of_lt (h j (by omega))]
    · have ih := V_dig hB n (fun i hi => h i (by omega)) j (by omega)
      rw [show n = j + 1 + (n - j - 1) by omega, Nat.pow_add, Nat.pow_succ, ← show n = j + 1 + (n - j - 1) by omega]
      rw [show o n * (B ^ j * B * B ^ (n - j - 1)) = B ^ j * (B * (o n * B ^ (n - j - 1))) by ac_rfl]
      rw [Nat.add_mul_div_left _ _ hp, Nat.add_mul_mod_self_left]
      exact ih
theorem V_zero {n : Nat} (h : ∀ j, j < n → o j = 0) : V B o n = 0 := by
  induction n with
  | zero => rfl
  | succ n ih => rw [V, ih (fun j hj => h j (by omega)), h n (by omega), Nat.zero_mul]
theorem V_shift (o : Nat → Nat) (n : Nat) : ∀ k, V B o (n + k) = V B o n + B ^ n * V B (fun j => o (n + j)) k
  | 0 => by simp [V]
  | k + 1 => by
    rw [← Nat.add_assoc, V, V_shift o n k, V, Nat.mul_add, Nat.pow_add]
    have : B ^ n * (o (n + k) * B ^ k) = o (n + k) * (B ^ n * B ^ k) := Nat.mul_left_comm _ _ _
    omega
/-- The digits of a number. -/
def dg (B a i : Nat) : Nat := a / B ^ i % B
theorem dg_lt (hB : 0 < B) (a i : Nat) : dg B a i < B := Nat.mod_lt _ hB
theorem V_dg {a : Nat} : ∀ n, V B (dg B a) n = a % B ^ n
  | 0 => by rw [V, Nat.pow_zero, Nat.mod_one]
  | n + 1 => by rw [V, V_dg n, Nat.mod_pow_succ, dg, Nat.mul_comm]
theorem V_of {a n : Nat} (hB : 0 < B) (ha : V B o n = a) (h : ∀ j, j < n → o j < B) {j : Nat} (hj : j < n) : o j = dg B a j := by
  rw [← ha]; exact (V_dig hB n h j hj).symm
/-- From the top the first digit that differs tells which is the greater. -/
theorem V_cmp_lt {n : Nat} (ho : ∀ j, j < n → o j < B) (hp : ∀ j, j < n → p j < B) {i : Nat} (hi : i < n) (he : ∀ j, i < j → j < n → o j = p j) (hl : o i < p i) : V B o n < V B p n := by
  have key : ∀ d, i + 1 + d ≤ n → V B o (i + 1 + d) < V B p (i + 1 + d) := by
    intro d
    induction d with
    | zero =>
      intro h
      show V B o i + o i * B ^ i < V B p i + p i * B ^ i
      have h1 := V_lt (B := B) (o := o) i (fun j hj => ho j (by omega))
      have h2 : (o i + 1) * B ^ i ≤ p i * B ^ i := Nat.mul_le_mul_right _ hl
      rw [Nat.add_mul, Nat.one_mul] at h2
      omega
    | succ d ih =>
      intro h
      show V B o (i + 1 + d) + o (i + 1 + d) * _ < V B p (i + 1 + d) + p (i + 1 + d) * _
      rw [he (i + 1 + d) (by omega) (by omega)]
      exact Nat.add_lt_add_right (ih (by omega)) _
  have := key (n - (i + 1)) (by omega)
  rwa [show i + 1 + (n - (i + 1)) = n by omega] at this
end
end Dg
end
section
set_option linter.unusedVariables false
set_option linter.unusedSimpArgs false
namespace Go.Proofs.YtkhipnhdbaahcaaGreat
open Go Eng
set_option maxRecDepth 100000
set_option exponentiation.threshold 2000
set_option maxHeartbeats 4000000
theorem wbyte_num (x q r : Nat) (hr : r < 8) : x / 2 ^ (64 * q) % 2 ^ 64 / 2 ^ (8 * r) % 256 = x / 2 ^ (8 * (8 * q + r)) % 256 := by
  have e : x / 2 ^ (8 * (8 * q + r)) = x / 2 ^ (64 * q) / 2 ^ (8 * r) := by
    rw [Nat.div_div_eq_div_mul, ← Nat.pow_add]; congr 2; omega
  rw [e]
  generalize x / 2 ^ (64 * q) = y
  rw [show (2 : Nat) ^ 64 = 2 ^ (8 * r) * (256 * 2 ^ (56 - 8 * r)) by rw [show (256 : Nat) = 2 ^ 8 from rfl, ← Nat.pow_add, ← Nat.pow_add]; congr 1; omega, Nat.mod_mul_right_div_self, Nat.mod_mul_right_mod]
theorem wbyte {lim : Lim} (hl : lim = limR) (x q r : Nat) (hr : r < 8) : IntKind.u8.wrap (rbin .shr .u64 (lim x q) ((8 * r : Nat) : Int)) = ((x / 2 ^ (8 * (8 * q + r)) % 256 : Nat) : Int) := by
  subst hl
  unfold limR
  have e : rbin .shr .u64 ((x / 2 ^ (64 * q) % 2 ^ 64 : Nat) : Int) ((8 * r : Nat) : Int) = ((x / 2 ^ (64 * q) % 2 ^ 64 / 2 ^ (8 * r) : Nat) : Int) := u_shr _ (8 * r) (by omega)
  rw [e, wrap_u8, ← wbyte_num x q r hr]
  generalize x / 2 ^ (64 * q) % 2 ^ 64 / 2 ^ (8 * r) = z
  omega
theorem wBytesS {lim : Lim} (hl : lim = limR) (x : Nat) (B : Nat → Int) (hB : ∀ j, j < 32 → B j = ((x / 2 ^ (8 * (31 - j)) % 256 : Nat) : Int)) : Sp 74 [u4 lim x] (.agg [.s .u8 (B 0), .s .u8 (B 1), .s .u8 (B 2), .s .u8 (B 3), .s .u8 (B 4), .s .u8 (B 5), .s .u8 (B 6), .s .u8 (B 7), .s .u8 (B 8), .s .u8 (B 9), .s .u8 (B 10), .s .u8 (B 11), .s .u8 (B 12), .s .u8 (B 13), .s .u8 (B 14), .s .u8 (B 15), .s .u8 (B 16), .s .u8 (B 17), .s .u8 (B 18), .s .u8 (B 19), .s .u8 (B 20), .s .u8 (B 21), .s .u8 (B 22), .s .u8 (B 23), .s .u8 (B 24), .s .u8 (B 25), .s .u8 (B 26), .s .u8 (B 27), .s .u8 (B 28), .s .u8 (B 29), .s .u8 (B 30), .s .u8 (B 31)]) := by
  have b0 : IntKind.u8.wrap (rbin .shr .u64 (lim x 0) 0) = B 31 := by rw [hB 31 (by decide)]; exact wbyte hl x 0 0 (by decide)
  have b1 : IntKind.u8.wrap (rbin .shr .u64 (lim x 0) 8) = B 30 := by rw [hB 30 (by decide)]; exact wbyte hl x 0 1 (by decide)
  have b2 : IntKind.u8.wrap (rbin .shr .u64 (lim x 0) 16) = B 29 := by rw [hB 29 (by decide)]; exact wbyte hl x 0 2 (by decide)
  have b3 : IntKind.u8.wrap (rbin .shr .u64 (lim x 0) 24) = B 28 := by rw [hB 28 (by decide)]; exact wbyte hl x 0 3 (by decide)
  have b4 : IntKind.u8.wrap (rbin .shr .u64 (lim x 0) 32) = B 27 := by rw [hB 27 (by decide)]; exact wbyte hl x 0 4 (by decide)
  have b5 : IntKind.u8.wrap (rbin .shr .u64 (lim x 0) 40) = B 26 := by rw [hB 26 (by decide)]; exact wbyte hl x 0 5 (by decide)
  have b6 : IntKind.u8.wrap (rbin .shr .u64 (lim x 0) 48) = B 25 := by rw [hB 25 (by decide)]; exact wbyte hl x 0 6 (by decide)
  have b7 : IntKind.u8.wrap (rbin .shr .u64 (lim x 0) 56) = B 24 := by rw [hB 24 (by decide)]; exact wbyte hl x 0 7 (by decide)
  have b8 : IntKind.u8.wrap (rbin .shr .u64 (lim x 1) 0) = B 23 := by rw [hB 23 (by decide)]; exact wbyte hl x 1 0 (by decide)
  have b9 : IntKind.u8.wrap (rbin .shr .u64 (lim x 1) 8) = B 22 := by rw [hB 22 (by decide)]; exact wbyte hl x 1 1 (by decide)
  have b10 : IntKind.u8.wrap (rbin .shr .u64 (lim x 1) 16) = B 21 := by rw [hB 21 (by decide)]; exact wbyte hl x 1 2 (by decide)
  have b11 : IntKind.u8.wrap (rbin .shr .u64 (lim x 1) 24) = B 20 := by rw [hB 20 (by decide)]; exact wbyte hl x 1 3 (by decide)
  have b12 : IntKind.u8.wrap (rbin .shr .u64 (lim x 1) 32) = B 19 := by rw [hB 19 (by decide)]; exact wbyte hl x 1 4 (by decide)
  have b13 : IntKind.u8.wrap (rbin .shr .u64 (lim x 1) 40) = B 18 := by rw [hB 18 (by decide)]; exact wbyte hl x 1 5 (by decide)
  have b14 : IntKind.u8.wrap (rbin .shr .u64 (lim x 1) 48) = B 17 := by rw [hB 17 (by decide)]; exact wbyte hl x 1 6 (by decide)
  have b15 : IntKind.u8.wrap (rbin .shr .u64 (lim x 1) 56) = B 16 := by rw [hB 16 (by decide)]; exact wbyte hl x 1 7 (by decide)
  have b16 : IntKind.u8.wrap (rbin .shr .u64 (lim x 2) 0) = B 15 := by rw [hB 15 (by decide)]; exact wbyte hl x 2 0 (by decide)
  have b17 : IntKind.u8.wrap (rbin .shr .u64 (lim x 2) 8) = B 14 := by rw [hB 14 (by decide)]; exact wbyte hl x 2 1 (by decide)
  have b18 : IntKind.u8.wrap (rbin .shr .u64 (lim x 2) 16) = B 13 := by rw [hB 13 (by decide)]; exact wbyte hl x 2 2 (by decide)
  have b19 : IntKind.u8.wrap (rbin .shr .u64 (lim x 2) 24) = B 12 := by rw [hB 12 (by decide)]; exact wbyte hl x 2 3 (by decide)
  have b20 : IntKind.u8.wrap (rbin .shr .u64 (lim x 2) 32) = B 11 := by rw [hB 11 (by decide)]; exact wbyte hl x 2 4 (by decide)
  have b21 : IntKind.u8.wrap (rbin .shr .u64 (lim x 2) 40) = B 10 := by rw [hB 10 (by decide)]; exact wbyte hl x 2 5 (by decide)
  have b22 : IntKind.u8.wrap (rbin .shr .u64 (lim x 2) 48) = B 9 := by rw [hB 9 (by decide)]; exact wbyte hl x 2 6 (by decide)
  have b23 : IntKind.u8.wrap (rbin .shr .u64 (lim x 2) 56) = B 8 := by rw [hB 8 (by decide)]; exact wbyte hl x 2 7 (by decide)
  have b24 : IntKind.u8.wrap (rbin .shr .u64 (lim x 3) 0) = B 7 := by rw [hB 7 (by decide)]; exact wbyte hl x 3 0 (by decide)
  have b25 : IntKind.u8.wrap (rbin .shr .u64 (lim x 3) 8) = B 6 := by rw [hB 6 (by decide)]; exact wbyte hl x 3 1 (by decide)
  have b26 : IntKind.u8.wrap (rbin .shr .u64 (lim x 3) 16) = B 5 := by rw [hB 5 (by decide)]; exact wbyte hl x 3 2 (by decide)
  have b27 : IntKind.u8.wrap (rbin .shr .u64 (lim x 3) 24) = B 4 := by rw [hB 4 (by decide)]; exact wbyte hl x 3 3 (by decide)
  have b28 : IntKind.u8.wrap (rbin .shr .u64 (lim x 3) 32) = B 3 := by rw [hB 3 (by decide)]; exact wbyte hl x 3 4 (by decide)
  have b29 : IntKind.u8.wrap (rbin .shr .u64 (lim x 3) 40) = B 2 := by rw [hB 2 (by decide)]; exact wbyte hl x 3 5 (by decide)
  have b30 : IntKind.u8.wrap (rbin .shr .u64 (lim x 3) 48) = B 1 := by rw [hB 1 (by decide)]; exact wbyte hl x 3 6 (by decide)
  have b31 : IntKind.u8.wrap (rbin .shr .u64 (lim x 3) 56) = B 0 := by rw [hB 0 (by decide)]; exact wbyte hl x 3 7 (by decide)
  clear hB
  refine mk Tryz.func74 rfl rfl (fun _ => 40) R0 (by decide +kernel) fun A S hA hS => ?_
  have b0 : A.wrap .u8 (A.bin .shr .u64 (lim x 0) 0) = B 31 := by rw [hA]; exact b0
  have b1 : A.wrap .u8 (A.bin .shr .u64 (lim x 0) 8) = B 30 := by rw [hA]; exact b1
  have b2 : A.wrap .u8 (A.bin .shr .u64 (lim x 0) 16) = B 29 := by rw [hA]; exact b2
  have b3 : A.wrap .u8 (A.bin .shr .u64 (lim x 0) 24) = B 28 := by rw [hA]; exact b3
  have b4 : A.wrap .u8 (A.bin .shr .u64 (lim x 0) 32) = B 27 := by rw [hA]; exact b4
  have b5 : A.wrap .u8 (A.bin .shr .u64 (lim x 0) 40) = B 26 := by rw [hA]; exact b5
  have b6 : A.wrap .u8 (A.bin .shr .u64 (lim x 0) 48) = B 25 := by rw [hA]; exact b6
  have b7 : A.wrap .u8 (A.bin .shr .u64 (lim x 0) 56) = B 24 := by rw [hA]; exact b7
  have b8 : A.wrap .u8 (A.bin .shr .u64 (lim x 1) 0) = B 23 := by rw [hA]; exact b8
  have b9 : A.wrap .u8 (A.bin .shr .u64 (lim x 1) 8) = B 22 := by rw [hA]; exact b9
  have b10 : A.wrap .u8 (A.bin .shr .u64 (lim x 1) 16) = B 21 := by rw [hA]; exact b10
  have b11 : A.wrap .u8 (A.bin .shr .u64 (lim x 1) 24) = B 20 := by rw [hA]; exact b11
  have b12 : A.wrap .u8 (A.bin .shr .u64 (lim x 1) 32) = B 19 := by rw [hA]; exact b12
  have b13 : A.wrap .u8 (A.bin .shr .u64 (lim x 1) 40) = B 18 := by rw [hA]; exact b13
  have b14 : A.wrap .u8 (A.bin .shr .u64 (lim x 1) 48) = B 17 := by rw [hA]; exact b14
  have b15 : A.wrap .u8 (A.bin .shr .u64 (lim x 1) 56) = B 16 := by rw [hA]; exact b15
  have b16 : A.wrap .u8 (A.bin .shr .u64 (lim x 2) 0) = B 15 := by rw [hA]; exact b16
  have b17 : A.wrap .u8 (A.bin .shr .u64 (lim x 2) 8) = B 14 := by rw [hA]; exact b17
  have b18 : A.wrap .u8 (A.bin .shr .u64 (lim x 2) 16) = B 13 := by rw [hA]; exact b18
  have b19 : A.wrap .u8 (A.bin .shr .u64 (lim x 2) 24) = B 12 := by rw [hA]; exact b19
  have b20 : A.wrap .u8 (A.bin .shr .u64 (lim x 2) 32) = B 11 := by rw [hA]; exact b20
  have b21 : A.wrap .u8 (A.bin .shr .u64 (lim x 2) 40) = B 10 := by rw [hA]; exact b21
  have b22 : A.wrap .u8 (A.bin .shr .u64 (lim x 2) 48) = B 9 := by rw [hA]; exact b22
  have b23 : A.wrap .u8 (A.bin .shr .u64 (lim x 2) 56) = B 8 := by rw [hA]; exact b23
  have b24 : A.wrap .u8 (A.bin .shr .u64 (lim x 3) 0) = B 7 := by rw [hA]; exact b24
  have b25 : A.wrap .u8 (A.bin .shr .u64 (lim x 3) 8) = B 6 := by rw [hA]; exact b25
  have b26 : A.wrap .u8 (A.bin .shr .u64 (lim x 3) 16) = B 5 := by rw [hA]; exact b26
  have b27 : A.wrap .u8 (A.bin .shr .u64 (lim x 3) 24) = B 4 := by rw [hA]; exact b27
  have b28 : A.wrap .u8 (A.bin .shr .u64 (lim x 3) 32) = B 3 := by rw [hA]; exact b28
  have b29 : A.wrap .u8 (A.bin .shr .u64 (lim x 3) 40) = B 2 := by rw [hA]; exact b29
  have b30 : A.wrap .u8 (A.bin .shr .u64 (lim x 3) 48) = B 1 := by rw [hA]; exact b30
  have b31 : A.wrap .u8 (A.bin .shr .u64 (lim x 3) 56) = B 0 := by rw [hA]; exact b31
  unfold bodyOf Tryz.f74
  cbv
  repeat' (first | exact b0 | exact b1 | exact b2 | exact b3 | exact b4 | exact b5 | exact b6 | exact b7 | exact b8 | exact b9 | exact b10 | exact b11 | exact b12 | exact b13 | exact b14 | exact b15 | exact b16 | exact b17 | exact b18 | exact b19 | exact b20 | exact b21 | exact b22 | exact b23 | exact b24 | exact b25 | exact b26 | exact b27 | exact b28 | exact b29 | exact b30 | exact b31 | exact trivial | exact rfl | constructor)
theorem or_shl {a b r : Nat} (ha : a < 2 ^ (8 * r)) (hb : b < 256) (hr : r < 8) : rbin .or .u64 (a : Int) (rbin .shl .u64 (IntKind.u64.wrap (b : Int)) ((8 * r : Nat) : Int)) = ((a + 2 ^ (8 * r) * b : Nat) : Int) := by
  have hp : 2 ^ (8 * r) * b < 18446744073709551616 := by
    have h1 : 2 ^ (8 * r) * b < 2 ^ (8 * r) * 256 := Nat.mul_lt_mul_of_pos_left hb (Nat.two_pow_pos _)
    have h2 : (2 : Nat) ^ (8 * r) * 256 ≤ 2 ^ 64 := by
      rw [show (256 : Nat) = 2 ^ 8 from rfl, ← Nat.pow_add]; exact Nat.pow_le_pow_right (by decide) (by omega)
    have : (2 : Nat) ^ 64 = 18446744073709551616 := by decide
    omega
  have e1 : IntKind.u64.wrap (b : Int) = (b : Int) := by rw [wrap_u64]; omega
  rw [e1]
  have e2 : rbin .shl .u64 (b : Int) ((8 * r : Nat) : Int) = ((2 ^ (8 * r) * b : Nat) : Int) := (u_shl b (8 * r) (by omega)).trans (congrArg Int.ofNat (by rw [Nat.mul_comm]; exact Nat.mod_eq_of_lt hp))
  rw [e2]
  exact u_or_add a b (8 * r) ha hp (by omega)
theorem V_bound {d : Nat → Nat} (hd : ∀ j, d j < 256) (n : Nat) : Dg.V 256 d n < 2 ^ (8 * n) := by
  have := Dg.V_lt (B := 256) (o := d) n (fun j _ => hd j)
  rwa [show (256 : Nat) = 2 ^ 8 from rfl, ← Nat.pow_mul] at this
theorem V_next (d : Nat → Nat) (n : Nat) : Dg.V 256 d n + 2 ^ (8 * n) * d n = Dg.V 256 d (n + 1) := by
  show _ = Dg.V 256 d n + d n * 256 ^ n
  rw [show (256 : Nat) ^ n = 2 ^ (8 * n) by rw [show (256 : Nat) = 2 ^ 8 from rfl, ← Nat.pow_mul], Nat.mul_comm]
theorem word8 (d : Nat → Nat) (hd : ∀ j, d j < 256) : rbin .or .u64 (rbin .or .u64 (rbin .or .u64 (rbin .or .u64 (rbin .or .u64 (rbin .or .u64 (rbin .or .u64 (rbin .or .u64 0 (rbin .shl .u64 (IntKind.u64.wrap (((d 0 : Nat) : Int))) 0)) (rbin .shl .u64 (IntKind.u64.wrap (((d 1 : Nat) : Int))) 8)) (rbin .shl .u64 (IntKind.u64.wrap (((d 2 : Nat) : Int))) 16)) (rbin .shl .u64 (IntKind.u64.wrap (((d 3 : Nat) : Int))) 24)) (rbin .shl .u64 (IntKind.u64.wrap (((d 4 : Nat) : Int))) 32)) (rbin .shl .u64 (IntKind.u64.wrap (((d 5 : Nat) : Int))) 40)) (rbin .shl .u64 (IntKind.u64.wrap (((d 6 : Nat) : Int))) 48)) (rbin .shl .u64 (IntKind.u64.wrap (((d 7 : Nat) : Int))) 56) = ((Dg.V 256 d 8 : Nat) : Int) := by
  have s0 : rbin .or .u64 ((Dg.V 256 d 0 : Nat) : Int) (rbin .shl .u64 (IntKind.u64.wrap ((d 0 : Nat) : Int)) 0) = ((Dg.V 256 d 1 : Nat) : Int) := by rw [← V_next d 0]; exact or_shl (r := 0) (V_bound hd 0) (hd 0) (by decide)
  have s1 : rbin .or .u64 ((Dg.V 256 d 1 : Nat) : Int) (rbin .shl .u64 (IntKind.u64.wrap ((d 1 : Nat) : Int)) 8) = ((Dg.V 256 d 2 : Nat) : Int) := by rw [← V_next d 1]; exact or_shl (r := 1) (V_bound hd 1) (hd 1) (by decide)
  have s2 : rbin .or .u64 ((Dg.V 256 d 2 : Nat) : Int) (rbin .shl .u64 (IntKind.u64.wrap ((d 2 : Nat) : Int)) 16) = ((Dg.V 256 d 3 : Nat) : Int) := by rw [← V_next d 2]; exact or_shl (r := 2) (V_bound hd 2) (hd 2) (by decide)
  have s3 : rbin .or .u64 ((Dg.V 256 d 3 : Nat) : Int) (rbin .shl .u64 (IntKind.u64.wrap ((d 3 : Nat) : Int)) 24) = ((Dg.V 256 d 4 : Nat) : Int) := by rw [← V_next d 3]; exact or_shl (r := 3) (V_bound hd 3) (hd 3) (by decide)
  have s4 : rbin .or .u64 ((Dg.V 256 d 4 : Nat) : Int) (rbin .shl .u64 (IntKind.u64.wrap ((d 4 : Nat) : Int)) 32) = ((Dg.V 256 d 5 : Nat) : Int) := by rw [← V_next d 4]; exact or_shl (r := 4) (V_bound hd 4) (hd 4) (by decide)
  have s5 : rbin .or .u64 ((Dg.V 256 d 5 : Nat) : Int) (rbin .shl .u64 (IntKind.u64.wrap ((d 5 : Nat) : Int)) 40) = ((Dg.V 256 d 6 : Nat) : Int) := by rw [← V_next d 5]; exact or_shl (r := 5) (V_bound hd 5) (hd 5) (by decide)
  have s6 : rbin .or .u64 ((Dg.V 256 d 6 : Nat) : Int) (rbin .shl .u64 (IntKind.u64.wrap ((d 6 : Nat) : Int)) 48) = ((Dg.V 256 d 7 : Nat) : Int) := by rw [← V_next d 6]; exact or_shl (r := 6) (V_bound hd 6) (hd 6) (by decide)
  have s7 : rbin .or .u64 ((Dg.V 256 d 7 : Nat) : Int) (rbin .shl .u64 (IntKind.u64.wrap ((d 7 : Nat) : Int)) 56) = ((Dg.V 256 d 8 : Nat) : Int) := by rw [← V_next d 7]; exact or_shl (r := 7) (V_bound hd 7) (hd 7) (by decide)
  have s0 : rbin .or .u64 0 (rbin .shl .u64 (IntKind.u64.wrap ((d 0 : Nat) : Int)) 0) = ((Dg.V 256 d 1 : Nat) : Int) := s0
  rw [s0, s1, s2, s3, s4, s5, s6, s7]
/-- The number of 32 bytes, the highest ahead. -/
def rdN (h : Nat → Nat) : Nat := Dg.V 256 (fun i => h (31 - i)) 32
theorem V_mid {d : Nat → Nat} (hd : ∀ j, d j < 256) (q : Nat) (hq : q < 4) : limR (Dg.V 256 d 32) q = ((Dg.V 256 (fun j => d (8 * q + j)) 8 : Nat) : Int) := by
  unfold limR
  congr 1
  have h256 : ∀ n, (256 : Nat) ^ n = 2 ^ (8 * n) := fun n => by rw [show (256 : Nat) = 2 ^ 8 from rfl, ← Nat.pow_mul]
  have e1 : Dg.V 256 d 32 = Dg.V 256 d (8 * q) + 2 ^ (64 * q) * Dg.V 256 (fun j => d (8 * q + j)) (32 - 8 * q) := by
    have := Dg.V_shift (B := 256) d (8 * q) (32 - 8 * q)
    rw [show 8 * q + (32 - 8 * q) = 32 by omega, h256, show 8 * (8 * q) = 64 * q by omega] at this
    exact this
  have e2 : Dg.V 256 (fun j => d (8 * q + j)) (32 - 8 * q) = Dg.V 256 (fun j => d (8 * q + j)) 8 + 2 ^ 64 * Dg.V 256 (fun j => d (8 * q + (8 + j))) (24 - 8 * q) := by
    have := Dg.V_shift (B := 256) (fun j => d (8 * q + j)) 8 (24 - 8 * q)
    rw [show 8 + (24 - 8 * q) = 32 - 8 * q by omega, h256] at this
    exact this
  have l1 := V_bound hd (8 * q)
  rw [show 8 * (8 * q) = 64 * q by omega] at l1
  have l2 := V_bound (d := fun j => d (8 * q + j)) (fun j => hd _) 8
  rw [e1, Nat.add_mul_div_left _ _ (Nat.two_pow_pos _), Nat.div_eq_of_lt l1, Nat.zero_add, e2, Nat.add_mul_mod_self_left, Nat.mod_eq_of_lt l2]
theorem rd_word {h : Nat → Nat} (hh : ∀ j, h j < 256) (q : Nat) (hq : q < 4) : limR (rdN h) q = ((Dg.V 256 (fun j => h (31 - (8 * q + j))) 8 : Nat) : Int) := V_mid (d := fun i => h (31 - i)) (fun j => hh _) q hq
theorem rdN_lt {h : Nat → Nat} (hh : ∀ j, h j < 256) : rdN h < 2 ^ 256 := V_bound (d := fun i => h (31 - i)) (fun j => hh _) 32
theorem wReadS {lim : Lim} (hl : lim = limR) (h : Nat → Nat) (hh : ∀ j, h j < 256) (F : Nat → Int) (hF : F = fun j => ((h j : Nat) : Int)) : Sp 126 [.lst false 32 [.s .u8 (F 0), .s .u8 (F 1), .s .u8 (F 2), .s .u8 (F 3), .s .u8 (F 4), .s .u8 (F 5), .s .u8 (F 6), .s .u8 (F 7), .s .u8 (F 8), .s .u8 (F 9), .s .u8 (F 10), .s .u8 (F 11), .s .u8 (F 12), .s .u8 (F 13), .s .u8 (F 14), .s .u8 (F 15), .s .u8 (F 16), .s .u8 (F 17), .s .u8 (F 18), .s .u8 (F 19), .s .u8 (F 20), .s .u8 (F 21), .s .u8 (F 22), .s .u8 (F 23), .s .u8 (F 24), .s .u8 (F 25), .s .u8 (F 26), .s .u8 (F 27), .s .u8 (F 28), .s .u8 (F 29), .s .u8 (F 30), .s .u8 (F 31)]] (.tup [u4 lim (rdN h), .i .i64 0]) := by
  have e0 := word8 (fun j => h (31 - (8 * 0 + j))) (fun j => hh _)
  rw [← rd_word hh 0 (by decide), ← hl] at e0
  have w0 : rbin .or .u64 (rbin .or .u64 (rbin .or .u64 (rbin .or .u64 (rbin .or .u64 (rbin .or .u64 (rbin .or .u64 (rbin .or .u64 0 (rbin .shl .u64 (IntKind.u64.wrap (F 31)) 0)) (rbin .shl .u64 (IntKind.u64.wrap (F 30)) 8)) (rbin .shl .u64 (IntKind.u64.wrap (F 29)) 16)) (rbin .shl .u64 (IntKind.u64.wrap (F 28)) 24)) (rbin .shl .u64 (IntKind.u64.wrap (F 27)) 32)) (rbin .shl .u64 (IntKind.u64.wrap (F 26)) 40)) (rbin .shl .u64 (IntKind.u64.wrap (F 25)) 48)) (rbin .shl .u64 (IntKind.u64.wrap (F 24)) 56) = lim (rdN h) 0 := by
    rw [hF]
    generalize lim (rdN h) 0 = z at *
    exact e0
  have e1 := word8 (fun j => h (31 - (8 * 1 + j))) (fun j => hh _)
  rw [← rd_word hh 1 (by decide), ← hl] at e1
  have w1 : rbin .or .u64 (rbin .or .u64 (rbin .or .u64 (rbin .or .u64 (rbin .or .u64 (rbin .or .u64 (rbin .or .u64 (rbin .or .u64 0 (rbin .shl .u64 (IntKind.u64.wrap (F 23)) 0)) (rbin .shl .u64 (IntKind.u64.wrap (F 22)) 8)) (rbin .shl .u64 (IntKind.u64.wrap (F 21)) 16)) (rbin .shl .u64 (IntKind.u64.wrap (F 20)) 24)) (rbin .shl .u64 (IntKind.u64.wrap (F 19)) 32)) (rbin .shl .u64 (IntKind.u64.wrap (F 18)) 40)) (rbin .shl .u64 (IntKind.u64.wrap (F 17)) 48)) (rbin .shl .u64 (IntKind.u64.wrap (F 16)) 56) = lim (rdN h) 1 := by
    rw [hF]
    generalize lim (rdN h) 1 = z at *
    exact e1
  have e2 := word8 (fun j => h (31 - (8 * 2 + j))) (fun j => hh _)
  rw [← rd_word hh 2 (by decide), ← hl] at e2
  have w2 : rbin .or .u64 (rbin .or .u64 (rbin .or .u64 (rbin .or .u64 (rbin .or .u64 (rbin .or .u64 (rbin .or .u64 (rbin .or .u64 0 (rbin .shl .u64 (IntKind.u64.wrap (F 15)) 0)) (rbin .shl .u64 (IntKind.u64.wrap (F 14)) 8)) (rbin .shl .u64 (IntKind.u64.wrap (F 13)) 16)) (rbin .shl .u64 (IntKind.u64.wrap (F 12)) 24)) (rbin .shl .u64 (IntKind.u64.wrap (F 11)) 32)) (rbin .shl .u64 (IntKind.u64.wrap (F 10)) 40)) (rbin .shl .u64 (IntKind.u64.wrap (F 9)) 48)) (rbin .shl .u64 (IntKind.u64.wrap (F 8)) 56) = lim (rdN h) 2 := by
    rw [hF]
    generalize lim (rdN h) 2 = z at *
    exact e2
  have e3 := word8 (fun j => h (31 - (8 * 3 + j))) (fun j => hh _)
  rw [← rd_word hh 3 (by decide), ← hl] at e3
  have w3 : rbin .or .u64 (rbin .or .u64 (rbin .or .u64 (rbin .or .u64 (rbin .or .u64 (rbin .or .u64 (rbin .or .u64 (rbin .or .u64 0 (rbin .shl .u64 (IntKind.u64.wrap (F 7)) 0)) (rbin .shl .u64 (IntKind.u64.wrap (F 6)) 8)) (rbin .shl .u64 (IntKind.u64.wrap (F 5)) 16)) (rbin .shl .u64 (IntKind.u64.wrap (F 4)) 24)) (rbin .shl .u64 (IntKind.u64.wrap (F 3)) 32)) (rbin .shl .u64 (IntKind.u64.wrap (F 2)) 40)) (rbin .shl .u64 (IntKind.u64.wrap (F 1)) 48)) (rbin .shl .u64 (IntKind.u64.wrap (F 0)) 56) = lim (rdN h) 3 := by
    rw [hF]
    generalize lim (rdN h) 3 = z at *
    exact e3
  clear e0 e1 e2 e3
  clear hF hh
  generalize rdN h = v at *
  refine mk Tryz.func126 rfl rfl (fun _ => 40) R0 (by decide +kernel) fun A S hA hS => ?_
  have w0 : A.bin .or .u64 (A.bin .or .u64 (A.bin .or .u64 (A.bin .or .u64 (A.bin .or .u64 (A.bin .or .u64 (A.bin .or .u64 (A.bin .or .u64 0 (A.bin .shl .u64 (A.wrap .u64 (F 31)) 0)) (A.bin .shl .u64 (A.wrap .u64 (F 30)) 8)) (A.bin .shl .u64 (A.wrap .u64 (F 29)) 16)) (A.bin .shl .u64 (A.wrap .u64 (F 28)) 24)) (A.bin .shl .u64 (A.wrap .u64 (F 27)) 32)) (A.bin .shl .u64 (A.wrap .u64 (F 26)) 40)) (A.bin .shl .u64 (A.wrap .u64 (F 25)) 48)) (A.bin .shl .u64 (A.wrap .u64 (F 24)) 56) = lim v 0 := by rw [hA]; exact w0
  have w1 : A.bin .or .u64 (A.bin .or .u64 (A.bin .or .u64 (A.bin .or .u64 (A.bin .or .u64 (A.bin .or .u64 (A.bin .or .u64 (A.bin .or .u64 0 (A.bin .shl .u64 (A.wrap .u64 (F 23)) 0)) (A.bin .shl .u64 (A.wrap .u64 (F 22)) 8)) (A.bin .shl .u64 (A.wrap .u64 (F 21)) 16)) (A.bin .shl .u64 (A.wrap .u64 (F 20)) 24)) (A.bin .shl .u64 (A.wrap .u64 (F 19)) 32)) (A.bin .shl .u64 (A.wrap .u64 (F 18)) 40)) (A.bin .shl .u64 (A.wrap .u64 (F 17)) 48)) (A.bin .shl .u64 (A.wrap .u64 (F 16)) 56) = lim v 1 := by rw [hA]; exact w1
  have w2 : A.bin .or .u64 (A.bin .or .u64 (A.bin .or .u64 (A.bin .or .u64 (A.bin .or .u64 (A.bin .or .u64 (A.bin .or .u64 (A.bin .or .u64 0 (A.bin .shl .u64 (A.wrap .u64 (F 15)) 0)) (A.bin .shl .u64 (A.wrap .u64 (F 14)) 8)) (A.bin .shl .u64 (A.wrap .u64 (F 13)) 16)) (A.bin .shl .u64 (A.wrap .u64 (F 12)) 24)) (A.bin .shl .u64 (A.wrap .u64 (F 11)) 32)) (A.bin .shl .u64 (A.wrap .u64 (F 10)) 40)) (A.bin .shl .u64 (A.wrap .u64 (F 9)) 48)) (A.bin .shl .u64 (A.wrap .u64 (F 8)) 56) = lim v 2 := by rw [hA]; exact w2
  have w3 : A.bin .or .u64 (A.bin .or .u64 (A.bin .or .u64 (A.bin .or .u64 (A.bin .or .u64 (A.bin .or .u64 (A.bin .or .u64 (A.bin .or .u64 0 (A.bin .shl .u64 (A.wrap .u64 (F 7)) 0)) (A.bin .shl .u64 (A.wrap .u64 (F 6)) 8)) (A.bin .shl .u64 (A.wrap .u64 (F 5)) 16)) (A.bin .shl .u64 (A.wrap .u64 (F 4)) 24)) (A.bin .shl .u64 (A.wrap .u64 (F 3)) 32)) (A.bin .shl .u64 (A.wrap .u64 (F 2)) 40)) (A.bin .shl .u64 (A.wrap .u64 (F 1)) 48)) (A.bin .shl .u64 (A.wrap .u64 (F 0)) 56) = lim v 3 := by rw [hA]; exact w3
  unfold bodyOf Tryz.f126
  cbv
  repeat' (first | exact w0 | exact w1 | exact w2 | exact w3 | exact trivial | exact rfl | constructor)
end Go.Proofs.YtkhipnhdbaahcaaGreat
end
section
set_option linter.unusedVariables false
set_option linter.unusedSectionVars false
set_option linter.unusedSimpArgs false
namespace Go.Proofs.YtkhipnhdbaahcaaGreat
open Go Eng
set_option maxRecDepth 100000
set_option exponentiation.threshold 2000
set_option maxHeartbeats 4000000
theorem pow_realS (m a e : Nat) : H5.real.pow m a e = a ^ e % m := rfl
def rtS (c : Fin Sk.pS) : Fin Sk.pS := ⟨c.val ^ ((Sk.pS + 1) / 4) % Sk.pS, Nat.mod_lt _ (by decide)⟩
/-- Of an element: what Root answers. -/
def RootK (H : H5) (k : Kf Sk.pS) (r : List AVal) : Prop := ∀ c y : Fin Sk.pS, y = rtS c →
  (y * y = c → Sp 50 [.ref r 0, Ef k c] (.tup [Ef k y, .b true])) ∧ (y * y ≠ c → Sp 50 [.ref r 0, Ef k c] (.tup [u4 H.lim 0, .b false]))
theorem rootK (H : H5) (hH : H = H5.real) : RootK H (Kof H Sk.pS) (R4 H Sk.pS) := by
  intro c y hy
  have e1 : y.val = H.pow Sk.pS c.val ((Sk.pS + 1) / 4) := by rw [hH, pow_realS, hy]; rfl
  have h := RootS4 hH prP.toMod c.isLt y.val e1
  have e2 : H.mul Sk.pS y.val y.val = (y * y).val := by rw [hH]; exact (Fin.val_mul y y).symm
  rw [e2] at h
  exact ⟨fun e => h.1 (congrArg Fin.val e), fun e => h.2 fun e' => e (Fin.ext e')⟩
def cvS (x : Nat) : Fin Sk.pS := Sk.fs x * Sk.fs x * Sk.fs x + Sk.fs 7
theorem odd_b {A : Ar} (hA : A = Ar.real) {v : Int} {y : Nat} (hv : v = limR y 0) : A.wrap .i64 (A.bin .and .u64 v 1) = ((y % 2 : Nat) : Int) := by
  have e : v = ((y / 2 ^ (64 * 0) % 2 ^ 64 : Nat) : Int) := hv
  rw [Nat.mul_zero, Nat.pow_zero, Nat.div_one] at e
  have b := u_bit hA (x := v) (k := 0) (b := 0) (by rw [e]; omega) rfl (by decide)
  rw [hA] at b ⊢
  have s0 : rbin .shr .u64 v 0 = v := by
    rw [e]
    exact (u_shr _ 0 (by omega)).trans (by rw [Nat.pow_zero, Nat.div_one]; rfl)
  have b2 : rbin .and .u64 (rbin .shr .u64 v 0) 1 = ((v.toNat / 2 ^ 0 % 2 : Nat) : Int) := b
  rw [s0, e, Int.toNat_natCast, Nat.pow_zero, Nat.div_one] at b2
  show IntKind.i64.wrap (rbin .and .u64 v 1) = _
  rw [e, b2]
  have e3 : y % 2 ^ 64 % 2 = y % 2 := by omega
  rw [e3]
  rcases (by omega : y % 2 = 0 ∨ y % 2 = 1) with h | h <;> rw [h] <;> rfl
section
variable {H : H5} {k : Kf Sk.pS} {r : List AVal} {kn : Kf Sk.nS} {rn : List AVal} {m n : Nat} (hs : Sec H k r kn rn m n) (hr : RootK H k r)
include hs
theorem Sec.inN {x : Nat} (h : x < Sk.nS) : Sp 52 [.ref rn 0, u4 H.lim x] (Ef kn (Sk.nf x)) := by
  have c := hs.okn.inn (Sk.nf x)
  have e : (Sk.nf x).val = x := Nat.mod_eq_of_lt h
  unfold Uf at c
  rw [hs.un, hs.un, hs.un, hs.un, e] at c
  exact c
theorem Sec.number (h : Nat → Nat) (hh : ∀ j, h j < 256) (F : Nat → Int) (hF : F = fun j => ((h j : Nat) : Int)) : Sp 85 [.agg [.s .u8 (F 0), .s .u8 (F 1), .s .u8 (F 2), .s .u8 (F 3), .s .u8 (F 4), .s .u8 (F 5), .s .u8 (F 6), .s .u8 (F 7), .s .u8 (F 8), .s .u8 (F 9), .s .u8 (F 10), .s .u8 (F 11), .s .u8 (F 12), .s .u8 (F 13), .s .u8 (F 14), .s .u8 (F 15), .s .u8 (F 16), .s .u8 (F 17), .s .u8 (F 18), .s .u8 (F 19), .s .u8 (F 20), .s .u8 (F 21), .s .u8 (F 22), .s .u8 (F 23), .s .u8 (F 24), .s .u8 (F 25), .s .u8 (F 26), .s .u8 (F 27), .s .u8 (F 28), .s .u8 (F 29), .s .u8 (F 30), .s .u8 (F 31)]] (u4 H.lim (rdN h % Sk.nS)) := by
  have hl := H5.hlim hs.hH
  have cr := wReadS hl h hh F hF
  have sn := hs.sn
  have cm_ := modS hl (rdN h) n (rdN_lt hh) (by rw [hs.hn]; exact topN)
  have e : rdN h % n = rdN h % Sk.nS := by rw [hs.hn]
  rw [← e]
  clear e
  generalize rdN h % n = z at *
  generalize rdN h = v at *
  clear hF
  refine mk Tryz.func85 rfl rfl L0 R1 (by decide +kernel) fun A S hA hS => ?_
  unfold bodyOf Tryz.f85
  cbv
  refine ACall.mk _ (cf hS cr) ?_
  cbv
  refine ACall.mk _ (cf hS sn) ?_
  cbv
  refine ACall.mk _ (cf hS cm_) ?_
  cbv
theorem Sec.sum (a b : Nat) (ha : a < 2 ^ 256) (hb : b < 2 ^ 256) (P : Cv.Pt (Fin Sk.pS)) (hP : onS P) : Sp 84 [u4 H.lim a, u4 H.lim b, Pf k P] (Pf k (Cv.sumR Sk.O (Gp.mn Sk.O Sk.G a) (Gp.mn Sk.O P b))) := by
  obtain ⟨la, hla⟩ := isLen_ex a
  obtain ⟨lb, hlb⟩ := isLen_ex b
  have cp := hs.prime
  have cb := hs.base
  have jg := jacS hs.ok Sk.G
  have jp := jacS hs.ok P
  have hl := H5.hlim hs.hH
  have t1 := timesS hs.ok (Cv.up k.O Sk.G) hl a la ha hla
  have t2 := timesS hs.ok (Cv.up k.O P) hl b lb hb hlb
  have ca := jaddS hs.ok (Gp.tmP k.O (Cv.up k.O Sk.G) a la la) (Gp.tmP k.O (Cv.up k.O P) b lb lb)
  have cd := affS hs.ok hs.L (Gp.adP k.O (Gp.tmP k.O (Cv.up k.O Sk.G) a la la) (Gp.tmP k.O (Cv.up k.O P) b lb lb))
  have e : Cv.down k.O (Gp.adP k.O (Gp.tmP k.O (Cv.up k.O Sk.G) a la la) (Gp.tmP k.O (Cv.up k.O P) b lb lb)) = Cv.sumR Sk.O (Gp.mn Sk.O Sk.G a) (Gp.mn Sk.O P b) := by
    have d1 := timesMn Sk.G Sk.onG a la hla
    have d2 := timesMn P hP b lb hlb
    rw [hs.o, Gp.adP_eq Sk.F, Gp.plus_gen Sk.F Sk.L Sk.no2 Sk.hA _ _ (by rw [d1]; exact Sk.on _ Sk.onG a) (by rw [d2]; exact Sk.on P hP b), d1, d2]
  rw [e] at cd
  clear e
  generalize Cv.sumR Sk.O (Gp.mn Sk.O Sk.G a) (Gp.mn Sk.O P b) = R at *
  generalize Gp.adP k.O (Gp.tmP k.O (Cv.up k.O Sk.G) a la la) (Gp.tmP k.O (Cv.up k.O P) b lb lb) = w at *
  generalize Gp.tmP k.O (Cv.up k.O Sk.G) a la la = u at *
  generalize Gp.tmP k.O (Cv.up k.O P) b lb lb = v at *
  generalize Cv.up k.O P = jP at *
  generalize Cv.up k.O Sk.G = jG at *
  have eG : Sk.G = some (Sk.fs Sk.gx, Sk.fs Sk.gy) := rfl
  rw [eG] at cb jg
  generalize Sk.fs Sk.gx = gx at *
  generalize Sk.fs Sk.gy = gy at *
  rcases P with _ | ⟨px, py⟩ <;> rcases R with _ | ⟨x, y⟩
  all_goals
    refine mk Tryz.func84 rfl rfl L0 R1 (by decide +kernel) fun A S hA hS => ?_
    unfold bodyOf Tryz.f84
    cbv
    repeat (first
      | (refine ABr.t (by assumption) ?_; cbv)
      | (refine ABr.f (by assumption) ?_; cbv)
      | (refine ABr.t rfl ?_; cbv)
      | (refine ABr.f rfl ?_; cbv)
      | (refine ACall.mk _ (cf hS cp) ?_; cbv)
      | (refine ACall.mk _ (cf hS cb) ?_; cbv)
      | (refine ACall.mk _ (cf hS jg) ?_; cbv)
      | (refine ACall.mk _ (cf hS jp) ?_; cbv)
      | (refine ACall.mk _ (cf hS t1) ?_; cbv)
      | (refine ACall.mk _ (cf hS t2) ?_; cbv)
      | (refine ACall.mk _ (cf hS ca) ?_; cbv)
      | (refine ACall.mk _ (cf hS cd) ?_; cbv))
include hr
theorem Sec.liftNone {x : Nat} (hx : x < Sk.pS) (y : Fin Sk.pS) (hy : y = rtS (cvS x)) (hc : y * y ≠ cvS x) (o : Nat) (ho : o ≤ 1) (oi : Int) (hoi : oi = (o : Int)) : Sp 12 [u4 H.lim x, .s .i64 oi] (.tup [zPt, .i .i64 60]) := by
  have hl := H5.hlim hs.hH
  have hm256 : m < 2 ^ 256 := by rw [hs.hm]; decide
  have hx256 : x < 2 ^ 256 := Nat.lt_trans hx (by decide)
  have cx := cmpS hl x m hx256 hm256
  have sp := hs.sp
  have cp := hs.prime
  have ix := hs.inn hx
  have cc := hs.curve (Sk.fs x)
  have cr := (hr (cvS x) y hy).2 hc
  have gx := fun (A : Ar) (hA : A = Ar.real) => hs.ge (x := x) hA false (decide_eq_false (by rw [hs.hm]; omega))
  unfold cvS at cr
  clear hc hy hr
  generalize Sk.fs x * Sk.fs x * Sk.fs x + Sk.fs 7 = w at *
  generalize Sk.fs x = fx at *
  have t : ∀ (A : Ar) (hA : A = Ar.real), (A.cmp .neq oi 0 = false ∧ o = 0) ∨ (A.cmp .neq oi 0 = true ∧ A.cmp .neq oi 1 = false) := fun A hA => by
    rw [i_ne hA, i_ne hA, hoi]
    rcases (by omega : o = 0 ∨ o = 1) with h | h <;> subst h
    · exact .inl ⟨rfl, rfl⟩
    · exact .inr ⟨rfl, rfl⟩
  generalize cmpZ x m = zx at *
  clear hoi ho
  refine mk Tryz.func12 rfl rfl L0 R1 (by decide +kernel) fun A S hA hS => ?_
  have g1 := gx A hA
  have nf := not_f hA
  have tt := t A hA
  clear t gx
  unfold bodyOf Tryz.f12
  cbv
  rcases tt with ⟨t1, _⟩ | ⟨t1, t2⟩
  all_goals
    repeat (first
      | (refine ABr.t (by assumption) ?_; cbv)
      | (refine ABr.f (by assumption) ?_; cbv)
      | (refine ABr.t rfl ?_; cbv)
      | (refine ABr.f rfl ?_; cbv)
      | (refine ACall.mk _ (cf hS sp) ?_; cbv)
      | (refine ACall.mk _ (cf hS cx) ?_; cbv)
      | (refine ACall.mk _ (cf hS cp) ?_; cbv)
      | (refine ACall.mk _ (cf hS ix) ?_; cbv)
      | (refine ACall.mk _ (cf hS cc) ?_; cbv)
      | (refine ACall.mk _ (cf hS cr) ?_; cbv))
end
end Go.Proofs.YtkhipnhdbaahcaaGreat
end
section
set_option linter.unusedVariables false
set_option linter.unusedSectionVars false
set_option linter.unusedSimpArgs false
namespace Go.Proofs.YtkhipnhdbaahcaaGreat
open Go Eng
set_option maxRecDepth 100000
set_option exponentiation.threshold 2000
set_option maxHeartbeats 4000000
theorem weq4 {A : Ar} (hA : A = Ar.real) {lim : Lim} (hl : lim = limR) {a b : Nat} (ha : a < 2 ^ 256) (hb : b < 2 ^ 256) :
    A.eqs [(.s .u64 (lim a 0), .s .u64 (lim b 0)), (.s .u64 (lim a 1), .s .u64 (lim b 1)), (.s .u64 (lim a 2), .s .u64 (lim b 2)), (.s .u64 (lim a 3), .s .u64 (lim b 3))] = decide (a = b) := by
  have h0 : ∀ x y : Int, leafEq (.s .u64 x, .s .u64 y) = (x == y) := fun x y => rfl
  refine eqs_decF hA ⟨fun h => lim_inj4 hl ha hb ?_, fun h => ?_⟩
  · simpa only [List.all_cons, List.all_nil, h0, beq_iff_eq, Bool.and_eq_true, and_true] using h
  · subst h; simp only [List.all_cons, List.all_nil, h0, beq_iff_eq, Bool.and_eq_true, and_true, and_self]
/-- A hash's bytes. -/
abbrev hsh (F : Nat → Int) : List AVal := [.s .u8 (F 0), .s .u8 (F 1), .s .u8 (F 2), .s .u8 (F 3), .s .u8 (F 4), .s .u8 (F 5), .s .u8 (F 6), .s .u8 (F 7), .s .u8 (F 8), .s .u8 (F 9), .s .u8 (F 10), .s .u8 (F 11), .s .u8 (F 12), .s .u8 (F 13), .s .u8 (F 14), .s .u8 (F 15), .s .u8 (F 16), .s .u8 (F 17), .s .u8 (F 18), .s .u8 (F 19), .s .u8 (F 20), .s .u8 (F 21), .s .u8 (F 22), .s .u8 (F 23), .s .u8 (F 24), .s .u8 (F 25), .s .u8 (F 26), .s .u8 (F 27), .s .u8 (F 28), .s .u8 (F 29), .s .u8 (F 30), .s .u8 (F 31)]
section
variable {H : H5} {k : Kf Sk.pS} {r : List AVal} {kn : Kf Sk.nS} {rn : List AVal} {m n : Nat} (hs : Sec H k r kn rn m n) (hr : RootK H k r)
include hs
include hr
end
end Go.Proofs.YtkhipnhdbaahcaaGreat
end
section
set_option linter.unusedVariables false
set_option linter.unusedSimpArgs false
namespace Go.Proofs.YtkhipnhdbaahcaaGreat
open Go Eng
set_option maxRecDepth 100000
set_option exponentiation.threshold 2000
set_option maxHeartbeats 4000000
/-- A struct's or a row's cells, each of its type. -/
theorem cells_st {W : World} {base : Nat} {t : TypeId} {fs : Array Field} {ts : List TypeId} {v : Value} (hu : Tryz.prog.underlying t = some (.struct fs)) (hts : Tryz.prog.cellTypes Tryz.prog.depth t = some ts)
    (h : Value.okWide Tryz.prog W .any base t v) : ∃ cs : Array Value, v = .agg cs ∧ cs.size = Tryz.prog.cellsOf t ∧ ∀ (i : Nat) (v : Value), cs[i]? = some v → ∃ u, ts[i % ts.length]? = some u ∧ Cell.okWide Tryz.prog W .any base u v := by
  unfold Value.okWide at h
  rw [hu] at h
  obtain ⟨cs, rfl, hcs, ts', h1, ⟨k, hk⟩, h2⟩ := h
  rw [hts] at h1
  cases h1
  exact ⟨cs, rfl, hcs, h2⟩
theorem cell_w {W : World} {base : Nat} {u : TypeId} {v : Value} (he : Tryz.prog.underlying u = some (.int .u64)) (h : Cell.okWide Tryz.prog W .any base u v) : ∃ z : Int, v = .int .u64 z ∧ 0 ≤ z ∧ z < 18446744073709551616 := by
  unfold Cell.okWide at h
  rw [he] at h
  unfold Cell.ok at h
  rw [he] at h
  cases v <;> simp only at h <;> try (exact h.elim)
  rename_i k' z
  obtain ⟨rfl, hz⟩ := h
  have h3 : (0 : Int) ≤ z ∧ z ≤ 18446744073709551615 := hz
  exact ⟨z, rfl, h3.1, by omega⟩
theorem cell_b {W : World} {base : Nat} {u : TypeId} {v : Value} (he : Tryz.prog.underlying u = some .bool) (h : Cell.okWide Tryz.prog W .any base u v) : ∃ t : Bool, v = .bool t := by
  unfold Cell.okWide at h
  rw [he] at h
  unfold Cell.ok at h
  rw [he] at h
  cases v <;> simp only at h <;> try (exact h.elim)
  exact ⟨_, rfl⟩
/-- Eight words and one cell more. -/
theorem two_words {W : World} {base : Nat} {t : TypeId} {fs : Array Field} {e b : TypeId} {v : Value} (hu : Tryz.prog.underlying t = some (.struct fs)) (hts : Tryz.prog.cellTypes Tryz.prog.depth t = some (List.replicate 8 e ++ [b]))
    (he : Tryz.prog.underlying e = some (.int .u64)) (hsz : Tryz.prog.cellsOf t = 9) (h : Value.okWide Tryz.prog W .any base t v) :
    ∃ (x y : Nat) (w : Value), x < 2 ^ 256 ∧ y < 2 ^ 256 ∧ Cell.okWide Tryz.prog W .any base b w ∧ v = .agg #[.int .u64 (limR x 0), .int .u64 (limR x 1), .int .u64 (limR x 2), .int .u64 (limR x 3), .int .u64 (limR y 0), .int .u64 (limR y 1), .int .u64 (limR y 2), .int .u64 (limR y 3), w] := by
  obtain ⟨cs, rfl, hcs, each⟩ := cells_st hu hts h
  rw [hsz] at hcs
  have word : ∀ i, i < 8 → ∃ z : Int, cs[i]? = some (.int .u64 z) ∧ 0 ≤ z ∧ z < 18446744073709551616 := by
    intro i hi
    have hx : cs[i]? = some (cs[i]'(by omega)) := Array.getElem?_eq_getElem _
    obtain ⟨u, hu1, hu2⟩ := each i _ hx
    have hue : u = e := by
      rw [show (List.replicate 8 e ++ [b]).length = 9 by simp, Nat.mod_eq_of_lt (show i < 9 by omega), List.getElem?_append_left (by simpa using hi), List.getElem?_replicate, if_pos hi] at hu1
      cases hu1; rfl
    subst hue
    obtain ⟨z, hz, hr⟩ := cell_w he hu2
    exact ⟨z, by rw [hx, hz], hr⟩
  obtain ⟨w, gw, hw⟩ : ∃ w, cs[8]? = some w ∧ Cell.okWide Tryz.prog W .any base b w := by
    have hx : cs[8]? = some (cs[8]'(by omega)) := Array.getElem?_eq_getElem _
    obtain ⟨u, hu1, hu2⟩ := each 8 _ hx
    have hue : u = b := by
      rw [show (List.replicate 8 e ++ [b]).length = 9 by simp, Nat.mod_eq_of_lt (show 8 < 9 by omega), List.getElem?_append_right (by simp)] at hu1
      simp at hu1
      exact hu1.symm
    subst hue
    exact ⟨_, hx, hu2⟩
  have group : ∀ j, j < 2 → ∃ a : Nat, a < 2 ^ 256 ∧ ∀ i, i < 4 → cs[4 * j + i]? = some (.int .u64 (limR a i)) := by
    intro j hj
    obtain ⟨z0, e0, r0⟩ := word (4 * j) (by omega)
    obtain ⟨z1, e1, r1⟩ := word (4 * j + 1) (by omega)
    obtain ⟨z2, e2, r2⟩ := word (4 * j + 2) (by omega)
    obtain ⟨z3, e3, r3⟩ := word (4 * j + 3) (by omega)
    obtain ⟨a, ha⟩ : ∃ a : Nat, (a : Int) = z0 + 18446744073709551616 * (z1 + 18446744073709551616 * (z2 + 18446744073709551616 * z3)) := ⟨(z0 + 18446744073709551616 * (z1 + 18446744073709551616 * (z2 + 18446744073709551616 * z3))).toNat, Int.toNat_of_nonneg (by omega)⟩
    have han : a < 2 ^ 256 := by omega
    obtain ⟨l0, l1, l2, l3⟩ := lim_of4 rfl han r0 r1 r2 ha
    refine ⟨a, han, fun i hi => ?_⟩
    match i, hi with
    | 0, _ => rw [l0]; exact e0
    | 1, _ => rw [l1]; exact e1
    | 2, _ => rw [l2]; exact e2
    | 3, _ => rw [l3]; exact e3
  obtain ⟨x, h0, g0⟩ := group 0 (by decide)
  obtain ⟨y, h1, g1⟩ := group 1 (by decide)
  refine ⟨x, y, w, h0, h1, hw, ?_⟩
  congr 1
  apply Array.ext_getElem?
  intro i
  rcases Nat.lt_or_ge i 9 with hi | hi
  · rcases (by omega : i = 0 ∨ i = 1 ∨ i = 2 ∨ i = 3 ∨ i = 4 ∨ i = 5 ∨ i = 6 ∨ i = 7 ∨ i = 8) with rfl | rfl | rfl | rfl | rfl | rfl | rfl | rfl | rfl
    · exact g0 0 (by decide)
    · exact g0 1 (by decide)
    · exact g0 2 (by decide)
    · exact g0 3 (by decide)
    · exact g1 0 (by decide)
    · exact g1 1 (by decide)
    · exact g1 2 (by decide)
    · exact g1 3 (by decide)
    · exact gw
  · rw [Array.getElem?_eq_none (by omega), Array.getElem?_eq_none (by simpa using hi)]
theorem open_pt {W : World} {X : Nat → Prop} {base : Nat} {t : TypeId} {fs : Array Field} {e b : TypeId} {v : Value} (hu : Tryz.prog.underlying t = some (.struct fs)) (hts : Tryz.prog.cellTypes Tryz.prog.depth t = some (List.replicate 8 e ++ [b]))
    (he : Tryz.prog.underlying e = some (.int .u64)) (hb : Tryz.prog.underlying b = some .bool) (hsz : Tryz.prog.cellsOf t = 9) (h : Value.okWide Tryz.prog W .any base t v) :
    ∃ (x y : Nat) (inf : Bool), x < 2 ^ 256 ∧ y < 2 ^ 256 ∧ Rep W X noρ v (PS H5.real x y inf) := by
  obtain ⟨x, y, w, hx, hy, hw, rfl⟩ := two_words hu hts he hsz h
  obtain ⟨t, rfl⟩ := cell_b hb hw
  refine ⟨x, y, t, hx, hy, ?_⟩
  exact RepL.agg (.cons (.s _ _) (.cons (.s _ _) (.cons (.s _ _) (.cons (.s _ _) (.cons (.s _ _) (.cons (.s _ _) (.cons (.s _ _) (.cons (.s _ _) (.cons (.sb _) .nil)))))))))
end Go.Proofs.YtkhipnhdbaahcaaGreat
end
section
set_option linter.unusedVariables false
set_option linter.unusedSectionVars false
set_option linter.unusedSimpArgs false
namespace Go.Proofs.YtkhipnhdbaahcaaGreat
open Go Eng
set_option maxRecDepth 100000
set_option exponentiation.threshold 2000
set_option maxHeartbeats 4000000
theorem fin_sq (y : Fin Sk.pS) : (0 - y) * (0 - y) = y * y := by grind
end Go.Proofs.YtkhipnhdbaahcaaGreat
end
section
set_option linter.unusedVariables false
set_option linter.unusedSimpArgs false
namespace Go.Proofs.YtkhipnhdbaahcaaGreat
open Go Eng
set_option maxRecDepth 100000
set_option exponentiation.threshold 2000
namespace Kk
/-- Keccak's lanes, as natural numbers. -/
def rot (x k : Nat) : Nat := (x * 2 ^ k % 18446744073709551616) ||| (x / 2 ^ (64 - k))
def nt (x : Nat) : Nat := 18446744073709551615 ^^^ x
def turn : List Nat := [0, 1, 62, 28, 27, 36, 44, 6, 55, 20, 3, 10, 43, 25, 39, 41, 45, 15, 21, 8, 18, 2, 61, 56, 14]
def rcs : List Nat := [1, 32898, 9223372036854808714, 9223372039002292224, 32907, 2147483649, 9223372039002292353, 9223372036854808585, 138, 136, 2147516425, 2147483658, 2147516555, 9223372036854775947, 9223372036854808713, 9223372036854808579, 9223372036854808578, 9223372036854775936, 32778, 9223372039002259466, 9223372039002292353, 9223372036854808704, 2147483649, 9223372039002292232]
def cc (a : Nat → Nat) (x : Nat) : Nat := a x ^^^ a (x + 5) ^^^ a (x + 10) ^^^ a (x + 15) ^^^ a (x + 20)
def rr (a : Nat → Nat) (x : Nat) : Nat := rot (cc a x) 1
def a1 (a : Nat → Nat) (q : Nat) : Nat := a q ^^^ (cc a ((q % 5 + 4) % 5) ^^^ rr a ((q % 5 + 1) % 5))
def src (p : Nat) : Nat := (3 * (p / 5) + p % 5) % 5 + 5 * (p % 5)
def bb (a : Nat → Nat) (p : Nat) : Nat := rot (a1 a (src p)) (turn.getD (src p) 0)
def ch (b : Nat → Nat) (p : Nat) : Nat := b p ^^^ (nt (b ((p % 5 + 1) % 5 + 5 * (p / 5))) &&& b ((p % 5 + 2) % 5 + 5 * (p / 5)))
def rnd (rc : Nat) (a : Nat → Nat) (p : Nat) : Nat := if p = 0 then ch (bb a) 0 ^^^ rc else ch (bb a) p
/-- The states: the first, and behind each round. -/
def st (a : Nat → Nat) : Nat → Nat → Nat
  | 0 => a
  | i + 1 => rnd (rcs.getD i 0) (st a i)
theorem xor_lt {x y : Nat} (hx : x < 18446744073709551616) (hy : y < 18446744073709551616) : x ^^^ y < 18446744073709551616 := by
  have := Nat.xor_lt_two_pow (n := 64) (x := x) (y := y) (by simpa using hx) (by simpa using hy)
  simpa using this
theorem or_lt {x y : Nat} (hx : x < 18446744073709551616) (hy : y < 18446744073709551616) : x ||| y < 18446744073709551616 := by
  have := Nat.or_lt_two_pow (n := 64) (x := x) (y := y) (by simpa using hx) (by simpa using hy)
  simpa using this
theorem and_lt {x y : Nat} (hx : x < 18446744073709551616) : x &&& y < 18446744073709551616 := Nat.lt_of_le_of_lt Nat.and_le_left hx
theorem nt_lt {x : Nat} (hx : x < 18446744073709551616) : nt x < 18446744073709551616 := xor_lt (by decide) hx
theorem rot_lt {x k : Nat} (hx : x < 18446744073709551616) : rot x k < 18446744073709551616 := or_lt (Nat.mod_lt _ (by decide)) (Nat.lt_of_le_of_lt (Nat.div_le_self _ _) hx)
theorem cc_lt {a : Nat → Nat} (h : ∀ p, p < 25 → a p < 18446744073709551616) (x : Nat) (hx : x < 5) : cc a x < 18446744073709551616 :=
  xor_lt (xor_lt (xor_lt (xor_lt (h _ (by omega)) (h _ (by omega))) (h _ (by omega))) (h _ (by omega))) (h _ (by omega))
theorem a1_lt {a : Nat → Nat} (h : ∀ p, p < 25 → a p < 18446744073709551616) (q : Nat) (hq : q < 25) : a1 a q < 18446744073709551616 :=
  xor_lt (h _ hq) (xor_lt (cc_lt h _ (Nat.mod_lt _ (by decide))) (rot_lt (cc_lt h _ (Nat.mod_lt _ (by decide)))))
theorem src_lt (p : Nat) : src p < 25 := by unfold src; omega
theorem bb_lt {a : Nat → Nat} (h : ∀ p, p < 25 → a p < 18446744073709551616) (p : Nat) : bb a p < 18446744073709551616 := rot_lt (a1_lt h _ (src_lt p))
theorem ch_lt {b : Nat → Nat} (h : ∀ p, b p < 18446744073709551616) (p : Nat) : ch b p < 18446744073709551616 := xor_lt (h _) (and_lt (nt_lt (h _)))
theorem rc_lt (i : Nat) (hi : i < 24) : rcs.getD i 0 < 18446744073709551616 := by
  have : ∀ i, i < 24 → rcs.getD i 0 < 18446744073709551616 := by decide
  exact this i hi
theorem rnd_lt {rc : Nat} (hr : rc < 18446744073709551616) {a : Nat → Nat} (h : ∀ p, p < 25 → a p < 18446744073709551616) (p : Nat) : rnd rc a p < 18446744073709551616 := by
  unfold rnd
  split
  · exact xor_lt (ch_lt (bb_lt h) _) hr
  · exact ch_lt (bb_lt h) _
theorem st_lt {a : Nat → Nat} (h : ∀ p, p < 25 → a p < 18446744073709551616) : ∀ i, i ≤ 24 → ∀ p, p < 25 → st a i p < 18446744073709551616
  | 0, _, p, hp => h p hp
  | i + 1, hi, p, _ => rnd_lt (rc_lt i (by omega)) (st_lt h i (by omega)) p
/-- Bytes as lanes, of one block: so many bytes, then 1, noughts, 128. -/
def pad (f : Nat → Nat) (n j : Nat) : Nat := if j < n then f j else if j = n then (if j = 135 then 129 else 1) else if j = 135 then 128 else 0
def lane (g : Nat → Nat) (i : Nat) : Nat := if i < 17 then ((((((((g (8 * i + 7)) * 256 + g (8 * i + 6)) * 256 + g (8 * i + 5)) * 256 + g (8 * i + 4)) * 256 + g (8 * i + 3)) * 256 + g (8 * i + 2)) * 256 + g (8 * i + 1)) * 256 + g (8 * i)) else 0
theorem lane_lt {g : Nat → Nat} (h : ∀ j, g j < 256) (i : Nat) : lane g i < 18446744073709551616 := by
  unfold lane
  split
  · have h0 := h (8 * i); have h1 := h (8 * i + 1); have h2 := h (8 * i + 2); have h3 := h (8 * i + 3)
    have h4 := h (8 * i + 4); have h5 := h (8 * i + 5); have h6 := h (8 * i + 6); have h7 := h (8 * i + 7)
    omega
  · decide
theorem pad_lt {f : Nat → Nat} (h : ∀ j, f j < 256) (n j : Nat) : pad f n j < 256 := by
  unfold pad
  have := h j
  repeat' split
  all_goals omega
/-- The hash's bytes. -/
def hash (f : Nat → Nat) (n j : Nat) : Nat := st (lane (pad f n)) 24 (j / 8) / 2 ^ (8 * (j % 8)) % 256
theorem u_xor (a b : Nat) (ha : a < 18446744073709551616) (hb : b < 18446744073709551616) : rbin .xor .u64 (Int.ofNat a) (Int.ofNat b) = Int.ofNat (a ^^^ b) := by
  show IntKind.u64.wrap (((BitVec.ofInt IntKind.u64.bits (Int.ofNat a) ^^^ BitVec.ofInt IntKind.u64.bits (Int.ofNat b)).toNat : Nat) : Int) = _
  have h : (BitVec.ofInt IntKind.u64.bits (Int.ofNat a) ^^^ BitVec.ofInt IntKind.u64.bits (Int.ofNat b)).toNat = a ^^^ b := by
    rw [BitVec.toNat_xor]
    show (BitVec.ofInt 64 (Int.ofNat a)).toNat ^^^ (BitVec.ofInt 64 (Int.ofNat b)).toNat = _
    rw [bv_nat, bv_nat, Nat.mod_eq_of_lt ha, Nat.mod_eq_of_lt hb]
  rw [h, wrap_u64]
  have := xor_lt ha hb
  simp only [Int.ofNat_eq_natCast]
  omega
theorem u_not (a : Nat) (ha : a < 18446744073709551616) : run1 .xor .u64 (Int.ofNat a) = Int.ofNat (nt a) := by
  show rbin .xor .u64 (IntKind.max .u64) (Int.ofNat a) = _
  exact u_xor 18446744073709551615 a (by decide) ha
theorem rot_bin (x k : Nat) (hx : x < 18446744073709551616) (hk : k < 64) : rbin .or .u64 (rbin .shl .u64 (Int.ofNat x) (Int.ofNat k)) (rbin .shr .u64 (Int.ofNat x) (Int.ofNat (64 - k))) = Int.ofNat (rot x k) := by
  rw [u_shl x k (by omega), u_shr x (64 - k) (by omega)]
  exact u_or _ _ (Nat.mod_lt _ (by decide)) (Nat.lt_of_le_of_lt (Nat.div_le_self _ _) hx)
end Kk
end Go.Proofs.YtkhipnhdbaahcaaGreat
end
section
set_option linter.unusedVariables false
set_option linter.unusedSimpArgs false
namespace Go.Proofs.YtkhipnhdbaahcaaGreat
open Go Eng
set_option maxRecDepth 100000
set_option exponentiation.threshold 2000
set_option maxHeartbeats 4000000
def LM : Nat → Nat := fun _ => 200
theorem rotS (x k : Nat) (hx : x < 18446744073709551616) (hk : k < 64) : Sp 145 [.s .u64 (x : Int), .s .i64 (k : Int)] (.s .u64 ((Kk.rot x k : Nat) : Int)) := by
  obtain ⟨xi, hxi⟩ : ∃ z : Int, z = (x : Int) := ⟨_, rfl⟩
  obtain ⟨ki, hki⟩ : ∃ z : Int, z = (k : Int) := ⟨_, rfl⟩
  obtain ⟨ri, hri⟩ : ∃ z : Int, z = ((Kk.rot x k : Nat) : Int) := ⟨_, rfl⟩
  rw [← hxi, ← hki, ← hri]
  have f1 : IntKind.u64.wrap ki = ki := by rw [wrap_u64, hki]; omega
  have f2 : rbin .and .u64 ki 63 = ki := by
    rw [hki]
    have := u_mask k 6 (by decide) (by omega)
    exact this.trans (congrArg Int.ofNat (Nat.mod_eq_of_lt (by omega)))
  have f3 : rbin .sub .u64 64 ki = ((64 - k : Nat) : Int) := by
    rw [hki]
    exact (u_sub 64 k (by omega)).trans (congrArg Int.ofNat (by omega))
  have g : ∀ A : Ar, A = Ar.real → A.okb .shl (A.bin .and .u64 (A.wrap .u64 ki) 63) = true ∧ A.okb .shr (A.bin .sub .u64 64 (A.bin .and .u64 (A.wrap .u64 ki) 63)) = true ∧
      A.bin .or .u64 (A.bin .shl .u64 xi (A.bin .and .u64 (A.wrap .u64 ki) 63)) (A.bin .shr .u64 xi (A.bin .sub .u64 64 (A.bin .and .u64 (A.wrap .u64 ki) 63))) = ri := by
    intro A hA
    subst hA
    show rokb .shl (rbin .and .u64 (IntKind.u64.wrap ki) 63) = true ∧ rokb .shr (rbin .sub .u64 64 (rbin .and .u64 (IntKind.u64.wrap ki) 63)) = true ∧
      rbin .or .u64 (rbin .shl .u64 xi (rbin .and .u64 (IntKind.u64.wrap ki) 63)) (rbin .shr .u64 xi (rbin .sub .u64 64 (rbin .and .u64 (IntKind.u64.wrap ki) 63))) = ri
    rw [f1, f2, f3, hki, hxi, hri]
    refine ⟨?_, ?_, Kk.rot_bin x k hx hk⟩
    · show (!(decide ((k : Int) < 0))) = true
      rw [decide_eq_false (by omega)]; rfl
    · show (!(decide (((64 - k : Nat) : Int) < 0))) = true
      rw [decide_eq_false (by omega)]; rfl
  clear f1 f2 f3 hki hxi hri
  refine mk Tryz.func145 rfl rfl L0 R1 (by decide +kernel) fun A S hA hS => ?_
  obtain ⟨g1, g2, g3⟩ := g A hA
  unfold bodyOf Tryz.f145
  cbv
  refine .mk g1 ?_
  cbv
  refine .mk g2 ?_
  cbv
  exact g3
theorem offsetsS : Sp 115 [] (.agg [.i .i64 0, .i .i64 1, .i .i64 62, .i .i64 28, .i .i64 27, .i .i64 36, .i .i64 44, .i .i64 6, .i .i64 55, .i .i64 20, .i .i64 3, .i .i64 10, .i .i64 43, .i .i64 25, .i .i64 39, .i .i64 41, .i .i64 45, .i .i64 15, .i .i64 21, .i .i64 8, .i .i64 18, .i .i64 2, .i .i64 61, .i .i64 56, .i .i64 14]) := by
  refine mk Tryz.func115 rfl rfl LM R0 (by decide +kernel) fun A S hA hS => ?_
  unfold bodyOf Tryz.f115
  cbv
end Go.Proofs.YtkhipnhdbaahcaaGreat
end
