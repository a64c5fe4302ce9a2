import Derived.Test.YtlmlganfjnokiaaC
import Derived.Lib.Mul64
set_option linter.unusedVariables false
set_option linter.unusedSimpArgs false
namespace Go.Proofs.Ytlmlganfjnokiaa
open Go Eng
set_option maxRecDepth 100000
set_option exponentiation.threshold 2000

theorem shr32 (a : Nat) : rbin .shr .u64 (Int.ofNat a) 32 = Int.ofNat (a / 4294967296) := u_shr a 32 (by omega)
theorem and32 (a : Nat) (ha : a < 18446744073709551616) : rbin .and .u64 (Int.ofNat a) 4294967295 = Int.ofNat (a % 4294967296) := u_mask a 32 (by omega) ha

theorem mul64S (x y hi lo : Nat) (hx : x < 2 ^ 64) (hy : y < 2 ^ 64) (h : lo + 2 ^ 64 * hi = x * y) (hlo : lo < 2 ^ 64) : Sp 112 [.s .u64 x, .s .u64 y] (.tup [.s .u64 hi, .s .u64 lo]) := by
  refine mk Try.func112 rfl rfl L0 R0 (by decide +kernel) fun A S hA hS => ?_
  unfold bodyOf Try.f112
  cbv
  subst hA
  dsimp only [Ar.real]
  clear hS S
  obtain ⟨h1, h2, h3, h4⟩ := Go.Lib.mul64_hi x y (by simpa using hx) (by simpa using hy)
  have ex : x * y % 18446744073709551616 = lo := by omega
  have eh : x * y / 18446744073709551616 = hi := by omega
  have ha := Go.Lib.half_mul_le (a := x / 4294967296) (b := y / 4294967296) (by omega) (by omega)
  have hb := Go.Lib.half_mul_le (a := x / 4294967296) (b := y % 4294967296) (by omega) (by omega)
  have hc := Go.Lib.half_mul_le (a := x % 4294967296) (b := y / 4294967296) (by omega) (by omega)
  have hd := Go.Lib.half_mul_le (a := x % 4294967296) (b := y % 4294967296) (by omega) (by omega)
  rw [and32 x (by simpa using hx), and32 y (by simpa using hy)]
  simp only [shr32, u_mul]
  rw [Nat.mod_eq_of_lt (show x / 4294967296 * (y / 4294967296) < _ by omega), Nat.mod_eq_of_lt (show x / 4294967296 * (y % 4294967296) < _ by omega), Nat.mod_eq_of_lt (show x % 4294967296 * (y / 4294967296) < _ by omega), Nat.mod_eq_of_lt h1]
  simp only [shr32, u_add]
  rw [Nat.mod_eq_of_lt h2, and32 _ h2]
  simp only [shr32, u_add]
  rw [Nat.mod_eq_of_lt h3, ex]
  rw [← Nat.add_mod_mod, Nat.add_mod_mod] at *
  rw [Nat.mod_add_mod, h4, eh, Nat.mod_eq_of_lt (by omega)]
  exact ⟨rfl, rfl⟩
theorem less_dif {n a b d : Nat} (ha : a < n) (hb : b < n) (t : Bool) (ht : t = decide (a < b)) (hd : d = if a < b then a + n - b else a - b) : ∃ k : Nat, d + b = a + n * k ∧ d < n ∧ k = (if t then 1 else 0) := by
  by_cases h : a < b
  · rw [if_pos h] at hd
    rw [ht, decide_eq_true h]
    exact ⟨1, by omega, by omega, rfl⟩
  · rw [if_neg h] at hd
    rw [ht, decide_eq_false h]
    exact ⟨0, by omega, by omega, rfl⟩
theorem less4S {lim : Lim} (hl : lim = limR) (a b : Nat) (ha : a < 2 ^ 256) (hb : b < 2 ^ 256) (t : Bool) (ht : t = decide (a < b)) : Sp 75 [u4 lim a, u4 lim b] (.sb t) := by
  obtain ⟨d, hd⟩ : ∃ d, d = if a < b then a + 2 ^ 256 - b else a - b := ⟨_, rfl⟩
  obtain ⟨k, h1, h2, h3⟩ := less_dif ha hb t ht hd
  refine mk Try.func75 rfl rfl L0 R0 (by decide +kernel) fun A S hA hS => ?_
  unfold bodyOf Try.f75
  cbv
  refine ACall.mk (.tup [u4 lim d, .s .u64 k]) (cf hS (minus4 hl a b d k ha hb h1 h2)) ?_
  cbv
  subst hA
  cases t <;> simp at h3 <;> subst h3 <;> rfl
theorem none4S : Sp 70 [] (.agg [.i .u64 0, .i .u64 0, .i .u64 0, .i .u64 0]) := by
  refine mk Try.func70 rfl rfl L0 R0 (by decide +kernel) fun A S hA hS => ?_
  unfold bodyOf Try.f70
  cbv
theorem less6S {lim : Lim} (hl : lim = limR) (a b : Nat) (ha : a < 2 ^ 384) (hb : b < 2 ^ 384) (t : Bool) (ht : t = decide (a < b)) : Sp 87 [u6 lim a, u6 lim b] (.sb t) := by
  obtain ⟨d, hd⟩ : ∃ d, d = if a < b then a + 2 ^ 384 - b else a - b := ⟨_, rfl⟩
  obtain ⟨k, h1, h2, h3⟩ := less_dif ha hb t ht hd
  refine mk Try.func87 rfl rfl L0 R0 (by decide +kernel) fun A S hA hS => ?_
  unfold bodyOf Try.f87
  cbv
  refine ACall.mk (.tup [u6 lim d, .s .u64 k]) (cf hS (minus6 hl a b d k ha hb h1 h2)) ?_
  cbv
  subst hA
  cases t <;> simp at h3 <;> subst h3 <;> rfl
theorem none6S : Sp 80 [] (.agg [.i .u64 0, .i .u64 0, .i .u64 0, .i .u64 0, .i .u64 0, .i .u64 0]) := by
  refine mk Try.func80 rfl rfl L0 R0 (by decide +kernel) fun A S hA hS => ?_
  unfold bodyOf Try.f80
  cbv
/-- x y and two more. -/
theorem stepN {Z C : AVal} (x y z c hi lo : Nat) (hx : x < 18446744073709551616) (hy : y < 18446744073709551616) (hz : z < 18446744073709551616) (hc : c < 18446744073709551616) (hZ : IsU Z z) (hC : IsU C c)
    (h : lo + 18446744073709551616 * hi = x * y + z + c) (hlo : lo < 18446744073709551616) : Sp 111 [.s .u64 x, .s .u64 y, Z, C] (.tup [.s .u64 hi, .s .u64 lo]) := by
  have hxy : x * y ≤ 18446744073709551615 * 18446744073709551615 := Nat.mul_le_mul (by omega) (by omega)
  obtain ⟨p, hp⟩ : ∃ p, p = x * y := ⟨_, rfl⟩
  rw [← hp] at hxy h
  obtain ⟨h0, eh0⟩ : ∃ n, n = p / 18446744073709551616 := ⟨_, rfl⟩
  obtain ⟨l0, el0⟩ : ∃ n, n = p % 18446744073709551616 := ⟨_, rfl⟩
  obtain ⟨l1, k1, e1, r1, q1⟩ := carry (x := l0) (y := z) (z := 0) (by omega) (by omega) (by omega)
  obtain ⟨l2, k2, e2, r2, q2⟩ := carry (x := l1) (y := c) (z := 0) r1 (by omega) (by omega)
  obtain ⟨k1, rfl⟩ : ∃ n : Nat, k1 = n := ⟨k1.toNat, by omega⟩
  obtain ⟨k2, rfl⟩ : ∃ n : Nat, k2 = n := ⟨k2.toNat, by omega⟩
  have hm := mul64S x y h0 l0 (by omega) (by omega) (by omega) (by omega)
  have hfin : l2 = lo ∧ h0 + k1 + k2 = hi := by omega
  have hhi : h0 + k1 + k2 < 18446744073709551616 := by omega
  clear eh0 el0 hxy h
  cases hZ <;> cases hC
  all_goals
    refine mk Try.func111 rfl rfl L0 R0 (by decide +kernel) fun A S hA hS => ?_
    unfold bodyOf Try.f111
    cbv
    refine ACall.mk (.tup [.s .u64 h0, .s .u64 l0]) (cf hS hm) ?_
    cbv
    refine ACall.mk (.tup [.s .u64 l1, .s .u64 k1]) (cf hS (add64S (.s _) (by first | exact .i _ | exact .s _) (.i _) (by exact Int.natCast_nonneg _) (by exact Int.natCast_nonneg _) (by omega) _ _ e1 r1)) ?_
    cbv
    refine ACall.mk (.tup [.s .u64 l2, .s .u64 k2]) (cf hS (add64S (.s _) (by first | exact .i _ | exact .s _) (.i _) r1.1 (by exact Int.natCast_nonneg _) (by omega) _ _ e2 r2)) ?_
    cbv
    subst hA
    dsimp only [Ar.real]
    rw [u_add, u_add, Nat.mod_eq_of_lt (by omega), Nat.mod_eq_of_lt (by omega), hfin.2, hfin.1]
    exact ⟨rfl, rfl⟩
theorem stepS {Z C : AVal} (x y z c hi lo : Int) (hx : 0 ≤ x ∧ x < 18446744073709551616) (hy : 0 ≤ y ∧ y < 18446744073709551616) (hz : 0 ≤ z ∧ z < 18446744073709551616) (hc : 0 ≤ c ∧ c < 18446744073709551616) (hZ : IsU Z z) (hC : IsU C c)
    (h : lo + 18446744073709551616 * hi = x * y + z + c) (hlo : 0 ≤ lo ∧ lo < 18446744073709551616) : Sp 111 [.s .u64 x, .s .u64 y, Z, C] (.tup [.s .u64 hi, .s .u64 lo]) := by
  obtain ⟨x, rfl⟩ : ∃ n : Nat, x = n := ⟨x.toNat, by omega⟩
  obtain ⟨y, rfl⟩ : ∃ n : Nat, y = n := ⟨y.toNat, by omega⟩
  obtain ⟨z, rfl⟩ : ∃ n : Nat, z = n := ⟨z.toNat, by omega⟩
  obtain ⟨c, rfl⟩ : ∃ n : Nat, c = n := ⟨c.toNat, by omega⟩
  obtain ⟨lo, rfl⟩ : ∃ n : Nat, lo = n := ⟨lo.toNat, by omega⟩
  have hxy : (0 : Int) ≤ (x : Int) * (y : Int) := Int.mul_nonneg (by omega) (by omega)
  obtain ⟨hi, rfl⟩ : ∃ n : Nat, hi = n := ⟨hi.toNat, by omega⟩
  refine stepN x y z c hi lo (by omega) (by omega) (by omega) (by omega) hZ hC ?_ (by omega)
  rw [← Int.natCast_mul] at h
  omega
theorem steps {x y z c : Int} (hx : 0 ≤ x ∧ x < 18446744073709551616) (hy : 0 ≤ y ∧ y < 18446744073709551616) (hz : 0 ≤ z ∧ z < 18446744073709551616) (hc : 0 ≤ c ∧ c < 18446744073709551616) :
    ∃ lo hi : Int, lo + 18446744073709551616 * hi = x * y + z + c ∧ (0 ≤ lo ∧ lo < 18446744073709551616) ∧ 0 ≤ hi ∧ hi < 18446744073709551616 := by
  have h1 : (0 : Int) ≤ x * y := Int.mul_nonneg hx.1 hy.1
  have h2 : x * y ≤ 18446744073709551615 * 18446744073709551615 := Int.mul_le_mul (by omega) (by omega) hy.1 (by omega)
  obtain ⟨p, hp⟩ : ∃ p, p = x * y := ⟨_, rfl⟩
  rw [← hp] at h1 h2 ⊢
  exact ⟨(p + z + c) % 18446744073709551616, (p + z + c) / 18446744073709551616, by omega, by omega, by omega, by omega⟩
end Go.Proofs.Ytlmlganfjnokiaa
