import Derived.Test.YtlmlganfjnokiaaE
set_option linter.unusedVariables false
set_option linter.unusedSimpArgs false
namespace Go.Proofs.Ytlmlganfjnokiaa
open Go Eng
set_option maxRecDepth 100000
set_option exponentiation.threshold 2000
theorem low0 {m l inv q z g : Int} (hi : (m * inv + 1) % 18446744073709551616 = 0) (hq : q = l * inv % 18446744073709551616) (h : z + 18446744073709551616 * g = q * m + l + 0) (hz : 0 ≤ z ∧ z < 18446744073709551616) : z = 0 := by
  have h1 : (q * m + l) % 18446744073709551616 = 0 := by
    rw [hq, Int.add_emod, Int.mul_emod, Int.emod_emod_of_dvd _ (Int.dvd_refl _), ← Int.mul_emod, ← Int.add_emod]
    have : l * inv * m + l = l * (m * inv + 1) := by
      rw [Int.mul_add, Int.mul_one, Int.mul_assoc, Int.mul_comm inv m]
    rw [this, Int.mul_emod, hi]
    simp
  omega
theorem modr {q x : Int} (h : q = x % 18446744073709551616) : 0 ≤ q ∧ q < 18446744073709551616 := by omega
theorem kcr {k c : Int} (hk : 0 ≤ k ∧ k ≤ 1) (hc : 0 ≤ c ∧ c ≤ 1) : 0 ≤ k + c ∧ k + c < 18446744073709551616 := by omega
theorem kcw {k c : Int} (hk : 0 ≤ k ∧ k ≤ 1) (hc : 0 ≤ c ∧ c ≤ 1) : (k + c) % 18446744073709551616 = k + c := by omega
theorem sub_arg {x y : Int} (h : x = y) {f : FuncId} {r : AVal} {rest : List AVal} (hs : Sp f (.s .u64 y :: rest) r) : Sp f (.s .u64 x :: rest) r := h ▸ hs
theorem round4 {p0 p1 p2 p3 r0 r1 r2 r3 l0 l1 l2 l3 h0 h1 h2 h3 g0 g1 g2 g3 u0 u1 u2 u3 t0 t1 t2 t3 t4 k c s : Int}
    (e0 : l0 + 18446744073709551616 * h0 = p0 + t0 + 0) (e1 : l1 + 18446744073709551616 * h1 = p1 + t1 + h0) (e2 : l2 + 18446744073709551616 * h2 = p2 + t2 + h1) (e3 : l3 + 18446744073709551616 * h3 = p3 + t3 + h2) (ea : s + 18446744073709551616 * k = t4 + h3 + 0)
    (f0 : 0 + 18446744073709551616 * g0 = r0 + l0 + 0) (f1 : u0 + 18446744073709551616 * g1 = r1 + l1 + g0) (f2 : u1 + 18446744073709551616 * g2 = r2 + l2 + g1) (f3 : u2 + 18446744073709551616 * g3 = r3 + l3 + g2) (fa : u3 + 18446744073709551616 * c = s + g3 + 0) :
    18446744073709551616 * (u0 + 18446744073709551616 * (u1 + 18446744073709551616 * (u2 + 18446744073709551616 * (u3 + 18446744073709551616 * ((k + c)))))) = (t0 + 18446744073709551616 * (t1 + 18446744073709551616 * (t2 + 18446744073709551616 * (t3 + 18446744073709551616 * (t4))))) + (p0 + 18446744073709551616 * (p1 + 18446744073709551616 * (p2 + 18446744073709551616 * (p3)))) + (r0 + 18446744073709551616 * (r1 + 18446744073709551616 * (r2 + 18446744073709551616 * (r3)))) := by omega
theorem chain4 {T1 T2 T3 T4 y0 y1 y2 y3 z0 z1 z2 z3 : Int} (e0 : 18446744073709551616 * T1 = 0 + y0 + z0) (e1 : 18446744073709551616 * T2 = T1 + y1 + z1) (e2 : 18446744073709551616 * T3 = T2 + y2 + z2) (e3 : 18446744073709551616 * T4 = T3 + y3 + z3) :
    115792089237316195423570985008687907853269984665640564039457584007913129639936 * T4 = (y0 + 18446744073709551616 * (y1 + 18446744073709551616 * (y2 + 18446744073709551616 * (y3)))) + (z0 + 18446744073709551616 * (z1 + 18446744073709551616 * (z2 + 18446744073709551616 * (z3)))) := by omega
theorem horn4 (x0 x1 x2 x3 b : Int) : x0 * b + 18446744073709551616 * (x1 * b + 18446744073709551616 * (x2 * b + 18446744073709551616 * (x3 * b))) = (x0 + 18446744073709551616 * (x1 + 18446744073709551616 * (x2 + 18446744073709551616 * (x3)))) * b := by simp only [Int.add_mul, Int.mul_assoc]
theorem horm4 (x0 x1 x2 x3 b : Int) : b * x0 + 18446744073709551616 * (b * x1 + 18446744073709551616 * (b * x2 + 18446744073709551616 * (b * x3))) = b * (x0 + 18446744073709551616 * (x1 + 18446744073709551616 * (x2 + 18446744073709551616 * (x3)))) := by simp only [Int.mul_add, Int.mul_left_comm]
theorem round6 {p0 p1 p2 p3 p4 p5 r0 r1 r2 r3 r4 r5 l0 l1 l2 l3 l4 l5 h0 h1 h2 h3 h4 h5 g0 g1 g2 g3 g4 g5 u0 u1 u2 u3 u4 u5 t0 t1 t2 t3 t4 t5 t6 k c s : Int}
    (e0 : l0 + 18446744073709551616 * h0 = p0 + t0 + 0) (e1 : l1 + 18446744073709551616 * h1 = p1 + t1 + h0) (e2 : l2 + 18446744073709551616 * h2 = p2 + t2 + h1) (e3 : l3 + 18446744073709551616 * h3 = p3 + t3 + h2) (e4 : l4 + 18446744073709551616 * h4 = p4 + t4 + h3) (e5 : l5 + 18446744073709551616 * h5 = p5 + t5 + h4) (ea : s + 18446744073709551616 * k = t6 + h5 + 0)
    (f0 : 0 + 18446744073709551616 * g0 = r0 + l0 + 0) (f1 : u0 + 18446744073709551616 * g1 = r1 + l1 + g0) (f2 : u1 + 18446744073709551616 * g2 = r2 + l2 + g1) (f3 : u2 + 18446744073709551616 * g3 = r3 + l3 + g2) (f4 : u3 + 18446744073709551616 * g4 = r4 + l4 + g3) (f5 : u4 + 18446744073709551616 * g5 = r5 + l5 + g4) (fa : u5 + 18446744073709551616 * c = s + g5 + 0) :
    18446744073709551616 * (u0 + 18446744073709551616 * (u1 + 18446744073709551616 * (u2 + 18446744073709551616 * (u3 + 18446744073709551616 * (u4 + 18446744073709551616 * (u5 + 18446744073709551616 * ((k + c)))))))) = (t0 + 18446744073709551616 * (t1 + 18446744073709551616 * (t2 + 18446744073709551616 * (t3 + 18446744073709551616 * (t4 + 18446744073709551616 * (t5 + 18446744073709551616 * (t6))))))) + (p0 + 18446744073709551616 * (p1 + 18446744073709551616 * (p2 + 18446744073709551616 * (p3 + 18446744073709551616 * (p4 + 18446744073709551616 * (p5)))))) + (r0 + 18446744073709551616 * (r1 + 18446744073709551616 * (r2 + 18446744073709551616 * (r3 + 18446744073709551616 * (r4 + 18446744073709551616 * (r5)))))) := by omega
theorem chain6 {T1 T2 T3 T4 T5 T6 y0 y1 y2 y3 y4 y5 z0 z1 z2 z3 z4 z5 : Int} (e0 : 18446744073709551616 * T1 = 0 + y0 + z0) (e1 : 18446744073709551616 * T2 = T1 + y1 + z1) (e2 : 18446744073709551616 * T3 = T2 + y2 + z2) (e3 : 18446744073709551616 * T4 = T3 + y3 + z3) (e4 : 18446744073709551616 * T5 = T4 + y4 + z4) (e5 : 18446744073709551616 * T6 = T5 + y5 + z5) :
    39402006196394479212279040100143613805079739270465446667948293404245721771497210611414266254884915640806627990306816 * T6 = (y0 + 18446744073709551616 * (y1 + 18446744073709551616 * (y2 + 18446744073709551616 * (y3 + 18446744073709551616 * (y4 + 18446744073709551616 * (y5)))))) + (z0 + 18446744073709551616 * (z1 + 18446744073709551616 * (z2 + 18446744073709551616 * (z3 + 18446744073709551616 * (z4 + 18446744073709551616 * (z5)))))) := by omega
theorem horn6 (x0 x1 x2 x3 x4 x5 b : Int) : x0 * b + 18446744073709551616 * (x1 * b + 18446744073709551616 * (x2 * b + 18446744073709551616 * (x3 * b + 18446744073709551616 * (x4 * b + 18446744073709551616 * (x5 * b))))) = (x0 + 18446744073709551616 * (x1 + 18446744073709551616 * (x2 + 18446744073709551616 * (x3 + 18446744073709551616 * (x4 + 18446744073709551616 * (x5)))))) * b := by simp only [Int.add_mul, Int.mul_assoc]
theorem horm6 (x0 x1 x2 x3 x4 x5 b : Int) : b * x0 + 18446744073709551616 * (b * x1 + 18446744073709551616 * (b * x2 + 18446744073709551616 * (b * x3 + 18446744073709551616 * (b * x4 + 18446744073709551616 * (b * x5))))) = b * (x0 + 18446744073709551616 * (x1 + 18446744073709551616 * (x2 + 18446744073709551616 * (x3 + 18446744073709551616 * (x4 + 18446744073709551616 * (x5)))))) := by simp only [Int.mul_add, Int.mul_left_comm]
theorem mont_core {M a b m r Q T : Nat} (hM : 0 < M) (ha : a < M) (hb : b < M) (hab : a < m ∨ b < m) (hQ : Q < M) (hr : r < m) (h : M * T = a * b + Q * m) (hc : Nat.Coprime m M) (hrr : r * M % m = a * b % m) :
    T < 2 * m ∧ r = if T < m then T else T - m := by
  have h1 : a * b < M * m := by
    rcases hab with h' | h'
    · refine Nat.lt_of_le_of_lt (Nat.mul_le_mul_left _ (Nat.le_of_lt hb)) ?_
      rw [Nat.mul_comm M m]
      exact Nat.mul_lt_mul_of_pos_right h' hM
    · exact Nat.lt_of_le_of_lt (Nat.mul_le_mul_right _ (Nat.le_of_lt ha)) (Nat.mul_lt_mul_of_pos_left h' hM)
  have h2 : Q * m ≤ M * m := Nat.mul_le_mul_right _ (Nat.le_of_lt hQ)
  have hT : T < 2 * m := by
    have h3 : M * T < M * (2 * m) := by rw [h, show M * (2 * m) = M * m + M * m by rw [Nat.mul_left_comm]; omega]; omega
    exact Nat.lt_of_mul_lt_mul_left h3
  refine ⟨hT, ?_⟩
  obtain ⟨R, hR⟩ : ∃ R, R = if T < m then T else T - m := ⟨_, rfl⟩
  rw [← hR]
  have hRm : R < m := by rw [hR]; split <;> omega
  have hRT : R * M % m = a * b % m := by
    have : T * M % m = a * b % m := by rw [Nat.mul_comm, h]; simp
    rw [← this, Nat.mul_mod, Nat.mul_mod T]
    congr 2
    rw [hR]
    split
    · rfl
    · rename_i h'
      rw [Nat.mod_eq_sub_mod (a := T) (by omega)]
  have e : r * M % m = R * M % m := hrr.trans hRT.symm
  have key : ∀ {x y : Nat}, x < m → y < m → x * M % m = y * M % m → x ≤ y → x = y := by
    intro x y hx hy he hle
    have h4 : (y * M - x * M) % m = 0 := Nat.sub_mod_eq_zero_of_mod_eq he.symm
    rw [← Nat.sub_mul] at h4
    have h5 : m ∣ (y - x) := Nat.Coprime.dvd_of_dvd_mul_right hc (Nat.dvd_of_mod_eq_zero h4)
    have h6 := Nat.eq_zero_of_dvd_of_lt h5 (by omega)
    omega
  rcases Nat.le_total r R with h' | h'
  · exact key hr hRm e h'
  · exact (key hRm hr e.symm h').symm
theorem odd_coprime {m : Nat} (h : m % 2 = 1) (k : Nat) : Nat.Coprime m (2 ^ k) := by
  apply Nat.Coprime.pow_right
  rw [Nat.coprime_iff_gcd_eq_one, Nat.gcd_comm, Nat.gcd_rec, h]
  rfl
theorem mont_fin {M a b m r : Nat} {Q x t T : Int} (hM : 0 < M) (ha : a < M) (hb : b < M) (hm : m < M) (hab : a < m ∨ b < m) (hr : r < m) (hc : Nat.Coprime m M) (hrr : r * M % m = a * b % m)
    (hC : (M : Int) * T = (a : Int) * (b : Int) + Q * (m : Int)) (hQ : 0 ≤ Q ∧ Q < M) (hx : 0 ≤ x ∧ x < M) (ht : 0 ≤ t) (hT : T = x + (M : Int) * t) :
    ∃ s d k' : Nat, s < M ∧ (s : Int) = x ∧ d + m = s + M * k' ∧ d < M ∧ (((t > 0 ∨ k' = 0) ∧ d = r) ∨ (t = 0 ∧ k' = 1 ∧ s = r)) := by
  obtain ⟨x, rfl⟩ : ∃ n : Nat, x = n := ⟨x.toNat, by omega⟩
  obtain ⟨t, rfl⟩ : ∃ n : Nat, t = n := ⟨t.toNat, by omega⟩
  obtain ⟨Q, rfl⟩ : ∃ n : Nat, Q = n := ⟨Q.toNat, by omega⟩
  have h : M * (x + M * t) = a * b + Q * m := by
    rw [hT] at hC
    exact_mod_cast hC
  obtain ⟨h1, h2⟩ := mont_core hM ha hb hab (by omega) hr h hc hrr
  have ht2 : t < 2 := by
    rcases Nat.lt_or_ge t 2 with h' | h'
    · exact h'
    · have : M * 2 ≤ M * t := Nat.mul_le_mul_left _ h'
      omega
  have hxM : x < M := by omega
  by_cases hlt : x + M * t < m
  · have h0 : t = 0 := by
      rcases Nat.eq_zero_or_pos t with h' | h'
      · exact h'
      · have : M * 1 ≤ M * t := Nat.mul_le_mul_left _ h'
        omega
    subst h0
    rw [if_pos hlt] at h2
    exact ⟨x, x + M - m, 1, hxM, rfl, by omega, by omega, .inr ⟨rfl, rfl, by omega⟩⟩
  · rw [if_neg hlt] at h2
    have : t = 0 ∨ t = 1 := by omega
    rcases this with rfl | rfl
    · exact ⟨x, x - m, 0, hxM, rfl, by omega, by omega, .inl ⟨.inr rfl, by omega⟩⟩
    · exact ⟨x, x + M - m, 1, hxM, rfl, by omega, by omega, .inl ⟨.inl (by omega), by omega⟩⟩

theorem mont_end4 {a b m r : Nat} {x0 x1 x2 x3 q0 q1 q2 q3 T k c : Int} (ha : a < 2 ^ 256) (hb : b < 2 ^ 256) (hm : m < 2 ^ 256) (hodd : m % 2 = 1) (hab : a < m ∨ b < m) (hr : r < m) (hrr : r * 2 ^ 256 % m = a * b % m)
    (hC : 115792089237316195423570985008687907853269984665640564039457584007913129639936 * T = (a : Int) * (b : Int) + (q0 + 18446744073709551616 * (q1 + 18446744073709551616 * (q2 + 18446744073709551616 * (q3)))) * (m : Int)) (rq0 : 0 ≤ q0 ∧ q0 < 18446744073709551616) (rq1 : 0 ≤ q1 ∧ q1 < 18446744073709551616) (rq2 : 0 ≤ q2 ∧ q2 < 18446744073709551616) (rq3 : 0 ≤ q3 ∧ q3 < 18446744073709551616) (rx0 : 0 ≤ x0 ∧ x0 < 18446744073709551616) (rx1 : 0 ≤ x1 ∧ x1 < 18446744073709551616) (rx2 : 0 ≤ x2 ∧ x2 < 18446744073709551616) (rx3 : 0 ≤ x3 ∧ x3 < 18446744073709551616) (hk : 0 ≤ k ∧ k ≤ 1) (hc : 0 ≤ c ∧ c ≤ 1) (hT : T = x0 + 18446744073709551616 * (x1 + 18446744073709551616 * (x2 + 18446744073709551616 * (x3 + 18446744073709551616 * ((k + c)))))) :
    ∃ s d k' : Nat, s < 2 ^ 256 ∧ (s : Int) = x0 + 18446744073709551616 * (x1 + 18446744073709551616 * (x2 + 18446744073709551616 * (x3))) ∧ d + m = s + 2 ^ 256 * k' ∧ d < 2 ^ 256 ∧ ((((k + c > 0) ∨ k' = 0) ∧ d = r) ∨ (k + c = 0 ∧ k' = 1 ∧ s = r)) := by
  have eM : ((2 ^ 256 : Nat) : Int) = 115792089237316195423570985008687907853269984665640564039457584007913129639936 := by rfl
  have hQ : 0 ≤ q0 + 18446744073709551616 * (q1 + 18446744073709551616 * (q2 + 18446744073709551616 * (q3))) ∧ q0 + 18446744073709551616 * (q1 + 18446744073709551616 * (q2 + 18446744073709551616 * (q3))) < 115792089237316195423570985008687907853269984665640564039457584007913129639936 := by clear hC hT; omega
  have hx : 0 ≤ x0 + 18446744073709551616 * (x1 + 18446744073709551616 * (x2 + 18446744073709551616 * (x3))) ∧ x0 + 18446744073709551616 * (x1 + 18446744073709551616 * (x2 + 18446744073709551616 * (x3))) < 115792089237316195423570985008687907853269984665640564039457584007913129639936 := by clear hC hT; omega
  have hT' : T = (x0 + 18446744073709551616 * (x1 + 18446744073709551616 * (x2 + 18446744073709551616 * (x3)))) + 115792089237316195423570985008687907853269984665640564039457584007913129639936 * (k + c) := by rw [hT]; clear hC hT hQ hx; omega
  rw [← eM] at hQ hx hT' hC
  exact mont_fin (Nat.two_pow_pos 256) ha hb hm hab hr (odd_coprime hodd 256) hrr hC hQ hx (by omega) hT'
theorem mont_end6 {a b m r : Nat} {x0 x1 x2 x3 x4 x5 q0 q1 q2 q3 q4 q5 T k c : Int} (ha : a < 2 ^ 384) (hb : b < 2 ^ 384) (hm : m < 2 ^ 384) (hodd : m % 2 = 1) (hab : a < m ∨ b < m) (hr : r < m) (hrr : r * 2 ^ 384 % m = a * b % m)
    (hC : 39402006196394479212279040100143613805079739270465446667948293404245721771497210611414266254884915640806627990306816 * T = (a : Int) * (b : Int) + (q0 + 18446744073709551616 * (q1 + 18446744073709551616 * (q2 + 18446744073709551616 * (q3 + 18446744073709551616 * (q4 + 18446744073709551616 * (q5)))))) * (m : Int)) (rq0 : 0 ≤ q0 ∧ q0 < 18446744073709551616) (rq1 : 0 ≤ q1 ∧ q1 < 18446744073709551616) (rq2 : 0 ≤ q2 ∧ q2 < 18446744073709551616) (rq3 : 0 ≤ q3 ∧ q3 < 18446744073709551616) (rq4 : 0 ≤ q4 ∧ q4 < 18446744073709551616) (rq5 : 0 ≤ q5 ∧ q5 < 18446744073709551616) (rx0 : 0 ≤ x0 ∧ x0 < 18446744073709551616) (rx1 : 0 ≤ x1 ∧ x1 < 18446744073709551616) (rx2 : 0 ≤ x2 ∧ x2 < 18446744073709551616) (rx3 : 0 ≤ x3 ∧ x3 < 18446744073709551616) (rx4 : 0 ≤ x4 ∧ x4 < 18446744073709551616) (rx5 : 0 ≤ x5 ∧ x5 < 18446744073709551616) (hk : 0 ≤ k ∧ k ≤ 1) (hc : 0 ≤ c ∧ c ≤ 1) (hT : T = x0 + 18446744073709551616 * (x1 + 18446744073709551616 * (x2 + 18446744073709551616 * (x3 + 18446744073709551616 * (x4 + 18446744073709551616 * (x5 + 18446744073709551616 * ((k + c)))))))) :
    ∃ s d k' : Nat, s < 2 ^ 384 ∧ (s : Int) = x0 + 18446744073709551616 * (x1 + 18446744073709551616 * (x2 + 18446744073709551616 * (x3 + 18446744073709551616 * (x4 + 18446744073709551616 * (x5))))) ∧ d + m = s + 2 ^ 384 * k' ∧ d < 2 ^ 384 ∧ ((((k + c > 0) ∨ k' = 0) ∧ d = r) ∨ (k + c = 0 ∧ k' = 1 ∧ s = r)) := by
  have eM : ((2 ^ 384 : Nat) : Int) = 39402006196394479212279040100143613805079739270465446667948293404245721771497210611414266254884915640806627990306816 := by rfl
  have hQ : 0 ≤ q0 + 18446744073709551616 * (q1 + 18446744073709551616 * (q2 + 18446744073709551616 * (q3 + 18446744073709551616 * (q4 + 18446744073709551616 * (q5))))) ∧ q0 + 18446744073709551616 * (q1 + 18446744073709551616 * (q2 + 18446744073709551616 * (q3 + 18446744073709551616 * (q4 + 18446744073709551616 * (q5))))) < 39402006196394479212279040100143613805079739270465446667948293404245721771497210611414266254884915640806627990306816 := by clear hC hT; omega
  have hx : 0 ≤ x0 + 18446744073709551616 * (x1 + 18446744073709551616 * (x2 + 18446744073709551616 * (x3 + 18446744073709551616 * (x4 + 18446744073709551616 * (x5))))) ∧ x0 + 18446744073709551616 * (x1 + 18446744073709551616 * (x2 + 18446744073709551616 * (x3 + 18446744073709551616 * (x4 + 18446744073709551616 * (x5))))) < 39402006196394479212279040100143613805079739270465446667948293404245721771497210611414266254884915640806627990306816 := by clear hC hT; omega
  have hT' : T = (x0 + 18446744073709551616 * (x1 + 18446744073709551616 * (x2 + 18446744073709551616 * (x3 + 18446744073709551616 * (x4 + 18446744073709551616 * (x5)))))) + 39402006196394479212279040100143613805079739270465446667948293404245721771497210611414266254884915640806627990306816 * (k + c) := by rw [hT]; clear hC hT hQ hx; omega
  rw [← eM] at hQ hx hT' hC
  exact mont_fin (Nat.two_pow_pos 384) ha hb hm hab hr (odd_coprime hodd 384) hrr hC hQ hx (by omega) hT'
end Go.Proofs.Ytlmlganfjnokiaa
