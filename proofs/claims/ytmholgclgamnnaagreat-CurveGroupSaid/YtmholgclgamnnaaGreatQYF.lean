import Derived.Test.YtmholgclgamnnaaGreatQYD
section
set_option linter.unusedVariables false
set_option linter.unusedSimpArgs false
namespace Go.Proofs.YtmholgclgamnnaaGreat
open Go Eng
set_option maxRecDepth 100000
set_option exponentiation.threshold 2000
def LN : Nat → Nat := fun _ => 0
/-- Whole numbers that stay within bounds. -/
abbrev Fits (n : Int) : Prop := -9223372036854775808 ≤ n ∧ n < 9223372036854775808
theorem i_add {A : Ar} (hA : A = Ar.real) {x y : Int} (h : Fits (x + y)) : A.bin .add .i64 x y = x + y := by rw [hA]; exact wrap_i64 _ h
theorem i_sub {A : Ar} (hA : A = Ar.real) {x y : Int} (h : Fits (x - y)) : A.bin .sub .i64 x y = x - y := by rw [hA]; exact wrap_i64 _ h
theorem i_mul {A : Ar} (hA : A = Ar.real) {x y : Int} (h : Fits (x * y)) : A.bin .mul .i64 x y = x * y := by rw [hA]; exact wrap_i64 _ h
theorem i_quo {A : Ar} (hA : A = Ar.real) {x y : Int} (hx : 0 ≤ x) (hy : 0 < y) (h : Fits (x / y)) : A.bin .quo .i64 x y = x / y := by
  rw [hA]
  show IntKind.i64.wrap (x.tdiv y) = _
  rw [Int.tdiv_eq_ediv_of_nonneg hx]
  exact wrap_i64 _ h
theorem i_rem {A : Ar} (hA : A = Ar.real) {x y : Int} (hx : 0 ≤ x) : A.bin .rem .i64 x y = x % y := by
  rw [hA]
  show x.tmod y = _
  rw [Int.tmod_eq_emod_of_nonneg hx]
theorem e_add {A : Ar} (hA : A = Ar.real) {x y a b z : Int} (hx : x = a) (hy : y = b) (hz : a + b = z) (h : Fits z) : A.bin .add .i64 x y = z := by subst hx; subst hy; subst hz; exact i_add hA h
theorem e_sub {A : Ar} (hA : A = Ar.real) {x y a b z : Int} (hx : x = a) (hy : y = b) (hz : a - b = z) (h : Fits z) : A.bin .sub .i64 x y = z := by subst hx; subst hy; subst hz; exact i_sub hA h
theorem e_mul {A : Ar} (hA : A = Ar.real) {x y a b z : Int} (hx : x = a) (hy : y = b) (hz : a * b = z) (h : Fits z) : A.bin .mul .i64 x y = z := by subst hx; subst hy; subst hz; exact i_mul hA h
theorem e_quo {A : Ar} (hA : A = Ar.real) {x y a b z : Int} (hx : x = a) (hy : y = b) (hz : a / b = z) (h0 : 0 ≤ a) (h1 : 0 < b) (h : Fits z) : A.bin .quo .i64 x y = z := by subst hx; subst hy; subst hz; exact i_quo hA h0 h1 h
theorem e_rem {A : Ar} (hA : A = Ar.real) {x y a b z : Int} (hx : x = a) (hy : y = b) (hz : a % b = z) (h0 : 0 ≤ a) : A.bin .rem .i64 x y = z := by subst hx; subst hy; subst hz; exact i_rem hA h0
theorem a_len {A : Ar} (hA : A = Ar.real) (n : Nat) : A.len n = n := by rw [hA]; rfl
theorem a_okbS {A : Ar} (hA : A = Ar.real) {y : Int} (h : 0 ≤ y) : A.okb .shr y = true ∧ A.okb .shl y = true := by
  rw [hA]
  constructor <;> (show (!decide (y < 0)) = true; rw [decide_eq_false (by omega)]; rfl)
theorem i_ge {A : Ar} (hA : A = Ar.real) {x y : Int} : A.cmp .geq x y = decide (x ≥ y) := by rw [hA]; rfl
theorem i_lt {A : Ar} (hA : A = Ar.real) {x y : Int} : A.cmp .lss x y = decide (x < y) := by rw [hA]; rfl
theorem i_eq {A : Ar} (hA : A = Ar.real) {x y : Int} : A.cmp .eql x y = decide (x = y) := by
  rw [hA]; show (x == y) = _; by_cases h : x = y <;> simp [h]
theorem i_ne {A : Ar} (hA : A = Ar.real) {x y : Int} : A.cmp .neq x y = !decide (x = y) := by
  rw [hA]; show (x != y) = _; by_cases h : x = y <;> simp [h]
theorem a_not {A : Ar} (hA : A = Ar.real) (t : Bool) : A.not t = !t := by rw [hA]; rfl
theorem u_bit {A : Ar} (hA : A = Ar.real) {x k : Int} {b : Nat} (hx : 0 ≤ x ∧ x < 18446744073709551616) (hk : k = b) (hb : b ≤ 64) : A.bin .and .u64 (A.bin .shr .u64 x k) 1 = ((x.toNat / 2 ^ b % 2 : Nat) : Int) := by
  obtain ⟨a, rfl⟩ : ∃ n : Nat, x = n := ⟨x.toNat, by omega⟩
  subst hk
  rw [hA]
  show rbin .and .u64 (rbin .shr .u64 (Int.ofNat a) (Int.ofNat b)) (Int.ofNat (2 ^ 1 - 1)) = _
  rw [u_shr a b (by omega), u_mask _ 1 (by omega) (Nat.lt_of_le_of_lt (Nat.div_le_self _ _) (by omega))]
  rfl
/-- Words as a row. -/
def IsRow (cs : List AVal) (ws : Nat → Int) (n : Nat) : Prop := cs.length = n ∧ ∀ i, i < n → lsub cs (i * 1) 1 = some [.s .u64 (ws i)]
/-- A bit of a row, from the highest. -/
def bitAt (ws : Nat → Int) (n i : Nat) : Nat := (ws ((64 * n - 1 - i) / 64)).toNat / 2 ^ ((64 * n - 1 - i) % 64) % 2
theorem digitsI {cs : List AVal} {ws : Nat → Int} {n : Nat} (hcs : IsRow cs ws n) (hn : n < 1000) (hw : ∀ i, i < n → 0 ≤ ws i ∧ ws i < 18446744073709551616) (xs : Nat → List AVal)
    (hx : ∀ i, i < 64 * n → xs i = [.s .u64 (bitAt ws n i : Nat)]) : SeqSp Tryz.prog 226 [.ref [.lst true n cs] 0] (64 * n) xs := by
  refine mkI Tryz.func226 rfl rfl LN R0 (by decide +kernel) (by decide +kernel) fun A S hA hSn hxs => ?_
  unfold bodyOf Tryz.f226
  cbv
  refine .inv (α := Nat × Int) (fun p => ⟨[.v (.func (.yield S.l) #[] #[]), .ref [.lst true n cs] 0, .tup [], .s .i64 p.2, .any, .any, .any, .any, .any, .any, .any, .any, .any, .any, .any, .any, .any, .any, .any, .any, .any, .any, .any, .any], ghost p.1⟩)
    (fun p => p.1 ≤ 64 * n ∧ p.2 = 64 * n - 1 - p.1) (fun p => 64 * n - p.1) (0, 64 * (n : Int) - 1) ?_ ⟨Nat.zero_le _, by omega⟩ ?_
  · have e : A.bin .sub .i64 (A.bin .mul .i64 64 (A.len n)) 1 = 64 * (n : Int) - 1 := e_sub hA (e_mul hA rfl (a_len hA n) rfl (by omega)) rfl rfl (by omega)
    generalize 64 * (n : Int) - 1 = y at e
    cbv
    simp only [and_true]
    exact e
  rintro ⟨j, i⟩ ⟨hj, hi⟩
  dsimp only at hj hi ⊢
  by_cases h0 : i ≥ 0
  · obtain ⟨k, rfl⟩ : ∃ k : Nat, i = k := ⟨i.toNat, by omega⟩
    have hjk : 64 * n - 1 - j = k := by omega
    have hj' : j < 64 * n := by omega
    obtain ⟨y, hy⟩ : ∃ y : Int, y = k - 1 := ⟨_, rfl⟩
    have hlast : y = 64 * n - 1 - (j + 1 : Nat) := by omega
    have hk2 : k < 64000 := by omega
    have hdec : 64 * n - (j + 1) < 64 * n - j := by omega
    obtain ⟨q, hqk⟩ : ∃ q, q = k / 64 := ⟨_, rfl⟩
    have hqn : q < n := by omega
    have hrem : A.bin .rem .i64 (k : Int) 64 = ((k % 64 : Nat) : Int) := e_rem hA rfl rfl (by omega) (by omega)
    have hquo : A.bin .quo .i64 (k : Int) 64 = (q : Int) := e_quo hA rfl rfl (by omega) (by omega) (by omega) (by omega)
    have hsub : A.bin .sub .i64 (k : Int) 1 = y := e_sub hA rfl rfl hy.symm (by omega)
    have hok : A.okb .shr (A.bin .rem .i64 (k : Int) 64) = true := by rw [hrem]; exact (a_okbS hA (by omega)).1
    have hge : A.cmp .geq (k : Int) 0 = true := (i_ge hA).trans (decide_eq_true (by omega))
    have hq := hcs.2 q hqn
    have hbit := u_bit hA (hw q hqn) hrem (by omega)
    have hargs : [AVal.s .u64 (A.bin .and .u64 (A.bin .shr .u64 (ws q) (A.bin .rem .i64 (k : Int) 64)) 1)] = S.xs j := by
      rw [hxs, hx j hj', hbit]
      unfold bitAt
      rw [hjk, hqk]
    cbv
    refine ABr.t hge ?_
    cbv
    refine .mk q hquo hqn ?_
    cbv
    refine .mk _ hq ?_
    cbv
    refine .mk hok ?_
    cbv
    refine .mk j rfl (by rw [hSn]; exact hj') rfl hargs ?_
    cbv
    refine ⟨(j + 1, y), ?_, ⟨hj', hlast⟩, hdec⟩
    cbv
    simp only [and_true]
    exact hsub
  · have hge : A.cmp .geq i 0 = false := (i_ge hA).trans (decide_eq_false h0)
    have hjn : j = 64 * n := by omega
    obtain ⟨e, he⟩ : ∃ e, e = ghost (64 * n) := ⟨_, rfl⟩
    rw [← he]
    cbv
    refine ABr.f hge ?_
    cbv
    rw [he, ← hjn]
    rfl
theorem lim_inj4 {lim : Lim} (hl : lim = limR) {a b : Nat} (ha : a < 2 ^ 256) (hb : b < 2 ^ 256) (h : lim a 0 = lim b 0 ∧ lim a 1 = lim b 1 ∧ lim a 2 = lim b 2 ∧ lim a 3 = lim b 3) : a = b := by
  have e1 := split4 hl a ha
  have e2 := split4 hl b hb
  obtain ⟨h0, h1, h2, h3⟩ := h
  rw [h0, h1, h2, h3, ← e2] at e1
  omega
theorem lim_inj6 {lim : Lim} (hl : lim = limR) {a b : Nat} (ha : a < 2 ^ 384) (hb : b < 2 ^ 384) (h : lim a 0 = lim b 0 ∧ lim a 1 = lim b 1 ∧ lim a 2 = lim b 2 ∧ lim a 3 = lim b 3 ∧ lim a 4 = lim b 4 ∧ lim a 5 = lim b 5) : a = b := by
  have e1 := split6 hl a ha
  have e2 := split6 hl b hb
  obtain ⟨h0, h1, h2, h3, h4, h5⟩ := h
  rw [h0, h1, h2, h3, h4, h5, ← e2] at e1
  omega
end Go.Proofs.YtmholgclgamnnaaGreat
end
section
set_option linter.unusedVariables false
set_option linter.unusedSimpArgs false
namespace Go.Proofs.YtmholgclgamnnaaGreat
open Go Eng
set_option maxRecDepth 100000
set_option exponentiation.threshold 2000

/-- A ring's cells. -/
def ring4 (lim : Lim) (m inv fast one two : Nat) : List AVal :=
  [.i .i64 1, .s .u64 (lim m 0), .s .u64 (lim m 1), .s .u64 (lim m 2), .s .u64 (lim m 3), .s .u64 inv, .s .i64 fast, .s .u64 (lim one 0), .s .u64 (lim one 1), .s .u64 (lim one 2), .s .u64 (lim one 3),
   .s .u64 (lim two 0), .s .u64 (lim two 1), .s .u64 (lim two 2), .s .u64 (lim two 3)]
def ring6 (lim : Lim) (m inv fast one two : Nat) : List AVal :=
  [.i .i64 1, .s .u64 (lim m 0), .s .u64 (lim m 1), .s .u64 (lim m 2), .s .u64 (lim m 3), .s .u64 (lim m 4), .s .u64 (lim m 5), .s .u64 inv, .s .i64 fast,
   .s .u64 (lim one 0), .s .u64 (lim one 1), .s .u64 (lim one 2), .s .u64 (lim one 3), .s .u64 (lim one 4), .s .u64 (lim one 5),
   .s .u64 (lim two 0), .s .u64 (lim two 1), .s .u64 (lim two 2), .s .u64 (lim two 3), .s .u64 (lim two 4), .s .u64 (lim two 5)]
end Go.Proofs.YtmholgclgamnnaaGreat
end
section
set_option linter.unusedVariables false
set_option linter.unusedSimpArgs false
namespace Go.Proofs.YtmholgclgamnnaaGreat
open Go Eng
set_option maxRecDepth 100000
set_option exponentiation.threshold 2000
theorem low0 {m l inv q z g : Int} (hi : (m * inv + 1) % 18446744073709551616 = 0) (hq : q = l * inv % 18446744073709551616) (h : z + 18446744073709551616 * g = q * m + l + 0) (hz : 0 ≤ z ∧ z < 18446744073709551616) : z = 0 := by
  have h1 : (q * m + l) % 18446744073709551616 = 0 := by
    rw [hq, Int.add_emod, Int.mul_emod, Int.emod_emod_of_dvd _ (Int.dvd_refl _), ← Int.mul_emod, ← Int.add_emod]
    have : l * inv * m + l = l * (m * inv + 1) := by
      rw [Int.mul_add, Int.mul_one, Int.mul_assoc, Int.mul_comm inv m]
    rw [this, Int.mul_emod, hi]
    simp
  omega
theorem modr {q x : Int} (h : q = x % 18446744073709551616) : 0 ≤ q ∧ q < 18446744073709551616 := by omega
theorem kcr {k c : Int} (hk : 0 ≤ k ∧ k ≤ 1) (hc : 0 ≤ c ∧ c ≤ 1) : 0 ≤ k + c ∧ k + c < 18446744073709551616 := by omega
theorem kcw {k c : Int} (hk : 0 ≤ k ∧ k ≤ 1) (hc : 0 ≤ c ∧ c ≤ 1) : (k + c) % 18446744073709551616 = k + c := by omega
theorem sub_arg {x y : Int} (h : x = y) {f : FuncId} {r : AVal} {rest : List AVal} (hs : Sp f (.s .u64 y :: rest) r) : Sp f (.s .u64 x :: rest) r := h ▸ hs
theorem round4 {p0 p1 p2 p3 r0 r1 r2 r3 l0 l1 l2 l3 h0 h1 h2 h3 g0 g1 g2 g3 u0 u1 u2 u3 t0 t1 t2 t3 t4 k c s : Int}
    (e0 : l0 + 18446744073709551616 * h0 = p0 + t0 + 0) (e1 : l1 + 18446744073709551616 * h1 = p1 + t1 + h0) (e2 : l2 + 18446744073709551616 * h2 = p2 + t2 + h1) (e3 : l3 + 18446744073709551616 * h3 = p3 + t3 + h2) (ea : s + 18446744073709551616 * k = t4 + h3 + 0)
    (f0 : 0 + 18446744073709551616 * g0 = r0 + l0 + 0) (f1 : u0 + 18446744073709551616 * g1 = r1 + l1 + g0) (f2 : u1 + 18446744073709551616 * g2 = r2 + l2 + g1) (f3 : u2 + 18446744073709551616 * g3 = r3 + l3 + g2) (fa : u3 + 18446744073709551616 * c = s + g3 + 0) :
    18446744073709551616 * (u0 + 18446744073709551616 * (u1 + 18446744073709551616 * (u2 + 18446744073709551616 * (u3 + 18446744073709551616 * ((k + c)))))) = (t0 + 18446744073709551616 * (t1 + 18446744073709551616 * (t2 + 18446744073709551616 * (t3 + 18446744073709551616 * (t4))))) + (p0 + 18446744073709551616 * (p1 + 18446744073709551616 * (p2 + 18446744073709551616 * (p3)))) + (r0 + 18446744073709551616 * (r1 + 18446744073709551616 * (r2 + 18446744073709551616 * (r3)))) := by omega
theorem chain4 {T1 T2 T3 T4 y0 y1 y2 y3 z0 z1 z2 z3 : Int} (e0 : 18446744073709551616 * T1 = 0 + y0 + z0) (e1 : 18446744073709551616 * T2 = T1 + y1 + z1) (e2 : 18446744073709551616 * T3 = T2 + y2 + z2) (e3 : 18446744073709551616 * T4 = T3 + y3 + z3) :
    115792089237316195423570985008687907853269984665640564039457584007913129639936 * T4 = (y0 + 18446744073709551616 * (y1 + 18446744073709551616 * (y2 + 18446744073709551616 * (y3)))) + (z0 + 18446744073709551616 * (z1 + 18446744073709551616 * (z2 + 18446744073709551616 * (z3)))) := by omega
theorem horn4 (x0 x1 x2 x3 b : Int) : x0 * b + 18446744073709551616 * (x1 * b + 18446744073709551616 * (x2 * b + 18446744073709551616 * (x3 * b))) = (x0 + 18446744073709551616 * (x1 + 18446744073709551616 * (x2 + 18446744073709551616 * (x3)))) * b := by simp only [Int.add_mul, Int.mul_assoc]
theorem horm4 (x0 x1 x2 x3 b : Int) : b * x0 + 18446744073709551616 * (b * x1 + 18446744073709551616 * (b * x2 + 18446744073709551616 * (b * x3))) = b * (x0 + 18446744073709551616 * (x1 + 18446744073709551616 * (x2 + 18446744073709551616 * (x3)))) := by simp only [Int.mul_add, Int.mul_left_comm]
theorem round6 {p0 p1 p2 p3 p4 p5 r0 r1 r2 r3 r4 r5 l0 l1 l2 l3 l4 l5 h0 h1 h2 h3 h4 h5 g0 g1 g2 g3 g4 g5 u0 u1 u2 u3 u4 u5 t0 t1 t2 t3 t4 t5 t6 k c s : Int}
    (e0 : l0 + 18446744073709551616 * h0 = p0 + t0 + 0) (e1 : l1 + 18446744073709551616 * h1 = p1 + t1 + h0) (e2 : l2 + 18446744073709551616 * h2 = p2 + t2 + h1) (e3 : l3 + 18446744073709551616 * h3 = p3 + t3 + h2) (e4 : l4 + 18446744073709551616 * h4 = p4 + t4 + h3) (e5 : l5 + 18446744073709551616 * h5 = p5 + t5 + h4) (ea : s + 18446744073709551616 * k = t6 + h5 + 0)
    (f0 : 0 + 18446744073709551616 * g0 = r0 + l0 + 0) (f1 : u0 + 18446744073709551616 * g1 = r1 + l1 + g0) (f2 : u1 + 18446744073709551616 * g2 = r2 + l2 + g1) (f3 : u2 + 18446744073709551616 * g3 = r3 + l3 + g2) (f4 : u3 + 18446744073709551616 * g4 = r4 + l4 + g3) (f5 : u4 + 18446744073709551616 * g5 = r5 + l5 + g4) (fa : u5 + 18446744073709551616 * c = s + g5 + 0) :
    18446744073709551616 * (u0 + 18446744073709551616 * (u1 + 18446744073709551616 * (u2 + 18446744073709551616 * (u3 + 18446744073709551616 * (u4 + 18446744073709551616 * (u5 + 18446744073709551616 * ((k + c)))))))) = (t0 + 18446744073709551616 * (t1 + 18446744073709551616 * (t2 + 18446744073709551616 * (t3 + 18446744073709551616 * (t4 + 18446744073709551616 * (t5 + 18446744073709551616 * (t6))))))) + (p0 + 18446744073709551616 * (p1 + 18446744073709551616 * (p2 + 18446744073709551616 * (p3 + 18446744073709551616 * (p4 + 18446744073709551616 * (p5)))))) + (r0 + 18446744073709551616 * (r1 + 18446744073709551616 * (r2 + 18446744073709551616 * (r3 + 18446744073709551616 * (r4 + 18446744073709551616 * (r5)))))) := by omega
theorem chain6 {T1 T2 T3 T4 T5 T6 y0 y1 y2 y3 y4 y5 z0 z1 z2 z3 z4 z5 : Int} (e0 : 18446744073709551616 * T1 = 0 + y0 + z0) (e1 : 18446744073709551616 * T2 = T1 + y1 + z1) (e2 : 18446744073709551616 * T3 = T2 + y2 + z2) (e3 : 18446744073709551616 * T4 = T3 + y3 + z3) (e4 : 18446744073709551616 * T5 = T4 + y4 + z4) (e5 : 18446744073709551616 * T6 = T5 + y5 + z5) :
    39402006196394479212279040100143613805079739270465446667948293404245721771497210611414266254884915640806627990306816 * T6 = (y0 + 18446744073709551616 * (y1 + 18446744073709551616 * (y2 + 18446744073709551616 * (y3 + 18446744073709551616 * (y4 + 18446744073709551616 * (y5)))))) + (z0 + 18446744073709551616 * (z1 + 18446744073709551616 * (z2 + 18446744073709551616 * (z3 + 18446744073709551616 * (z4 + 18446744073709551616 * (z5)))))) := by omega
theorem horn6 (x0 x1 x2 x3 x4 x5 b : Int) : x0 * b + 18446744073709551616 * (x1 * b + 18446744073709551616 * (x2 * b + 18446744073709551616 * (x3 * b + 18446744073709551616 * (x4 * b + 18446744073709551616 * (x5 * b))))) = (x0 + 18446744073709551616 * (x1 + 18446744073709551616 * (x2 + 18446744073709551616 * (x3 + 18446744073709551616 * (x4 + 18446744073709551616 * (x5)))))) * b := by simp only [Int.add_mul, Int.mul_assoc]
theorem horm6 (x0 x1 x2 x3 x4 x5 b : Int) : b * x0 + 18446744073709551616 * (b * x1 + 18446744073709551616 * (b * x2 + 18446744073709551616 * (b * x3 + 18446744073709551616 * (b * x4 + 18446744073709551616 * (b * x5))))) = b * (x0 + 18446744073709551616 * (x1 + 18446744073709551616 * (x2 + 18446744073709551616 * (x3 + 18446744073709551616 * (x4 + 18446744073709551616 * (x5)))))) := by simp only [Int.mul_add, Int.mul_left_comm]
theorem mont_core {M a b m r Q T : Nat} (hM : 0 < M) (ha : a < M) (hb : b < M) (hab : a < m ∨ b < m) (hQ : Q < M) (hr : r < m) (h : M * T = a * b + Q * m) (hc : Nat.Coprime m M) (hrr : r * M % m = a * b % m) :
    T < 2 * m ∧ r = if T < m then T else T - m := by
  have h1 : a * b < M * m := by
    rcases hab with h' | h'
    · refine Nat.lt_of_le_of_lt (Nat.mul_le_mul_left _ (Nat.le_of_lt hb)) ?_
      rw [Nat.mul_comm M m]
      exact Nat.mul_lt_mul_of_pos_right h' hM
    · exact Nat.lt_of_le_of_lt (Nat.mul_le_mul_right _ (Nat.le_of_lt ha)) (Nat.mul_lt_mul_of_pos_left h' hM)
  have h2 : Q * m ≤ M * m := Nat.mul_le_mul_right _ (Nat.le_of_lt hQ)
  have hT : T < 2 * m := by
    have h3 : M * T < M * (2 * m) := by rw [h, show M * (2 * m) = M * m + M * m by rw [Nat.mul_left_comm]; omega]; omega
    exact Nat.lt_of_mul_lt_mul_left h3
  refine ⟨hT, ?_⟩
  obtain ⟨R, hR⟩ : ∃ R, R = if T < m then T else T - m := ⟨_, rfl⟩
  rw [← hR]
  have hRm : R < m := by rw [hR]; split <;> omega
  have hRT : R * M % m = a * b % m := by
    have : T * M % m = a * b % m := by rw [Nat.mul_comm, h]; simp
    rw [← this, Nat.mul_mod, Nat.mul_mod T]
    congr 2
    rw [hR]
    split
    · rfl
    · rename_i h'
      rw [Nat.mod_eq_sub_mod (a := T) (by omega)]
  have e : r * M % m = R * M % m := hrr.trans hRT.symm
  have key : ∀ {x y : Nat}, x < m → y < m → x * M % m = y * M % m → x ≤ y → x = y := by
    intro x y hx hy he hle
    have h4 : (y * M - x * M) % m = 0 := Nat.sub_mod_eq_zero_of_mod_eq he.symm
    rw [← Nat.sub_mul] at h4
    have h5 : m ∣ (y - x) := Nat.Coprime.dvd_of_dvd_mul_right hc (Nat.dvd_of_mod_eq_zero h4)
    have h6 := Nat.eq_zero_of_dvd_of_lt h5 (by omega)
    omega
  rcases Nat.le_total r R with h' | h'
  · exact key hr hRm e h'
  · exact (key hRm hr e.symm h').symm
theorem odd_coprime {m : Nat} (h : m % 2 = 1) (k : Nat) : Nat.Coprime m (2 ^ k) := by
  apply Nat.Coprime.pow_right
  rw [Nat.coprime_iff_gcd_eq_one, Nat.gcd_comm, Nat.gcd_rec, h]
  rfl
theorem mont_fin {M a b m r : Nat} {Q x t T : Int} (hM : 0 < M) (ha : a < M) (hb : b < M) (hm : m < M) (hab : a < m ∨ b < m) (hr : r < m) (hc : Nat.Coprime m M) (hrr : r * M % m = a * b % m)
    (hC : (M : Int) * T = (a : Int) * (b : Int) + Q * (m : Int)) (hQ : 0 ≤ Q ∧ Q < M) (hx : 0 ≤ x ∧ x < M) (ht : 0 ≤ t) (hT : T = x + (M : Int) * t) :
    ∃ s d k' : Nat, s < M ∧ (s : Int) = x ∧ d + m = s + M * k' ∧ d < M ∧ (((t > 0 ∨ k' = 0) ∧ d = r) ∨ (t = 0 ∧ k' = 1 ∧ s = r)) := by
  obtain ⟨x, rfl⟩ : ∃ n : Nat, x = n := ⟨x.toNat, by omega⟩
  obtain ⟨t, rfl⟩ : ∃ n : Nat, t = n := ⟨t.toNat, by omega⟩
  obtain ⟨Q, rfl⟩ : ∃ n : Nat, Q = n := ⟨Q.toNat, by omega⟩
  have h : M * (x + M * t) = a * b + Q * m := by
    rw [hT] at hC
    exact_mod_cast hC
  obtain ⟨h1, h2⟩ := mont_core hM ha hb hab (by omega) hr h hc hrr
  have ht2 : t < 2 := by
    rcases Nat.lt_or_ge t 2 with h' | h'
    · exact h'
    · have : M * 2 ≤ M * t := Nat.mul_le_mul_left _ h'
      omega
  have hxM : x < M := by omega
  by_cases hlt : x + M * t < m
  · have h0 : t = 0 := by
      rcases Nat.eq_zero_or_pos t with h' | h'
      · exact h'
      · have : M * 1 ≤ M * t := Nat.mul_le_mul_left _ h'
        omega
    subst h0
    rw [if_pos hlt] at h2
    exact ⟨x, x + M - m, 1, hxM, rfl, by omega, by omega, .inr ⟨rfl, rfl, by omega⟩⟩
  · rw [if_neg hlt] at h2
    have : t = 0 ∨ t = 1 := by omega
    rcases this with rfl | rfl
    · exact ⟨x, x - m, 0, hxM, rfl, by omega, by omega, .inl ⟨.inr rfl, by omega⟩⟩
    · exact ⟨x, x + M - m, 1, hxM, rfl, by omega, by omega, .inl ⟨.inl (by omega), by omega⟩⟩

theorem mont_end4 {a b m r : Nat} {x0 x1 x2 x3 q0 q1 q2 q3 T k c : Int} (ha : a < 2 ^ 256) (hb : b < 2 ^ 256) (hm : m < 2 ^ 256) (hodd : m % 2 = 1) (hab : a < m ∨ b < m) (hr : r < m) (hrr : r * 2 ^ 256 % m = a * b % m)
    (hC : 115792089237316195423570985008687907853269984665640564039457584007913129639936 * T = (a : Int) * (b : Int) + (q0 + 18446744073709551616 * (q1 + 18446744073709551616 * (q2 + 18446744073709551616 * (q3)))) * (m : Int)) (rq0 : 0 ≤ q0 ∧ q0 < 18446744073709551616) (rq1 : 0 ≤ q1 ∧ q1 < 18446744073709551616) (rq2 : 0 ≤ q2 ∧ q2 < 18446744073709551616) (rq3 : 0 ≤ q3 ∧ q3 < 18446744073709551616) (rx0 : 0 ≤ x0 ∧ x0 < 18446744073709551616) (rx1 : 0 ≤ x1 ∧ x1 < 18446744073709551616) (rx2 : 0 ≤ x2 ∧ x2 < 18446744073709551616) (rx3 : 0 ≤ x3 ∧ x3 < 18446744073709551616) (hk : 0 ≤ k ∧ k ≤ 1) (hc : 0 ≤ c ∧ c ≤ 1) (hT : T = x0 + 18446744073709551616 * (x1 + 18446744073709551616 * (x2 + 18446744073709551616 * (x3 + 18446744073709551616 * ((k + c)))))) :
    ∃ s d k' : Nat, s < 2 ^ 256 ∧ (s : Int) = x0 + 18446744073709551616 * (x1 + 18446744073709551616 * (x2 + 18446744073709551616 * (x3))) ∧ d + m = s + 2 ^ 256 * k' ∧ d < 2 ^ 256 ∧ ((((k + c > 0) ∨ k' = 0) ∧ d = r) ∨ (k + c = 0 ∧ k' = 1 ∧ s = r)) := by
  have eM : ((2 ^ 256 : Nat) : Int) = 115792089237316195423570985008687907853269984665640564039457584007913129639936 := by rfl
  have hQ : 0 ≤ q0 + 18446744073709551616 * (q1 + 18446744073709551616 * (q2 + 18446744073709551616 * (q3))) ∧ q0 + 18446744073709551616 * (q1 + 18446744073709551616 * (q2 + 18446744073709551616 * (q3))) < 115792089237316195423570985008687907853269984665640564039457584007913129639936 := by clear hC hT; omega
  have hx : 0 ≤ x0 + 18446744073709551616 * (x1 + 18446744073709551616 * (x2 + 18446744073709551616 * (x3))) ∧ x0 + 18446744073709551616 * (x1 + 18446744073709551616 * (x2 + 18446744073709551616 * (x3))) < 115792089237316195423570985008687907853269984665640564039457584007913129639936 := by clear hC hT; omega
  have hT' : T = (x0 + 18446744073709551616 * (x1 + 18446744073709551616 * (x2 + 18446744073709551616 * (x3)))) + 115792089237316195423570985008687907853269984665640564039457584007913129639936 * (k + c) := by rw [hT]; clear hC hT hQ hx; omega
  rw [← eM] at hQ hx hT' hC
  exact mont_fin (Nat.two_pow_pos 256) ha hb hm hab hr (odd_coprime hodd 256) hrr hC hQ hx (by omega) hT'
theorem mont_end6 {a b m r : Nat} {x0 x1 x2 x3 x4 x5 q0 q1 q2 q3 q4 q5 T k c : Int} (ha : a < 2 ^ 384) (hb : b < 2 ^ 384) (hm : m < 2 ^ 384) (hodd : m % 2 = 1) (hab : a < m ∨ b < m) (hr : r < m) (hrr : r * 2 ^ 384 % m = a * b % m)
    (hC : 39402006196394479212279040100143613805079739270465446667948293404245721771497210611414266254884915640806627990306816 * T = (a : Int) * (b : Int) + (q0 + 18446744073709551616 * (q1 + 18446744073709551616 * (q2 + 18446744073709551616 * (q3 + 18446744073709551616 * (q4 + 18446744073709551616 * (q5)))))) * (m : Int)) (rq0 : 0 ≤ q0 ∧ q0 < 18446744073709551616) (rq1 : 0 ≤ q1 ∧ q1 < 18446744073709551616) (rq2 : 0 ≤ q2 ∧ q2 < 18446744073709551616) (rq3 : 0 ≤ q3 ∧ q3 < 18446744073709551616) (rq4 : 0 ≤ q4 ∧ q4 < 18446744073709551616) (rq5 : 0 ≤ q5 ∧ q5 < 18446744073709551616) (rx0 : 0 ≤ x0 ∧ x0 < 18446744073709551616) (rx1 : 0 ≤ x1 ∧ x1 < 18446744073709551616) (rx2 : 0 ≤ x2 ∧ x2 < 18446744073709551616) (rx3 : 0 ≤ x3 ∧ x3 < 18446744073709551616) (rx4 : 0 ≤ x4 ∧ x4 < 18446744073709551616) (rx5 : 0 ≤ x5 ∧ x5 < 18446744073709551616) (hk : 0 ≤ k ∧ k ≤ 1) (hc : 0 ≤ c ∧ c ≤ 1) (hT : T = x0 + 18446744073709551616 * (x1 + 18446744073709551616 * (x2 + 18446744073709551616 * (x3 + 18446744073709551616 * (x4 + 18446744073709551616 * (x5 + 18446744073709551616 * ((k + c)))))))) :
    ∃ s d k' : Nat, s < 2 ^ 384 ∧ (s : Int) = x0 + 18446744073709551616 * (x1 + 18446744073709551616 * (x2 + 18446744073709551616 * (x3 + 18446744073709551616 * (x4 + 18446744073709551616 * (x5))))) ∧ d + m = s + 2 ^ 384 * k' ∧ d < 2 ^ 384 ∧ ((((k + c > 0) ∨ k' = 0) ∧ d = r) ∨ (k + c = 0 ∧ k' = 1 ∧ s = r)) := by
  have eM : ((2 ^ 384 : Nat) : Int) = 39402006196394479212279040100143613805079739270465446667948293404245721771497210611414266254884915640806627990306816 := by rfl
  have hQ : 0 ≤ q0 + 18446744073709551616 * (q1 + 18446744073709551616 * (q2 + 18446744073709551616 * (q3 + 18446744073709551616 * (q4 + 18446744073709551616 * (q5))))) ∧ q0 + 18446744073709551616 * (q1 + 18446744073709551616 * (q2 + 18446744073709551616 * (q3 + 18446744073709551616 * (q4 + 18446744073709551616 * (q5))))) < 39402006196394479212279040100143613805079739270465446667948293404245721771497210611414266254884915640806627990306816 := by clear hC hT; omega
  have hx : 0 ≤ x0 + 18446744073709551616 * (x1 + 18446744073709551616 * (x2 + 18446744073709551616 * (x3 + 18446744073709551616 * (x4 + 18446744073709551616 * (x5))))) ∧ x0 + 18446744073709551616 * (x1 + 18446744073709551616 * (x2 + 18446744073709551616 * (x3 + 18446744073709551616 * (x4 + 18446744073709551616 * (x5))))) < 39402006196394479212279040100143613805079739270465446667948293404245721771497210611414266254884915640806627990306816 := by clear hC hT; omega
  have hT' : T = (x0 + 18446744073709551616 * (x1 + 18446744073709551616 * (x2 + 18446744073709551616 * (x3 + 18446744073709551616 * (x4 + 18446744073709551616 * (x5)))))) + 39402006196394479212279040100143613805079739270465446667948293404245721771497210611414266254884915640806627990306816 * (k + c) := by rw [hT]; clear hC hT hQ hx; omega
  rw [← eM] at hQ hx hT' hC
  exact mont_fin (Nat.two_pow_pos 384) ha hb hm hab hr (odd_coprime hodd 384) hrr hC hQ hx (by omega) hT'
end Go.Proofs.YtmholgclgamnnaaGreat
end
