import Derived.Test.YtlmlganfjnokiaaD
set_option linter.unusedVariables false
set_option linter.unusedSimpArgs false
namespace Go.Proofs.Ytlmlganfjnokiaa
open Go Eng
set_option maxRecDepth 100000
set_option exponentiation.threshold 2000
def LN : Nat → Nat := fun _ => 0
/-- Whole numbers that stay within bounds. -/
abbrev Fits (n : Int) : Prop := -9223372036854775808 ≤ n ∧ n < 9223372036854775808
theorem i_add {A : Ar} (hA : A = Ar.real) {x y : Int} (h : Fits (x + y)) : A.bin .add .i64 x y = x + y := by rw [hA]; exact wrap_i64 _ h
theorem i_sub {A : Ar} (hA : A = Ar.real) {x y : Int} (h : Fits (x - y)) : A.bin .sub .i64 x y = x - y := by rw [hA]; exact wrap_i64 _ h
theorem i_mul {A : Ar} (hA : A = Ar.real) {x y : Int} (h : Fits (x * y)) : A.bin .mul .i64 x y = x * y := by rw [hA]; exact wrap_i64 _ h
theorem i_quo {A : Ar} (hA : A = Ar.real) {x y : Int} (hx : 0 ≤ x) (hy : 0 < y) (h : Fits (x / y)) : A.bin .quo .i64 x y = x / y := by
  rw [hA]
  show IntKind.i64.wrap (x.tdiv y) = _
  rw [Int.tdiv_eq_ediv_of_nonneg hx]
  exact wrap_i64 _ h
theorem i_rem {A : Ar} (hA : A = Ar.real) {x y : Int} (hx : 0 ≤ x) : A.bin .rem .i64 x y = x % y := by
  rw [hA]
  show x.tmod y = _
  rw [Int.tmod_eq_emod_of_nonneg hx]
theorem e_add {A : Ar} (hA : A = Ar.real) {x y a b z : Int} (hx : x = a) (hy : y = b) (hz : a + b = z) (h : Fits z) : A.bin .add .i64 x y = z := by subst hx; subst hy; subst hz; exact i_add hA h
theorem e_sub {A : Ar} (hA : A = Ar.real) {x y a b z : Int} (hx : x = a) (hy : y = b) (hz : a - b = z) (h : Fits z) : A.bin .sub .i64 x y = z := by subst hx; subst hy; subst hz; exact i_sub hA h
theorem e_mul {A : Ar} (hA : A = Ar.real) {x y a b z : Int} (hx : x = a) (hy : y = b) (hz : a * b = z) (h : Fits z) : A.bin .mul .i64 x y = z := by subst hx; subst hy; subst hz; exact i_mul hA h
theorem e_quo {A : Ar} (hA : A = Ar.real) {x y a b z : Int} (hx : x = a) (hy : y = b) (hz : a / b = z) (h0 : 0 ≤ a) (h1 : 0 < b) (h : Fits z) : A.bin .quo .i64 x y = z := by subst hx; subst hy; subst hz; exact i_quo hA h0 h1 h
theorem e_rem {A : Ar} (hA : A = Ar.real) {x y a b z : Int} (hx : x = a) (hy : y = b) (hz : a % b = z) (h0 : 0 ≤ a) : A.bin .rem .i64 x y = z := by subst hx; subst hy; subst hz; exact i_rem hA h0
theorem a_len {A : Ar} (hA : A = Ar.real) (n : Nat) : A.len n = n := by rw [hA]; rfl
theorem a_okb {A : Ar} (hA : A = Ar.real) {op : BinOp} {y : Int} (h : rokb op y = true) : A.okb op y = true := by rw [hA]; exact h
theorem a_okbS {A : Ar} (hA : A = Ar.real) {y : Int} (h : 0 ≤ y) : A.okb .shr y = true ∧ A.okb .shl y = true := by
  rw [hA]
  constructor <;> (show (!decide (y < 0)) = true; rw [decide_eq_false (by omega)]; rfl)
theorem a_inb {A : Ar} (hA : A = Ar.real) {i : Int} {n : Nat} (h0 : 0 ≤ i) (h1 : i < n) : A.inb i n = true := by
  rw [hA]
  show (decide (0 ≤ i) && decide (i < (n : Int))) = true
  rw [decide_eq_true h0, decide_eq_true h1]; rfl
theorem i_ge {A : Ar} (hA : A = Ar.real) {x y : Int} : A.cmp .geq x y = decide (x ≥ y) := by rw [hA]; rfl
theorem i_lt {A : Ar} (hA : A = Ar.real) {x y : Int} : A.cmp .lss x y = decide (x < y) := by rw [hA]; rfl
theorem i_eq {A : Ar} (hA : A = Ar.real) {x y : Int} : A.cmp .eql x y = decide (x = y) := by
  rw [hA]; show (x == y) = _; by_cases h : x = y <;> simp [h]
theorem i_ne {A : Ar} (hA : A = Ar.real) {x y : Int} : A.cmp .neq x y = !decide (x = y) := by
  rw [hA]; show (x != y) = _; by_cases h : x = y <;> simp [h]
theorem a_not {A : Ar} (hA : A = Ar.real) (t : Bool) : A.not t = !t := by rw [hA]; rfl
theorem u_bit {A : Ar} (hA : A = Ar.real) {x k : Int} {b : Nat} (hx : 0 ≤ x ∧ x < 18446744073709551616) (hk : k = b) (hb : b ≤ 64) : A.bin .and .u64 (A.bin .shr .u64 x k) 1 = ((x.toNat / 2 ^ b % 2 : Nat) : Int) := by
  obtain ⟨a, rfl⟩ : ∃ n : Nat, x = n := ⟨x.toNat, by omega⟩
  subst hk
  rw [hA]
  show rbin .and .u64 (rbin .shr .u64 (Int.ofNat a) (Int.ofNat b)) (Int.ofNat (2 ^ 1 - 1)) = _
  rw [u_shr a b (by omega), u_mask _ 1 (by omega) (Nat.lt_of_le_of_lt (Nat.div_le_self _ _) (by omega))]
  rfl
/-- Words as a row. -/
def IsRow (cs : List AVal) (ws : Nat → Int) (n : Nat) : Prop := cs.length = n ∧ ∀ i, i < n → lsub cs (i * 1) 1 = some [.s .u64 (ws i)]
/-- A bit of a row, from the highest. -/
def bitAt (ws : Nat → Int) (n i : Nat) : Nat := (ws ((64 * n - 1 - i) / 64)).toNat / 2 ^ ((64 * n - 1 - i) % 64) % 2
theorem digitsI {cs : List AVal} {ws : Nat → Int} {n : Nat} (hcs : IsRow cs ws n) (hn : n < 1000) (hw : ∀ i, i < n → 0 ≤ ws i ∧ ws i < 18446744073709551616) (xs : Nat → List AVal)
    (hx : ∀ i, i < 64 * n → xs i = [.s .u64 (bitAt ws n i : Nat)]) : SeqSp Try.prog 108 [.ref [.lst true n cs] 0] (64 * n) xs := by
  refine mkI Try.func108 rfl rfl LN R0 (by decide +kernel) (by decide +kernel) fun A S hA hSn hxs => ?_
  unfold bodyOf Try.f108
  cbv
  refine .inv (α := Nat × Int) (fun p => ⟨[.v (.func (.yield S.l) #[] #[]), .ref [.lst true n cs] 0, .tup [], .s .i64 p.2, .any, .any, .any, .any, .any, .any, .any, .any, .any, .any, .any, .any, .any, .any, .any, .any, .any, .any, .any, .any], ghost p.1⟩)
    (fun p => p.1 ≤ 64 * n ∧ p.2 = 64 * n - 1 - p.1) (fun p => 64 * n - p.1) (0, 64 * (n : Int) - 1) ?_ ⟨Nat.zero_le _, by omega⟩ ?_
  · have e : A.bin .sub .i64 (A.bin .mul .i64 64 (A.len n)) 1 = 64 * (n : Int) - 1 := e_sub hA (e_mul hA rfl (a_len hA n) rfl (by omega)) rfl rfl (by omega)
    generalize 64 * (n : Int) - 1 = y at e
    cbv
    simp only [and_true]
    exact e
  rintro ⟨j, i⟩ ⟨hj, hi⟩
  dsimp only at hj hi ⊢
  by_cases h0 : i ≥ 0
  · obtain ⟨k, rfl⟩ : ∃ k : Nat, i = k := ⟨i.toNat, by omega⟩
    have hjk : 64 * n - 1 - j = k := by omega
    have hj' : j < 64 * n := by omega
    obtain ⟨y, hy⟩ : ∃ y : Int, y = k - 1 := ⟨_, rfl⟩
    have hlast : y = 64 * n - 1 - (j + 1 : Nat) := by omega
    have hk2 : k < 64000 := by omega
    have hdec : 64 * n - (j + 1) < 64 * n - j := by omega
    obtain ⟨q, hqk⟩ : ∃ q, q = k / 64 := ⟨_, rfl⟩
    have hqn : q < n := by omega
    have hrem : A.bin .rem .i64 (k : Int) 64 = ((k % 64 : Nat) : Int) := e_rem hA rfl rfl (by omega) (by omega)
    have hquo : A.bin .quo .i64 (k : Int) 64 = (q : Int) := e_quo hA rfl rfl (by omega) (by omega) (by omega) (by omega)
    have hsub : A.bin .sub .i64 (k : Int) 1 = y := e_sub hA rfl rfl hy.symm (by omega)
    have hok : A.okb .shr (A.bin .rem .i64 (k : Int) 64) = true := by rw [hrem]; exact (a_okbS hA (by omega)).1
    have hge : A.cmp .geq (k : Int) 0 = true := (i_ge hA).trans (decide_eq_true (by omega))
    have hq := hcs.2 q hqn
    have hbit := u_bit hA (hw q hqn) hrem (by omega)
    have hargs : [AVal.s .u64 (A.bin .and .u64 (A.bin .shr .u64 (ws q) (A.bin .rem .i64 (k : Int) 64)) 1)] = S.xs j := by
      rw [hxs, hx j hj', hbit]
      unfold bitAt
      rw [hjk, hqk]
    cbv
    refine ABr.t hge ?_
    cbv
    refine .mk q hquo hqn ?_
    cbv
    refine .mk _ hq ?_
    cbv
    refine .mk hok ?_
    cbv
    refine .mk j rfl (by rw [hSn]; exact hj') rfl hargs ?_
    cbv
    refine ⟨(j + 1, y), ?_, ⟨hj', hlast⟩, hdec⟩
    cbv
    simp only [and_true]
    exact hsub
  · have hge : A.cmp .geq i 0 = false := (i_ge hA).trans (decide_eq_false h0)
    have hjn : j = 64 * n := by omega
    obtain ⟨e, he⟩ : ∃ e, e = ghost (64 * n) := ⟨_, rfl⟩
    rw [← he]
    cbv
    refine ABr.f hge ?_
    cbv
    rw [he, ← hjn]
    rfl
theorem lim_inj4 {lim : Lim} (hl : lim = limR) {a b : Nat} (ha : a < 2 ^ 256) (hb : b < 2 ^ 256) (h : lim a 0 = lim b 0 ∧ lim a 1 = lim b 1 ∧ lim a 2 = lim b 2 ∧ lim a 3 = lim b 3) : a = b := by
  have e1 := split4 hl a ha
  have e2 := split4 hl b hb
  obtain ⟨h0, h1, h2, h3⟩ := h
  rw [h0, h1, h2, h3, ← e2] at e1
  omega
theorem lim_inj6 {lim : Lim} (hl : lim = limR) {a b : Nat} (ha : a < 2 ^ 384) (hb : b < 2 ^ 384) (h : lim a 0 = lim b 0 ∧ lim a 1 = lim b 1 ∧ lim a 2 = lim b 2 ∧ lim a 3 = lim b 3 ∧ lim a 4 = lim b 4 ∧ lim a 5 = lim b 5) : a = b := by
  have e1 := split6 hl a ha
  have e2 := split6 hl b hb
  obtain ⟨h0, h1, h2, h3, h4, h5⟩ := h
  rw [h0, h1, h2, h3, h4, h5, ← e2] at e1
  omega
end Go.Proofs.Ytlmlganfjnokiaa
