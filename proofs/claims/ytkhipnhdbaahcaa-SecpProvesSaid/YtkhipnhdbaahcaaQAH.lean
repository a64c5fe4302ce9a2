import Derived.Test.YtkhipnhdbaahcaaQAC
import Derived.Lib.Mul64
set_option linter.unusedVariables false
set_option linter.unusedSimpArgs false
set_option linter.unusedSectionVars false
set_option maxRecDepth 100000
set_option exponentiation.threshold 2000
section
namespace Go.Proofs.Ytkhipnhdbaahcaa
open Go Eng
theorem shr32 (a : Nat) : rbin .shr .u64 (Int.ofNat a) 32 = Int.ofNat (a / 4294967296) := u_shr a 32 (by omega)
theorem and32 (a : Nat) (ha : a < 18446744073709551616) : rbin .and .u64 (Int.ofNat a) 4294967295 = Int.ofNat (a % 4294967296) := u_mask a 32 (by omega) ha
theorem mul64S (x y hi lo : Nat) (hx : x < 2 ^ 64) (hy : y < 2 ^ 64) (h : lo + 2 ^ 64 * hi = x * y) (hlo : lo < 2 ^ 64) : Sp 94 [.s .u64 x, .s .u64 y] (.tup [.s .u64 hi, .s .u64 lo]) := by
 refine mk Try.func94 rfl rfl L0 R0 (by decide +kernel) fun A S hA hS => ?_
 unfold bodyOf Try.f94
 cbv
 subst hA
 dsimp only [Ar.real]
 clear hS S
 obtain ⟨h1, h2, h3, h4⟩ := Go.Lib.mul64_hi x y (by simpa using hx) (by simpa using hy)
 have ex : x * y % 18446744073709551616 = lo := by omega
 have eh : x * y / 18446744073709551616 = hi := by omega
 have ha := Go.Lib.half_mul_le (a := x / 4294967296) (b := y / 4294967296) (by omega) (by omega)
 have hb := Go.Lib.half_mul_le (a := x / 4294967296) (b := y % 4294967296) (by omega) (by omega)
 have hc := Go.Lib.half_mul_le (a := x % 4294967296) (b := y / 4294967296) (by omega) (by omega)
 have hd := Go.Lib.half_mul_le (a := x % 4294967296) (b := y % 4294967296) (by omega) (by omega)
 rw [and32 x (by simpa using hx), and32 y (by simpa using hy)]
 simp only [shr32, u_mul]
 rw [Nat.mod_eq_of_lt (show x / 4294967296 * (y / 4294967296) < _ by omega), Nat.mod_eq_of_lt (show x / 4294967296 * (y % 4294967296) < _ by omega), Nat.mod_eq_of_lt (show x % 4294967296 * (y / 4294967296) < _ by omega), Nat.mod_eq_of_lt h1]
 simp only [shr32, u_add]
 rw [Nat.mod_eq_of_lt h2, and32 _ h2]
 simp only [shr32, u_add]
 rw [Nat.mod_eq_of_lt h3, ex]
 rw [← Nat.add_mod_mod, Nat.add_mod_mod] at *
 rw [Nat.mod_add_mod, h4, eh, Nat.mod_eq_of_lt (by omega)]
 exact ⟨rfl, rfl⟩
theorem less_dif {n a b d : Nat} (ha : a < n) (hb : b < n) (t : Bool) (ht : t = decide (a < b)) (hd : d = if a < b then a + n - b else a - b) : ∃ k : Nat, d + b = a + n * k ∧ d < n ∧ k = (if t then 1 else 0) := by
 by_cases h : a < b
 . rw [if_pos h] at hd
   rw [ht, decide_eq_true h]
   exact ⟨1, by omega, by omega, rfl⟩
 . rw [if_neg h] at hd
   rw [ht, decide_eq_false h]
   exact ⟨0, by omega, by omega, rfl⟩
theorem less4S {lim : Lim} (hl : lim = limR) (a b : Nat) (ha : a < 2 ^ 256) (hb : b < 2 ^ 256) (t : Bool) (ht : t = decide (a < b)) : Sp 75 [u4 lim a, u4 lim b] (.sb t) := by
 obtain ⟨d, hd⟩ : ∃ d, d = if a < b then a + 2 ^ 256 - b else a - b := ⟨_, rfl⟩
 obtain ⟨k, h1, h2, h3⟩ := less_dif ha hb t ht hd
 refine mk Try.func75 rfl rfl L0 R0 (by decide +kernel) fun A S hA hS => ?_
 unfold bodyOf Try.f75
 cbv
 refine ACall.mk (.tup [u4 lim d, .s .u64 k]) (cf hS (minus4 hl a b d k ha hb h1 h2)) ?_
 cbv
 subst hA
 cases t <;> simp at h3 <;> subst h3 <;> rfl
theorem none4S : Sp 74 [] (.agg [.i .u64 0, .i .u64 0, .i .u64 0, .i .u64 0]) := by
 refine mk Try.func74 rfl rfl L0 R0 (by decide +kernel) fun A S hA hS => ?_
 unfold bodyOf Try.f74
 cbv
theorem stepN {Z C : AVal} (x y z c hi lo : Nat) (hx : x < 18446744073709551616) (hy : y < 18446744073709551616) (hz : z < 18446744073709551616) (hc : c < 18446744073709551616) (hZ : IsU Z z) (hC : IsU C c)
   (h : lo + 18446744073709551616 * hi = x * y + z + c) (hlo : lo < 18446744073709551616) : Sp 121 [.s .u64 x, .s .u64 y, Z, C] (.tup [.s .u64 hi, .s .u64 lo]) := by
 have hxy : x * y ≤ 18446744073709551615 * 18446744073709551615 := Nat.mul_le_mul (by omega) (by omega)
 obtain ⟨p, hp⟩ : ∃ p, p = x * y := ⟨_, rfl⟩
 rw [← hp] at hxy h
 obtain ⟨h0, eh0⟩ : ∃ n, n = p / 18446744073709551616 := ⟨_, rfl⟩
 obtain ⟨l0, el0⟩ : ∃ n, n = p % 18446744073709551616 := ⟨_, rfl⟩
 obtain ⟨l1, k1, e1, r1, q1⟩ := carry (x := l0) (y := z) (z := 0) (by omega) (by omega) (by omega)
 obtain ⟨l2, k2, e2, r2, q2⟩ := carry (x := l1) (y := c) (z := 0) r1 (by omega) (by omega)
 obtain ⟨k1, rfl⟩ : ∃ n : Nat, k1 = n := ⟨k1.toNat, by omega⟩
 obtain ⟨k2, rfl⟩ : ∃ n : Nat, k2 = n := ⟨k2.toNat, by omega⟩
 have hm := mul64S x y h0 l0 (by omega) (by omega) (by omega) (by omega)
 have hfin : l2 = lo ∧ h0 + k1 + k2 = hi := by omega
 have hhi : h0 + k1 + k2 < 18446744073709551616 := by omega
 clear eh0 el0 hxy h
 cases hZ <;> cases hC
 all_goals
   refine mk Try.func121 rfl rfl L0 R0 (by decide +kernel) fun A S hA hS => ?_
   unfold bodyOf Try.f121
   cbv
   refine ACall.mk (.tup [.s .u64 h0, .s .u64 l0]) (cf hS hm) ?_
   cbv
   refine ACall.mk (.tup [.s .u64 l1, .s .u64 k1]) (cf hS (add64S (.s _) (by first | exact .i _ | exact .s _) (.i _) (by exact Int.natCast_nonneg _) (by exact Int.natCast_nonneg _) (by omega) _ _ e1 r1)) ?_
   cbv
   refine ACall.mk (.tup [.s .u64 l2, .s .u64 k2]) (cf hS (add64S (.s _) (by first | exact .i _ | exact .s _) (.i _) r1.1 (by exact Int.natCast_nonneg _) (by omega) _ _ e2 r2)) ?_
   cbv
   subst hA
   dsimp only [Ar.real]
   rw [u_add, u_add, Nat.mod_eq_of_lt (by omega), Nat.mod_eq_of_lt (by omega), hfin.2, hfin.1]
   exact ⟨rfl, rfl⟩
theorem stepS {Z C : AVal} (x y z c hi lo : Int) (hx : 0 ≤ x ∧ x < 18446744073709551616) (hy : 0 ≤ y ∧ y < 18446744073709551616) (hz : 0 ≤ z ∧ z < 18446744073709551616) (hc : 0 ≤ c ∧ c < 18446744073709551616) (hZ : IsU Z z) (hC : IsU C c)
   (h : lo + 18446744073709551616 * hi = x * y + z + c) (hlo : 0 ≤ lo ∧ lo < 18446744073709551616) : Sp 121 [.s .u64 x, .s .u64 y, Z, C] (.tup [.s .u64 hi, .s .u64 lo]) := by
 obtain ⟨x, rfl⟩ : ∃ n : Nat, x = n := ⟨x.toNat, by omega⟩
 obtain ⟨y, rfl⟩ : ∃ n : Nat, y = n := ⟨y.toNat, by omega⟩
 obtain ⟨z, rfl⟩ : ∃ n : Nat, z = n := ⟨z.toNat, by omega⟩
 obtain ⟨c, rfl⟩ : ∃ n : Nat, c = n := ⟨c.toNat, by omega⟩
 obtain ⟨lo, rfl⟩ : ∃ n : Nat, lo = n := ⟨lo.toNat, by omega⟩
 have hxy : (0 : Int) ≤ (x : Int) * (y : Int) := Int.mul_nonneg (by omega) (by omega)
 obtain ⟨hi, rfl⟩ : ∃ n : Nat, hi = n := ⟨hi.toNat, by omega⟩
 refine stepN x y z c hi lo (by omega) (by omega) (by omega) (by omega) hZ hC ?_ (by omega)
 rw [← Int.natCast_mul] at h
 omega
theorem steps {x y z c : Int} (hx : 0 ≤ x ∧ x < 18446744073709551616) (hy : 0 ≤ y ∧ y < 18446744073709551616) (hz : 0 ≤ z ∧ z < 18446744073709551616) (hc : 0 ≤ c ∧ c < 18446744073709551616) :
   ∃ lo hi : Int, lo + 18446744073709551616 * hi = x * y + z + c ∧ (0 ≤ lo ∧ lo < 18446744073709551616) ∧ 0 ≤ hi ∧ hi < 18446744073709551616 := by
 have h1 : (0 : Int) ≤ x * y := Int.mul_nonneg hx.1 hy.1
 have h2 : x * y ≤ 18446744073709551615 * 18446744073709551615 := Int.mul_le_mul (by omega) (by omega) hy.1 (by omega)
 obtain ⟨p, hp⟩ : ∃ p, p = x * y := ⟨_, rfl⟩
 rw [← hp] at h1 h2 ⊢
 exact ⟨(p + z + c) % 18446744073709551616, (p + z + c) / 18446744073709551616, by omega, by omega, by omega, by omega⟩
def LN : Nat → Nat := fun _ => 0
abbrev Fits (n : Int) : Prop := -9223372036854775808 ≤ n ∧ n < 9223372036854775808
theorem i_add {A : Ar} (hA : A = Ar.real) {x y : Int} (h : Fits (x + y)) : A.bin .add .i64 x y = x + y := by rw [hA]; exact wrap_i64 _ h
theorem i_sub {A : Ar} (hA : A = Ar.real) {x y : Int} (h : Fits (x - y)) : A.bin .sub .i64 x y = x - y := by rw [hA]; exact wrap_i64 _ h
theorem i_mul {A : Ar} (hA : A = Ar.real) {x y : Int} (h : Fits (x * y)) : A.bin .mul .i64 x y = x * y := by rw [hA]; exact wrap_i64 _ h
theorem i_quo {A : Ar} (hA : A = Ar.real) {x y : Int} (hx : 0 ≤ x) (hy : 0 < y) (h : Fits (x / y)) : A.bin .quo .i64 x y = x / y := by
 rw [hA]
 show IntKind.i64.wrap (x.tdiv y) = _
 rw [Int.tdiv_eq_ediv_of_nonneg hx]
 exact wrap_i64 _ h
theorem i_rem {A : Ar} (hA : A = Ar.real) {x y : Int} (hx : 0 ≤ x) : A.bin .rem .i64 x y = x % y := by
 rw [hA]
 show x.tmod y = _
 rw [Int.tmod_eq_emod_of_nonneg hx]
theorem e_add {A : Ar} (hA : A = Ar.real) {x y a b z : Int} (hx : x = a) (hy : y = b) (hz : a + b = z) (h : Fits z) : A.bin .add .i64 x y = z := by subst hx; subst hy; subst hz; exact i_add hA h
theorem e_sub {A : Ar} (hA : A = Ar.real) {x y a b z : Int} (hx : x = a) (hy : y = b) (hz : a - b = z) (h : Fits z) : A.bin .sub .i64 x y = z := by subst hx; subst hy; subst hz; exact i_sub hA h
theorem e_mul {A : Ar} (hA : A = Ar.real) {x y a b z : Int} (hx : x = a) (hy : y = b) (hz : a * b = z) (h : Fits z) : A.bin .mul .i64 x y = z := by subst hx; subst hy; subst hz; exact i_mul hA h
theorem e_quo {A : Ar} (hA : A = Ar.real) {x y a b z : Int} (hx : x = a) (hy : y = b) (hz : a / b = z) (h0 : 0 ≤ a) (h1 : 0 < b) (h : Fits z) : A.bin .quo .i64 x y = z := by subst hx; subst hy; subst hz; exact i_quo hA h0 h1 h
theorem e_rem {A : Ar} (hA : A = Ar.real) {x y a b z : Int} (hx : x = a) (hy : y = b) (hz : a % b = z) (h0 : 0 ≤ a) : A.bin .rem .i64 x y = z := by subst hx; subst hy; subst hz; exact i_rem hA h0
theorem a_len {A : Ar} (hA : A = Ar.real) (n : Nat) : A.len n = n := by rw [hA]; rfl
theorem a_okbS {A : Ar} (hA : A = Ar.real) {y : Int} (h : 0 ≤ y) : A.okb .shr y = true ∧ A.okb .shl y = true := by
 rw [hA]
 constructor <;> (show (!decide (y < 0)) = true; rw [decide_eq_false (by omega)]; rfl)
theorem i_ge {A : Ar} (hA : A = Ar.real) {x y : Int} : A.cmp .geq x y = decide (x ≥ y) := by rw [hA]; rfl
theorem i_lt {A : Ar} (hA : A = Ar.real) {x y : Int} : A.cmp .lss x y = decide (x < y) := by rw [hA]; rfl
theorem i_eq {A : Ar} (hA : A = Ar.real) {x y : Int} : A.cmp .eql x y = decide (x = y) := by
 rw [hA]; show (x == y) = _; by_cases h : x = y <;> simp [h]
theorem i_ne {A : Ar} (hA : A = Ar.real) {x y : Int} : A.cmp .neq x y = !decide (x = y) := by
 rw [hA]; show (x != y) = _; by_cases h : x = y <;> simp [h]
theorem a_not {A : Ar} (hA : A = Ar.real) (t : Bool) : A.not t = !t := by rw [hA]; rfl
theorem u_bit {A : Ar} (hA : A = Ar.real) {x k : Int} {b : Nat} (hx : 0 ≤ x ∧ x < 18446744073709551616) (hk : k = b) (hb : b ≤ 64) : A.bin .and .u64 (A.bin .shr .u64 x k) 1 = ((x.toNat / 2 ^ b % 2 : Nat) : Int) := by
 obtain ⟨a, rfl⟩ : ∃ n : Nat, x = n := ⟨x.toNat, by omega⟩
 subst hk
 rw [hA]
 show rbin .and .u64 (rbin .shr .u64 (Int.ofNat a) (Int.ofNat b)) (Int.ofNat (2 ^ 1 - 1)) = _
 rw [u_shr a b (by omega), u_mask _ 1 (by omega) (Nat.lt_of_le_of_lt (Nat.div_le_self _ _) (by omega))]
 rfl
def IsRow (cs : List AVal) (ws : Nat → Int) (n : Nat) : Prop := cs.length = n ∧ ∀ i, i < n → lsub cs (i * 1) 1 = some [.s .u64 (ws i)]
def bitAt (ws : Nat → Int) (n i : Nat) : Nat := (ws ((64 * n - 1 - i) / 64)).toNat / 2 ^ ((64 * n - 1 - i) % 64) % 2
theorem digitsI {cs : List AVal} {ws : Nat → Int} {n : Nat} (hcs : IsRow cs ws n) (hn : n < 1000) (hw : ∀ i, i < n → 0 ≤ ws i ∧ ws i < 18446744073709551616) (xs : Nat → List AVal)
   (hx : ∀ i, i < 64 * n → xs i = [.s .u64 (bitAt ws n i : Nat)]) : SeqSp Try.prog 123 [.ref [.lst true n cs] 0] (64 * n) xs := by
 refine mkI Try.func123 rfl rfl LN R0 (by decide +kernel) (by decide +kernel) fun A S hA hSn hxs => ?_
 unfold bodyOf Try.f123
 cbv
 refine .inv (α := Nat × Int) (fun p => ⟨[.v (.func (.yield S.l) #[] #[]), .ref [.lst true n cs] 0, .tup [], .s .i64 p.2, .any, .any, .any, .any, .any, .any, .any, .any, .any, .any, .any, .any, .any, .any, .any, .any, .any, .any, .any, .any], ghost p.1⟩)
   (fun p => p.1 ≤ 64 * n ∧ p.2 = 64 * n - 1 - p.1) (fun p => 64 * n - p.1) (0, 64 * (n : Int) - 1) ?_ ⟨Nat.zero_le _, by omega⟩ ?_
 . have e : A.bin .sub .i64 (A.bin .mul .i64 64 (A.len n)) 1 = 64 * (n : Int) - 1 := e_sub hA (e_mul hA rfl (a_len hA n) rfl (by omega)) rfl rfl (by omega)
   generalize 64 * (n : Int) - 1 = y at e
   cbv
   simp only [and_true]
   exact e
 rintro ⟨j, i⟩ ⟨hj, hi⟩
 dsimp only at hj hi ⊢
 by_cases h0 : i ≥ 0
 . obtain ⟨k, rfl⟩ : ∃ k : Nat, i = k := ⟨i.toNat, by omega⟩
   have hjk : 64 * n - 1 - j = k := by omega
   have hj' : j < 64 * n := by omega
   obtain ⟨y, hy⟩ : ∃ y : Int, y = k - 1 := ⟨_, rfl⟩
   have hlast : y = 64 * n - 1 - (j + 1 : Nat) := by omega
   have hk2 : k < 64000 := by omega
   have hdec : 64 * n - (j + 1) < 64 * n - j := by omega
   obtain ⟨q, hqk⟩ : ∃ q, q = k / 64 := ⟨_, rfl⟩
   have hqn : q < n := by omega
   have hrem : A.bin .rem .i64 (k : Int) 64 = ((k % 64 : Nat) : Int) := e_rem hA rfl rfl (by omega) (by omega)
   have hquo : A.bin .quo .i64 (k : Int) 64 = (q : Int) := e_quo hA rfl rfl (by omega) (by omega) (by omega) (by omega)
   have hsub : A.bin .sub .i64 (k : Int) 1 = y := e_sub hA rfl rfl hy.symm (by omega)
   have hok : A.okb .shr (A.bin .rem .i64 (k : Int) 64) = true := by rw [hrem]; exact (a_okbS hA (by omega)).1
   have hge : A.cmp .geq (k : Int) 0 = true := (i_ge hA).trans (decide_eq_true (by omega))
   have hq := hcs.2 q hqn
   have hbit := u_bit hA (hw q hqn) hrem (by omega)
   have hargs : [AVal.s .u64 (A.bin .and .u64 (A.bin .shr .u64 (ws q) (A.bin .rem .i64 (k : Int) 64)) 1)] = S.xs j := by
     rw [hxs, hx j hj', hbit]
     unfold bitAt
     rw [hjk, hqk]
   cbv
   refine ABr.t hge ?_
   cbv
   refine .mk q hquo hqn ?_
   cbv
   refine .mk _ hq ?_
   cbv
   refine .mk hok ?_
   cbv
   refine .mk j rfl (by rw [hSn]; exact hj') rfl hargs ?_
   cbv
   refine ⟨(j + 1, y), ?_, ⟨hj', hlast⟩, hdec⟩
   cbv
   simp only [and_true]
   exact hsub
 . have hge : A.cmp .geq i 0 = false := (i_ge hA).trans (decide_eq_false h0)
   have hjn : j = 64 * n := by omega
   obtain ⟨e, he⟩ : ∃ e, e = ghost (64 * n) := ⟨_, rfl⟩
   rw [← he]
   cbv
   refine ABr.f hge ?_
   cbv
   rw [he, ← hjn]
   rfl
theorem lim_inj4 {lim : Lim} (hl : lim = limR) {a b : Nat} (ha : a < 2 ^ 256) (hb : b < 2 ^ 256) (h : lim a 0 = lim b 0 ∧ lim a 1 = lim b 1 ∧ lim a 2 = lim b 2 ∧ lim a 3 = lim b 3) : a = b := by
 have e1 := split4 hl a ha
 have e2 := split4 hl b hb
 obtain ⟨h0, h1, h2, h3⟩ := h
 rw [h0, h1, h2, h3, ← e2] at e1
 omega
def ring4 (lim : Lim) (m inv fast one two : Nat) : List AVal :=
 [.i .i64 1, .s .u64 (lim m 0), .s .u64 (lim m 1), .s .u64 (lim m 2), .s .u64 (lim m 3), .s .u64 inv, .s .i64 fast, .s .u64 (lim one 0), .s .u64 (lim one 1), .s .u64 (lim one 2), .s .u64 (lim one 3),
  .s .u64 (lim two 0), .s .u64 (lim two 1), .s .u64 (lim two 2), .s .u64 (lim two 3)]
theorem low0 {m l inv q z g : Int} (hi : (m * inv + 1) % 18446744073709551616 = 0) (hq : q = l * inv % 18446744073709551616) (h : z + 18446744073709551616 * g = q * m + l + 0) (hz : 0 ≤ z ∧ z < 18446744073709551616) : z = 0 := by
 have h1 : (q * m + l) % 18446744073709551616 = 0 := by
   rw [hq, Int.add_emod, Int.mul_emod, Int.emod_emod_of_dvd _ (Int.dvd_refl _), ← Int.mul_emod, ← Int.add_emod]
   have : l * inv * m + l = l * (m * inv + 1) := by
     rw [Int.mul_add, Int.mul_one, Int.mul_assoc, Int.mul_comm inv m]
   rw [this, Int.mul_emod, hi]
   simp
 omega
theorem modr {q x : Int} (h : q = x % 18446744073709551616) : 0 ≤ q ∧ q < 18446744073709551616 := by omega
theorem kcr {k c : Int} (hk : 0 ≤ k ∧ k ≤ 1) (hc : 0 ≤ c ∧ c ≤ 1) : 0 ≤ k + c ∧ k + c < 18446744073709551616 := by omega
theorem kcw {k c : Int} (hk : 0 ≤ k ∧ k ≤ 1) (hc : 0 ≤ c ∧ c ≤ 1) : (k + c) % 18446744073709551616 = k + c := by omega
theorem sub_arg {x y : Int} (h : x = y) {f : FuncId} {r : AVal} {rest : List AVal} (hs : Sp f (.s .u64 y :: rest) r) : Sp f (.s .u64 x :: rest) r := h ▸ hs
theorem round4 {p0 p1 p2 p3 r0 r1 r2 r3 l0 l1 l2 l3 h0 h1 h2 h3 g0 g1 g2 g3 u0 u1 u2 u3 t0 t1 t2 t3 t4 k c s : Int}
   (e0 : l0 + 18446744073709551616 * h0 = p0 + t0 + 0) (e1 : l1 + 18446744073709551616 * h1 = p1 + t1 + h0) (e2 : l2 + 18446744073709551616 * h2 = p2 + t2 + h1) (e3 : l3 + 18446744073709551616 * h3 = p3 + t3 + h2) (ea : s + 18446744073709551616 * k = t4 + h3 + 0)
   (f0 : 0 + 18446744073709551616 * g0 = r0 + l0 + 0) (f1 : u0 + 18446744073709551616 * g1 = r1 + l1 + g0) (f2 : u1 + 18446744073709551616 * g2 = r2 + l2 + g1) (f3 : u2 + 18446744073709551616 * g3 = r3 + l3 + g2) (fa : u3 + 18446744073709551616 * c = s + g3 + 0) :
   18446744073709551616 * (u0 + 18446744073709551616 * (u1 + 18446744073709551616 * (u2 + 18446744073709551616 * (u3 + 18446744073709551616 * ((k + c)))))) = (t0 + 18446744073709551616 * (t1 + 18446744073709551616 * (t2 + 18446744073709551616 * (t3 + 18446744073709551616 * (t4))))) + (p0 + 18446744073709551616 * (p1 + 18446744073709551616 * (p2 + 18446744073709551616 * (p3)))) + (r0 + 18446744073709551616 * (r1 + 18446744073709551616 * (r2 + 18446744073709551616 * (r3)))) := by omega
theorem chain4 {T1 T2 T3 T4 y0 y1 y2 y3 z0 z1 z2 z3 : Int} (e0 : 18446744073709551616 * T1 = 0 + y0 + z0) (e1 : 18446744073709551616 * T2 = T1 + y1 + z1) (e2 : 18446744073709551616 * T3 = T2 + y2 + z2) (e3 : 18446744073709551616 * T4 = T3 + y3 + z3) :
   115792089237316195423570985008687907853269984665640564039457584007913129639936 * T4 = (y0 + 18446744073709551616 * (y1 + 18446744073709551616 * (y2 + 18446744073709551616 * (y3)))) + (z0 + 18446744073709551616 * (z1 + 18446744073709551616 * (z2 + 18446744073709551616 * (z3)))) := by omega
theorem horn4 (x0 x1 x2 x3 b : Int) : x0 * b + 18446744073709551616 * (x1 * b + 18446744073709551616 * (x2 * b + 18446744073709551616 * (x3 * b))) = (x0 + 18446744073709551616 * (x1 + 18446744073709551616 * (x2 + 18446744073709551616 * (x3)))) * b := by simp only [Int.add_mul, Int.mul_assoc]
theorem horm4 (x0 x1 x2 x3 b : Int) : b * x0 + 18446744073709551616 * (b * x1 + 18446744073709551616 * (b * x2 + 18446744073709551616 * (b * x3))) = b * (x0 + 18446744073709551616 * (x1 + 18446744073709551616 * (x2 + 18446744073709551616 * (x3)))) := by simp only [Int.mul_add, Int.mul_left_comm]
theorem mont_core {M a b m r Q T : Nat} (hM : 0 < M) (ha : a < M) (hb : b < M) (hab : a < m ∨ b < m) (hQ : Q < M) (hr : r < m) (h : M * T = a * b + Q * m) (hc : Nat.Coprime m M) (hrr : r * M % m = a * b % m) :
   T < 2 * m ∧ r = if T < m then T else T - m := by
 have h1 : a * b < M * m := by
   rcases hab with h' | h'
   . refine Nat.lt_of_le_of_lt (Nat.mul_le_mul_left _ (Nat.le_of_lt hb)) ?_
     rw [Nat.mul_comm M m]
     exact Nat.mul_lt_mul_of_pos_right h' hM
   . exact Nat.lt_of_le_of_lt (Nat.mul_le_mul_right _ (Nat.le_of_lt ha)) (Nat.mul_lt_mul_of_pos_left h' hM)
 have h2 : Q * m ≤ M * m := Nat.mul_le_mul_right _ (Nat.le_of_lt hQ)
 have hT : T < 2 * m := by
   have h3 : M * T < M * (2 * m) := by rw [h, show M * (2 * m) = M * m + M * m by rw [Nat.mul_left_comm]; omega]; omega
   exact Nat.lt_of_mul_lt_mul_left h3
 refine ⟨hT, ?_⟩
 obtain ⟨R, hR⟩ : ∃ R, R = if T < m then T else T - m := ⟨_, rfl⟩
 rw [← hR]
 have hRm : R < m := by rw [hR]; split <;> omega
 have hRT : R * M % m = a * b % m := by
   have : T * M % m = a * b % m := by rw [Nat.mul_comm, h]; simp
   rw [← this, Nat.mul_mod, Nat.mul_mod T]
   congr 2
   rw [hR]
   split
   . rfl
   . rename_i h'
     rw [Nat.mod_eq_sub_mod (a := T) (by omega)]
 have e : r * M % m = R * M % m := hrr.trans hRT.symm
 have key : ∀ {x y : Nat}, x < m → y < m → x * M % m = y * M % m → x ≤ y → x = y := by
   intro x y hx hy he hle
   have h4 : (y * M - x * M) % m = 0 := Nat.sub_mod_eq_zero_of_mod_eq he.symm
   rw [← Nat.sub_mul] at h4
   have h5 : m ∣ (y - x) := Nat.Coprime.dvd_of_dvd_mul_right hc (Nat.dvd_of_mod_eq_zero h4)
   have h6 := Nat.eq_zero_of_dvd_of_lt h5 (by omega)
   omega
 rcases Nat.le_total r R with h' | h'
 . exact key hr hRm e h'
 . exact (key hRm hr e.symm h').symm
theorem odd_coprime {m : Nat} (h : m % 2 = 1) (k : Nat) : Nat.Coprime m (2 ^ k) := by
 apply Nat.Coprime.pow_right
 rw [Nat.coprime_iff_gcd_eq_one, Nat.gcd_comm, Nat.gcd_rec, h]
 rfl
theorem mont_fin {M a b m r : Nat} {Q x t T : Int} (hM : 0 < M) (ha : a < M) (hb : b < M) (hm : m < M) (hab : a < m ∨ b < m) (hr : r < m) (hc : Nat.Coprime m M) (hrr : r * M % m = a * b % m)
   (hC : (M : Int) * T = (a : Int) * (b : Int) + Q * (m : Int)) (hQ : 0 ≤ Q ∧ Q < M) (hx : 0 ≤ x ∧ x < M) (ht : 0 ≤ t) (hT : T = x + (M : Int) * t) :
   ∃ s d k' : Nat, s < M ∧ (s : Int) = x ∧ d + m = s + M * k' ∧ d < M ∧ (((t > 0 ∨ k' = 0) ∧ d = r) ∨ (t = 0 ∧ k' = 1 ∧ s = r)) := by
 obtain ⟨x, rfl⟩ : ∃ n : Nat, x = n := ⟨x.toNat, by omega⟩
 obtain ⟨t, rfl⟩ : ∃ n : Nat, t = n := ⟨t.toNat, by omega⟩
 obtain ⟨Q, rfl⟩ : ∃ n : Nat, Q = n := ⟨Q.toNat, by omega⟩
 have h : M * (x + M * t) = a * b + Q * m := by
   rw [hT] at hC
   exact_mod_cast hC
 obtain ⟨h1, h2⟩ := mont_core hM ha hb hab (by omega) hr h hc hrr
 have ht2 : t < 2 := by
   rcases Nat.lt_or_ge t 2 with h' | h'
   . exact h'
   . have : M * 2 ≤ M * t := Nat.mul_le_mul_left _ h'
     omega
 have hxM : x < M := by omega
 by_cases hlt : x + M * t < m
 . have h0 : t = 0 := by
     rcases Nat.eq_zero_or_pos t with h' | h'
     . exact h'
     . have : M * 1 ≤ M * t := Nat.mul_le_mul_left _ h'
       omega
   subst h0
   rw [if_pos hlt] at h2
   exact ⟨x, x + M - m, 1, hxM, rfl, by omega, by omega, .inr ⟨rfl, rfl, by omega⟩⟩
 . rw [if_neg hlt] at h2
   have : t = 0 ∨ t = 1 := by omega
   rcases this with rfl | rfl
   . exact ⟨x, x - m, 0, hxM, rfl, by omega, by omega, .inl ⟨.inr rfl, by omega⟩⟩
   . exact ⟨x, x + M - m, 1, hxM, rfl, by omega, by omega, .inl ⟨.inl (by omega), by omega⟩⟩
theorem mont_end4 {a b m r : Nat} {x0 x1 x2 x3 q0 q1 q2 q3 T k c : Int} (ha : a < 2 ^ 256) (hb : b < 2 ^ 256) (hm : m < 2 ^ 256) (hodd : m % 2 = 1) (hab : a < m ∨ b < m) (hr : r < m) (hrr : r * 2 ^ 256 % m = a * b % m)
   (hC : 115792089237316195423570985008687907853269984665640564039457584007913129639936 * T = (a : Int) * (b : Int) + (q0 + 18446744073709551616 * (q1 + 18446744073709551616 * (q2 + 18446744073709551616 * (q3)))) * (m : Int)) (rq0 : 0 ≤ q0 ∧ q0 < 18446744073709551616) (rq1 : 0 ≤ q1 ∧ q1 < 18446744073709551616) (rq2 : 0 ≤ q2 ∧ q2 < 18446744073709551616) (rq3 : 0 ≤ q3 ∧ q3 < 18446744073709551616) (rx0 : 0 ≤ x0 ∧ x0 < 18446744073709551616) (rx1 : 0 ≤ x1 ∧ x1 < 18446744073709551616) (rx2 : 0 ≤ x2 ∧ x2 < 18446744073709551616) (rx3 : 0 ≤ x3 ∧ x3 < 18446744073709551616) (hk : 0 ≤ k ∧ k ≤ 1) (hc : 0 ≤ c ∧ c ≤ 1) (hT : T = x0 + 18446744073709551616 * (x1 + 18446744073709551616 * (x2 + 18446744073709551616 * (x3 + 18446744073709551616 * ((k + c)))))) :
   ∃ s d k' : Nat, s < 2 ^ 256 ∧ (s : Int) = x0 + 18446744073709551616 * (x1 + 18446744073709551616 * (x2 + 18446744073709551616 * (x3))) ∧ d + m = s + 2 ^ 256 * k' ∧ d < 2 ^ 256 ∧ ((((k + c > 0) ∨ k' = 0) ∧ d = r) ∨ (k + c = 0 ∧ k' = 1 ∧ s = r)) := by
 have eM : ((2 ^ 256 : Nat) : Int) = 115792089237316195423570985008687907853269984665640564039457584007913129639936 := by rfl
 have hQ : 0 ≤ q0 + 18446744073709551616 * (q1 + 18446744073709551616 * (q2 + 18446744073709551616 * (q3))) ∧ q0 + 18446744073709551616 * (q1 + 18446744073709551616 * (q2 + 18446744073709551616 * (q3))) < 115792089237316195423570985008687907853269984665640564039457584007913129639936 := by clear hC hT; omega
 have hx : 0 ≤ x0 + 18446744073709551616 * (x1 + 18446744073709551616 * (x2 + 18446744073709551616 * (x3))) ∧ x0 + 18446744073709551616 * (x1 + 18446744073709551616 * (x2 + 18446744073709551616 * (x3))) < 115792089237316195423570985008687907853269984665640564039457584007913129639936 := by clear hC hT; omega
 have hT' : T = (x0 + 18446744073709551616 * (x1 + 18446744073709551616 * (x2 + 18446744073709551616 * (x3)))) + 115792089237316195423570985008687907853269984665640564039457584007913129639936 * (k + c) := by rw [hT]; clear hC hT hQ hx; omega
 rw [← eM] at hQ hx hT' hC
 exact mont_fin (Nat.two_pow_pos 256) ha hb hm hab hr (odd_coprime hodd 256) hrr hC hQ hx (by omega) hT'
set_option maxHeartbeats 16000000 in
theorem mont4S {lim : Lim} (hl : lim = limR) (m inv fast one two a b r : Nat) (ha : a < 2 ^ 256) (hb : b < 2 ^ 256) (hm : m < 2 ^ 256) (hi : (lim m 0 * (inv : Int) + 1) % 18446744073709551616 = 0) (hv : inv < 18446744073709551616) (hodd : m % 2 = 1) (hab : a < m ∨ b < m) (hr : r < m) (hrr : r * 2 ^ 256 % m = a * b % m) :
   ∃ d, SpecM Try.prog 102 [⟨true, true, [.s .u64 (lim a 0), .s .u64 (lim a 1), .s .u64 (lim a 2), .s .u64 (lim a 3)]⟩, ⟨true, true, [.s .u64 (lim b 0), .s .u64 (lim b 1), .s .u64 (lim b 2), .s .u64 (lim b 3)]⟩, ⟨true, true, [.i .u64 0, .i .u64 0, .i .u64 0, .i .u64 0]⟩] [.own 0 0, .own 1 0, .ref (ring4 lim m inv fast one two) 1, .s .u64 inv] (.tup []) [⟨true, true, [.s .u64 (lim r 0), .s .u64 (lim r 1), .s .u64 (lim r 2), .s .u64 (lim r 3)]⟩, ⟨true, true, [.s .u64 (lim b 0), .s .u64 (lim b 1), .s .u64 (lim b 2), .s .u64 (lim b 3)]⟩, ⟨true, true, [.i .u64 0, .i .u64 0, .i .u64 0, .i .u64 0]⟩, ⟨true, true, [.s .u64 (lim d 0), .s .u64 (lim d 1), .s .u64 (lim d 2), .s .u64 (lim d 3)]⟩] := by
 have la := fun i => lim_range hl a i
 have lb := fun i => lim_range hl b i
 have lm := fun i => lim_range hl m i
 have z64 : (0 : Int) ≤ 0 ∧ (0 : Int) < 18446744073709551616 := by omega
 have z01 : (0 : Int) ≤ 0 ∧ (0 : Int) ≤ 1 := by omega
 obtain ⟨l0_0, h0_0, e0_0, rl0_0, rh0_0⟩ := steps (x := (lim a 0)) (y := lim b 0) (z := (0 : Int)) (c := (0 : Int)) (la 0) (lb 0) z64 z64
 obtain ⟨l1_0, h1_0, e1_0, rl1_0, rh1_0⟩ := steps (x := (lim a 0)) (y := lim b 1) (z := (0 : Int)) (c := h0_0) (la 0) (lb 1) z64 rh0_0
 obtain ⟨l2_0, h2_0, e2_0, rl2_0, rh2_0⟩ := steps (x := (lim a 0)) (y := lim b 2) (z := (0 : Int)) (c := h1_0) (la 0) (lb 2) z64 rh1_0
 obtain ⟨l3_0, h3_0, e3_0, rl3_0, rh3_0⟩ := steps (x := (lim a 0)) (y := lim b 3) (z := (0 : Int)) (c := h2_0) (la 0) (lb 3) z64 rh2_0
 obtain ⟨s_0, k_0, ea_0, rs_0, rk_0⟩ := carry (x := (0 : Int)) (y := h3_0) (z := 0) z64 rh3_0 z01
 obtain ⟨q_0, hq_0⟩ : ∃ q : Int, q = l0_0 * (inv : Int) % 18446744073709551616 := ⟨_, rfl⟩
 have rq_0 := modr hq_0
 have eq_0 : rbin .mul .u64 l0_0 (Int.ofNat inv) = q_0 := by rw [hq_0]; exact wrap_u64 _
 obtain ⟨u0_0, g0_0, f0_0, ru0_0, rg0_0⟩ := steps (x := q_0) (y := lim m 0) (z := l0_0) (c := (0 : Int)) rq_0 (lm 0) rl0_0 z64
 obtain ⟨u1_0, g1_0, f1_0, ru1_0, rg1_0⟩ := steps (x := q_0) (y := lim m 1) (z := l1_0) (c := g0_0) rq_0 (lm 1) rl1_0 rg0_0
 obtain ⟨u2_0, g2_0, f2_0, ru2_0, rg2_0⟩ := steps (x := q_0) (y := lim m 2) (z := l2_0) (c := g1_0) rq_0 (lm 2) rl2_0 rg1_0
 obtain ⟨u3_0, g3_0, f3_0, ru3_0, rg3_0⟩ := steps (x := q_0) (y := lim m 3) (z := l3_0) (c := g2_0) rq_0 (lm 3) rl3_0 rg2_0
 obtain ⟨w_0, c_0, fa_0, rw_0, rc_0⟩ := carry (x := s_0) (y := g3_0) (z := 0) rs_0 rg3_0 z01
 have et_0 : rbin .add .u64 k_0 c_0 = k_0 + c_0 := (wrap_u64 _).trans (kcw rk_0 rc_0)
 have rt_0 := kcr rk_0 rc_0
 obtain rfl := low0 hi hq_0 f0_0 ru0_0
 have hR_0 := round4 e0_0 e1_0 e2_0 e3_0 ea_0 f0_0 f1_0 f2_0 f3_0 fa_0
 obtain ⟨T1, hT1⟩ : ∃ T : Int, T = u1_0 + 18446744073709551616 * (u2_0 + 18446744073709551616 * (u3_0 + 18446744073709551616 * (w_0 + 18446744073709551616 * ((k_0 + c_0))))) := ⟨_, rfl⟩
 have E_0 : 18446744073709551616 * T1 = (0 : Int) + lim a 0 * (b : Int) + q_0 * (m : Int) := by
   rw [split4 hl b hb, split4 hl m hm, ← horm4, ← horm4, hT1]; exact hR_0.trans (by simp only [Int.mul_zero, Int.add_zero, Int.zero_add])
 obtain ⟨l0_1, h0_1, e0_1, rl0_1, rh0_1⟩ := steps (x := (lim a 1)) (y := lim b 0) (z := u1_0) (c := (0 : Int)) (la 1) (lb 0) ru1_0 z64
 obtain ⟨l1_1, h1_1, e1_1, rl1_1, rh1_1⟩ := steps (x := (lim a 1)) (y := lim b 1) (z := u2_0) (c := h0_1) (la 1) (lb 1) ru2_0 rh0_1
 obtain ⟨l2_1, h2_1, e2_1, rl2_1, rh2_1⟩ := steps (x := (lim a 1)) (y := lim b 2) (z := u3_0) (c := h1_1) (la 1) (lb 2) ru3_0 rh1_1
 obtain ⟨l3_1, h3_1, e3_1, rl3_1, rh3_1⟩ := steps (x := (lim a 1)) (y := lim b 3) (z := w_0) (c := h2_1) (la 1) (lb 3) rw_0 rh2_1
 obtain ⟨s_1, k_1, ea_1, rs_1, rk_1⟩ := carry (x := (k_0 + c_0)) (y := h3_1) (z := 0) rt_0 rh3_1 z01
 obtain ⟨q_1, hq_1⟩ : ∃ q : Int, q = l0_1 * (inv : Int) % 18446744073709551616 := ⟨_, rfl⟩
 have rq_1 := modr hq_1
 have eq_1 : rbin .mul .u64 l0_1 (Int.ofNat inv) = q_1 := by rw [hq_1]; exact wrap_u64 _
 obtain ⟨u0_1, g0_1, f0_1, ru0_1, rg0_1⟩ := steps (x := q_1) (y := lim m 0) (z := l0_1) (c := (0 : Int)) rq_1 (lm 0) rl0_1 z64
 obtain ⟨u1_1, g1_1, f1_1, ru1_1, rg1_1⟩ := steps (x := q_1) (y := lim m 1) (z := l1_1) (c := g0_1) rq_1 (lm 1) rl1_1 rg0_1
 obtain ⟨u2_1, g2_1, f2_1, ru2_1, rg2_1⟩ := steps (x := q_1) (y := lim m 2) (z := l2_1) (c := g1_1) rq_1 (lm 2) rl2_1 rg1_1
 obtain ⟨u3_1, g3_1, f3_1, ru3_1, rg3_1⟩ := steps (x := q_1) (y := lim m 3) (z := l3_1) (c := g2_1) rq_1 (lm 3) rl3_1 rg2_1
 obtain ⟨w_1, c_1, fa_1, rw_1, rc_1⟩ := carry (x := s_1) (y := g3_1) (z := 0) rs_1 rg3_1 z01
 have et_1 : rbin .add .u64 k_1 c_1 = k_1 + c_1 := (wrap_u64 _).trans (kcw rk_1 rc_1)
 have rt_1 := kcr rk_1 rc_1
 obtain rfl := low0 hi hq_1 f0_1 ru0_1
 have hR_1 := round4 e0_1 e1_1 e2_1 e3_1 ea_1 f0_1 f1_1 f2_1 f3_1 fa_1
 obtain ⟨T2, hT2⟩ : ∃ T : Int, T = u1_1 + 18446744073709551616 * (u2_1 + 18446744073709551616 * (u3_1 + 18446744073709551616 * (w_1 + 18446744073709551616 * ((k_1 + c_1))))) := ⟨_, rfl⟩
 have E_1 : 18446744073709551616 * T2 = T1 + lim a 1 * (b : Int) + q_1 * (m : Int) := by
   rw [split4 hl b hb, split4 hl m hm, ← horm4, ← horm4, hT2, hT1]; exact hR_1
 obtain ⟨l0_2, h0_2, e0_2, rl0_2, rh0_2⟩ := steps (x := (lim a 2)) (y := lim b 0) (z := u1_1) (c := (0 : Int)) (la 2) (lb 0) ru1_1 z64
 obtain ⟨l1_2, h1_2, e1_2, rl1_2, rh1_2⟩ := steps (x := (lim a 2)) (y := lim b 1) (z := u2_1) (c := h0_2) (la 2) (lb 1) ru2_1 rh0_2
 obtain ⟨l2_2, h2_2, e2_2, rl2_2, rh2_2⟩ := steps (x := (lim a 2)) (y := lim b 2) (z := u3_1) (c := h1_2) (la 2) (lb 2) ru3_1 rh1_2
 obtain ⟨l3_2, h3_2, e3_2, rl3_2, rh3_2⟩ := steps (x := (lim a 2)) (y := lim b 3) (z := w_1) (c := h2_2) (la 2) (lb 3) rw_1 rh2_2
 obtain ⟨s_2, k_2, ea_2, rs_2, rk_2⟩ := carry (x := (k_1 + c_1)) (y := h3_2) (z := 0) rt_1 rh3_2 z01
 obtain ⟨q_2, hq_2⟩ : ∃ q : Int, q = l0_2 * (inv : Int) % 18446744073709551616 := ⟨_, rfl⟩
 have rq_2 := modr hq_2
 have eq_2 : rbin .mul .u64 l0_2 (Int.ofNat inv) = q_2 := by rw [hq_2]; exact wrap_u64 _
 obtain ⟨u0_2, g0_2, f0_2, ru0_2, rg0_2⟩ := steps (x := q_2) (y := lim m 0) (z := l0_2) (c := (0 : Int)) rq_2 (lm 0) rl0_2 z64
 obtain ⟨u1_2, g1_2, f1_2, ru1_2, rg1_2⟩ := steps (x := q_2) (y := lim m 1) (z := l1_2) (c := g0_2) rq_2 (lm 1) rl1_2 rg0_2
 obtain ⟨u2_2, g2_2, f2_2, ru2_2, rg2_2⟩ := steps (x := q_2) (y := lim m 2) (z := l2_2) (c := g1_2) rq_2 (lm 2) rl2_2 rg1_2
 obtain ⟨u3_2, g3_2, f3_2, ru3_2, rg3_2⟩ := steps (x := q_2) (y := lim m 3) (z := l3_2) (c := g2_2) rq_2 (lm 3) rl3_2 rg2_2
 obtain ⟨w_2, c_2, fa_2, rw_2, rc_2⟩ := carry (x := s_2) (y := g3_2) (z := 0) rs_2 rg3_2 z01
 have et_2 : rbin .add .u64 k_2 c_2 = k_2 + c_2 := (wrap_u64 _).trans (kcw rk_2 rc_2)
 have rt_2 := kcr rk_2 rc_2
 obtain rfl := low0 hi hq_2 f0_2 ru0_2
 have hR_2 := round4 e0_2 e1_2 e2_2 e3_2 ea_2 f0_2 f1_2 f2_2 f3_2 fa_2
 obtain ⟨T3, hT3⟩ : ∃ T : Int, T = u1_2 + 18446744073709551616 * (u2_2 + 18446744073709551616 * (u3_2 + 18446744073709551616 * (w_2 + 18446744073709551616 * ((k_2 + c_2))))) := ⟨_, rfl⟩
 have E_2 : 18446744073709551616 * T3 = T2 + lim a 2 * (b : Int) + q_2 * (m : Int) := by
   rw [split4 hl b hb, split4 hl m hm, ← horm4, ← horm4, hT3, hT2]; exact hR_2
 obtain ⟨l0_3, h0_3, e0_3, rl0_3, rh0_3⟩ := steps (x := (lim a 3)) (y := lim b 0) (z := u1_2) (c := (0 : Int)) (la 3) (lb 0) ru1_2 z64
 obtain ⟨l1_3, h1_3, e1_3, rl1_3, rh1_3⟩ := steps (x := (lim a 3)) (y := lim b 1) (z := u2_2) (c := h0_3) (la 3) (lb 1) ru2_2 rh0_3
 obtain ⟨l2_3, h2_3, e2_3, rl2_3, rh2_3⟩ := steps (x := (lim a 3)) (y := lim b 2) (z := u3_2) (c := h1_3) (la 3) (lb 2) ru3_2 rh1_3
 obtain ⟨l3_3, h3_3, e3_3, rl3_3, rh3_3⟩ := steps (x := (lim a 3)) (y := lim b 3) (z := w_2) (c := h2_3) (la 3) (lb 3) rw_2 rh2_3
 obtain ⟨s_3, k_3, ea_3, rs_3, rk_3⟩ := carry (x := (k_2 + c_2)) (y := h3_3) (z := 0) rt_2 rh3_3 z01
 obtain ⟨q_3, hq_3⟩ : ∃ q : Int, q = l0_3 * (inv : Int) % 18446744073709551616 := ⟨_, rfl⟩
 have rq_3 := modr hq_3
 have eq_3 : rbin .mul .u64 l0_3 (Int.ofNat inv) = q_3 := by rw [hq_3]; exact wrap_u64 _
 obtain ⟨u0_3, g0_3, f0_3, ru0_3, rg0_3⟩ := steps (x := q_3) (y := lim m 0) (z := l0_3) (c := (0 : Int)) rq_3 (lm 0) rl0_3 z64
 obtain ⟨u1_3, g1_3, f1_3, ru1_3, rg1_3⟩ := steps (x := q_3) (y := lim m 1) (z := l1_3) (c := g0_3) rq_3 (lm 1) rl1_3 rg0_3
 obtain ⟨u2_3, g2_3, f2_3, ru2_3, rg2_3⟩ := steps (x := q_3) (y := lim m 2) (z := l2_3) (c := g1_3) rq_3 (lm 2) rl2_3 rg1_3
 obtain ⟨u3_3, g3_3, f3_3, ru3_3, rg3_3⟩ := steps (x := q_3) (y := lim m 3) (z := l3_3) (c := g2_3) rq_3 (lm 3) rl3_3 rg2_3
 obtain ⟨w_3, c_3, fa_3, rw_3, rc_3⟩ := carry (x := s_3) (y := g3_3) (z := 0) rs_3 rg3_3 z01
 have et_3 : rbin .add .u64 k_3 c_3 = k_3 + c_3 := (wrap_u64 _).trans (kcw rk_3 rc_3)
 have rt_3 := kcr rk_3 rc_3
 obtain rfl := low0 hi hq_3 f0_3 ru0_3
 have hR_3 := round4 e0_3 e1_3 e2_3 e3_3 ea_3 f0_3 f1_3 f2_3 f3_3 fa_3
 obtain ⟨T4, hT4⟩ : ∃ T : Int, T = u1_3 + 18446744073709551616 * (u2_3 + 18446744073709551616 * (u3_3 + 18446744073709551616 * (w_3 + 18446744073709551616 * ((k_3 + c_3))))) := ⟨_, rfl⟩
 have E_3 : 18446744073709551616 * T4 = T3 + lim a 3 * (b : Int) + q_3 * (m : Int) := by
   rw [split4 hl b hb, split4 hl m hm, ← horm4, ← horm4, hT4, hT3]; exact hR_3
 have hC := chain4 E_0 E_1 E_2 E_3
 rw [horn4, horn4, ← split4 hl a ha] at hC
 have hend := mont_end4 ha hb hm hodd hab hr hrr hC rq_0 rq_1 rq_2 rq_3 ru1_3 ru2_3 ru3_3 rw_3 rk_3 rc_3 hT4
 obtain ⟨s, d, k, hs, hs', hd, hd', hcase⟩ := hend
 obtain ⟨y0, y1, y2, y3⟩ := lim_of4 hl hs ru1_3 ru2_3 ru3_3 hs'
 have hmin := minus4 hl s m d k hs hm hd hd'
 unfold u4 at hmin
 rw [y0, y1, y2, y3] at hmin
 refine ⟨d, mkM Try.func102 rfl rfl L0 R0 (by decide +kernel) fun A S hA hS => ?_⟩
 unfold bodyOf Try.f102
 cbv
 refine ACall.mk (.tup [.s .u64 h0_0, .s .u64 l0_0]) (cf hS (stepS (lim a 0) (lim b 0) (0 : Int) (0 : Int) _ _ (la 0) (lb 0) z64 z64 (.i _) (.i _) e0_0 rl0_0)) ?_
 cbv
 refine ACall.mk (.tup [.s .u64 h1_0, .s .u64 l1_0]) (cf hS (stepS (lim a 0) (lim b 1) (0 : Int) h0_0 _ _ (la 0) (lb 1) z64 rh0_0 (.i _) (.s _) e1_0 rl1_0)) ?_
 cbv
 refine ACall.mk (.tup [.s .u64 h2_0, .s .u64 l2_0]) (cf hS (stepS (lim a 0) (lim b 2) (0 : Int) h1_0 _ _ (la 0) (lb 2) z64 rh1_0 (.i _) (.s _) e2_0 rl2_0)) ?_
 cbv
 refine ACall.mk (.tup [.s .u64 h3_0, .s .u64 l3_0]) (cf hS (stepS (lim a 0) (lim b 3) (0 : Int) h2_0 _ _ (la 0) (lb 3) z64 rh2_0 (.i _) (.s _) e3_0 rl3_0)) ?_
 cbv
 refine ACall.mk (.tup [.s .u64 s_0, .s .u64 k_0]) (cf hS (add64S (.i _) (.s _) (.i _) z64.1 rh3_0.1 z01 _ _ ea_0 rs_0)) ?_
 cbv
 refine ACall.mk (.tup [.s .u64 g0_0, .s .u64 (0 : Int)]) (cf hS (sub_arg (show A.bin .mul .u64 l0_0 (Int.ofNat inv) = q_0 from by rw [hA]; exact eq_0) (stepS q_0 (lim m 0) l0_0 (0 : Int) _ _ rq_0 (lm 0) rl0_0 z64 (.s _) (.i _) f0_0 ru0_0))) ?_
 cbv
 refine ACall.mk (.tup [.s .u64 g1_0, .s .u64 u1_0]) (cf hS (sub_arg (show A.bin .mul .u64 l0_0 (Int.ofNat inv) = q_0 from by rw [hA]; exact eq_0) (stepS q_0 (lim m 1) l1_0 g0_0 _ _ rq_0 (lm 1) rl1_0 rg0_0 (.s _) (.s _) f1_0 ru1_0))) ?_
 cbv
 refine ACall.mk (.tup [.s .u64 g2_0, .s .u64 u2_0]) (cf hS (sub_arg (show A.bin .mul .u64 l0_0 (Int.ofNat inv) = q_0 from by rw [hA]; exact eq_0) (stepS q_0 (lim m 2) l2_0 g1_0 _ _ rq_0 (lm 2) rl2_0 rg1_0 (.s _) (.s _) f2_0 ru2_0))) ?_
 cbv
 refine ACall.mk (.tup [.s .u64 g3_0, .s .u64 u3_0]) (cf hS (sub_arg (show A.bin .mul .u64 l0_0 (Int.ofNat inv) = q_0 from by rw [hA]; exact eq_0) (stepS q_0 (lim m 3) l3_0 g2_0 _ _ rq_0 (lm 3) rl3_0 rg2_0 (.s _) (.s _) f3_0 ru3_0))) ?_
 cbv
 refine ACall.mk (.tup [.s .u64 w_0, .s .u64 c_0]) (cf hS (add64S (.s _) (.s _) (.i _) rs_0.1 rg3_0.1 z01 _ _ fa_0 rw_0)) ?_
 cbv
 refine ACall.mk (.tup [.s .u64 h0_1, .s .u64 l0_1]) (cf hS (stepS (lim a 1) (lim b 0) u1_0 (0 : Int) _ _ (la 1) (lb 0) ru1_0 z64 (.s _) (.i _) e0_1 rl0_1)) ?_
 cbv
 refine ACall.mk (.tup [.s .u64 h1_1, .s .u64 l1_1]) (cf hS (stepS (lim a 1) (lim b 1) u2_0 h0_1 _ _ (la 1) (lb 1) ru2_0 rh0_1 (.s _) (.s _) e1_1 rl1_1)) ?_
 cbv
 refine ACall.mk (.tup [.s .u64 h2_1, .s .u64 l2_1]) (cf hS (stepS (lim a 1) (lim b 2) u3_0 h1_1 _ _ (la 1) (lb 2) ru3_0 rh1_1 (.s _) (.s _) e2_1 rl2_1)) ?_
 cbv
 refine ACall.mk (.tup [.s .u64 h3_1, .s .u64 l3_1]) (cf hS (stepS (lim a 1) (lim b 3) w_0 h2_1 _ _ (la 1) (lb 3) rw_0 rh2_1 (.s _) (.s _) e3_1 rl3_1)) ?_
 cbv
 refine ACall.mk (.tup [.s .u64 s_1, .s .u64 k_1]) (cf hS (sub_arg (show A.bin .add .u64 k_0 c_0 = k_0 + c_0 from by rw [hA]; exact et_0) <| add64S (.s _) (.s _) (.i _) rt_0.1 rh3_1.1 z01 _ _ ea_1 rs_1)) ?_
 cbv
 refine ACall.mk (.tup [.s .u64 g0_1, .s .u64 (0 : Int)]) (cf hS (sub_arg (show A.bin .mul .u64 l0_1 (Int.ofNat inv) = q_1 from by rw [hA]; exact eq_1) (stepS q_1 (lim m 0) l0_1 (0 : Int) _ _ rq_1 (lm 0) rl0_1 z64 (.s _) (.i _) f0_1 ru0_1))) ?_
 cbv
 refine ACall.mk (.tup [.s .u64 g1_1, .s .u64 u1_1]) (cf hS (sub_arg (show A.bin .mul .u64 l0_1 (Int.ofNat inv) = q_1 from by rw [hA]; exact eq_1) (stepS q_1 (lim m 1) l1_1 g0_1 _ _ rq_1 (lm 1) rl1_1 rg0_1 (.s _) (.s _) f1_1 ru1_1))) ?_
 cbv
 refine ACall.mk (.tup [.s .u64 g2_1, .s .u64 u2_1]) (cf hS (sub_arg (show A.bin .mul .u64 l0_1 (Int.ofNat inv) = q_1 from by rw [hA]; exact eq_1) (stepS q_1 (lim m 2) l2_1 g1_1 _ _ rq_1 (lm 2) rl2_1 rg1_1 (.s _) (.s _) f2_1 ru2_1))) ?_
 cbv
 refine ACall.mk (.tup [.s .u64 g3_1, .s .u64 u3_1]) (cf hS (sub_arg (show A.bin .mul .u64 l0_1 (Int.ofNat inv) = q_1 from by rw [hA]; exact eq_1) (stepS q_1 (lim m 3) l3_1 g2_1 _ _ rq_1 (lm 3) rl3_1 rg2_1 (.s _) (.s _) f3_1 ru3_1))) ?_
 cbv
 refine ACall.mk (.tup [.s .u64 w_1, .s .u64 c_1]) (cf hS (add64S (.s _) (.s _) (.i _) rs_1.1 rg3_1.1 z01 _ _ fa_1 rw_1)) ?_
 cbv
 refine ACall.mk (.tup [.s .u64 h0_2, .s .u64 l0_2]) (cf hS (stepS (lim a 2) (lim b 0) u1_1 (0 : Int) _ _ (la 2) (lb 0) ru1_1 z64 (.s _) (.i _) e0_2 rl0_2)) ?_
 cbv
 refine ACall.mk (.tup [.s .u64 h1_2, .s .u64 l1_2]) (cf hS (stepS (lim a 2) (lim b 1) u2_1 h0_2 _ _ (la 2) (lb 1) ru2_1 rh0_2 (.s _) (.s _) e1_2 rl1_2)) ?_
 cbv
 refine ACall.mk (.tup [.s .u64 h2_2, .s .u64 l2_2]) (cf hS (stepS (lim a 2) (lim b 2) u3_1 h1_2 _ _ (la 2) (lb 2) ru3_1 rh1_2 (.s _) (.s _) e2_2 rl2_2)) ?_
 cbv
 refine ACall.mk (.tup [.s .u64 h3_2, .s .u64 l3_2]) (cf hS (stepS (lim a 2) (lim b 3) w_1 h2_2 _ _ (la 2) (lb 3) rw_1 rh2_2 (.s _) (.s _) e3_2 rl3_2)) ?_
 cbv
 refine ACall.mk (.tup [.s .u64 s_2, .s .u64 k_2]) (cf hS (sub_arg (show A.bin .add .u64 k_1 c_1 = k_1 + c_1 from by rw [hA]; exact et_1) <| add64S (.s _) (.s _) (.i _) rt_1.1 rh3_2.1 z01 _ _ ea_2 rs_2)) ?_
 cbv
 refine ACall.mk (.tup [.s .u64 g0_2, .s .u64 (0 : Int)]) (cf hS (sub_arg (show A.bin .mul .u64 l0_2 (Int.ofNat inv) = q_2 from by rw [hA]; exact eq_2) (stepS q_2 (lim m 0) l0_2 (0 : Int) _ _ rq_2 (lm 0) rl0_2 z64 (.s _) (.i _) f0_2 ru0_2))) ?_
 cbv
 refine ACall.mk (.tup [.s .u64 g1_2, .s .u64 u1_2]) (cf hS (sub_arg (show A.bin .mul .u64 l0_2 (Int.ofNat inv) = q_2 from by rw [hA]; exact eq_2) (stepS q_2 (lim m 1) l1_2 g0_2 _ _ rq_2 (lm 1) rl1_2 rg0_2 (.s _) (.s _) f1_2 ru1_2))) ?_
 cbv
 refine ACall.mk (.tup [.s .u64 g2_2, .s .u64 u2_2]) (cf hS (sub_arg (show A.bin .mul .u64 l0_2 (Int.ofNat inv) = q_2 from by rw [hA]; exact eq_2) (stepS q_2 (lim m 2) l2_2 g1_2 _ _ rq_2 (lm 2) rl2_2 rg1_2 (.s _) (.s _) f2_2 ru2_2))) ?_
 cbv
 refine ACall.mk (.tup [.s .u64 g3_2, .s .u64 u3_2]) (cf hS (sub_arg (show A.bin .mul .u64 l0_2 (Int.ofNat inv) = q_2 from by rw [hA]; exact eq_2) (stepS q_2 (lim m 3) l3_2 g2_2 _ _ rq_2 (lm 3) rl3_2 rg2_2 (.s _) (.s _) f3_2 ru3_2))) ?_
 cbv
 refine ACall.mk (.tup [.s .u64 w_2, .s .u64 c_2]) (cf hS (add64S (.s _) (.s _) (.i _) rs_2.1 rg3_2.1 z01 _ _ fa_2 rw_2)) ?_
 cbv
 refine ACall.mk (.tup [.s .u64 h0_3, .s .u64 l0_3]) (cf hS (stepS (lim a 3) (lim b 0) u1_2 (0 : Int) _ _ (la 3) (lb 0) ru1_2 z64 (.s _) (.i _) e0_3 rl0_3)) ?_
 cbv
 refine ACall.mk (.tup [.s .u64 h1_3, .s .u64 l1_3]) (cf hS (stepS (lim a 3) (lim b 1) u2_2 h0_3 _ _ (la 3) (lb 1) ru2_2 rh0_3 (.s _) (.s _) e1_3 rl1_3)) ?_
 cbv
 refine ACall.mk (.tup [.s .u64 h2_3, .s .u64 l2_3]) (cf hS (stepS (lim a 3) (lim b 2) u3_2 h1_3 _ _ (la 3) (lb 2) ru3_2 rh1_3 (.s _) (.s _) e2_3 rl2_3)) ?_
 cbv
 refine ACall.mk (.tup [.s .u64 h3_3, .s .u64 l3_3]) (cf hS (stepS (lim a 3) (lim b 3) w_2 h2_3 _ _ (la 3) (lb 3) rw_2 rh2_3 (.s _) (.s _) e3_3 rl3_3)) ?_
 cbv
 refine ACall.mk (.tup [.s .u64 s_3, .s .u64 k_3]) (cf hS (sub_arg (show A.bin .add .u64 k_2 c_2 = k_2 + c_2 from by rw [hA]; exact et_2) <| add64S (.s _) (.s _) (.i _) rt_2.1 rh3_3.1 z01 _ _ ea_3 rs_3)) ?_
 cbv
 refine ACall.mk (.tup [.s .u64 g0_3, .s .u64 (0 : Int)]) (cf hS (sub_arg (show A.bin .mul .u64 l0_3 (Int.ofNat inv) = q_3 from by rw [hA]; exact eq_3) (stepS q_3 (lim m 0) l0_3 (0 : Int) _ _ rq_3 (lm 0) rl0_3 z64 (.s _) (.i _) f0_3 ru0_3))) ?_
 cbv
 refine ACall.mk (.tup [.s .u64 g1_3, .s .u64 u1_3]) (cf hS (sub_arg (show A.bin .mul .u64 l0_3 (Int.ofNat inv) = q_3 from by rw [hA]; exact eq_3) (stepS q_3 (lim m 1) l1_3 g0_3 _ _ rq_3 (lm 1) rl1_3 rg0_3 (.s _) (.s _) f1_3 ru1_3))) ?_
 cbv
 refine ACall.mk (.tup [.s .u64 g2_3, .s .u64 u2_3]) (cf hS (sub_arg (show A.bin .mul .u64 l0_3 (Int.ofNat inv) = q_3 from by rw [hA]; exact eq_3) (stepS q_3 (lim m 2) l2_3 g1_3 _ _ rq_3 (lm 2) rl2_3 rg1_3 (.s _) (.s _) f2_3 ru2_3))) ?_
 cbv
 refine ACall.mk (.tup [.s .u64 g3_3, .s .u64 u3_3]) (cf hS (sub_arg (show A.bin .mul .u64 l0_3 (Int.ofNat inv) = q_3 from by rw [hA]; exact eq_3) (stepS q_3 (lim m 3) l3_3 g2_3 _ _ rq_3 (lm 3) rl3_3 rg2_3 (.s _) (.s _) f3_3 ru3_3))) ?_
 cbv
 refine ACall.mk (.tup [.s .u64 w_3, .s .u64 c_3]) (cf hS (add64S (.s _) (.s _) (.i _) rs_3.1 rg3_3.1 z01 _ _ fa_3 rw_3)) ?_
 cbv
 refine ACall.mk (.tup [u4 lim d, .s .u64 k]) (cf hS hmin) ?_
 cbv
 have hgt : A.cmp .gtr (A.bin .add .u64 k_3 c_3) 0 = decide (k_3 + c_3 > 0) := by rw [hA]; show decide (rbin .add .u64 k_3 c_3 > 0) = _; rw [et_3]
 rcases hcase with ⟨hh, rfl⟩ | ⟨h0, rfl, rfl⟩
 . by_cases h0 : k_3 + c_3 > 0
   . rw [decide_eq_true h0] at hgt
     refine ABr.t hgt ?_
     cbv
     refine ABr.t hgt ?_
     cbv
     refine ABr.t hgt ?_
     cbv
     exact ⟨rfl, trivial⟩
   . rw [decide_eq_false h0] at hgt
     obtain rfl : k = 0 := by omega
     have heq : A.cmp .eql (Int.ofNat 0) 0 = true := by rw [hA]; rfl
     refine ABr.f hgt ?_
     cbv
     refine ABr.f hgt ?_
     cbv
     refine ABr.f hgt ?_
     cbv
     refine ABr.t heq ?_
     cbv
     exact ⟨rfl, trivial⟩
 . rw [decide_eq_false (by omega)] at hgt
   have heq : A.cmp .eql (Int.ofNat 1) 0 = false := by rw [hA]; rfl
   refine ABr.f hgt ?_
   cbv
   refine ABr.f hgt ?_
   cbv
   refine ABr.f hgt ?_
   cbv
   refine ABr.f heq ?_
   cbv
   rw [y0, y1, y2, y3]
   exact ⟨rfl, rfl⟩
end Go.Proofs.Ytkhipnhdbaahcaa
end
