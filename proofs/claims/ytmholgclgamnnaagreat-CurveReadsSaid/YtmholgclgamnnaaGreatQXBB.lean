import Derived.Test.YtmholgclgamnnaaGreatQXC
import Derived.Lib.Mul64
set_option linter.unusedVariables false
set_option linter.unusedSimpArgs false
set_option linter.unusedSectionVars false
set_option maxRecDepth 100000
set_option exponentiation.threshold 2000
set_option maxHeartbeats 8000000
set_option maxHeartbeats 4000000
section
namespace Go.Proofs.YtmholgclgamnnaaGreat
open Go Eng
theorem shr32 (a : Nat) : rbin .shr .u64 (Int.ofNat a) 32 = Int.ofNat (a / 4294967296) := u_shr a 32 (by omega)
theorem and32 (a : Nat) (ha : a < 18446744073709551616) : rbin .and .u64 (Int.ofNat a) 4294967295 = Int.ofNat (a % 4294967296) := u_mask a 32 (by omega) ha
theorem mul64S (x y hi lo : Nat) (hx : x < 2 ^ 64) (hy : y < 2 ^ 64) (h : lo + 2 ^ 64 * hi = x * y) (hlo : lo < 2 ^ 64) : Sp 229 [.s .u64 x, .s .u64 y] (.tup [.s .u64 hi, .s .u64 lo]) := by
 refine mk Tryz.func229 rfl rfl L0 R0 (by decide +kernel) fun A S hA hS => ?_
 unfold bodyOf Tryz.f229
 cbv
 subst hA
 dsimp only [Ar.real]
 clear hS S
 obtain ⟨h1, h2, h3, h4⟩ := Go.Lib.mul64_hi x y (by simpa using hx) (by simpa using hy)
 have ex : x * y % 18446744073709551616 = lo := by omega
 have eh : x * y / 18446744073709551616 = hi := by omega
 have ha := Go.Lib.half_mul_le (a := x / 4294967296) (b := y / 4294967296) (by omega) (by omega)
 have hb := Go.Lib.half_mul_le (a := x / 4294967296) (b := y % 4294967296) (by omega) (by omega)
 have hc := Go.Lib.half_mul_le (a := x % 4294967296) (b := y / 4294967296) (by omega) (by omega)
 have hd := Go.Lib.half_mul_le (a := x % 4294967296) (b := y % 4294967296) (by omega) (by omega)
 rw [and32 x (by simpa using hx), and32 y (by simpa using hy)]
 simp only [shr32, u_mul]
 rw [Nat.mod_eq_of_lt (show x / 4294967296 * (y / 4294967296) < _ by omega), Nat.mod_eq_of_lt (show x / 4294967296 * (y % 4294967296) < _ by omega), Nat.mod_eq_of_lt (show x % 4294967296 * (y / 4294967296) < _ by omega), Nat.mod_eq_of_lt h1]
 simp only [shr32, u_add]
 rw [Nat.mod_eq_of_lt h2, and32 _ h2]
 simp only [shr32, u_add]
 rw [Nat.mod_eq_of_lt h3, ex]
 rw [← Nat.add_mod_mod, Nat.add_mod_mod] at *
 rw [Nat.mod_add_mod, h4, eh, Nat.mod_eq_of_lt (by omega)]
 exact ⟨rfl, rfl⟩
theorem less_dif {n a b d : Nat} (ha : a < n) (hb : b < n) (t : Bool) (ht : t = decide (a < b)) (hd : d = if a < b then a + n - b else a - b) : ∃ k : Nat, d + b = a + n * k ∧ d < n ∧ k = (if t then 1 else 0) := by
 by_cases h : a < b
 . rw [if_pos h] at hd
   rw [ht, decide_eq_true h]
   exact ⟨1, by omega, by omega, rfl⟩
 . rw [if_neg h] at hd
   rw [ht, decide_eq_false h]
   exact ⟨0, by omega, by omega, rfl⟩
theorem less4S {lim : Lim} (hl : lim = limR) (a b : Nat) (ha : a < 2 ^ 256) (hb : b < 2 ^ 256) (t : Bool) (ht : t = decide (a < b)) : Sp 180 [u4 lim a, u4 lim b] (.sb t) := by
 obtain ⟨d, hd⟩ : ∃ d, d = if a < b then a + 2 ^ 256 - b else a - b := ⟨_, rfl⟩
 obtain ⟨k, h1, h2, h3⟩ := less_dif ha hb t ht hd
 refine mk Tryz.func180 rfl rfl L0 R0 (by decide +kernel) fun A S hA hS => ?_
 unfold bodyOf Tryz.f180
 cbv
 refine ACall.mk (.tup [u4 lim d, .s .u64 k]) (cf hS (minus4 hl a b d k ha hb h1 h2)) ?_
 cbv
 subst hA
 cases t <;> simp at h3 <;> subst h3 <;> rfl
theorem none4S : Sp 169 [] (.agg [.i .u64 0, .i .u64 0, .i .u64 0, .i .u64 0]) := by
 refine mk Tryz.func169 rfl rfl L0 R0 (by decide +kernel) fun A S hA hS => ?_
 unfold bodyOf Tryz.f169
 cbv
theorem less6S {lim : Lim} (hl : lim = limR) (a b : Nat) (ha : a < 2 ^ 384) (hb : b < 2 ^ 384) (t : Bool) (ht : t = decide (a < b)) : Sp 160 [u6 lim a, u6 lim b] (.sb t) := by
 obtain ⟨d, hd⟩ : ∃ d, d = if a < b then a + 2 ^ 384 - b else a - b := ⟨_, rfl⟩
 obtain ⟨k, h1, h2, h3⟩ := less_dif ha hb t ht hd
 refine mk Tryz.func160 rfl rfl L0 R0 (by decide +kernel) fun A S hA hS => ?_
 unfold bodyOf Tryz.f160
 cbv
 refine ACall.mk (.tup [u6 lim d, .s .u64 k]) (cf hS (minus6 hl a b d k ha hb h1 h2)) ?_
 cbv
 subst hA
 cases t <;> simp at h3 <;> subst h3 <;> rfl
theorem none6S : Sp 153 [] (.agg [.i .u64 0, .i .u64 0, .i .u64 0, .i .u64 0, .i .u64 0, .i .u64 0]) := by
 refine mk Tryz.func153 rfl rfl L0 R0 (by decide +kernel) fun A S hA hS => ?_
 unfold bodyOf Tryz.f153
 cbv
theorem stepN {Z C : AVal} (x y z c hi lo : Nat) (hx : x < 18446744073709551616) (hy : y < 18446744073709551616) (hz : z < 18446744073709551616) (hc : c < 18446744073709551616) (hZ : IsU Z z) (hC : IsU C c)
   (h : lo + 18446744073709551616 * hi = x * y + z + c) (hlo : lo < 18446744073709551616) : Sp 222 [.s .u64 x, .s .u64 y, Z, C] (.tup [.s .u64 hi, .s .u64 lo]) := by
 have hxy : x * y ≤ 18446744073709551615 * 18446744073709551615 := Nat.mul_le_mul (by omega) (by omega)
 obtain ⟨p, hp⟩ : ∃ p, p = x * y := ⟨_, rfl⟩
 rw [← hp] at hxy h
 obtain ⟨h0, eh0⟩ : ∃ n, n = p / 18446744073709551616 := ⟨_, rfl⟩
 obtain ⟨l0, el0⟩ : ∃ n, n = p % 18446744073709551616 := ⟨_, rfl⟩
 obtain ⟨l1, k1, e1, r1, q1⟩ := carry (x := l0) (y := z) (z := 0) (by omega) (by omega) (by omega)
 obtain ⟨l2, k2, e2, r2, q2⟩ := carry (x := l1) (y := c) (z := 0) r1 (by omega) (by omega)
 obtain ⟨k1, rfl⟩ : ∃ n : Nat, k1 = n := ⟨k1.toNat, by omega⟩
 obtain ⟨k2, rfl⟩ : ∃ n : Nat, k2 = n := ⟨k2.toNat, by omega⟩
 have hm := mul64S x y h0 l0 (by omega) (by omega) (by omega) (by omega)
 have hfin : l2 = lo ∧ h0 + k1 + k2 = hi := by omega
 have hhi : h0 + k1 + k2 < 18446744073709551616 := by omega
 clear eh0 el0 hxy h
 cases hZ <;> cases hC
 all_goals
   refine mk Tryz.func222 rfl rfl L0 R0 (by decide +kernel) fun A S hA hS => ?_
   unfold bodyOf Tryz.f222
   cbv
   refine ACall.mk (.tup [.s .u64 h0, .s .u64 l0]) (cf hS hm) ?_
   cbv
   refine ACall.mk (.tup [.s .u64 l1, .s .u64 k1]) (cf hS (add64S (.s _) (by first | exact .i _ | exact .s _) (.i _) (by exact Int.natCast_nonneg _) (by exact Int.natCast_nonneg _) (by omega) _ _ e1 r1)) ?_
   cbv
   refine ACall.mk (.tup [.s .u64 l2, .s .u64 k2]) (cf hS (add64S (.s _) (by first | exact .i _ | exact .s _) (.i _) r1.1 (by exact Int.natCast_nonneg _) (by omega) _ _ e2 r2)) ?_
   cbv
   subst hA
   dsimp only [Ar.real]
   rw [u_add, u_add, Nat.mod_eq_of_lt (by omega), Nat.mod_eq_of_lt (by omega), hfin.2, hfin.1]
   exact ⟨rfl, rfl⟩
theorem stepS {Z C : AVal} (x y z c hi lo : Int) (hx : 0 ≤ x ∧ x < 18446744073709551616) (hy : 0 ≤ y ∧ y < 18446744073709551616) (hz : 0 ≤ z ∧ z < 18446744073709551616) (hc : 0 ≤ c ∧ c < 18446744073709551616) (hZ : IsU Z z) (hC : IsU C c)
   (h : lo + 18446744073709551616 * hi = x * y + z + c) (hlo : 0 ≤ lo ∧ lo < 18446744073709551616) : Sp 222 [.s .u64 x, .s .u64 y, Z, C] (.tup [.s .u64 hi, .s .u64 lo]) := by
 obtain ⟨x, rfl⟩ : ∃ n : Nat, x = n := ⟨x.toNat, by omega⟩
 obtain ⟨y, rfl⟩ : ∃ n : Nat, y = n := ⟨y.toNat, by omega⟩
 obtain ⟨z, rfl⟩ : ∃ n : Nat, z = n := ⟨z.toNat, by omega⟩
 obtain ⟨c, rfl⟩ : ∃ n : Nat, c = n := ⟨c.toNat, by omega⟩
 obtain ⟨lo, rfl⟩ : ∃ n : Nat, lo = n := ⟨lo.toNat, by omega⟩
 have hxy : (0 : Int) ≤ (x : Int) * (y : Int) := Int.mul_nonneg (by omega) (by omega)
 obtain ⟨hi, rfl⟩ : ∃ n : Nat, hi = n := ⟨hi.toNat, by omega⟩
 refine stepN x y z c hi lo (by omega) (by omega) (by omega) (by omega) hZ hC ?_ (by omega)
 rw [← Int.natCast_mul] at h
 omega
theorem steps {x y z c : Int} (hx : 0 ≤ x ∧ x < 18446744073709551616) (hy : 0 ≤ y ∧ y < 18446744073709551616) (hz : 0 ≤ z ∧ z < 18446744073709551616) (hc : 0 ≤ c ∧ c < 18446744073709551616) :
   ∃ lo hi : Int, lo + 18446744073709551616 * hi = x * y + z + c ∧ (0 ≤ lo ∧ lo < 18446744073709551616) ∧ 0 ≤ hi ∧ hi < 18446744073709551616 := by
 have h1 : (0 : Int) ≤ x * y := Int.mul_nonneg hx.1 hy.1
 have h2 : x * y ≤ 18446744073709551615 * 18446744073709551615 := Int.mul_le_mul (by omega) (by omega) hy.1 (by omega)
 obtain ⟨p, hp⟩ : ∃ p, p = x * y := ⟨_, rfl⟩
 rw [← hp] at h1 h2 ⊢
 exact ⟨(p + z + c) % 18446744073709551616, (p + z + c) / 18446744073709551616, by omega, by omega, by omega, by omega⟩
def LN : Nat → Nat := fun _ => 0
abbrev Fits (n : Int) : Prop := -9223372036854775808 ≤ n ∧ n < 9223372036854775808
theorem i_add {A : Ar} (hA : A = Ar.real) {x y : Int} (h : Fits (x + y)) : A.bin .add .i64 x y = x + y := by rw [hA]; exact wrap_i64 _ h
theorem i_sub {A : Ar} (hA : A = Ar.real) {x y : Int} (h : Fits (x - y)) : A.bin .sub .i64 x y = x - y := by rw [hA]; exact wrap_i64 _ h
theorem i_mul {A : Ar} (hA : A = Ar.real) {x y : Int} (h : Fits (x * y)) : A.bin .mul .i64 x y = x * y := by rw [hA]; exact wrap_i64 _ h
theorem i_quo {A : Ar} (hA : A = Ar.real) {x y : Int} (hx : 0 ≤ x) (hy : 0 < y) (h : Fits (x / y)) : A.bin .quo .i64 x y = x / y := by
 rw [hA]
 show IntKind.i64.wrap (x.tdiv y) = _
 rw [Int.tdiv_eq_ediv_of_nonneg hx]
 exact wrap_i64 _ h
theorem i_rem {A : Ar} (hA : A = Ar.real) {x y : Int} (hx : 0 ≤ x) : A.bin .rem .i64 x y = x % y := by
 rw [hA]
 show x.tmod y = _
 rw [Int.tmod_eq_emod_of_nonneg hx]
theorem e_add {A : Ar} (hA : A = Ar.real) {x y a b z : Int} (hx : x = a) (hy : y = b) (hz : a + b = z) (h : Fits z) : A.bin .add .i64 x y = z := by subst hx; subst hy; subst hz; exact i_add hA h
theorem e_sub {A : Ar} (hA : A = Ar.real) {x y a b z : Int} (hx : x = a) (hy : y = b) (hz : a - b = z) (h : Fits z) : A.bin .sub .i64 x y = z := by subst hx; subst hy; subst hz; exact i_sub hA h
theorem e_mul {A : Ar} (hA : A = Ar.real) {x y a b z : Int} (hx : x = a) (hy : y = b) (hz : a * b = z) (h : Fits z) : A.bin .mul .i64 x y = z := by subst hx; subst hy; subst hz; exact i_mul hA h
theorem e_quo {A : Ar} (hA : A = Ar.real) {x y a b z : Int} (hx : x = a) (hy : y = b) (hz : a / b = z) (h0 : 0 ≤ a) (h1 : 0 < b) (h : Fits z) : A.bin .quo .i64 x y = z := by subst hx; subst hy; subst hz; exact i_quo hA h0 h1 h
theorem e_rem {A : Ar} (hA : A = Ar.real) {x y a b z : Int} (hx : x = a) (hy : y = b) (hz : a % b = z) (h0 : 0 ≤ a) : A.bin .rem .i64 x y = z := by subst hx; subst hy; subst hz; exact i_rem hA h0
theorem a_len {A : Ar} (hA : A = Ar.real) (n : Nat) : A.len n = n := by rw [hA]; rfl
theorem a_okbS {A : Ar} (hA : A = Ar.real) {y : Int} (h : 0 ≤ y) : A.okb .shr y = true ∧ A.okb .shl y = true := by
 rw [hA]
 constructor <;> (show (!decide (y < 0)) = true; rw [decide_eq_false (by omega)]; rfl)
theorem i_ge {A : Ar} (hA : A = Ar.real) {x y : Int} : A.cmp .geq x y = decide (x ≥ y) := by rw [hA]; rfl
theorem i_lt {A : Ar} (hA : A = Ar.real) {x y : Int} : A.cmp .lss x y = decide (x < y) := by rw [hA]; rfl
theorem i_eq {A : Ar} (hA : A = Ar.real) {x y : Int} : A.cmp .eql x y = decide (x = y) := by
 rw [hA]; show (x == y) = _; by_cases h : x = y <;> simp [h]
theorem i_ne {A : Ar} (hA : A = Ar.real) {x y : Int} : A.cmp .neq x y = !decide (x = y) := by
 rw [hA]; show (x != y) = _; by_cases h : x = y <;> simp [h]
theorem a_not {A : Ar} (hA : A = Ar.real) (t : Bool) : A.not t = !t := by rw [hA]; rfl
theorem u_bit {A : Ar} (hA : A = Ar.real) {x k : Int} {b : Nat} (hx : 0 ≤ x ∧ x < 18446744073709551616) (hk : k = b) (hb : b ≤ 64) : A.bin .and .u64 (A.bin .shr .u64 x k) 1 = ((x.toNat / 2 ^ b % 2 : Nat) : Int) := by
 obtain ⟨a, rfl⟩ : ∃ n : Nat, x = n := ⟨x.toNat, by omega⟩
 subst hk
 rw [hA]
 show rbin .and .u64 (rbin .shr .u64 (Int.ofNat a) (Int.ofNat b)) (Int.ofNat (2 ^ 1 - 1)) = _
 rw [u_shr a b (by omega), u_mask _ 1 (by omega) (Nat.lt_of_le_of_lt (Nat.div_le_self _ _) (by omega))]
 rfl
def IsRow (cs : List AVal) (ws : Nat → Int) (n : Nat) : Prop := cs.length = n ∧ ∀ i, i < n → lsub cs (i * 1) 1 = some [.s .u64 (ws i)]
def bitAt (ws : Nat → Int) (n i : Nat) : Nat := (ws ((64 * n - 1 - i) / 64)).toNat / 2 ^ ((64 * n - 1 - i) % 64) % 2
theorem digitsI {cs : List AVal} {ws : Nat → Int} {n : Nat} (hcs : IsRow cs ws n) (hn : n < 1000) (hw : ∀ i, i < n → 0 ≤ ws i ∧ ws i < 18446744073709551616) (xs : Nat → List AVal)
   (hx : ∀ i, i < 64 * n → xs i = [.s .u64 (bitAt ws n i : Nat)]) : SeqSp Tryz.prog 226 [.ref [.lst true n cs] 0] (64 * n) xs := by
 refine mkI Tryz.func226 rfl rfl LN R0 (by decide +kernel) (by decide +kernel) fun A S hA hSn hxs => ?_
 unfold bodyOf Tryz.f226
 cbv
 refine .inv (α := Nat × Int) (fun p => ⟨[.v (.func (.yield S.l) #[] #[]), .ref [.lst true n cs] 0, .tup [], .s .i64 p.2, .any, .any, .any, .any, .any, .any, .any, .any, .any, .any, .any, .any, .any, .any, .any, .any, .any, .any, .any, .any], ghost p.1⟩)
   (fun p => p.1 ≤ 64 * n ∧ p.2 = 64 * n - 1 - p.1) (fun p => 64 * n - p.1) (0, 64 * (n : Int) - 1) ?_ ⟨Nat.zero_le _, by omega⟩ ?_
 . have e : A.bin .sub .i64 (A.bin .mul .i64 64 (A.len n)) 1 = 64 * (n : Int) - 1 := e_sub hA (e_mul hA rfl (a_len hA n) rfl (by omega)) rfl rfl (by omega)
   generalize 64 * (n : Int) - 1 = y at e
   cbv
   simp only [and_true]
   exact e
 rintro ⟨j, i⟩ ⟨hj, hi⟩
 dsimp only at hj hi ⊢
 by_cases h0 : i ≥ 0
 . obtain ⟨k, rfl⟩ : ∃ k : Nat, i = k := ⟨i.toNat, by omega⟩
   have hjk : 64 * n - 1 - j = k := by omega
   have hj' : j < 64 * n := by omega
   obtain ⟨y, hy⟩ : ∃ y : Int, y = k - 1 := ⟨_, rfl⟩
   have hlast : y = 64 * n - 1 - (j + 1 : Nat) := by omega
   have hk2 : k < 64000 := by omega
   have hdec : 64 * n - (j + 1) < 64 * n - j := by omega
   obtain ⟨q, hqk⟩ : ∃ q, q = k / 64 := ⟨_, rfl⟩
   have hqn : q < n := by omega
   have hrem : A.bin .rem .i64 (k : Int) 64 = ((k % 64 : Nat) : Int) := e_rem hA rfl rfl (by omega) (by omega)
   have hquo : A.bin .quo .i64 (k : Int) 64 = (q : Int) := e_quo hA rfl rfl (by omega) (by omega) (by omega) (by omega)
   have hsub : A.bin .sub .i64 (k : Int) 1 = y := e_sub hA rfl rfl hy.symm (by omega)
   have hok : A.okb .shr (A.bin .rem .i64 (k : Int) 64) = true := by rw [hrem]; exact (a_okbS hA (by omega)).1
   have hge : A.cmp .geq (k : Int) 0 = true := (i_ge hA).trans (decide_eq_true (by omega))
   have hq := hcs.2 q hqn
   have hbit := u_bit hA (hw q hqn) hrem (by omega)
   have hargs : [AVal.s .u64 (A.bin .and .u64 (A.bin .shr .u64 (ws q) (A.bin .rem .i64 (k : Int) 64)) 1)] = S.xs j := by
     rw [hxs, hx j hj', hbit]
     unfold bitAt
     rw [hjk, hqk]
   cbv
   refine ABr.t hge ?_
   cbv
   refine .mk q hquo hqn ?_
   cbv
   refine .mk _ hq ?_
   cbv
   refine .mk hok ?_
   cbv
   refine .mk j rfl (by rw [hSn]; exact hj') rfl hargs ?_
   cbv
   refine ⟨(j + 1, y), ?_, ⟨hj', hlast⟩, hdec⟩
   cbv
   simp only [and_true]
   exact hsub
 . have hge : A.cmp .geq i 0 = false := (i_ge hA).trans (decide_eq_false h0)
   have hjn : j = 64 * n := by omega
   obtain ⟨e, he⟩ : ∃ e, e = ghost (64 * n) := ⟨_, rfl⟩
   rw [← he]
   cbv
   refine ABr.f hge ?_
   cbv
   rw [he, ← hjn]
   rfl
theorem lim_inj4 {lim : Lim} (hl : lim = limR) {a b : Nat} (ha : a < 2 ^ 256) (hb : b < 2 ^ 256) (h : lim a 0 = lim b 0 ∧ lim a 1 = lim b 1 ∧ lim a 2 = lim b 2 ∧ lim a 3 = lim b 3) : a = b := by
 have e1 := split4 hl a ha
 have e2 := split4 hl b hb
 obtain ⟨h0, h1, h2, h3⟩ := h
 rw [h0, h1, h2, h3, ← e2] at e1
 omega
theorem lim_inj6 {lim : Lim} (hl : lim = limR) {a b : Nat} (ha : a < 2 ^ 384) (hb : b < 2 ^ 384) (h : lim a 0 = lim b 0 ∧ lim a 1 = lim b 1 ∧ lim a 2 = lim b 2 ∧ lim a 3 = lim b 3 ∧ lim a 4 = lim b 4 ∧ lim a 5 = lim b 5) : a = b := by
 have e1 := split6 hl a ha
 have e2 := split6 hl b hb
 obtain ⟨h0, h1, h2, h3, h4, h5⟩ := h
 rw [h0, h1, h2, h3, h4, h5, ← e2] at e1
 omega
def carr (a b i : Nat) : Nat := (a % 2 ^ (64 * i) + b % 2 ^ (64 * i)) / 2 ^ (64 * i)
theorem carr_le (a b i : Nat) : carr a b i ≤ 1 := by
 unfold carr
 have hp : 0 < 2 ^ (64 * i) := Nat.two_pow_pos _
 have h1 := Nat.mod_lt a hp
 have h2 := Nat.mod_lt b hp
 have : (a % 2 ^ (64 * i) + b % 2 ^ (64 * i)) / 2 ^ (64 * i) < 2 := by rw [Nat.div_lt_iff_lt_mul hp]; omega
 omega
theorem add_limb (a b M : Nat) (hM : 0 < M) : a / M % 18446744073709551616 + b / M % 18446744073709551616 + (a % M + b % M) / M = (a + b) / M % 18446744073709551616 + 18446744073709551616 * ((a % (M * 18446744073709551616) + b % (M * 18446744073709551616)) / (M * 18446744073709551616)) := by
 obtain ⟨z, hz⟩ : ∃ z, z = (a % M + b % M) / M := ⟨_, rfl⟩
 have e1 : (a + b) / M = a / M + b / M + z := by
   have : a + b = a % M + b % M + M * (a / M + b / M) := by
     have h1 := Nat.div_add_mod a M
     have h2 := Nat.div_add_mod b M
     rw [Nat.mul_add]; omega
   rw [this, Nat.add_mul_div_left _ _ hM, ← hz]; omega
 have e2 : (a % (M * 18446744073709551616) + b % (M * 18446744073709551616)) / (M * 18446744073709551616) = (a / M % 18446744073709551616 + b / M % 18446744073709551616 + z) / 18446744073709551616 := by
   rw [Nat.mod_mul, Nat.mod_mul, ← Nat.div_div_eq_div_mul]
   have : a % M + M * (a / M % 18446744073709551616) + (b % M + M * (b / M % 18446744073709551616)) = a % M + b % M + M * (a / M % 18446744073709551616 + b / M % 18446744073709551616) := by rw [Nat.mul_add]; omega
   rw [this, Nat.add_mul_div_left _ _ hM, ← hz]; congr 1; omega
 rw [e1, e2, ← hz]
 omega
theorem carr_step (a b i : Nat) : limR a i + limR b i + carr a b i = limR (a + b) i + 18446744073709551616 * carr a b (i + 1) := by
 have h := add_limb a b (2 ^ (64 * i)) (Nat.two_pow_pos _)
 unfold limR carr
 rw [show 64 * (i + 1) = 64 * i + 64 by omega, Nat.pow_add, show (2 : Nat) ^ 64 = 18446744073709551616 from rfl]
 omega
theorem addj {A : Ar} (hA : A = Ar.real) {X Y C Z : Int} {c : Nat} (hX : 0 ≤ X ∧ X < 18446744073709551616) (hY : 0 ≤ Y ∧ Y < 18446744073709551616) (hC : 0 ≤ C ∧ C ≤ 1) (hZ : 0 ≤ Z ∧ Z < 18446744073709551616) (h : X + Y + C = Z + 18446744073709551616 * c) :
   ∃ v : Int, (A.cmp .lss (A.bin .add .u64 X Y) X = true → (1 : Int) = v) ∧ (A.cmp .lss (A.bin .add .u64 X Y) X = false → (0 : Int) = v) ∧
     (A.cmp .lss (A.bin .add .u64 (A.bin .add .u64 X Y) C) (A.bin .add .u64 X Y) = true → (1 : Int) = c) ∧ (A.cmp .lss (A.bin .add .u64 (A.bin .add .u64 X Y) C) (A.bin .add .u64 X Y) = false → v = c) ∧
     A.bin .add .u64 (A.bin .add .u64 X Y) C = Z := by
 obtain ⟨x, rfl⟩ : ∃ x : Nat, X = x := ⟨X.toNat, by omega⟩
 obtain ⟨y, rfl⟩ : ∃ x : Nat, Y = x := ⟨Y.toNat, by omega⟩
 obtain ⟨k, rfl⟩ : ∃ x : Nat, C = x := ⟨C.toNat, by omega⟩
 obtain ⟨p, hp⟩ : ∃ p, p = (x + y) % 18446744073709551616 := ⟨_, rfl⟩
 have e1 : A.bin .add .u64 (x : Int) (y : Int) = (p : Int) := by rw [hA, hp]; exact u_add x y
 have e2 : A.bin .add .u64 (p : Int) (k : Int) = (((p + k) % 18446744073709551616 : Nat) : Int) := by rw [hA]; exact u_add p k
 have e3 : (((p + k) % 18446744073709551616 : Nat) : Int) = Z := by omega
 rw [e1, e2, e3, i_lt hA, i_lt hA]
 refine ⟨if (p : Int) < x then 1 else 0, fun e => ?_, fun e => ?_, fun e => ?_, fun e => ?_, rfl⟩
 . rw [if_pos (of_decide_eq_true e)]
 . rw [if_neg (of_decide_eq_false e)]
 . have := of_decide_eq_true e; omega
 . have := of_decide_eq_false e; split <;> omega
theorem subj {A : Ar} (hA : A = Ar.real) {X Y C Z : Int} {c : Nat} (hX : 0 ≤ X ∧ X < 18446744073709551616) (hY : 0 ≤ Y ∧ Y < 18446744073709551616) (hC : 0 ≤ C ∧ C ≤ 1) (hZ : 0 ≤ Z ∧ Z < 18446744073709551616) (h : Y + Z + C = X + 18446744073709551616 * c) :
   ∃ v : Int, (A.cmp .lss X Y = true → (1 : Int) = v) ∧ (A.cmp .lss X Y = false → (0 : Int) = v) ∧
     (A.cmp .lss (A.bin .sub .u64 X Y) C = true → (1 : Int) = c) ∧ (A.cmp .lss (A.bin .sub .u64 X Y) C = false → v = c) ∧
     A.bin .sub .u64 (A.bin .sub .u64 X Y) C = Z := by
 obtain ⟨x, rfl⟩ : ∃ x : Nat, X = x := ⟨X.toNat, by omega⟩
 obtain ⟨y, rfl⟩ : ∃ x : Nat, Y = x := ⟨Y.toNat, by omega⟩
 obtain ⟨k, rfl⟩ : ∃ x : Nat, C = x := ⟨C.toNat, by omega⟩
 obtain ⟨p, hp⟩ : ∃ p, p = (x + 18446744073709551616 - y) % 18446744073709551616 := ⟨_, rfl⟩
 have e1 : A.bin .sub .u64 (x : Int) (y : Int) = (p : Int) := by rw [hA, hp]; exact u_sub x y (by omega)
 have e2 : A.bin .sub .u64 (p : Int) (k : Int) = (((p + 18446744073709551616 - k) % 18446744073709551616 : Nat) : Int) := by rw [hA]; exact u_sub p k (by omega)
 have e3 : (((p + 18446744073709551616 - k) % 18446744073709551616 : Nat) : Int) = Z := by omega
 rw [e1, e2, e3, i_lt hA, i_lt hA]
 refine ⟨if (x : Int) < y then 1 else 0, fun e => ?_, fun e => ?_, fun e => ?_, fun e => ?_, rfl⟩
 . rw [if_pos (of_decide_eq_true e)]
 . rw [if_neg (of_decide_eq_false e)]
 . have := of_decide_eq_true e; omega
 . have := of_decide_eq_false e; split <;> omega
theorem limR_low {a n i : Nat} (hi : i < n) : limR (a % 2 ^ (64 * n)) i = limR a i := by
 unfold limR
 rw [show 64 * n = 64 * i + (64 + (64 * n - 64 * i - 64)) by omega, Nat.pow_add, Nat.pow_add, Nat.mod_mul_right_div_self, Nat.mod_mul_right_mod]
def RJ : Nat → Md := fun _ => .jn
abbrev ws4 (lim : Lim) (a : Nat) : List AVal := [.s .u64 (lim a 0), .s .u64 (lim a 1), .s .u64 (lim a 2), .s .u64 (lim a 3)]
theorem rAdd4 {lim : Lim} (hl : lim = limR) (a b s c : Nat) (ha : a < 2 ^ 256) (hb : b < 2 ^ 256) (hs : s = (a + b) % 2 ^ 256) (hc : c = (a + b) / 2 ^ 256) :
   Sp 53 [.lst false 4 (ws4 lim a), .lst false 4 (ws4 lim b)] (.tup [.new false 4 1 (ws4 lim s), .s .u64 c]) := by
 obtain ⟨C, hC⟩ : ∃ C : Nat → Nat, C = carr a b := ⟨_, rfl⟩
 have hC0 : C 0 = 0 := by rw [hC]; unfold carr; simp [Nat.mod_one]
 have hCn : C 4 = c := by rw [hC, hc]; unfold carr; rw [Nat.mod_eq_of_lt ha, Nat.mod_eq_of_lt hb]
 have hC1 : ∀ i, C i ≤ 1 := fun i => by rw [hC]; exact carr_le a b i
 have hst : ∀ i, i < 4 → lim a i + lim b i + C i = lim s i + 18446744073709551616 * C (i + 1) := by
   intro i hi
   have := carr_step a b i
   rw [hl, hC, hs]
   rw [this]
   congr 1
   exact (limR_low (n := 4) hi).symm
 have le := fun x i => lim_range hl x i
 have h00 : lim a 0 + lim b 0 + 0 = lim s 0 + 18446744073709551616 * (C 1 : Nat) := by
   have := hst 0 (by decide)
   rw [hC0] at this
   exact this
 clear hC hs hc
 refine mk Tryz.func53 rfl rfl L0 RJ (by decide +kernel) ?_
 intro A S hA hS
 unfold bodyOf Tryz.f53
 cbv
 obtain ⟨v0, p0, q0, r0, s0, e0⟩ := addj hA (le a 0) (le b 0) (C := 0) (c := C 1) (by omega) (le s 0) h00
 obtain ⟨v1, p1, q1, r1, s1, e1⟩ := addj hA (le a 1) (le b 1) (C := (C 1 : Nat)) (c := C 2) (by have := hC1 1; omega) (le s 1) (hst 1 (by decide))
 obtain ⟨v2, p2, q2, r2, s2, e2⟩ := addj hA (le a 2) (le b 2) (C := (C 2 : Nat)) (c := C 3) (by have := hC1 2; omega) (le s 2) (hst 2 (by decide))
 obtain ⟨v3, p3, q3, r3, s3, e3⟩ := addj hA (le a 3) (le b 3) (C := (C 3 : Nat)) (c := C 4) (by have := hC1 3; omega) (le s 3) (hst 3 (by decide))
 refine AJ.mk v0 p0 q0 ?_
 cbv
 refine AJ.mk ((C 1 : Nat) : Int) r0 s0 ?_
 cbv
 refine AJ.mk v1 p1 q1 ?_
 cbv
 refine AJ.mk ((C 2 : Nat) : Int) r1 s1 ?_
 cbv
 refine AJ.mk v2 p2 q2 ?_
 cbv
 refine AJ.mk ((C 3 : Nat) : Int) r2 s2 ?_
 cbv
 refine AJ.mk v3 p3 q3 ?_
 cbv
 refine AJ.mk ((C 4 : Nat) : Int) r3 s3 ?_
 cbv
 exact ⟨⟨e0, e1, e2, e3⟩, congrArg Int.ofNat hCn⟩
theorem rSub4 {lim : Lim} (hl : lim = limR) (a b d k : Nat) (ha : a < 2 ^ 256) (hb : b < 2 ^ 256) (hd : d + b = a + 2 ^ 256 * k) (hk : d < 2 ^ 256) :
   Sp 199 [.lst false 4 (ws4 lim a), .lst false 4 (ws4 lim b)] (.tup [.new false 4 1 (ws4 lim d), .s .u64 k]) := by
 obtain ⟨C, hC⟩ : ∃ C : Nat → Nat, C = carr b d := ⟨_, rfl⟩
 have hC0 : C 0 = 0 := by rw [hC]; unfold carr; simp [Nat.mod_one]
 have hCn : C 4 = k := by rw [hC]; unfold carr; rw [Nat.mod_eq_of_lt hb, Nat.mod_eq_of_lt hk]; omega
 have hC1 : ∀ i, C i ≤ 1 := fun i => by rw [hC]; exact carr_le b d i
 have hst : ∀ i, i < 4 → lim b i + lim d i + C i = lim a i + 18446744073709551616 * C (i + 1) := by
   intro i hi
   have := carr_step b d i
   rw [hl, hC, this]
   congr 1
   rw [← limR_low (n := 4) hi, show (b + d) % 2 ^ (64 * 4) = a by omega]
 have le := fun x i => lim_range hl x i
 have h00 : lim b 0 + lim d 0 + 0 = lim a 0 + 18446744073709551616 * (C 1 : Nat) := by
   have := hst 0 (by decide)
   rw [hC0] at this
   exact this
 clear hC
 refine mk Tryz.func199 rfl rfl L0 RJ (by decide +kernel) ?_
 intro A S hA hS
 unfold bodyOf Tryz.f199
 cbv
 obtain ⟨v0, p0, q0, r0, s0, e0⟩ := subj hA (le a 0) (le b 0) (C := 0) (c := C 1) (by omega) (le d 0) h00
 obtain ⟨v1, p1, q1, r1, s1, e1⟩ := subj hA (le a 1) (le b 1) (C := (C 1 : Nat)) (c := C 2) (by have := hC1 1; omega) (le d 1) (hst 1 (by decide))
 obtain ⟨v2, p2, q2, r2, s2, e2⟩ := subj hA (le a 2) (le b 2) (C := (C 2 : Nat)) (c := C 3) (by have := hC1 2; omega) (le d 2) (hst 2 (by decide))
 obtain ⟨v3, p3, q3, r3, s3, e3⟩ := subj hA (le a 3) (le b 3) (C := (C 3 : Nat)) (c := C 4) (by have := hC1 3; omega) (le d 3) (hst 3 (by decide))
 refine AJ.mk v0 p0 q0 ?_
 cbv
 refine AJ.mk ((C 1 : Nat) : Int) r0 s0 ?_
 cbv
 refine AJ.mk v1 p1 q1 ?_
 cbv
 refine AJ.mk ((C 2 : Nat) : Int) r1 s1 ?_
 cbv
 refine AJ.mk v2 p2 q2 ?_
 cbv
 refine AJ.mk ((C 3 : Nat) : Int) r2 s2 ?_
 cbv
 refine AJ.mk v3 p3 q3 ?_
 cbv
 refine AJ.mk ((C 4 : Nat) : Int) r3 s3 ?_
 cbv
 exact ⟨⟨e0, e1, e2, e3⟩, congrArg Int.ofNat hCn⟩
theorem less_top4 {lim : Lim} (hl : lim = limR) {a b : Nat} (ha : a < 2 ^ 256) (hb : b < 2 ^ 256) (k : Nat) (hk : k < 4) (he : ∀ i, k < i → i < 4 → lim a i = lim b i) (hn : lim a k ≠ lim b k) : lim a k < lim b k ↔ a < b := by
 have sa := split4 hl a ha
 have sb := split4 hl b hb
 have a0 := lim_range hl a 0
 have b0 := lim_range hl b 0
 have a1 := lim_range hl a 1
 have b1 := lim_range hl b 1
 have a2 := lim_range hl a 2
 have b2 := lim_range hl b 2
 have a3 := lim_range hl a 3
 have b3 := lim_range hl b 3
 have hh : ∀ x y : Nat, (x : Int) < y ↔ x < y := fun x y => Int.ofNat_lt
 rw [← hh a b, sa, sb]
 clear sa sb hh ha hb
 rcases (by omega : k = 0 ∨ k = 1 ∨ k = 2 ∨ k = 3) with rfl | rfl | rfl | rfl
 all_goals
   try rw [he 1 (by decide) (by decide)]
   try rw [he 2 (by decide) (by decide)]
   try rw [he 3 (by decide) (by decide)]
   omega
theorem rLess4 {lim : Lim} (hl : lim = limR) (a b : Nat) (ha : a < 2 ^ 256) (hb : b < 2 ^ 256) (t : Bool) (ht : t = decide (a < b)) :
   Sp 86 [.lst false 4 (ws4 lim a), .lst false 4 (ws4 lim b)] (.sb t) := by
 have top := less_top4 hl ha hb
 have inj := lim_inj4 hl ha hb
 refine mk Tryz.func86 rfl rfl L0 RJ (by decide +kernel) ?_
 intro A S hA hS
 unfold bodyOf Tryz.f86
 cbv
 have n0 : A.cmp .neq (lim a 0) (lim b 0) = !decide (lim a 0 = lim b 0) := i_ne hA
 have l0 : A.cmp .lss (lim a 0) (lim b 0) = decide (lim a 0 < lim b 0) := i_lt hA
 have n1 : A.cmp .neq (lim a 1) (lim b 1) = !decide (lim a 1 = lim b 1) := i_ne hA
 have l1 : A.cmp .lss (lim a 1) (lim b 1) = decide (lim a 1 < lim b 1) := i_lt hA
 have n2 : A.cmp .neq (lim a 2) (lim b 2) = !decide (lim a 2 = lim b 2) := i_ne hA
 have l2 : A.cmp .lss (lim a 2) (lim b 2) = decide (lim a 2 < lim b 2) := i_lt hA
 have n3 : A.cmp .neq (lim a 3) (lim b 3) = !decide (lim a 3 = lim b 3) := i_ne hA
 have l3 : A.cmp .lss (lim a 3) (lim b 3) = decide (lim a 3 < lim b 3) := i_lt hA
 by_cases h3 : lim a 3 = lim b 3
 rotate_left
 . rw [decide_eq_false h3] at n3
   refine ABr.t n3 ?_
   cbv
   refine l3.trans (ht ▸ ?_)
   refine decide_eq_decide.2 (top 3 (by decide) (fun i h1 h2 => ?_) h3)
   rcases (by omega : i = 0 ∨ i = 1 ∨ i = 2 ∨ i = 3) with rfl | rfl | rfl | rfl
   all_goals first | assumption | (exfalso; omega)
 rw [decide_eq_true h3] at n3
 refine ABr.f n3 ?_
 cbv
 by_cases h2 : lim a 2 = lim b 2
 rotate_left
 . rw [decide_eq_false h2] at n2
   refine ABr.t n2 ?_
   cbv
   refine l2.trans (ht ▸ ?_)
   refine decide_eq_decide.2 (top 2 (by decide) (fun i h1 h2 => ?_) h2)
   rcases (by omega : i = 0 ∨ i = 1 ∨ i = 2 ∨ i = 3) with rfl | rfl | rfl | rfl
   all_goals first | assumption | (exfalso; omega)
 rw [decide_eq_true h2] at n2
 refine ABr.f n2 ?_
 cbv
 by_cases h1 : lim a 1 = lim b 1
 rotate_left
 . rw [decide_eq_false h1] at n1
   refine ABr.t n1 ?_
   cbv
   refine l1.trans (ht ▸ ?_)
   refine decide_eq_decide.2 (top 1 (by decide) (fun i h1 h2 => ?_) h1)
   rcases (by omega : i = 0 ∨ i = 1 ∨ i = 2 ∨ i = 3) with rfl | rfl | rfl | rfl
   all_goals first | assumption | (exfalso; omega)
 rw [decide_eq_true h1] at n1
 refine ABr.f n1 ?_
 cbv
 by_cases h0 : lim a 0 = lim b 0
 rotate_left
 . rw [decide_eq_false h0] at n0
   refine ABr.t n0 ?_
   cbv
   refine l0.trans (ht ▸ ?_)
   refine decide_eq_decide.2 (top 0 (by decide) (fun i h1 h2 => ?_) h0)
   rcases (by omega : i = 0 ∨ i = 1 ∨ i = 2 ∨ i = 3) with rfl | rfl | rfl | rfl
   all_goals first | assumption | (exfalso; omega)
 rw [decide_eq_true h0] at n0
 refine ABr.f n0 ?_
 cbv
 rw [ht, decide_eq_false (by rw [inj ⟨h0, h1, h2, h3⟩]; exact Nat.lt_irrefl _)]
abbrev ws6 (lim : Lim) (a : Nat) : List AVal := [.s .u64 (lim a 0), .s .u64 (lim a 1), .s .u64 (lim a 2), .s .u64 (lim a 3), .s .u64 (lim a 4), .s .u64 (lim a 5)]
theorem rAdd6 {lim : Lim} (hl : lim = limR) (a b s c : Nat) (ha : a < 2 ^ 384) (hb : b < 2 ^ 384) (hs : s = (a + b) % 2 ^ 384) (hc : c = (a + b) / 2 ^ 384) :
   Sp 53 [.lst false 6 (ws6 lim a), .lst false 6 (ws6 lim b)] (.tup [.new false 6 1 (ws6 lim s), .s .u64 c]) := by
 obtain ⟨C, hC⟩ : ∃ C : Nat → Nat, C = carr a b := ⟨_, rfl⟩
 have hC0 : C 0 = 0 := by rw [hC]; unfold carr; simp [Nat.mod_one]
 have hCn : C 6 = c := by rw [hC, hc]; unfold carr; rw [Nat.mod_eq_of_lt ha, Nat.mod_eq_of_lt hb]
 have hC1 : ∀ i, C i ≤ 1 := fun i => by rw [hC]; exact carr_le a b i
 have hst : ∀ i, i < 6 → lim a i + lim b i + C i = lim s i + 18446744073709551616 * C (i + 1) := by
   intro i hi
   have := carr_step a b i
   rw [hl, hC, hs]
   rw [this]
   congr 1
   exact (limR_low (n := 6) hi).symm
 have le := fun x i => lim_range hl x i
 have h00 : lim a 0 + lim b 0 + 0 = lim s 0 + 18446744073709551616 * (C 1 : Nat) := by
   have := hst 0 (by decide)
   rw [hC0] at this
   exact this
 clear hC hs hc
 refine mk Tryz.func53 rfl rfl L0 RJ (by decide +kernel) ?_
 intro A S hA hS
 unfold bodyOf Tryz.f53
 cbv
 obtain ⟨v0, p0, q0, r0, s0, e0⟩ := addj hA (le a 0) (le b 0) (C := 0) (c := C 1) (by omega) (le s 0) h00
 obtain ⟨v1, p1, q1, r1, s1, e1⟩ := addj hA (le a 1) (le b 1) (C := (C 1 : Nat)) (c := C 2) (by have := hC1 1; omega) (le s 1) (hst 1 (by decide))
 obtain ⟨v2, p2, q2, r2, s2, e2⟩ := addj hA (le a 2) (le b 2) (C := (C 2 : Nat)) (c := C 3) (by have := hC1 2; omega) (le s 2) (hst 2 (by decide))
 obtain ⟨v3, p3, q3, r3, s3, e3⟩ := addj hA (le a 3) (le b 3) (C := (C 3 : Nat)) (c := C 4) (by have := hC1 3; omega) (le s 3) (hst 3 (by decide))
 obtain ⟨v4, p4, q4, r4, s4, e4⟩ := addj hA (le a 4) (le b 4) (C := (C 4 : Nat)) (c := C 5) (by have := hC1 4; omega) (le s 4) (hst 4 (by decide))
 obtain ⟨v5, p5, q5, r5, s5, e5⟩ := addj hA (le a 5) (le b 5) (C := (C 5 : Nat)) (c := C 6) (by have := hC1 5; omega) (le s 5) (hst 5 (by decide))
 refine AJ.mk v0 p0 q0 ?_
 cbv
 refine AJ.mk ((C 1 : Nat) : Int) r0 s0 ?_
 cbv
 refine AJ.mk v1 p1 q1 ?_
 cbv
 refine AJ.mk ((C 2 : Nat) : Int) r1 s1 ?_
 cbv
 refine AJ.mk v2 p2 q2 ?_
 cbv
 refine AJ.mk ((C 3 : Nat) : Int) r2 s2 ?_
 cbv
 refine AJ.mk v3 p3 q3 ?_
 cbv
 refine AJ.mk ((C 4 : Nat) : Int) r3 s3 ?_
 cbv
 refine AJ.mk v4 p4 q4 ?_
 cbv
 refine AJ.mk ((C 5 : Nat) : Int) r4 s4 ?_
 cbv
 refine AJ.mk v5 p5 q5 ?_
 cbv
 refine AJ.mk ((C 6 : Nat) : Int) r5 s5 ?_
 cbv
 exact ⟨⟨e0, e1, e2, e3, e4, e5⟩, congrArg Int.ofNat hCn⟩
theorem rSub6 {lim : Lim} (hl : lim = limR) (a b d k : Nat) (ha : a < 2 ^ 384) (hb : b < 2 ^ 384) (hd : d + b = a + 2 ^ 384 * k) (hk : d < 2 ^ 384) :
   Sp 199 [.lst false 6 (ws6 lim a), .lst false 6 (ws6 lim b)] (.tup [.new false 6 1 (ws6 lim d), .s .u64 k]) := by
 obtain ⟨C, hC⟩ : ∃ C : Nat → Nat, C = carr b d := ⟨_, rfl⟩
 have hC0 : C 0 = 0 := by rw [hC]; unfold carr; simp [Nat.mod_one]
 have hCn : C 6 = k := by rw [hC]; unfold carr; rw [Nat.mod_eq_of_lt hb, Nat.mod_eq_of_lt hk]; omega
 have hC1 : ∀ i, C i ≤ 1 := fun i => by rw [hC]; exact carr_le b d i
 have hst : ∀ i, i < 6 → lim b i + lim d i + C i = lim a i + 18446744073709551616 * C (i + 1) := by
   intro i hi
   have := carr_step b d i
   rw [hl, hC, this]
   congr 1
   rw [← limR_low (n := 6) hi, show (b + d) % 2 ^ (64 * 6) = a by omega]
 have le := fun x i => lim_range hl x i
 have h00 : lim b 0 + lim d 0 + 0 = lim a 0 + 18446744073709551616 * (C 1 : Nat) := by
   have := hst 0 (by decide)
   rw [hC0] at this
   exact this
 clear hC
 refine mk Tryz.func199 rfl rfl L0 RJ (by decide +kernel) ?_
 intro A S hA hS
 unfold bodyOf Tryz.f199
 cbv
 obtain ⟨v0, p0, q0, r0, s0, e0⟩ := subj hA (le a 0) (le b 0) (C := 0) (c := C 1) (by omega) (le d 0) h00
 obtain ⟨v1, p1, q1, r1, s1, e1⟩ := subj hA (le a 1) (le b 1) (C := (C 1 : Nat)) (c := C 2) (by have := hC1 1; omega) (le d 1) (hst 1 (by decide))
 obtain ⟨v2, p2, q2, r2, s2, e2⟩ := subj hA (le a 2) (le b 2) (C := (C 2 : Nat)) (c := C 3) (by have := hC1 2; omega) (le d 2) (hst 2 (by decide))
 obtain ⟨v3, p3, q3, r3, s3, e3⟩ := subj hA (le a 3) (le b 3) (C := (C 3 : Nat)) (c := C 4) (by have := hC1 3; omega) (le d 3) (hst 3 (by decide))
 obtain ⟨v4, p4, q4, r4, s4, e4⟩ := subj hA (le a 4) (le b 4) (C := (C 4 : Nat)) (c := C 5) (by have := hC1 4; omega) (le d 4) (hst 4 (by decide))
 obtain ⟨v5, p5, q5, r5, s5, e5⟩ := subj hA (le a 5) (le b 5) (C := (C 5 : Nat)) (c := C 6) (by have := hC1 5; omega) (le d 5) (hst 5 (by decide))
 refine AJ.mk v0 p0 q0 ?_
 cbv
 refine AJ.mk ((C 1 : Nat) : Int) r0 s0 ?_
 cbv
 refine AJ.mk v1 p1 q1 ?_
 cbv
 refine AJ.mk ((C 2 : Nat) : Int) r1 s1 ?_
 cbv
 refine AJ.mk v2 p2 q2 ?_
 cbv
 refine AJ.mk ((C 3 : Nat) : Int) r2 s2 ?_
 cbv
 refine AJ.mk v3 p3 q3 ?_
 cbv
 refine AJ.mk ((C 4 : Nat) : Int) r3 s3 ?_
 cbv
 refine AJ.mk v4 p4 q4 ?_
 cbv
 refine AJ.mk ((C 5 : Nat) : Int) r4 s4 ?_
 cbv
 refine AJ.mk v5 p5 q5 ?_
 cbv
 refine AJ.mk ((C 6 : Nat) : Int) r5 s5 ?_
 cbv
 exact ⟨⟨e0, e1, e2, e3, e4, e5⟩, congrArg Int.ofNat hCn⟩
theorem less_top6 {lim : Lim} (hl : lim = limR) {a b : Nat} (ha : a < 2 ^ 384) (hb : b < 2 ^ 384) (k : Nat) (hk : k < 6) (he : ∀ i, k < i → i < 6 → lim a i = lim b i) (hn : lim a k ≠ lim b k) : lim a k < lim b k ↔ a < b := by
 have sa := split6 hl a ha
 have sb := split6 hl b hb
 have a0 := lim_range hl a 0
 have b0 := lim_range hl b 0
 have a1 := lim_range hl a 1
 have b1 := lim_range hl b 1
 have a2 := lim_range hl a 2
 have b2 := lim_range hl b 2
 have a3 := lim_range hl a 3
 have b3 := lim_range hl b 3
 have a4 := lim_range hl a 4
 have b4 := lim_range hl b 4
 have a5 := lim_range hl a 5
 have b5 := lim_range hl b 5
 have hh : ∀ x y : Nat, (x : Int) < y ↔ x < y := fun x y => Int.ofNat_lt
 rw [← hh a b, sa, sb]
 clear sa sb hh ha hb
 rcases (by omega : k = 0 ∨ k = 1 ∨ k = 2 ∨ k = 3 ∨ k = 4 ∨ k = 5) with rfl | rfl | rfl | rfl | rfl | rfl
 all_goals
   try rw [he 1 (by decide) (by decide)]
   try rw [he 2 (by decide) (by decide)]
   try rw [he 3 (by decide) (by decide)]
   try rw [he 4 (by decide) (by decide)]
   try rw [he 5 (by decide) (by decide)]
   omega
theorem rLess6 {lim : Lim} (hl : lim = limR) (a b : Nat) (ha : a < 2 ^ 384) (hb : b < 2 ^ 384) (t : Bool) (ht : t = decide (a < b)) :
   Sp 86 [.lst false 6 (ws6 lim a), .lst false 6 (ws6 lim b)] (.sb t) := by
 have top := less_top6 hl ha hb
 have inj := lim_inj6 hl ha hb
 refine mk Tryz.func86 rfl rfl L0 RJ (by decide +kernel) ?_
 intro A S hA hS
 unfold bodyOf Tryz.f86
 cbv
 have n0 : A.cmp .neq (lim a 0) (lim b 0) = !decide (lim a 0 = lim b 0) := i_ne hA
 have l0 : A.cmp .lss (lim a 0) (lim b 0) = decide (lim a 0 < lim b 0) := i_lt hA
 have n1 : A.cmp .neq (lim a 1) (lim b 1) = !decide (lim a 1 = lim b 1) := i_ne hA
 have l1 : A.cmp .lss (lim a 1) (lim b 1) = decide (lim a 1 < lim b 1) := i_lt hA
 have n2 : A.cmp .neq (lim a 2) (lim b 2) = !decide (lim a 2 = lim b 2) := i_ne hA
 have l2 : A.cmp .lss (lim a 2) (lim b 2) = decide (lim a 2 < lim b 2) := i_lt hA
 have n3 : A.cmp .neq (lim a 3) (lim b 3) = !decide (lim a 3 = lim b 3) := i_ne hA
 have l3 : A.cmp .lss (lim a 3) (lim b 3) = decide (lim a 3 < lim b 3) := i_lt hA
 have n4 : A.cmp .neq (lim a 4) (lim b 4) = !decide (lim a 4 = lim b 4) := i_ne hA
 have l4 : A.cmp .lss (lim a 4) (lim b 4) = decide (lim a 4 < lim b 4) := i_lt hA
 have n5 : A.cmp .neq (lim a 5) (lim b 5) = !decide (lim a 5 = lim b 5) := i_ne hA
 have l5 : A.cmp .lss (lim a 5) (lim b 5) = decide (lim a 5 < lim b 5) := i_lt hA
 by_cases h5 : lim a 5 = lim b 5
 rotate_left
 . rw [decide_eq_false h5] at n5
   refine ABr.t n5 ?_
   cbv
   refine l5.trans (ht ▸ ?_)
   refine decide_eq_decide.2 (top 5 (by decide) (fun i h1 h2 => ?_) h5)
   rcases (by omega : i = 0 ∨ i = 1 ∨ i = 2 ∨ i = 3 ∨ i = 4 ∨ i = 5) with rfl | rfl | rfl | rfl | rfl | rfl
   all_goals first | assumption | (exfalso; omega)
 rw [decide_eq_true h5] at n5
 refine ABr.f n5 ?_
 cbv
 by_cases h4 : lim a 4 = lim b 4
 rotate_left
 . rw [decide_eq_false h4] at n4
   refine ABr.t n4 ?_
   cbv
   refine l4.trans (ht ▸ ?_)
   refine decide_eq_decide.2 (top 4 (by decide) (fun i h1 h2 => ?_) h4)
   rcases (by omega : i = 0 ∨ i = 1 ∨ i = 2 ∨ i = 3 ∨ i = 4 ∨ i = 5) with rfl | rfl | rfl | rfl | rfl | rfl
   all_goals first | assumption | (exfalso; omega)
 rw [decide_eq_true h4] at n4
 refine ABr.f n4 ?_
 cbv
 by_cases h3 : lim a 3 = lim b 3
 rotate_left
 . rw [decide_eq_false h3] at n3
   refine ABr.t n3 ?_
   cbv
   refine l3.trans (ht ▸ ?_)
   refine decide_eq_decide.2 (top 3 (by decide) (fun i h1 h2 => ?_) h3)
   rcases (by omega : i = 0 ∨ i = 1 ∨ i = 2 ∨ i = 3 ∨ i = 4 ∨ i = 5) with rfl | rfl | rfl | rfl | rfl | rfl
   all_goals first | assumption | (exfalso; omega)
 rw [decide_eq_true h3] at n3
 refine ABr.f n3 ?_
 cbv
 by_cases h2 : lim a 2 = lim b 2
 rotate_left
 . rw [decide_eq_false h2] at n2
   refine ABr.t n2 ?_
   cbv
   refine l2.trans (ht ▸ ?_)
   refine decide_eq_decide.2 (top 2 (by decide) (fun i h1 h2 => ?_) h2)
   rcases (by omega : i = 0 ∨ i = 1 ∨ i = 2 ∨ i = 3 ∨ i = 4 ∨ i = 5) with rfl | rfl | rfl | rfl | rfl | rfl
   all_goals first | assumption | (exfalso; omega)
 rw [decide_eq_true h2] at n2
 refine ABr.f n2 ?_
 cbv
 by_cases h1 : lim a 1 = lim b 1
 rotate_left
 . rw [decide_eq_false h1] at n1
   refine ABr.t n1 ?_
   cbv
   refine l1.trans (ht ▸ ?_)
   refine decide_eq_decide.2 (top 1 (by decide) (fun i h1 h2 => ?_) h1)
   rcases (by omega : i = 0 ∨ i = 1 ∨ i = 2 ∨ i = 3 ∨ i = 4 ∨ i = 5) with rfl | rfl | rfl | rfl | rfl | rfl
   all_goals first | assumption | (exfalso; omega)
 rw [decide_eq_true h1] at n1
 refine ABr.f n1 ?_
 cbv
 by_cases h0 : lim a 0 = lim b 0
 rotate_left
 . rw [decide_eq_false h0] at n0
   refine ABr.t n0 ?_
   cbv
   refine l0.trans (ht ▸ ?_)
   refine decide_eq_decide.2 (top 0 (by decide) (fun i h1 h2 => ?_) h0)
   rcases (by omega : i = 0 ∨ i = 1 ∨ i = 2 ∨ i = 3 ∨ i = 4 ∨ i = 5) with rfl | rfl | rfl | rfl | rfl | rfl
   all_goals first | assumption | (exfalso; omega)
 rw [decide_eq_true h0] at n0
 refine ABr.f n0 ?_
 cbv
 rw [ht, decide_eq_false (by rw [inj ⟨h0, h1, h2, h3, h4, h5⟩]; exact Nat.lt_irrefl _)]
theorem half_num (x y hi lo al ah bl bh : Nat) (hx : x < 18446744073709551616) (hy : y < 18446744073709551616) (h : lo + 18446744073709551616 * hi = x * y) (hlo : lo < 18446744073709551616) (e1 : al = x % 4294967296) (e2 : ah = x / 4294967296) (e3 : bl = y % 4294967296) (e4 : bh = y / 4294967296) :
   al * bl < 18446744065119617026 ∧ al * bh < 18446744065119617026 ∧ ah * bl < 18446744065119617026 ∧ ah * bh < 18446744065119617026 ∧
   hi = ah * bh + al * bh / 4294967296 + ah * bl / 4294967296 + (al * bl / 4294967296 + al * bh % 4294967296 + ah * bl % 4294967296) / 4294967296 ∧
   lo = al * bl % 4294967296 + 4294967296 * ((al * bl / 4294967296 + al * bh % 4294967296 + ah * bl % 4294967296) % 4294967296) := by
 have f : ∀ p q : Nat, p ≤ 4294967295 → q ≤ 4294967295 → p * q < 18446744065119617026 := fun p q hp hq => Nat.lt_of_le_of_lt (Nat.mul_le_mul hp hq) (by decide)
 have hx' : x = al + 4294967296 * ah := by omega
 have hy' : y = bl + 4294967296 * bh := by omega
 have g1 := f al bl (by omega) (by omega)
 have g2 := f al bh (by omega) (by omega)
 have g3 := f ah bl (by omega) (by omega)
 have g4 := f ah bh (by omega) (by omega)
 have hp : x * y = al * bl + 4294967296 * (al * bh) + 4294967296 * (ah * bl) + 18446744073709551616 * (ah * bh) := by
   rw [hx', hy', Nat.add_mul, Nat.mul_add, Nat.mul_add, Nat.mul_left_comm al, Nat.mul_assoc, Nat.mul_assoc, Nat.mul_left_comm ah, ← Nat.mul_assoc 4294967296 4294967296]
   omega
 rw [hp] at h
 generalize al * bl = p at *
 generalize al * bh = q at *
 generalize ah * bl = r at *
 generalize ah * bh = s at *
 clear f hp hx' hy'
 omega
theorem rhalf (x y hi lo : Nat) (hx : x < 18446744073709551616) (hy : y < 18446744073709551616) (h : lo + 18446744073709551616 * hi = x * y) (hlo : lo < 18446744073709551616) : Sp 228 [.s .u64 x, .s .u64 y] (.tup [.s .u64 hi, .s .u64 lo]) := by
 obtain ⟨al, e1⟩ : ∃ n, n = x % 4294967296 := ⟨_, rfl⟩
 obtain ⟨ah, e2⟩ : ∃ n, n = x / 4294967296 := ⟨_, rfl⟩
 obtain ⟨bl, e3⟩ : ∃ n, n = y % 4294967296 := ⟨_, rfl⟩
 obtain ⟨bh, e4⟩ : ∃ n, n = y / 4294967296 := ⟨_, rfl⟩
 obtain ⟨h1, h2, h3, h4, h5, h6⟩ := half_num x y hi lo al ah bl bh hx hy h hlo e1 e2 e3 e4
 have hhi : hi < 18446744073709551616 := by
   have : 18446744073709551616 * hi < 18446744073709551616 * 18446744073709551616 := Nat.lt_of_le_of_lt (by omega : 18446744073709551616 * hi ≤ x * y) (Nat.mul_lt_mul'' hx hy)
   exact Nat.lt_of_mul_lt_mul_left this
 refine mk Tryz.func228 rfl rfl L0 R0 (by decide +kernel) ?_
 intro A S hA hS
 unfold bodyOf Tryz.f228
 cbv
 subst hA
 dsimp only [Ar.real]
 clear hS S
 have a1 : rbin .and .u64 (Int.ofNat x) 4294967295 = Int.ofNat al := (and32 x hx).trans (by rw [e1])
 have a2 : rbin .shr .u64 (Int.ofNat x) 32 = Int.ofNat ah := (shr32 x).trans (by rw [e2])
 have a3 : rbin .and .u64 (Int.ofNat y) 4294967295 = Int.ofNat bl := (and32 y hy).trans (by rw [e3])
 have a4 : rbin .shr .u64 (Int.ofNat y) 32 = Int.ofNat bh := (shr32 y).trans (by rw [e4])
 rw [a1, a2, a3, a4]
 clear a1 a2 a3 a4 e1 e2 e3 e4 h
 simp only [u_mul]
 rw [Nat.mod_eq_of_lt (show al * bl < 18446744073709551616 by omega), Nat.mod_eq_of_lt (show al * bh < 18446744073709551616 by omega), Nat.mod_eq_of_lt (show ah * bl < 18446744073709551616 by omega), Nat.mod_eq_of_lt (show ah * bh < 18446744073709551616 by omega)]
 generalize al * bl = p at *
 generalize al * bh = q at *
 generalize ah * bl = r at *
 generalize ah * bh = s at *
 simp only [shr32]
 rw [and32 p (by omega), and32 q (by omega), and32 r (by omega)]
 simp only [u_add]
 rw [Nat.mod_eq_of_lt (show p / 4294967296 + q % 4294967296 < 18446744073709551616 by omega), Nat.mod_eq_of_lt (show p / 4294967296 + q % 4294967296 + r % 4294967296 < 18446744073709551616 by omega)]
 have el : rbin .or .u64 (Int.ofNat (p % 4294967296)) (rbin .shl .u64 (Int.ofNat (p / 4294967296 + q % 4294967296 + r % 4294967296)) 32) = Int.ofNat lo := by
   rw [show rbin .shl .u64 (Int.ofNat (p / 4294967296 + q % 4294967296 + r % 4294967296)) 32 = Int.ofNat (2 ^ 32 * ((p / 4294967296 + q % 4294967296 + r % 4294967296) % 4294967296)) from (u_shl _ 32 (by omega)).trans (congrArg Int.ofNat (by omega))]
   rw [u_or_add _ _ 32 (by omega) (by omega) (by omega)]
   exact congrArg Int.ofNat (by omega)
 rw [el]
 simp only [shr32, u_add]
 rw [show ((s + q / 4294967296) % 18446744073709551616 + r / 4294967296) % 18446744073709551616 + (p / 4294967296 + q % 4294967296 + r % 4294967296) / 4294967296 = hi by omega, Nat.mod_eq_of_lt hhi]
 exact ⟨rfl, trivial⟩
theorem dblw {A : Ar} (hA : A = Ar.real) {x c : Int} (hx : 0 ≤ x ∧ x < 18446744073709551616) (hc : 0 ≤ c ∧ c ≤ 1) : A.bin .or .u64 (A.bin .shl .u64 x 1) c = (2 * x + c) % 18446744073709551616 := by
 obtain ⟨a, rfl⟩ : ∃ n : Nat, x = n := ⟨x.toNat, by omega⟩
 obtain ⟨b, rfl⟩ : ∃ n : Nat, c = n := ⟨c.toNat, by omega⟩
 rw [hA]
 show rbin .or .u64 (rbin .shl .u64 (Int.ofNat a) (Int.ofNat 1)) (Int.ofNat b) = _
 rw [u_shl a 1 (by omega), u_or _ _ (by omega) (by omega), Nat.or_comm, show a * 2 ^ 1 % 18446744073709551616 = 2 ^ 1 * (a % 9223372036854775808) by omega, Nat.or_comm, ← Nat.two_pow_add_eq_or_of_lt (show b < 2 ^ 1 by omega)]
 show ((2 ^ 1 * (a % 9223372036854775808) + b : Nat) : Int) = _
 omega
theorem topw {A : Ar} (hA : A = Ar.real) {x : Int} (hx : 0 ≤ x ∧ x < 18446744073709551616) : A.bin .shr .u64 x 63 = x / 9223372036854775808 := by
 obtain ⟨a, rfl⟩ : ∃ n : Nat, x = n := ⟨x.toNat, by omega⟩
 rw [hA]
 show rbin .shr .u64 (Int.ofNat a) (Int.ofNat 63) = _
 rw [u_shr a 63 (by omega)]
 show ((a / 2 ^ 63 : Nat) : Int) = _
 omega
theorem limR_dbl (a c i : Nat) (hc : c ≤ 1) : limR (2 * a + c) (i + 1) = (2 * limR a (i + 1) + limR a i / 9223372036854775808) % 18446744073709551616 := by
 unfold limR
 have e1 : (2 * a + c) / 2 ^ (64 * (i + 1)) = a / 2 ^ (64 * i + 63) := by
   rw [show 64 * (i + 1) = 1 + (64 * i + 63) by omega, Nat.pow_add, ← Nat.div_div_eq_div_mul, show (2 * a + c) / 2 ^ 1 = a by omega]
 have e2 : a / 2 ^ (64 * (i + 1)) = a / 2 ^ (64 * i) / 2 ^ 64 := by rw [show 64 * (i + 1) = 64 * i + 64 by omega, Nat.pow_add, Nat.div_div_eq_div_mul]
 have e3 : a / 2 ^ (64 * i + 63) = a / 2 ^ (64 * i) / 2 ^ 63 := by rw [Nat.pow_add, Nat.div_div_eq_div_mul]
 rw [e1, e2, e3]
 generalize a / 2 ^ (64 * i) = q
 omega
theorem limR_dbl0 (a c : Nat) : limR (2 * a + c) 0 = (2 * limR a 0 + c) % 18446744073709551616 := by
 unfold limR
 simp only [Nat.mul_zero, Nat.pow_zero, Nat.div_one]
 omega
theorem twice_num {a c m r : Nat} (ha : a < m) (hc : c ≤ 1) (hr : r = (2 * a + c) % m) : r = if 2 * a + c < m then 2 * a + c else 2 * a + c - m := by
 rw [hr]
 split
 . exact Nat.mod_eq_of_lt (by omega)
 . rw [Nat.mod_eq_sub_mod (by omega)]; exact Nat.mod_eq_of_lt (by omega)
theorem rtwice4 {lim : Lim} (hl : lim = limR) (a c m r : Nat) (hm : m < 2 ^ 256) (ha : a < m) (hc : c ≤ 1) (hr : r = (2 * a + c) % m) :
   Sp 205 [.lst false 4 (ws4 lim a), .s .u64 c, .lst false 4 (ws4 lim m)] (.new false 4 1 (ws4 lim r)) := by
 have hr' := twice_num ha hc hr
 obtain ⟨o, ho⟩ : ∃ o, o = (2 * a + c) % 2 ^ 256 := ⟨_, rfl⟩
 have le := fun x i => lim_range hl x i
 have hw0 : (2 * lim a 0 + c) % 18446744073709551616 = lim o 0 := by
   rw [ho, hl, limR_low (n := 4) (by decide), limR_dbl0]
 have hws : ∀ i, i + 1 < 4 → (2 * lim a (i + 1) + lim a i / 9223372036854775808) % 18446744073709551616 = lim o (i + 1) := by
   intro i hi
   rw [ho, hl, limR_low (n := 4) hi, limR_dbl _ _ _ hc]
 have htop : lim a 3 / 9223372036854775808 = ((2 * a + c) / 2 ^ 256 : Nat) := by
   have := le a 3
   have e : ((2 * a + c) / 2 ^ 256) = a / 2 ^ (64 * 3) / 2 ^ 63 := by
     rw [Nat.div_div_eq_div_mul, ← Nat.pow_add, show 256 = 1 + (64 * 3 + 63) by decide, Nat.pow_add, ← Nat.div_div_eq_div_mul, show (2 * a + c) / 2 ^ 1 = a by omega]
   rw [e, hl]
   unfold limR
   have h3 : a / 2 ^ (64 * 3) < 2 ^ 64 := by
     rw [Nat.div_lt_iff_lt_mul (Nat.two_pow_pos _), ← Nat.pow_add]
     exact Nat.lt_of_lt_of_le ha (Nat.le_of_lt hm)
   generalize a / 2 ^ (64 * 3) = q at *
   omega
 obtain ⟨t, ht⟩ : ∃ t : Nat, t = (2 * a + c) / 2 ^ 256 := ⟨_, rfl⟩
 rw [← ht] at htop
 have hom : o < 2 ^ 256 := by rw [ho]; exact Nat.mod_lt _ (Nat.two_pow_pos _)
 have hcase : (t = 1 ∧ r + m = o + 2 ^ 256 * 1) ∨ (t = 0 ∧ ¬ o < m ∧ r + m = o + 2 ^ 256 * 0) ∨ (t = 0 ∧ o < m ∧ r = o) := by
   have h1 : t = 0 ∨ t = 1 := by omega
   rcases h1 with h1 | h1
   . by_cases h2 : o < m
     . refine .inr (.inr ⟨h1, h2, ?_⟩)
       split at hr' <;> omega
     . refine .inr (.inl ⟨h1, h2, ?_⟩)
       split at hr' <;> omega
   . refine .inl ⟨h1, ?_⟩
     split at hr' <;> omega
 have hrm : r < 2 ^ 256 := Nat.lt_trans (hr ▸ Nat.mod_lt _ (by omega)) hm
 have hc' : 0 ≤ (c : Int) ∧ (c : Int) ≤ 1 := by omega
 have hless := rLess4 hl o m hom hm
 clear hr' ho hr
 refine mk Tryz.func205 rfl rfl L0 R0 (by decide +kernel) ?_
 intro A S hA hS
 unfold bodyOf Tryz.f205
 cbv
 have hq : ∀ i, 0 ≤ lim a i / 9223372036854775808 ∧ lim a i / 9223372036854775808 ≤ 1 := fun i => by have := le a i; omega
 have e0 : A.bin .or .u64 (A.bin .shl .u64 (lim a 0) 1) (c : Int) = lim o 0 := (dblw hA (le a 0) hc').trans hw0
 have es : ∀ i, i + 1 < 4 → A.bin .or .u64 (A.bin .shl .u64 (lim a (i + 1)) 1) (A.bin .shr .u64 (lim a i) 63) = lim o (i + 1) := fun i hi => by
   rw [topw hA (le a i)]
   exact (dblw hA (le a _) (hq i)).trans (hws i hi)
 have et : A.bin .shr .u64 (lim a 3) 63 = (t : Int) := (topw hA (le a _)).trans htop
 have hS1 : SimL [.lst false 4 [.s .u64 (A.bin .or .u64 (A.bin .shl .u64 (lim a 0) 1) (c : Int)), .s .u64 (A.bin .or .u64 (A.bin .shl .u64 (lim a 1) 1) (A.bin .shr .u64 (lim a 0) 63)), .s .u64 (A.bin .or .u64 (A.bin .shl .u64 (lim a 2) 1) (A.bin .shr .u64 (lim a 1) 63)), .s .u64 (A.bin .or .u64 (A.bin .shl .u64 (lim a 3) 1) (A.bin .shr .u64 (lim a 2) 63))], .lst false 4 (ws4 lim m)] [.lst false 4 (ws4 lim o), .lst false 4 (ws4 lim m)] := by
   cbv
   exact ⟨⟨e0, es 0 (by decide), es 1 (by decide), es 2 (by decide)⟩, trivial⟩
 have hcmp : A.cmp .eql (A.bin .shr .u64 (lim a 3) 63) 1 = decide ((t : Int) = 1) := by rw [et]; exact i_eq hA
 rcases hcase with ⟨rfl, h2⟩ | ⟨rfl, h1, h2⟩ | ⟨rfl, h1, rfl⟩
 . replace hcmp := hcmp.trans (decide_eq_true rfl)
   repeat (refine ABr.t hcmp ?_; cbv)
   refine ACall.mk _ (cg hS (rSub4 hl o m r 1 hom hm h2 hrm) hS1) ?_
   cbv
 . replace hcmp := hcmp.trans (decide_eq_false (by decide))
   repeat (refine ABr.f hcmp ?_; cbv)
   refine ACall.mk _ (cg hS (hless false (decide_eq_false h1).symm) hS1) ?_
   cbv
   repeat (refine ABr.f hcmp ?_; cbv)
   have hn := a_not hA false
   repeat (refine ABr.t hn ?_; cbv)
   refine ACall.mk _ (cg hS (rSub4 hl o m r 0 hom hm h2 hrm) hS1) ?_
   cbv
 . replace hcmp := hcmp.trans (decide_eq_false (by decide))
   repeat (refine ABr.f hcmp ?_; cbv)
   refine ACall.mk _ (cg hS (hless true (decide_eq_true h1).symm) hS1) ?_
   cbv
   repeat (refine ABr.f hcmp ?_; cbv)
   have hn := a_not hA true
   repeat (refine ABr.f hn ?_; cbv)
   exact ⟨e0, es 0 (by decide), es 1 (by decide), es 2 (by decide)⟩
theorem rtwice6 {lim : Lim} (hl : lim = limR) (a c m r : Nat) (hm : m < 2 ^ 384) (ha : a < m) (hc : c ≤ 1) (hr : r = (2 * a + c) % m) :
   Sp 205 [.lst false 6 (ws6 lim a), .s .u64 c, .lst false 6 (ws6 lim m)] (.new false 6 1 (ws6 lim r)) := by
 have hr' := twice_num ha hc hr
 obtain ⟨o, ho⟩ : ∃ o, o = (2 * a + c) % 2 ^ 384 := ⟨_, rfl⟩
 have le := fun x i => lim_range hl x i
 have hw0 : (2 * lim a 0 + c) % 18446744073709551616 = lim o 0 := by
   rw [ho, hl, limR_low (n := 6) (by decide), limR_dbl0]
 have hws : ∀ i, i + 1 < 6 → (2 * lim a (i + 1) + lim a i / 9223372036854775808) % 18446744073709551616 = lim o (i + 1) := by
   intro i hi
   rw [ho, hl, limR_low (n := 6) hi, limR_dbl _ _ _ hc]
 have htop : lim a 5 / 9223372036854775808 = ((2 * a + c) / 2 ^ 384 : Nat) := by
   have := le a 5
   have e : ((2 * a + c) / 2 ^ 384) = a / 2 ^ (64 * 5) / 2 ^ 63 := by
     rw [Nat.div_div_eq_div_mul, ← Nat.pow_add, show 384 = 1 + (64 * 5 + 63) by decide, Nat.pow_add, ← Nat.div_div_eq_div_mul, show (2 * a + c) / 2 ^ 1 = a by omega]
   rw [e, hl]
   unfold limR
   have h3 : a / 2 ^ (64 * 5) < 2 ^ 64 := by
     rw [Nat.div_lt_iff_lt_mul (Nat.two_pow_pos _), ← Nat.pow_add]
     exact Nat.lt_of_lt_of_le ha (Nat.le_of_lt hm)
   generalize a / 2 ^ (64 * 5) = q at *
   omega
 obtain ⟨t, ht⟩ : ∃ t : Nat, t = (2 * a + c) / 2 ^ 384 := ⟨_, rfl⟩
 rw [← ht] at htop
 have hom : o < 2 ^ 384 := by rw [ho]; exact Nat.mod_lt _ (Nat.two_pow_pos _)
 have hcase : (t = 1 ∧ r + m = o + 2 ^ 384 * 1) ∨ (t = 0 ∧ ¬ o < m ∧ r + m = o + 2 ^ 384 * 0) ∨ (t = 0 ∧ o < m ∧ r = o) := by
   have h1 : t = 0 ∨ t = 1 := by omega
   rcases h1 with h1 | h1
   . by_cases h2 : o < m
     . refine .inr (.inr ⟨h1, h2, ?_⟩)
       split at hr' <;> omega
     . refine .inr (.inl ⟨h1, h2, ?_⟩)
       split at hr' <;> omega
   . refine .inl ⟨h1, ?_⟩
     split at hr' <;> omega
 have hrm : r < 2 ^ 384 := Nat.lt_trans (hr ▸ Nat.mod_lt _ (by omega)) hm
 have hc' : 0 ≤ (c : Int) ∧ (c : Int) ≤ 1 := by omega
 have hless := rLess6 hl o m hom hm
 clear hr' ho hr
 refine mk Tryz.func205 rfl rfl L0 R0 (by decide +kernel) ?_
 intro A S hA hS
 unfold bodyOf Tryz.f205
 cbv
 have hq : ∀ i, 0 ≤ lim a i / 9223372036854775808 ∧ lim a i / 9223372036854775808 ≤ 1 := fun i => by have := le a i; omega
 have e0 : A.bin .or .u64 (A.bin .shl .u64 (lim a 0) 1) (c : Int) = lim o 0 := (dblw hA (le a 0) hc').trans hw0
 have es : ∀ i, i + 1 < 6 → A.bin .or .u64 (A.bin .shl .u64 (lim a (i + 1)) 1) (A.bin .shr .u64 (lim a i) 63) = lim o (i + 1) := fun i hi => by
   rw [topw hA (le a i)]
   exact (dblw hA (le a _) (hq i)).trans (hws i hi)
 have et : A.bin .shr .u64 (lim a 5) 63 = (t : Int) := (topw hA (le a _)).trans htop
 have hS1 : SimL [.lst false 6 [.s .u64 (A.bin .or .u64 (A.bin .shl .u64 (lim a 0) 1) (c : Int)), .s .u64 (A.bin .or .u64 (A.bin .shl .u64 (lim a 1) 1) (A.bin .shr .u64 (lim a 0) 63)), .s .u64 (A.bin .or .u64 (A.bin .shl .u64 (lim a 2) 1) (A.bin .shr .u64 (lim a 1) 63)), .s .u64 (A.bin .or .u64 (A.bin .shl .u64 (lim a 3) 1) (A.bin .shr .u64 (lim a 2) 63)), .s .u64 (A.bin .or .u64 (A.bin .shl .u64 (lim a 4) 1) (A.bin .shr .u64 (lim a 3) 63)), .s .u64 (A.bin .or .u64 (A.bin .shl .u64 (lim a 5) 1) (A.bin .shr .u64 (lim a 4) 63))], .lst false 6 (ws6 lim m)] [.lst false 6 (ws6 lim o), .lst false 6 (ws6 lim m)] := by
   cbv
   exact ⟨⟨e0, es 0 (by decide), es 1 (by decide), es 2 (by decide), es 3 (by decide), es 4 (by decide)⟩, trivial⟩
 have hcmp : A.cmp .eql (A.bin .shr .u64 (lim a 5) 63) 1 = decide ((t : Int) = 1) := by rw [et]; exact i_eq hA
 rcases hcase with ⟨rfl, h2⟩ | ⟨rfl, h1, h2⟩ | ⟨rfl, h1, rfl⟩
 . replace hcmp := hcmp.trans (decide_eq_true rfl)
   repeat (refine ABr.t hcmp ?_; cbv)
   refine ACall.mk _ (cg hS (rSub6 hl o m r 1 hom hm h2 hrm) hS1) ?_
   cbv
 . replace hcmp := hcmp.trans (decide_eq_false (by decide))
   repeat (refine ABr.f hcmp ?_; cbv)
   refine ACall.mk _ (cg hS (hless false (decide_eq_false h1).symm) hS1) ?_
   cbv
   repeat (refine ABr.f hcmp ?_; cbv)
   have hn := a_not hA false
   repeat (refine ABr.t hn ?_; cbv)
   refine ACall.mk _ (cg hS (rSub6 hl o m r 0 hom hm h2 hrm) hS1) ?_
   cbv
 . replace hcmp := hcmp.trans (decide_eq_false (by decide))
   repeat (refine ABr.f hcmp ?_; cbv)
   refine ACall.mk _ (cg hS (hless true (decide_eq_true h1).symm) hS1) ?_
   cbv
   repeat (refine ABr.f hcmp ?_; cbv)
   have hn := a_not hA true
   repeat (refine ABr.f hn ?_; cbv)
   exact ⟨e0, es 0 (by decide), es 1 (by decide), es 2 (by decide), es 3 (by decide), es 4 (by decide)⟩
end Go.Proofs.YtmholgclgamnnaaGreat
end
