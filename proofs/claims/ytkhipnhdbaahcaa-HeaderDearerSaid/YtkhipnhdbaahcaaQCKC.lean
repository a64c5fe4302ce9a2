import Derived.Test.YtkhipnhdbaahcaaQCC
import Derived.Lib.Mul64
set_option linter.unusedVariables false
set_option linter.unusedSimpArgs false
set_option linter.unusedSectionVars false
set_option maxRecDepth 100000
set_option exponentiation.threshold 2000
set_option maxHeartbeats 4000000
set_option maxHeartbeats 8000000
section
namespace Go.Proofs.Ytkhipnhdbaahcaa
open Go Eng
theorem shr32 (a : Nat) : rbin .shr .u64 (Int.ofNat a) 32 = Int.ofNat (a / 4294967296) := u_shr a 32 (by omega)
theorem and32 (a : Nat) (ha : a < 18446744073709551616) : rbin .and .u64 (Int.ofNat a) 4294967295 = Int.ofNat (a % 4294967296) := u_mask a 32 (by omega) ha
theorem mul64S (x y hi lo : Nat) (hx : x < 2 ^ 64) (hy : y < 2 ^ 64) (h : lo + 2 ^ 64 * hi = x * y) (hlo : lo < 2 ^ 64) : Sp 94 [.s .u64 x, .s .u64 y] (.tup [.s .u64 hi, .s .u64 lo]) := by
 refine mk Try.func94 rfl rfl L0 R0 (by decide +kernel) fun A S hA hS => ?_
 unfold bodyOf Try.f94
 cbv
 subst hA
 dsimp only [Ar.real]
 clear hS S
 obtain ⟨h1, h2, h3, h4⟩ := Go.Lib.mul64_hi x y (by simpa using hx) (by simpa using hy)
 have ex : x * y % 18446744073709551616 = lo := by omega
 have eh : x * y / 18446744073709551616 = hi := by omega
 have ha := Go.Lib.half_mul_le (a := x / 4294967296) (b := y / 4294967296) (by omega) (by omega)
 have hb := Go.Lib.half_mul_le (a := x / 4294967296) (b := y % 4294967296) (by omega) (by omega)
 have hc := Go.Lib.half_mul_le (a := x % 4294967296) (b := y / 4294967296) (by omega) (by omega)
 have hd := Go.Lib.half_mul_le (a := x % 4294967296) (b := y % 4294967296) (by omega) (by omega)
 rw [and32 x (by simpa using hx), and32 y (by simpa using hy)]
 simp only [shr32, u_mul]
 rw [Nat.mod_eq_of_lt (show x / 4294967296 * (y / 4294967296) < _ by omega), Nat.mod_eq_of_lt (show x / 4294967296 * (y % 4294967296) < _ by omega), Nat.mod_eq_of_lt (show x % 4294967296 * (y / 4294967296) < _ by omega), Nat.mod_eq_of_lt h1]
 simp only [shr32, u_add]
 rw [Nat.mod_eq_of_lt h2, and32 _ h2]
 simp only [shr32, u_add]
 rw [Nat.mod_eq_of_lt h3, ex]
 rw [← Nat.add_mod_mod, Nat.add_mod_mod] at *
 rw [Nat.mod_add_mod, h4, eh, Nat.mod_eq_of_lt (by omega)]
 exact ⟨rfl, rfl⟩
theorem steps {x y z c : Int} (hx : 0 ≤ x ∧ x < 18446744073709551616) (hy : 0 ≤ y ∧ y < 18446744073709551616) (hz : 0 ≤ z ∧ z < 18446744073709551616) (hc : 0 ≤ c ∧ c < 18446744073709551616) :
   ∃ lo hi : Int, lo + 18446744073709551616 * hi = x * y + z + c ∧ (0 ≤ lo ∧ lo < 18446744073709551616) ∧ 0 ≤ hi ∧ hi < 18446744073709551616 := by
 have h1 : (0 : Int) ≤ x * y := Int.mul_nonneg hx.1 hy.1
 have h2 : x * y ≤ 18446744073709551615 * 18446744073709551615 := Int.mul_le_mul (by omega) (by omega) hy.1 (by omega)
 obtain ⟨p, hp⟩ : ∃ p, p = x * y := ⟨_, rfl⟩
 rw [← hp] at h1 h2 ⊢
 exact ⟨(p + z + c) % 18446744073709551616, (p + z + c) / 18446744073709551616, by omega, by omega, by omega, by omega⟩
abbrev Fits (n : Int) : Prop := -9223372036854775808 ≤ n ∧ n < 9223372036854775808
theorem i_add {A : Ar} (hA : A = Ar.real) {x y : Int} (h : Fits (x + y)) : A.bin .add .i64 x y = x + y := by rw [hA]; exact wrap_i64 _ h
theorem i_sub {A : Ar} (hA : A = Ar.real) {x y : Int} (h : Fits (x - y)) : A.bin .sub .i64 x y = x - y := by rw [hA]; exact wrap_i64 _ h
theorem e_add {A : Ar} (hA : A = Ar.real) {x y a b z : Int} (hx : x = a) (hy : y = b) (hz : a + b = z) (h : Fits z) : A.bin .add .i64 x y = z := by subst hx; subst hy; subst hz; exact i_add hA h
theorem e_sub {A : Ar} (hA : A = Ar.real) {x y a b z : Int} (hx : x = a) (hy : y = b) (hz : a - b = z) (h : Fits z) : A.bin .sub .i64 x y = z := by subst hx; subst hy; subst hz; exact i_sub hA h
theorem a_okbS {A : Ar} (hA : A = Ar.real) {y : Int} (h : 0 ≤ y) : A.okb .shr y = true ∧ A.okb .shl y = true := by
 rw [hA]
 constructor <;> (show (!decide (y < 0)) = true; rw [decide_eq_false (by omega)]; rfl)
theorem i_ge {A : Ar} (hA : A = Ar.real) {x y : Int} : A.cmp .geq x y = decide (x ≥ y) := by rw [hA]; rfl
theorem i_lt {A : Ar} (hA : A = Ar.real) {x y : Int} : A.cmp .lss x y = decide (x < y) := by rw [hA]; rfl
end Go.Proofs.Ytkhipnhdbaahcaa
end
section
namespace Go.Proofs.Ytkhipnhdbaahcaa
open Go Eng
end Go.Proofs.Ytkhipnhdbaahcaa
end
section
namespace Go.Proofs.Ytkhipnhdbaahcaa
open Go Eng
def newton (m : Nat) : Nat → Nat
 | 0 => 1
 | k + 1 => newton m k * ((18446744073709551616 + 2 - m * newton m k % 18446744073709551616) % 18446744073709551616) % 18446744073709551616
def minvR (m : Nat) : Nat := (18446744073709551616 - newton m 6) % 18446744073709551616
def primes4 : List Nat := [0xfffffffffffffffffffffffffffffffffffffffffffffffffffffffefffffc2f, 0xfffffffffffffffffffffffffffffffebaaedce6af48a03bbfd25e8cd0364141, 0x30644e72e131a029b85045b68181585d97816a916871ca8d3c208c16d87cfd47,
 0x30644e72e131a029b85045b68181585d2833e84879b9709143e1f593f0000001, 0x73eda753299d7d483339d80809a1d80553bda402fffe5bfeffffffff00000001]
def primes6 : List Nat := [0x1a0111ea397fe69a4b1ba7b6434bacd764774b84f38512bf6730d2a0f6b0f6241eabfffeb153ffffb9feffffffffaaab]
structure H5 where
 lim : Nat → Nat → Int
 mf : Nat → Nat → Nat → Nat
 add : Nat → Nat → Nat → Nat
 sub : Nat → Nat → Nat → Nat
 mul : Nat → Nat → Nat → Nat
 mod : Nat → Nat → Nat
 lt : Nat → Nat → Bool
 minv : Nat → Nat
 fast4 : Nat → Nat
 fast6 : Nat → Nat
 pow : Nat → Nat → Nat → Nat
def H5.real : H5 where
 lim := limR
 mf := fun b m a => a * 2 ^ b % m
 add := fun m a b => (a + b) % m
 sub := fun m a b => (a + m - b) % m
 mul := fun m a b => a * b % m
 mod := fun m a => a % m
 lt := fun a b => decide (a < b)
 minv := minvR
 fast4 := fun m => if m ∈ primes4 then 1 else 0
 fast6 := fun m => if m ∈ primes6 then 1 else 0
 pow := fun m a e => a ^ e % m
structure Mod (b m : Nat) : Prop where
 lt : m < 2 ^ b
 odd : m % 2 = 1
 one : 1 < m
theorem Mod.pos {b m : Nat} (h : Mod b m) : 0 < m := Nat.lt_trans Nat.zero_lt_one h.one
theorem H5.hlim {H : H5} (hH : H = H5.real) : H.lim = limR := by rw [hH]; rfl
def z4 (H : H5) : AVal := u4 H.lim 0
theorem eqs_real {A : Ar} (hA : A = Ar.real) (l : List (AVal × AVal)) : A.eqs l = l.all leafEq := by rw [hA]; rfl
def hv (m a : Nat) : Nat := if a % 2 = 0 then a / 2 else (a + m) / 2
end Go.Proofs.Ytkhipnhdbaahcaa
end
section
namespace Go.Proofs.Ytkhipnhdbaahcaa
open Go Eng
def LM : Nat → Nat := fun _ => 200
theorem rotS (x k : Nat) (hx : x < 18446744073709551616) (hk : k < 64) : Sp 111 [.s .u64 (x : Int), .s .i64 (k : Int)] (.s .u64 ((Kk.rot x k : Nat) : Int)) := by
 obtain ⟨xi, hxi⟩ : ∃ z : Int, z = (x : Int) := ⟨_, rfl⟩
 obtain ⟨ki, hki⟩ : ∃ z : Int, z = (k : Int) := ⟨_, rfl⟩
 obtain ⟨ri, hri⟩ : ∃ z : Int, z = ((Kk.rot x k : Nat) : Int) := ⟨_, rfl⟩
 rw [← hxi, ← hki, ← hri]
 have f1 : IntKind.u64.wrap ki = ki := by rw [wrap_u64, hki]; omega
 have f2 : rbin .and .u64 ki 63 = ki := by
   rw [hki]
   have := u_mask k 6 (by decide) (by omega)
   exact this.trans (congrArg Int.ofNat (Nat.mod_eq_of_lt (by omega)))
 have f3 : rbin .sub .u64 64 ki = ((64 - k : Nat) : Int) := by
   rw [hki]
   exact (u_sub 64 k (by omega)).trans (congrArg Int.ofNat (by omega))
 have g : ∀ A : Ar, A = Ar.real → A.okb .shl (A.bin .and .u64 (A.wrap .u64 ki) 63) = true ∧ A.okb .shr (A.bin .sub .u64 64 (A.bin .and .u64 (A.wrap .u64 ki) 63)) = true ∧
     A.bin .or .u64 (A.bin .shl .u64 xi (A.bin .and .u64 (A.wrap .u64 ki) 63)) (A.bin .shr .u64 xi (A.bin .sub .u64 64 (A.bin .and .u64 (A.wrap .u64 ki) 63))) = ri := by
   intro A hA
   subst hA
   show rokb .shl (rbin .and .u64 (IntKind.u64.wrap ki) 63) = true ∧ rokb .shr (rbin .sub .u64 64 (rbin .and .u64 (IntKind.u64.wrap ki) 63)) = true ∧
     rbin .or .u64 (rbin .shl .u64 xi (rbin .and .u64 (IntKind.u64.wrap ki) 63)) (rbin .shr .u64 xi (rbin .sub .u64 64 (rbin .and .u64 (IntKind.u64.wrap ki) 63))) = ri
   rw [f1, f2, f3, hki, hxi, hri]
   refine ⟨?_, ?_, Kk.rot_bin x k hx hk⟩
   . show (!(decide ((k : Int) < 0))) = true
     rw [decide_eq_false (by omega)]; rfl
   . show (!(decide (((64 - k : Nat) : Int) < 0))) = true
     rw [decide_eq_false (by omega)]; rfl
 clear f1 f2 f3 hki hxi hri
 refine mk Try.func111 rfl rfl L0 R1 (by decide +kernel) fun A S hA hS => ?_
 obtain ⟨g1, g2, g3⟩ := g A hA
 unfold bodyOf Try.f111
 cbv
 refine .mk g1 ?_
 cbv
 refine .mk g2 ?_
 cbv
 exact g3
theorem offsetsS : Sp 88 [] (.agg [.i .i64 0, .i .i64 1, .i .i64 62, .i .i64 28, .i .i64 27, .i .i64 36, .i .i64 44, .i .i64 6, .i .i64 55, .i .i64 20, .i .i64 3, .i .i64 10, .i .i64 43, .i .i64 25, .i .i64 39, .i .i64 41, .i .i64 45, .i .i64 15, .i .i64 21, .i .i64 8, .i .i64 18, .i .i64 2, .i .i64 61, .i .i64 56, .i .i64 14]) := by
 refine mk Try.func88 rfl rfl LM R0 (by decide +kernel) fun A S hA hS => ?_
 unfold bodyOf Try.f88
 cbv
def upI (g : Nat → Int) (j : Nat) (v : Int) : Nat → Int := fun m => if m = j then v else g m
theorem upI_eq (g : Nat → Int) (j : Nat) (v : Int) : upI g j v j = v := if_pos rfl
theorem upI_ne (g : Nat → Int) (j : Nat) (v : Int) (m : Nat) (h : m ≠ j) : upI g j v m = g m := if_neg h
structure KStep (rc : Int) (S C Rr A1 B X S' : Nat → Int) (tn : Nat → Int) : Prop where
 c : ∀ A : Ar, A = Ar.real → ∀ x, x < 5 → A.bin .xor .u64 (A.bin .xor .u64 (A.bin .xor .u64 (A.bin .xor .u64 (S x) (S (x + 5))) (S (x + 10))) (S (x + 15))) (S (x + 20)) = C x
 a : ∀ A : Ar, A = Ar.real → ∀ q, q < 25 → A.bin .xor .u64 (S q) (A.bin .xor .u64 (C ((q % 5 + 4) % 5)) (Rr ((q % 5 + 1) % 5))) = A1 q
 a' : ∀ A : Ar, A = Ar.real → ∀ q, q < 25 → A.bin .xor .u64 (A.bin .xor .u64 (S q) (C ((q % 5 + 4) % 5))) (Rr ((q % 5 + 1) % 5)) = A1 q
 x : ∀ A : Ar, A = Ar.real → ∀ p, p < 25 → A.bin .xor .u64 (B p) (A.bin .and .u64 (A.un .xor .u64 (B ((p % 5 + 1) % 5 + 5 * (p / 5)))) (B ((p % 5 + 2) % 5 + 5 * (p / 5)))) = X p
 s0 : ∀ A : Ar, A = Ar.real → A.bin .xor .u64 (X 0) rc = S' 0
 s : ∀ p, 0 < p → p < 25 → X p = S' p
def dst (q : Nat) : Nat := q / 5 + 5 * ((2 * (q % 5) + 3 * (q / 5)) % 5)
theorem dst_lt (q : Nat) (h : q < 25) : dst q < 25 := by unfold dst; omega
theorem dst_inj : ∀ q, q < 25 → ∀ r, r < 25 → dst q = dst r → q = r := by decide
theorem dst_src : ∀ p, p < 25 → Kk.src p < 25 ∧ dst (Kk.src p) = p := by decide
abbrev lanes (g : Nat → Int) : List AVal := [.s .u64 (g 0), .s .u64 (g 1), .s .u64 (g 2), .s .u64 (g 3), .s .u64 (g 4), .s .u64 (g 5), .s .u64 (g 6), .s .u64 (g 7), .s .u64 (g 8), .s .u64 (g 9), .s .u64 (g 10), .s .u64 (g 11), .s .u64 (g 12), .s .u64 (g 13), .s .u64 (g 14), .s .u64 (g 15), .s .u64 (g 16), .s .u64 (g 17), .s .u64 (g 18), .s .u64 (g 19), .s .u64 (g 20), .s .u64 (g 21), .s .u64 (g 22), .s .u64 (g 23), .s .u64 (g 24)]
abbrev cols (g : Nat → Int) : List AVal := [.s .u64 (g 0), .s .u64 (g 1), .s .u64 (g 2), .s .u64 (g 3), .s .u64 (g 4)]
abbrev rounds (tn rc : Nat → Int) : List AVal := [.s .i64 (tn 0), .s .i64 (tn 1), .s .i64 (tn 2), .s .i64 (tn 3), .s .i64 (tn 4), .s .i64 (tn 5), .s .i64 (tn 6), .s .i64 (tn 7), .s .i64 (tn 8), .s .i64 (tn 9), .s .i64 (tn 10), .s .i64 (tn 11), .s .i64 (tn 12), .s .i64 (tn 13), .s .i64 (tn 14), .s .i64 (tn 15), .s .i64 (tn 16), .s .i64 (tn 17), .s .i64 (tn 18), .s .i64 (tn 19), .s .i64 (tn 20), .s .i64 (tn 21), .s .i64 (tn 22), .s .i64 (tn 23), .s .i64 (tn 24), .s .u64 (rc 0), .s .u64 (rc 1), .s .u64 (rc 2), .s .u64 (rc 3), .s .u64 (rc 4), .s .u64 (rc 5), .s .u64 (rc 6), .s .u64 (rc 7), .s .u64 (rc 8), .s .u64 (rc 9), .s .u64 (rc 10), .s .u64 (rc 11), .s .u64 (rc 12), .s .u64 (rc 13), .s .u64 (rc 14), .s .u64 (rc 15), .s .u64 (rc 16), .s .u64 (rc 17), .s .u64 (rc 18), .s .u64 (rc 19), .s .u64 (rc 20), .s .u64 (rc 21), .s .u64 (rc 22), .s .u64 (rc 23)]
theorem rounds_get (tn rc : Nat → Int) {A : Ar} (hA : A = Ar.real) (i : Nat) (hi : i < 24) : lsub (rounds tn rc) (A.offs 25 i 1) 1 = some [.s .u64 (rc i)] := by
 subst hA
 rcases (by omega : i = 0 ∨ i = 1 ∨ i = 2 ∨ i = 3 ∨ i = 4 ∨ i = 5 ∨ i = 6 ∨ i = 7 ∨ i = 8 ∨ i = 9 ∨ i = 10 ∨ i = 11 ∨ i = 12 ∨ i = 13 ∨ i = 14 ∨ i = 15 ∨ i = 16 ∨ i = 17 ∨ i = 18 ∨ i = 19 ∨ i = 20 ∨ i = 21 ∨ i = 22 ∨ i = 23) with rfl | rfl | rfl | rfl | rfl | rfl | rfl | rfl | rfl | rfl | rfl | rfl | rfl | rfl | rfl | rfl | rfl | rfl | rfl | rfl | rfl | rfl | rfl | rfl
 all_goals rfl
theorem turns_get (tn rc : Nat → Int) {A : Ar} (hA : A = Ar.real) (i : Nat) (hi : i < 25) : lsub (rounds tn rc) (A.offs 0 i 1) 1 = some [.s .i64 (tn i)] := by
 subst hA
 rcases (by omega : i = 0 ∨ i = 1 ∨ i = 2 ∨ i = 3 ∨ i = 4 ∨ i = 5 ∨ i = 6 ∨ i = 7 ∨ i = 8 ∨ i = 9 ∨ i = 10 ∨ i = 11 ∨ i = 12 ∨ i = 13 ∨ i = 14 ∨ i = 15 ∨ i = 16 ∨ i = 17 ∨ i = 18 ∨ i = 19 ∨ i = 20 ∨ i = 21 ∨ i = 22 ∨ i = 23 ∨ i = 24) with rfl | rfl | rfl | rfl | rfl | rfl | rfl | rfl | rfl | rfl | rfl | rfl | rfl | rfl | rfl | rfl | rfl | rfl | rfl | rfl | rfl | rfl | rfl | rfl | rfl
 all_goals rfl
theorem lanes_get (g : Nat → Int) {A : Ar} (hA : A = Ar.real) (i : Nat) (hi : i < 25) : lsub (lanes g) (A.offs 0 i 1) 1 = some [.s .u64 (g i)] := by
 subst hA
 rcases (by omega : i = 0 ∨ i = 1 ∨ i = 2 ∨ i = 3 ∨ i = 4 ∨ i = 5 ∨ i = 6 ∨ i = 7 ∨ i = 8 ∨ i = 9 ∨ i = 10 ∨ i = 11 ∨ i = 12 ∨ i = 13 ∨ i = 14 ∨ i = 15 ∨ i = 16 ∨ i = 17 ∨ i = 18 ∨ i = 19 ∨ i = 20 ∨ i = 21 ∨ i = 22 ∨ i = 23 ∨ i = 24) with rfl | rfl | rfl | rfl | rfl | rfl | rfl | rfl | rfl | rfl | rfl | rfl | rfl | rfl | rfl | rfl | rfl | rfl | rfl | rfl | rfl | rfl | rfl | rfl | rfl
 all_goals rfl
theorem cols_get (g : Nat → Int) {A : Ar} (hA : A = Ar.real) (i : Nat) (hi : i < 5) : lsub (cols g) (A.offs 0 i 1) 1 = some [.s .u64 (g i)] := by
 subst hA
 rcases (by omega : i = 0 ∨ i = 1 ∨ i = 2 ∨ i = 3 ∨ i = 4) with rfl | rfl | rfl | rfl | rfl
 all_goals rfl
theorem lanes_put {A : Ar} (hA : A = Ar.real) (g g2 : Nat → Int) (j : Nat) (hj : j < 25) {v : Int} (hv : v = g2 j) (h : ∀ m, m ≠ j → g2 m = g m) : lput (lanes g) (A.offs 0 j 1) [.s .u64 v] = some (lanes g2) := by
 subst hA
 subst hv
 have h0 := h 0
 have h1 := h 1
 have h2 := h 2
 have h3 := h 3
 have h4 := h 4
 have h5 := h 5
 have h6 := h 6
 have h7 := h 7
 have h8 := h 8
 have h9 := h 9
 have h10 := h 10
 have h11 := h 11
 have h12 := h 12
 have h13 := h 13
 have h14 := h 14
 have h15 := h 15
 have h16 := h 16
 have h17 := h 17
 have h18 := h 18
 have h19 := h 19
 have h20 := h 20
 have h21 := h 21
 have h22 := h 22
 have h23 := h 23
 have h24 := h 24
 clear h
 rcases (by omega : j = 0 ∨ j = 1 ∨ j = 2 ∨ j = 3 ∨ j = 4 ∨ j = 5 ∨ j = 6 ∨ j = 7 ∨ j = 8 ∨ j = 9 ∨ j = 10 ∨ j = 11 ∨ j = 12 ∨ j = 13 ∨ j = 14 ∨ j = 15 ∨ j = 16 ∨ j = 17 ∨ j = 18 ∨ j = 19 ∨ j = 20 ∨ j = 21 ∨ j = 22 ∨ j = 23 ∨ j = 24) with rfl | rfl | rfl | rfl | rfl | rfl | rfl | rfl | rfl | rfl | rfl | rfl | rfl | rfl | rfl | rfl | rfl | rfl | rfl | rfl | rfl | rfl | rfl | rfl | rfl
 all_goals
   unfold lanes
   try rw [h0 (by decide)]
   try rw [h1 (by decide)]
   try rw [h2 (by decide)]
   try rw [h3 (by decide)]
   try rw [h4 (by decide)]
   try rw [h5 (by decide)]
   try rw [h6 (by decide)]
   try rw [h7 (by decide)]
   try rw [h8 (by decide)]
   try rw [h9 (by decide)]
   try rw [h10 (by decide)]
   try rw [h11 (by decide)]
   try rw [h12 (by decide)]
   try rw [h13 (by decide)]
   try rw [h14 (by decide)]
   try rw [h15 (by decide)]
   try rw [h16 (by decide)]
   try rw [h17 (by decide)]
   try rw [h18 (by decide)]
   try rw [h19 (by decide)]
   try rw [h20 (by decide)]
   try rw [h21 (by decide)]
   try rw [h22 (by decide)]
   try rw [h23 (by decide)]
   try rw [h24 (by decide)]
   rfl
theorem cols_put {A : Ar} (hA : A = Ar.real) (g g2 : Nat → Int) (j : Nat) (hj : j < 5) {v : Int} (hv : v = g2 j) (h : ∀ m, m ≠ j → g2 m = g m) : lput (cols g) (A.offs 0 j 1) [.s .u64 v] = some (cols g2) := by
 subst hA
 subst hv
 have h0 := h 0
 have h1 := h 1
 have h2 := h 2
 have h3 := h 3
 have h4 := h 4
 clear h
 rcases (by omega : j = 0 ∨ j = 1 ∨ j = 2 ∨ j = 3 ∨ j = 4) with rfl | rfl | rfl | rfl | rfl
 all_goals
   unfold cols
   try rw [h0 (by decide)]
   try rw [h1 (by decide)]
   try rw [h2 (by decide)]
   try rw [h3 (by decide)]
   try rw [h4 (by decide)]
   rfl
theorem n_add {A : Ar} (hA : A = Ar.real) (a b : Nat) (h : a + b < 1000000) : A.bin .add .i64 (a : Int) (b : Int) = ((a + b : Nat) : Int) := e_add hA rfl rfl (by omega) (by omega)
theorem n_mul {A : Ar} (hA : A = Ar.real) (a b : Nat) (h : a * b < 1000000) : A.bin .mul .i64 (a : Int) (b : Int) = ((a * b : Nat) : Int) := by
 rw [hA]; show IntKind.i64.wrap ((a : Int) * (b : Int)) = _
 rw [← Int.natCast_mul, wrap_i64 _ (by omega)]
theorem n_rem {A : Ar} (hA : A = Ar.real) (a b : Nat) : A.bin .rem .i64 (a : Int) (b : Int) = ((a % b : Nat) : Int) := by rw [hA]; exact Int.ofNat_tmod a b
theorem n_xy {A : Ar} (hA : A = Ar.real) (x y : Nat) (hx : x < 5) (hy : y < 5) : A.bin .add .i64 (x : Int) (A.bin .mul .i64 5 (y : Int)) = ((x + 5 * y : Nat) : Int) := by
 have := n_mul hA 5 y (by omega)
 rw [show ((5 : Nat) : Int) = 5 from rfl] at this
 rw [this, n_add hA _ _ (by omega)]
theorem n_ad {A : Ar} (hA : A = Ar.real) (x k : Nat) (h : x + k < 1000000) {ki : Int} (hk : ki = (k : Int)) : A.bin .add .i64 (x : Int) ki = ((x + k : Nat) : Int) := by subst hk; exact n_add hA x k h
theorem n_m5 {A : Ar} (hA : A = Ar.real) (x k : Nat) (h : x + k < 1000000) {ki : Int} (hk : ki = (k : Int)) : A.bin .rem .i64 (A.bin .add .i64 (x : Int) ki) 5 = (((x + k) % 5 : Nat) : Int) := by
 rw [n_ad hA x k h hk]; exact n_rem hA _ 5
theorem n_dst {A : Ar} (hA : A = Ar.real) (x y : Nat) (hx : x < 5) (hy : y < 5) : A.bin .add .i64 (y : Int) (A.bin .mul .i64 5 (A.bin .rem .i64 (A.bin .add .i64 (A.bin .mul .i64 2 (x : Int)) (A.bin .mul .i64 3 (y : Int))) 5)) = ((dst (x + 5 * y) : Nat) : Int) := by
 have h2 := n_mul hA 2 x (by omega)
 have h3 := n_mul hA 3 y (by omega)
 rw [show ((2 : Nat) : Int) = 2 from rfl] at h2
 rw [show ((3 : Nat) : Int) = 3 from rfl] at h3
 have h5 := n_rem hA (2 * x + 3 * y) 5
 rw [show ((5 : Nat) : Int) = 5 from rfl] at h5
 rw [h2, h3, n_add hA _ _ (by omega), h5, n_xy hA y _ hy (Nat.mod_lt _ (by decide))]
 unfold dst
 rw [show (x + 5 * y) / 5 = y by omega, show (x + 5 * y) % 5 = x by omega]
def L00 : Nat → Nat := fun _ => 0
theorem lt_t {A : Ar} (hA : A = Ar.real) {x n : Nat} {ni : Int} (hn : ni = (n : Int)) (h : x < n) : A.cmp .lss (x : Int) ni = true := by subst hn; exact (i_lt hA).trans (decide_eq_true (by omega))
theorem lt_f {A : Ar} (hA : A = Ar.real) {x n : Nat} {ni : Int} (hn : ni = (n : Int)) (h : ¬ x < n) : A.cmp .lss (x : Int) ni = false := by subst hn; exact (i_lt hA).trans (decide_eq_false (by omega))
theorem nx {A : Ar} (hA : A = Ar.real) (x : Nat) (h : x < 1000) : A.bin .add .i64 (x : Int) 1 = ((x + 1 : Nat) : Int) := n_add hA x 1 (by omega)
theorem permS (tn rc : Nat → Int) (S C Rr A1 B X : Nat → Nat → Int) (hk : ∀ i, i < 24 → KStep (rc i) (S i) (C i) (Rr i) (A1 i) (B i) (X i) (S (i + 1)) tn)
   (hr : ∀ i, i < 24 → ∀ x, x < 5 → Sp 111 [.s .u64 (C i x), .i .i64 1] (.s .u64 (Rr i x))) (hb : ∀ i, i < 24 → ∀ q, q < 25 → Sp 111 [.s .u64 (A1 i q), .s .i64 (tn q)] (.s .u64 (B i (dst q)))) :
   Sp 91 [.ref (rounds tn rc) 0, .agg (lanes (S 0))] (.agg (lanes (S 24))) := by
 refine mk Try.func91 rfl rfl L00 R1 (by decide +kernel) fun A S_ hA hS => ?_
 unfold bodyOf Try.f91
 cbv
 refine .inv (α := Nat × (Nat → Int) × (Nat → Int)) (fun p => ⟨[.ref (rounds tn rc) 0, .any, .any, .own 0 0, .own 1 0, .own 2 0, .own 3 0, .any, .any, .any, .any, .any, .any, .any, .any, .any, .s .i64 ((p.1 : Nat) : Int), .any, .any, .any, .any, .any, .any, .any, .any, .any, .any, .any, .any, .any, .any, .any, .any, .any, .any, .any, .any, .any, .any, .any, .any, .any, .any, .any, .any, .any, .any, .any, .any, .any, .any, .any, .any, .any, .any, .any, .any, .any, .any, .any, .any, .any, .any, .any, .any, .any, .any, .any, .any, .any, .any, .any, .any, .any, .any, .any, .any, .any, .any, .any, .any, .any, .any, .any, .any, .any, .any, .any, .any, .any, .any, .any, .any, .any, .any, .any, .any, .any, .any, .any, .any, .any, .any, .any, .any, .any, .any, .any, .any, .any, .any, .any, .any, .any, .any, .any, .any, .any, .any, .any, .any, .any, .any, .any, .any, .any, .any, .any, .any, .any, .any, .any, .any, .any, .any, .any, .any, .any, .any, .any, .any, .any, .any, .any, .any, .any, .any, .any, .any, .any, .any, .any, .any, .any, .any, .any, .any, .any, .any, .any, .any], [⟨true, true, lanes (S p.1)⟩, ⟨true, true, [.i .u64 0, .i .u64 0, .i .u64 0, .i .u64 0, .i .u64 0, .i .u64 0, .i .u64 0, .i .u64 0, .i .u64 0, .i .u64 0, .i .u64 0, .i .u64 0, .i .u64 0, .i .u64 0, .i .u64 0, .i .u64 0, .i .u64 0, .i .u64 0, .i .u64 0, .i .u64 0, .i .u64 0, .i .u64 0, .i .u64 0, .i .u64 0, .i .u64 0]⟩, ⟨true, true, lanes p.2.1⟩, ⟨true, true, cols p.2.2⟩]⟩) (fun p => p.1 ≤ 24) (fun p => 24 - p.1) (0, fun _ => 0, fun _ => 0) ?_ (Nat.zero_le _) ?_
 . cbv
   repeat' (first | exact rfl | exact trivial | constructor)
 rintro ⟨i, bf, cf⟩ hi24
 dsimp only at hi24 ⊢
 by_cases hi : i < 24
 . have hki := hk i hi
   have hri := hr i hi
   have hbi := hb i hi
   have hc := hki.c A hA
   have ha := hki.a A hA
   have hx := hki.x A hA
   have h0 := hki.s0 A hA
   have hs := hki.s
   clear hki hk hr hb
   have hle : i + 1 ≤ 24 := hi
   have hmu : 24 - (i + 1) < 24 - i := by omega
   have hin := nx hA i (by omega)
   have hcmp := lt_t hA (n := 24) rfl hi
   have hget := rounds_get tn rc hA i hi
   generalize i + 1 = i1 at *
   generalize S i = Si at *
   generalize C i = Ci at *
   generalize Rr i = Ri at *
   generalize A1 i = Ai at *
   generalize B i = Bi at *
   generalize X i = Xi at *
   cbv
   refine ABr.t hcmp ?_
   cbv
   refine .inv (α := Nat × (Nat → Int)) (fun p => ⟨[.ref (rounds tn rc) 0, .any, .any, .own 0 0, .own 1 0, .own 2 0, .own 3 0, .s .i64 ((i : Nat) : Int), .any, .any, .any, .any, .any, .any, .any, .any, .s .i64 ((i : Nat) : Int), .any, .any, .s .i64 ((p.1 : Nat) : Int), .any, .any, .any, .any, .any, .any, .any, .any, .any, .any, .any, .any, .any, .any, .any, .any, .any, .any, .any, .any, .any, .any, .any, .any, .any, .any, .any, .any, .any, .any, .any, .any, .any, .any, .any, .any, .any, .any, .any, .any, .any, .any, .any, .any, .any, .any, .any, .any, .any, .any, .any, .any, .any, .any, .any, .any, .any, .any, .any, .any, .any, .any, .any, .any, .any, .any, .any, .any, .any, .any, .any, .any, .any, .any, .any, .any, .any, .any, .any, .any, .any, .any, .any, .any, .any, .any, .any, .any, .any, .any, .any, .any, .any, .any, .any, .any, .any, .any, .any, .any, .any, .any, .any, .any, .any, .any, .any, .any, .any, .any, .any, .any, .any, .any, .any, .any, .any, .any, .any, .any, .any, .any, .any, .any, .any, .any, .any, .any, .any, .any, .any, .any, .any, .any, .any, .any, .any, .any, .any, .any, .any], [⟨true, true, lanes Si⟩, ⟨true, true, [.i .u64 0, .i .u64 0, .i .u64 0, .i .u64 0, .i .u64 0, .i .u64 0, .i .u64 0, .i .u64 0, .i .u64 0, .i .u64 0, .i .u64 0, .i .u64 0, .i .u64 0, .i .u64 0, .i .u64 0, .i .u64 0, .i .u64 0, .i .u64 0, .i .u64 0, .i .u64 0, .i .u64 0, .i .u64 0, .i .u64 0, .i .u64 0, .i .u64 0]⟩, ⟨true, true, lanes bf⟩, ⟨true, true, cols p.2⟩]⟩) (fun p => p.1 ≤ 5 ∧ ∀ j, j < p.1 → p.2 j = Ci j) (fun p => 5 - p.1) (0, cf) ?_ ⟨Nat.zero_le _, fun j h => absurd h (by omega)⟩ ?_
   . cbv
     repeat' (first | exact rfl | exact trivial | constructor)
   clear cf
   rintro ⟨x, cf⟩ ⟨g1, g2⟩
   dsimp only at g1 g2 ⊢
   by_cases hx5 : x < 5
   . have v := hc x hx5
     obtain ⟨cf2, hcf2⟩ : ∃ f, f = upI cf x (Ci x) := ⟨_, rfl⟩
     have w1 : cf2 x = Ci x := by rw [hcf2]; exact upI_eq _ _ _
     have w2 : ∀ m, m ≠ x → cf2 m = cf m := fun m h => by rw [hcf2]; exact upI_ne _ _ _ _ h
     have w3 : ∀ j, j < x + 1 → cf2 j = Ci j := fun j h => by
       by_cases e : j = x
       . subst e; exact w1
       . rw [w2 j e]; exact g2 j (by omega)
     have hput := cols_put hA cf cf2 x hx5 (v.trans w1.symm) w2
     have l0 := lanes_get Si hA x (by omega)
     have l5 := lanes_get Si hA (x + 5) (by omega)
     have l10 := lanes_get Si hA (x + 10) (by omega)
     have l15 := lanes_get Si hA (x + 15) (by omega)
     have l20 := lanes_get Si hA (x + 20) (by omega)
     have k5 := n_ad hA x 5 (by omega) (ki := 5) rfl
     have k10 := n_ad hA x 10 (by omega) (ki := 10) rfl
     have k15 := n_ad hA x 15 (by omega) (ki := 15) rfl
     have k20 := n_ad hA x 20 (by omega) (ki := 20) rfl
     have b5 : x + 5 < 25 := by omega
     have b10 : x + 10 < 25 := by omega
     have b15 : x + 15 < 25 := by omega
     have b20 : x + 20 < 25 := by omega
     have b0 : x < 25 := by omega
     have hcx := lt_t hA (n := 5) rfl hx5
     have hnx := nx hA x (by omega)
     have p1 : x + 1 ≤ 5 := hx5
     have p2 : 5 - (x + 1) < 5 - x := by omega
     clear v hcf2 w1 w2 g2
     generalize x + 1 = x1 at *
     generalize x + 5 = x5 at *
     generalize x + 10 = x10 at *
     generalize x + 15 = x15 at *
     generalize x + 20 = x20 at *
     cbv
     refine ABr.t hcx ?_
     cbv
     refine .sym x rfl b0 ?_
     cbv
     refine .mk _ l0 ?_
     cbv
     refine .sym x5 k5 b5 ?_
     cbv
     refine .mk _ l5 ?_
     cbv
     refine .sym x10 k10 b10 ?_
     cbv
     refine .mk _ l10 ?_
     cbv
     refine .sym x15 k15 b15 ?_
     cbv
     refine .mk _ l15 ?_
     cbv
     refine .sym x20 k20 b20 ?_
     cbv
     refine .mk _ l20 ?_
     cbv
     refine .sym x rfl hx5 ?_
     cbv
     refine .mk _ hput ?_
     cbv
     refine ⟨(x1, cf2), ?_, ⟨p1, w3⟩, p2⟩
     cbv
     repeat' (first | exact hnx | exact rfl | exact trivial | constructor)
   obtain rfl : x = 5 := by omega
   have hcx := lt_f hA (x := 5) (n := 5) rfl (by decide)
   cbv
   refine ABr.f hcx ?_
   cbv
   clear hcx g1 hx5 hc
   refine .inv (α := Nat × (Nat → Int)) (fun p => ⟨[.ref (rounds tn rc) 0, .any, .any, .own 0 0, .own 1 0, .own 2 0, .own 3 0, .s .i64 ((i : Nat) : Int), .any, .any, .any, .any, .any, .any, .any, .any, .s .i64 ((i : Nat) : Int), .any, .any, .any, .any, .any, .any, .any, .any, .any, .any, .any, .any, .any, .any, .any, .any, .any, .any, .any, .any, .any, .any, .any, .any, .any, .any, .any, .any, .any, .any, .any, .s .i64 ((p.1 : Nat) : Int), .any, .any, .any, .any, .any, .any, .any, .any, .any, .any, .any, .any, .any, .any, .any, .any, .any, .any, .any, .any, .any, .any, .any, .any, .any, .any, .any, .any, .any, .any, .any, .any, .any, .any, .any, .any, .any, .any, .any, .any, .any, .any, .any, .any, .any, .any, .any, .any, .any, .any, .any, .any, .any, .any, .any, .any, .any, .any, .any, .any, .any, .any, .any, .any, .any, .any, .any, .any, .any, .any, .any, .any, .any, .any, .any, .any, .any, .any, .any, .any, .any, .any, .any, .any, .any, .any, .any, .any, .any, .any, .any, .any, .any, .any, .any, .any, .any, .any, .any, .any, .any, .any, .any, .any, .any, .any, .any, .any, .any, .any, .any, .any], [⟨true, true, lanes p.2⟩, ⟨true, true, [.i .u64 0, .i .u64 0, .i .u64 0, .i .u64 0, .i .u64 0, .i .u64 0, .i .u64 0, .i .u64 0, .i .u64 0, .i .u64 0, .i .u64 0, .i .u64 0, .i .u64 0, .i .u64 0, .i .u64 0, .i .u64 0, .i .u64 0, .i .u64 0, .i .u64 0, .i .u64 0, .i .u64 0, .i .u64 0, .i .u64 0, .i .u64 0, .i .u64 0]⟩, ⟨true, true, lanes bf⟩, ⟨true, true, cols cf⟩]⟩) (fun p => p.1 ≤ 5 ∧ ∀ q, q < 25 → p.2 q = if q % 5 < p.1 then Ai q else Si q) (fun p => 5 - p.1) (0, Si) ?_ ⟨Nat.zero_le _, fun q _ => (if_neg (by omega)).symm⟩ ?_
   . cbv
     repeat' (first | exact rfl | exact trivial | constructor)
   rintro ⟨x, af⟩ ⟨g1, g3⟩
   dsimp only at g1 g3 ⊢
   by_cases hx5 : x < 5
   . have hcx := lt_t hA (n := 5) rfl hx5
     have k4 := n_m5 hA x 4 (by omega) (ki := 4) rfl
     have k1 := n_m5 hA x 1 (by omega) (ki := 1) rfl
     have b4 : (x + 4) % 5 < 5 := Nat.mod_lt _ (by decide)
     have b1 : (x + 1) % 5 < 5 := Nat.mod_lt _ (by decide)
     have l4 := cols_get cf hA _ b4
     have l1 := cols_get cf hA _ b1
     have cr := hri _ b1
     rw [← g2 _ b1] at cr
     have c4 := g2 _ b4
     obtain ⟨d, hd⟩ : ∃ d, d = A.bin .xor .u64 (cf ((x + 4) % 5)) (Ri ((x + 1) % 5)) := ⟨_, rfl⟩
     have key : ∀ y, y < 5 → A.bin .xor .u64 (Si (x + 5 * y)) d = Ai (x + 5 * y) := fun y hy => by
       have := ha (x + 5 * y) (by omega)
       rw [show (x + 5 * y) % 5 = x by omega, ← c4, ← hd] at this
       exact this
     have hnx := nx hA x (by omega)
     have p1 : x + 1 ≤ 5 := hx5
     have p2 : 5 - (x + 1) < 5 - x := by omega
     have hlast : ∀ f : Nat → Int, (∀ q, q < 25 → f q = if q % 5 < x ∨ (q % 5 = x ∧ q / 5 < 5) then Ai q else Si q) → ∀ q, q < 25 → f q = if q % 5 < x + 1 then Ai q else Si q := fun f hf q hq => by
       rw [hf q hq]
       by_cases h : q % 5 < x + 1
       . rw [if_pos h, if_pos (by omega)]
       . rw [if_neg h, if_neg (by omega)]
     have hfirst : ∀ q, q < 25 → af q = if q % 5 < x ∨ (q % 5 = x ∧ q / 5 < 0) then Ai q else Si q := fun q hq => by
       rw [g3 q hq]
       by_cases h : q % 5 < x
       . rw [if_pos h, if_pos (by omega)]
       . rw [if_neg h, if_neg (by omega)]
     clear g3 c4
     generalize (x + 4) % 5 = x4 at *
     generalize (x + 1) % 5 = xm at *
     generalize hx1 : x + 1 = x1 at *
     cbv
     refine ABr.t hcx ?_
     cbv
     refine .sym x4 k4 b4 ?_
     cbv
     refine .mk _ l4 ?_
     cbv
     refine .sym xm k1 b1 ?_
     cbv
     refine .mk _ l1 ?_
     cbv
     refine ACall.mk _ (Go.Proofs.Ytkhipnhdbaahcaa.cf hS cr) ?_
     cbv
     refine .inv (α := Nat × (Nat → Int)) (fun p => ⟨[.ref (rounds tn rc) 0, .any, .any, .own 0 0, .own 1 0, .own 2 0, .own 3 0, .s .i64 ((i : Nat) : Int), .any, .s .i64 ((x : Nat) : Int), .s .u64 d, .any, .any, .any, .any, .any, .s .i64 ((i : Nat) : Int), .any, .any, .any, .any, .any, .any, .any, .any, .any, .any, .any, .any, .any, .any, .any, .any, .any, .any, .any, .any, .any, .any, .any, .any, .any, .any, .any, .any, .any, .any, .any, .s .i64 ((x : Nat) : Int), .any, .any, .any, .any, .any, .any, .any, .any, .any, .any, .any, .any, .any, .any, .s .i64 ((p.1 : Nat) : Int), .any, .any, .any, .any, .any, .any, .any, .any, .any, .any, .any, .any, .any, .any, .any, .any, .any, .any, .any, .any, .any, .any, .any, .any, .any, .any, .any, .any, .any, .any, .any, .any, .any, .any, .any, .any, .any, .any, .any, .any, .any, .any, .any, .any, .any, .any, .any, .any, .any, .any, .any, .any, .any, .any, .any, .any, .any, .any, .any, .any, .any, .any, .any, .any, .any, .any, .any, .any, .any, .any, .any, .any, .any, .any, .any, .any, .any, .any, .any, .any, .any, .any, .any, .any, .any, .any, .any, .any, .any, .any, .any, .any, .any, .any, .any, .any, .any], [⟨true, true, lanes p.2⟩, ⟨true, true, [.i .u64 0, .i .u64 0, .i .u64 0, .i .u64 0, .i .u64 0, .i .u64 0, .i .u64 0, .i .u64 0, .i .u64 0, .i .u64 0, .i .u64 0, .i .u64 0, .i .u64 0, .i .u64 0, .i .u64 0, .i .u64 0, .i .u64 0, .i .u64 0, .i .u64 0, .i .u64 0, .i .u64 0, .i .u64 0, .i .u64 0, .i .u64 0, .i .u64 0]⟩, ⟨true, true, lanes bf⟩, ⟨true, true, cols cf⟩]⟩) (fun p => p.1 ≤ 5 ∧ ∀ q, q < 25 → p.2 q = if q % 5 < x ∨ (q % 5 = x ∧ q / 5 < p.1) then Ai q else Si q) (fun p => 5 - p.1) (0, af) ?_ ⟨Nat.zero_le _, hfirst⟩ ?_
     . cbv
       repeat' (first | exact hd.symm | exact rfl | exact trivial | constructor)
     clear hfirst hd
     clear af
     rintro ⟨y, af⟩ ⟨g4, g5⟩
     dsimp only at g4 g5 ⊢
     by_cases hy5 : y < 5
     . have b0 : x + 5 * y < 25 := by omega
       have k0 := n_xy hA x y hx5 hy5
       have l0 := lanes_get af hA _ b0
       have v := key y hy5
       have e0 : af (x + 5 * y) = Si (x + 5 * y) := by rw [g5 _ b0, if_neg (by omega)]
       rw [← e0] at v
       obtain ⟨af2, haf2⟩ : ∃ f, f = upI af (x + 5 * y) (Ai (x + 5 * y)) := ⟨_, rfl⟩
       have w1 : af2 (x + 5 * y) = Ai (x + 5 * y) := by rw [haf2]; exact upI_eq _ _ _
       have w2 : ∀ m, m ≠ x + 5 * y → af2 m = af m := fun m h => by rw [haf2]; exact upI_ne _ _ _ _ h
       have w3 : ∀ q, q < 25 → af2 q = if q % 5 < x ∨ (q % 5 = x ∧ q / 5 < y + 1) then Ai q else Si q := fun q hq => by
         by_cases e : q = x + 5 * y
         . subst e; rw [w1, if_pos (by omega)]
         . rw [w2 q e, g5 q hq]
           by_cases h : q % 5 < x ∨ (q % 5 = x ∧ q / 5 < y)
           . rw [if_pos h, if_pos (by omega)]
           . rw [if_neg h, if_neg (by omega)]
       have hput := lanes_put hA af af2 _ b0 (v.trans w1.symm) w2
       have hcy := lt_t hA (n := 5) rfl hy5
       have hny := nx hA y (by omega)
       have p3 : y + 1 ≤ 5 := hy5
       have p4 : 5 - (y + 1) < 5 - y := by omega
       clear v e0 haf2 w1 w2 g5 key hlast
       generalize x + 5 * y = q0 at *
       generalize y + 1 = y1 at *
       cbv
       refine ABr.t hcy ?_
       cbv
       refine .sym q0 k0 b0 ?_
       cbv
       refine .mk _ l0 ?_
       cbv
       refine .sym q0 k0 b0 ?_
       cbv
       refine .mk _ hput ?_
       cbv
       refine ⟨(y1, af2), ?_, ⟨p3, w3⟩, p4⟩
       cbv
       repeat' (first | exact hny | exact rfl | exact trivial | constructor)
     obtain rfl : y = 5 := by omega
     have hcy := lt_f hA (x := 5) (n := 5) rfl (by decide)
     have w3 := hlast af g5
     clear hlast key g5
     cbv
     refine ABr.f hcy ?_
     cbv
     refine ⟨(x1, af), ?_, ⟨p1, w3⟩, p2⟩
     cbv
     repeat' (first | exact hnx | exact rfl | exact trivial | constructor)
   obtain rfl : x = 5 := by omega
   have hcx := lt_f hA (x := 5) (n := 5) rfl (by decide)
   have hA1 : ∀ q, q < 25 → af q = Ai q := fun q hq => by rw [g3 q hq, if_pos (by omega)]
   clear g3
   cbv
   refine ABr.f hcx ?_
   cbv
   clear hcx g1 hx5 ha hri g2
   refine .inv (α := Nat × (Nat → Int)) (fun p => ⟨[.ref (rounds tn rc) 0, .any, .any, .own 0 0, .own 1 0, .own 2 0, .own 3 0, .s .i64 ((i : Nat) : Int), .any, .any, .any, .any, .any, .any, .any, .any, .s .i64 ((i : Nat) : Int), .any, .any, .any, .any, .any, .any, .any, .any, .any, .any, .any, .any, .any, .any, .any, .any, .any, .any, .any, .any, .any, .any, .any, .any, .any, .any, .any, .any, .any, .any, .any, .any, .any, .any, .any, .any, .any, .any, .any, .any, .any, .any, .any, .any, .any, .any, .any, .any, .any, .any, .any, .any, .any, .any, .any, .any, .any, .any, .any, .any, .s .i64 ((p.1 : Nat) : Int), .any, .any, .any, .any, .any, .any, .any, .any, .any, .any, .any, .any, .any, .any, .any, .any, .any, .any, .any, .any, .any, .any, .any, .any, .any, .any, .any, .any, .any, .any, .any, .any, .any, .any, .any, .any, .any, .any, .any, .any, .any, .any, .any, .any, .any, .any, .any, .any, .any, .any, .any, .any, .any, .any, .any, .any, .any, .any, .any, .any, .any, .any, .any, .any, .any, .any, .any, .any, .any, .any, .any, .any, .any, .any, .any, .any, .any, .any, .any, .any, .any, .any, .any], [⟨true, true, lanes af⟩, ⟨true, true, [.i .u64 0, .i .u64 0, .i .u64 0, .i .u64 0, .i .u64 0, .i .u64 0, .i .u64 0, .i .u64 0, .i .u64 0, .i .u64 0, .i .u64 0, .i .u64 0, .i .u64 0, .i .u64 0, .i .u64 0, .i .u64 0, .i .u64 0, .i .u64 0, .i .u64 0, .i .u64 0, .i .u64 0, .i .u64 0, .i .u64 0, .i .u64 0, .i .u64 0]⟩, ⟨true, true, lanes p.2⟩, ⟨true, true, cols cf⟩]⟩) (fun p => p.1 ≤ 5 ∧ ∀ q, q < 25 → q % 5 < p.1 → p.2 (dst q) = Bi (dst q)) (fun p => 5 - p.1) (0, bf) ?_ ⟨Nat.zero_le _, fun q _ h => absurd h (by omega)⟩ ?_
   . cbv
     repeat' (first | exact rfl | exact trivial | constructor)
   clear bf
   rintro ⟨x, bf⟩ ⟨g1, g3⟩
   dsimp only at g1 g3 ⊢
   by_cases hx5 : x < 5
   . have hcx := lt_t hA (n := 5) rfl hx5
     have hnx := nx hA x (by omega)
     have p1 : x + 1 ≤ 5 := hx5
     have p2 : 5 - (x + 1) < 5 - x := by omega
     have hlast : ∀ f : Nat → Int, (∀ q, q < 25 → (q % 5 < x ∨ (q % 5 = x ∧ q / 5 < 5)) → f (dst q) = Bi (dst q)) → ∀ q, q < 25 → q % 5 < x + 1 → f (dst q) = Bi (dst q) := fun f hf q hq h => hf q hq (by omega)
     have hfirst : ∀ q, q < 25 → (q % 5 < x ∨ (q % 5 = x ∧ q / 5 < 0)) → bf (dst q) = Bi (dst q) := fun q hq h => g3 q hq (by omega)
     clear g3
     generalize hx1 : x + 1 = x1 at *
     cbv
     refine ABr.t hcx ?_
     cbv
     refine .inv (α := Nat × (Nat → Int)) (fun p => ⟨[.ref (rounds tn rc) 0, .any, .any, .own 0 0, .own 1 0, .own 2 0, .own 3 0, .s .i64 ((i : Nat) : Int), .any, .any, .any, .any, .s .i64 ((x : Nat) : Int), .any, .any, .any, .s .i64 ((i : Nat) : Int), .any, .any, .any, .any, .any, .any, .any, .any, .any, .any, .any, .any, .any, .any, .any, .any, .any, .any, .any, .any, .any, .any, .any, .any, .any, .any, .any, .any, .any, .any, .any, .any, .any, .any, .any, .any, .any, .any, .any, .any, .any, .any, .any, .any, .any, .any, .any, .any, .any, .any, .any, .any, .any, .any, .any, .any, .any, .any, .any, .any, .s .i64 ((x : Nat) : Int), .any, .any, .s .i64 ((p.1 : Nat) : Int), .any, .any, .any, .any, .any, .any, .any, .any, .any, .any, .any, .any, .any, .any, .any, .any, .any, .any, .any, .any, .any, .any, .any, .any, .any, .any, .any, .any, .any, .any, .any, .any, .any, .any, .any, .any, .any, .any, .any, .any, .any, .any, .any, .any, .any, .any, .any, .any, .any, .any, .any, .any, .any, .any, .any, .any, .any, .any, .any, .any, .any, .any, .any, .any, .any, .any, .any, .any, .any, .any, .any, .any, .any, .any, .any, .any, .any, .any, .any, .any], [⟨true, true, lanes af⟩, ⟨true, true, [.i .u64 0, .i .u64 0, .i .u64 0, .i .u64 0, .i .u64 0, .i .u64 0, .i .u64 0, .i .u64 0, .i .u64 0, .i .u64 0, .i .u64 0, .i .u64 0, .i .u64 0, .i .u64 0, .i .u64 0, .i .u64 0, .i .u64 0, .i .u64 0, .i .u64 0, .i .u64 0, .i .u64 0, .i .u64 0, .i .u64 0, .i .u64 0, .i .u64 0]⟩, ⟨true, true, lanes p.2⟩, ⟨true, true, cols cf⟩]⟩) (fun p => p.1 ≤ 5 ∧ ∀ q, q < 25 → (q % 5 < x ∨ (q % 5 = x ∧ q / 5 < p.1)) → p.2 (dst q) = Bi (dst q)) (fun p => 5 - p.1) (0, bf) ?_ ⟨Nat.zero_le _, hfirst⟩ ?_
     . cbv
       repeat' (first | exact rfl | exact trivial | constructor)
     clear hfirst
     clear bf
     rintro ⟨y, bf⟩ ⟨g4, g5⟩
     dsimp only at g4 g5 ⊢
     by_cases hy5 : y < 5
     . have b0 : x + 5 * y < 25 := by omega
       have k0 := n_xy hA x y hx5 hy5
       have kd := n_dst hA x y hx5 hy5
       have l0 := lanes_get af hA _ b0
       have lt := turns_get tn rc hA _ b0
       have cr := hbi _ b0
       rw [← hA1 _ b0] at cr
       have bd := dst_lt _ b0
       obtain ⟨bf2, hbf2⟩ : ∃ f, f = upI bf (dst (x + 5 * y)) (Bi (dst (x + 5 * y))) := ⟨_, rfl⟩
       have w1 : bf2 (dst (x + 5 * y)) = Bi (dst (x + 5 * y)) := by rw [hbf2]; exact upI_eq _ _ _
       have w2 : ∀ m, m ≠ dst (x + 5 * y) → bf2 m = bf m := fun m h => by rw [hbf2]; exact upI_ne _ _ _ _ h
       have w3 : ∀ q, q < 25 → (q % 5 < x ∨ (q % 5 = x ∧ q / 5 < y + 1)) → bf2 (dst q) = Bi (dst q) := fun q hq h => by
         by_cases e : q = x + 5 * y
         . subst e; exact w1
         . rw [w2 _ (fun h => e (dst_inj q hq _ b0 h)), g5 q hq (by omega)]
       have hput := lanes_put hA bf bf2 _ bd w1.symm w2
       have hcy := lt_t hA (n := 5) rfl hy5
       have hny := nx hA y (by omega)
       have p3 : y + 1 ≤ 5 := hy5
       have p4 : 5 - (y + 1) < 5 - y := by omega
       clear hbf2 w1 w2 g5 hlast
       generalize dst (x + 5 * y) = d0 at *
       generalize x + 5 * y = q0 at *
       generalize y + 1 = y1 at *
       cbv
       refine ABr.t hcy ?_
       cbv
       refine .sym q0 k0 b0 ?_
       cbv
       refine .mk _ l0 ?_
       cbv
       refine .sym q0 k0 b0 ?_
       cbv
       refine .mk _ lt ?_
       cbv
       refine ACall.mk _ (Go.Proofs.Ytkhipnhdbaahcaa.cf hS cr) ?_
       cbv
       refine .sym d0 kd bd ?_
       cbv
       refine .mk _ hput ?_
       cbv
       refine ⟨(y1, bf2), ?_, ⟨p3, w3⟩, p4⟩
       cbv
       repeat' (first | exact hny | exact rfl | exact trivial | constructor)
     obtain rfl : y = 5 := by omega
     have hcy := lt_f hA (x := 5) (n := 5) rfl (by decide)
     have w3 := hlast bf g5
     clear hlast g5
     cbv
     refine ABr.f hcy ?_
     cbv
     refine ⟨(x1, bf), ?_, ⟨p1, w3⟩, p2⟩
     cbv
     repeat' (first | exact hnx | exact rfl | exact trivial | constructor)
   obtain rfl : x = 5 := by omega
   have hcx := lt_f hA (x := 5) (n := 5) rfl (by decide)
   have hB : ∀ p, p < 25 → bf p = Bi p := fun p hp => by
     obtain ⟨s1, s2⟩ := dst_src p hp
     have := g3 _ s1 (by omega)
     rwa [s2] at this
   clear g3
   cbv
   refine ABr.f hcx ?_
   cbv
   clear hcx g1 hx5 hbi hA1
   refine .inv (α := Nat × (Nat → Int)) (fun p => ⟨[.ref (rounds tn rc) 0, .any, .any, .own 0 0, .own 1 0, .own 2 0, .own 3 0, .s .i64 ((i : Nat) : Int), .any, .any, .any, .any, .any, .any, .any, .any, .s .i64 ((i : Nat) : Int), .any, .any, .any, .any, .any, .any, .any, .any, .any, .any, .any, .any, .any, .any, .any, .any, .any, .any, .any, .any, .any, .any, .any, .any, .any, .any, .any, .any, .any, .any, .any, .any, .any, .any, .any, .any, .any, .any, .any, .any, .any, .any, .any, .any, .any, .any, .any, .any, .any, .any, .any, .any, .any, .any, .any, .any, .any, .any, .any, .any, .any, .any, .any, .any, .any, .any, .any, .any, .any, .any, .any, .any, .any, .any, .any, .any, .any, .any, .any, .any, .any, .any, .any, .any, .any, .any, .any, .any, .any, .any, .any, .any, .any, .any, .s .i64 ((p.1 : Nat) : Int), .any, .any, .any, .any, .any, .any, .any, .any, .any, .any, .any, .any, .any, .any, .any, .any, .any, .any, .any, .any, .any, .any, .any, .any, .any, .any, .any, .any, .any, .any, .any, .any, .any, .any, .any, .any, .any, .any, .any, .any, .any, .any, .any, .any, .any, .any, .any, .any, .any], [⟨true, true, lanes p.2⟩, ⟨true, true, [.i .u64 0, .i .u64 0, .i .u64 0, .i .u64 0, .i .u64 0, .i .u64 0, .i .u64 0, .i .u64 0, .i .u64 0, .i .u64 0, .i .u64 0, .i .u64 0, .i .u64 0, .i .u64 0, .i .u64 0, .i .u64 0, .i .u64 0, .i .u64 0, .i .u64 0, .i .u64 0, .i .u64 0, .i .u64 0, .i .u64 0, .i .u64 0, .i .u64 0]⟩, ⟨true, true, lanes bf⟩, ⟨true, true, cols cf⟩]⟩) (fun p => p.1 ≤ 5 ∧ ∀ q, q < 25 → q / 5 < p.1 → p.2 q = Xi q) (fun p => 5 - p.1) (0, af) ?_ ⟨Nat.zero_le _, fun q _ h => absurd h (by omega)⟩ ?_
   . cbv
     repeat' (first | exact rfl | exact trivial | constructor)
   clear af
   rintro ⟨y, af⟩ ⟨g1, g3⟩
   dsimp only at g1 g3 ⊢
   by_cases hy5 : y < 5
   . have hcy := lt_t hA (n := 5) rfl hy5
     have hny := nx hA y (by omega)
     have p1 : y + 1 ≤ 5 := hy5
     have p2 : 5 - (y + 1) < 5 - y := by omega
     have hlast : ∀ f : Nat → Int, (∀ q, q < 25 → (q / 5 < y ∨ (q / 5 = y ∧ q % 5 < 5)) → f q = Xi q) → ∀ q, q < 25 → q / 5 < y + 1 → f q = Xi q := fun f hf q hq h => hf q hq (by omega)
     have hfirst : ∀ q, q < 25 → (q / 5 < y ∨ (q / 5 = y ∧ q % 5 < 0)) → af q = Xi q := fun q hq h => g3 q hq (by omega)
     clear g3
     generalize hy1 : y + 1 = y1 at *
     cbv
     refine ABr.t hcy ?_
     cbv
     refine .inv (α := Nat × (Nat → Int)) (fun p => ⟨[.ref (rounds tn rc) 0, .any, .any, .own 0 0, .own 1 0, .own 2 0, .own 3 0, .s .i64 ((i : Nat) : Int), .any, .any, .any, .any, .any, .any, .s .i64 ((y : Nat) : Int), .any, .s .i64 ((i : Nat) : Int), .any, .any, .any, .any, .any, .any, .any, .any, .any, .any, .any, .any, .any, .any, .any, .any, .any, .any, .any, .any, .any, .any, .any, .any, .any, .any, .any, .any, .any, .any, .any, .any, .any, .any, .any, .any, .any, .any, .any, .any, .any, .any, .any, .any, .any, .any, .any, .any, .any, .any, .any, .any, .any, .any, .any, .any, .any, .any, .any, .any, .any, .any, .any, .any, .any, .any, .any, .any, .any, .any, .any, .any, .any, .any, .any, .any, .any, .any, .any, .any, .any, .any, .any, .any, .any, .any, .any, .any, .any, .any, .any, .any, .any, .any, .s .i64 ((y : Nat) : Int), .any, .any, .s .i64 ((p.1 : Nat) : Int), .any, .any, .any, .any, .any, .any, .any, .any, .any, .any, .any, .any, .any, .any, .any, .any, .any, .any, .any, .any, .any, .any, .any, .any, .any, .any, .any, .any, .any, .any, .any, .any, .any, .any, .any, .any, .any, .any, .any, .any, .any, .any, .any, .any, .any, .any], [⟨true, true, lanes p.2⟩, ⟨true, true, [.i .u64 0, .i .u64 0, .i .u64 0, .i .u64 0, .i .u64 0, .i .u64 0, .i .u64 0, .i .u64 0, .i .u64 0, .i .u64 0, .i .u64 0, .i .u64 0, .i .u64 0, .i .u64 0, .i .u64 0, .i .u64 0, .i .u64 0, .i .u64 0, .i .u64 0, .i .u64 0, .i .u64 0, .i .u64 0, .i .u64 0, .i .u64 0, .i .u64 0]⟩, ⟨true, true, lanes bf⟩, ⟨true, true, cols cf⟩]⟩) (fun p => p.1 ≤ 5 ∧ ∀ q, q < 25 → (q / 5 < y ∨ (q / 5 = y ∧ q % 5 < p.1)) → p.2 q = Xi q) (fun p => 5 - p.1) (0, af) ?_ ⟨Nat.zero_le _, hfirst⟩ ?_
     . cbv
       repeat' (first | exact rfl | exact trivial | constructor)
     clear hfirst
     clear af
     rintro ⟨x, af⟩ ⟨g4, g5⟩
     dsimp only at g4 g5 ⊢
     by_cases hx5 : x < 5
     . have b0 : x + 5 * y < 25 := by omega
       have m1 : (x + 1) % 5 < 5 := Nat.mod_lt _ (by decide)
       have m2 : (x + 2) % 5 < 5 := Nat.mod_lt _ (by decide)
       have b1 : (x + 1) % 5 + 5 * y < 25 := by omega
       have b2 : (x + 2) % 5 + 5 * y < 25 := by omega
       have k0 := n_xy hA x y hx5 hy5
       have k1 : A.bin .add .i64 (A.bin .rem .i64 (A.bin .add .i64 (x : Int) 1) 5) (A.bin .mul .i64 5 (y : Int)) = (((x + 1) % 5 + 5 * y : Nat) : Int) := by rw [n_m5 hA x 1 (by omega) (ki := 1) rfl]; exact n_xy hA _ y m1 hy5
       have k2 : A.bin .add .i64 (A.bin .rem .i64 (A.bin .add .i64 (x : Int) 2) 5) (A.bin .mul .i64 5 (y : Int)) = (((x + 2) % 5 + 5 * y : Nat) : Int) := by rw [n_m5 hA x 2 (by omega) (ki := 2) rfl]; exact n_xy hA _ y m2 hy5
       have l0 := lanes_get bf hA _ b0
       have l1 := lanes_get bf hA _ b1
       have l2 := lanes_get bf hA _ b2
       have v := hx (x + 5 * y) b0
       rw [show (x + 5 * y) % 5 = x by omega, show (x + 5 * y) / 5 = y by omega, ← hB _ b0, ← hB _ b1, ← hB _ b2] at v
       obtain ⟨af2, haf2⟩ : ∃ f, f = upI af (x + 5 * y) (Xi (x + 5 * y)) := ⟨_, rfl⟩
       have w1 : af2 (x + 5 * y) = Xi (x + 5 * y) := by rw [haf2]; exact upI_eq _ _ _
       have w2 : ∀ m, m ≠ x + 5 * y → af2 m = af m := fun m h => by rw [haf2]; exact upI_ne _ _ _ _ h
       have w3 : ∀ q, q < 25 → (q / 5 < y ∨ (q / 5 = y ∧ q % 5 < x + 1)) → af2 q = Xi q := fun q hq h => by
         by_cases e : q = x + 5 * y
         . subst e; exact w1
         . rw [w2 q e, g5 q hq (by omega)]
       have hput := lanes_put hA af af2 _ b0 (v.trans w1.symm) w2
       have hcx := lt_t hA (n := 5) rfl hx5
       have hnx := nx hA x (by omega)
       have p3 : x + 1 ≤ 5 := hx5
       have p4 : 5 - (x + 1) < 5 - x := by omega
       clear v haf2 w1 w2 g5 hlast m1 m2
       generalize (x + 1) % 5 + 5 * y = q1 at *
       generalize (x + 2) % 5 + 5 * y = q2 at *
       generalize x + 5 * y = q0 at *
       generalize x + 1 = x1 at *
       cbv
       refine ABr.t hcx ?_
       cbv
       refine .sym q0 k0 b0 ?_
       cbv
       refine .mk _ l0 ?_
       cbv
       refine .sym q1 k1 b1 ?_
       cbv
       refine .mk _ l1 ?_
       cbv
       refine .sym q2 k2 b2 ?_
       cbv
       refine .mk _ l2 ?_
       cbv
       refine .sym q0 k0 b0 ?_
       cbv
       refine .mk _ hput ?_
       cbv
       refine ⟨(x1, af2), ?_, ⟨p3, w3⟩, p4⟩
       cbv
       repeat' (first | exact hnx | exact rfl | exact trivial | constructor)
     obtain rfl : x = 5 := by omega
     have hcx := lt_f hA (x := 5) (n := 5) rfl (by decide)
     have w3 := hlast af g5
     clear hlast g5
     cbv
     refine ABr.f hcx ?_
     cbv
     refine ⟨(y1, af), ?_, ⟨p1, w3⟩, p2⟩
     cbv
     repeat' (first | exact hny | exact rfl | exact trivial | constructor)
   obtain rfl : y = 5 := by omega
   have hcy := lt_f hA (x := 5) (n := 5) rfl (by decide)
   have hXX : ∀ q, q < 25 → af q = Xi q := fun q hq => g3 q hq (by omega)
   have e0 : A.bin .xor .u64 (af 0) (rc i) = S i1 0 := by rw [hXX 0 (by decide)]; exact h0
   have e1 : af 1 = S i1 1 := (hXX 1 (by decide)).trans (hs 1 (by decide) (by decide))
   have e2 : af 2 = S i1 2 := (hXX 2 (by decide)).trans (hs 2 (by decide) (by decide))
   have e3 : af 3 = S i1 3 := (hXX 3 (by decide)).trans (hs 3 (by decide) (by decide))
   have e4 : af 4 = S i1 4 := (hXX 4 (by decide)).trans (hs 4 (by decide) (by decide))
   have e5 : af 5 = S i1 5 := (hXX 5 (by decide)).trans (hs 5 (by decide) (by decide))
   have e6 : af 6 = S i1 6 := (hXX 6 (by decide)).trans (hs 6 (by decide) (by decide))
   have e7 : af 7 = S i1 7 := (hXX 7 (by decide)).trans (hs 7 (by decide) (by decide))
   have e8 : af 8 = S i1 8 := (hXX 8 (by decide)).trans (hs 8 (by decide) (by decide))
   have e9 : af 9 = S i1 9 := (hXX 9 (by decide)).trans (hs 9 (by decide) (by decide))
   have e10 : af 10 = S i1 10 := (hXX 10 (by decide)).trans (hs 10 (by decide) (by decide))
   have e11 : af 11 = S i1 11 := (hXX 11 (by decide)).trans (hs 11 (by decide) (by decide))
   have e12 : af 12 = S i1 12 := (hXX 12 (by decide)).trans (hs 12 (by decide) (by decide))
   have e13 : af 13 = S i1 13 := (hXX 13 (by decide)).trans (hs 13 (by decide) (by decide))
   have e14 : af 14 = S i1 14 := (hXX 14 (by decide)).trans (hs 14 (by decide) (by decide))
   have e15 : af 15 = S i1 15 := (hXX 15 (by decide)).trans (hs 15 (by decide) (by decide))
   have e16 : af 16 = S i1 16 := (hXX 16 (by decide)).trans (hs 16 (by decide) (by decide))
   have e17 : af 17 = S i1 17 := (hXX 17 (by decide)).trans (hs 17 (by decide) (by decide))
   have e18 : af 18 = S i1 18 := (hXX 18 (by decide)).trans (hs 18 (by decide) (by decide))
   have e19 : af 19 = S i1 19 := (hXX 19 (by decide)).trans (hs 19 (by decide) (by decide))
   have e20 : af 20 = S i1 20 := (hXX 20 (by decide)).trans (hs 20 (by decide) (by decide))
   have e21 : af 21 = S i1 21 := (hXX 21 (by decide)).trans (hs 21 (by decide) (by decide))
   have e22 : af 22 = S i1 22 := (hXX 22 (by decide)).trans (hs 22 (by decide) (by decide))
   have e23 : af 23 = S i1 23 := (hXX 23 (by decide)).trans (hs 23 (by decide) (by decide))
   have e24 : af 24 = S i1 24 := (hXX 24 (by decide)).trans (hs 24 (by decide) (by decide))
   clear g3 hXX h0 hs hx
   cbv
   refine ABr.f hcy ?_
   cbv
   refine .sym i rfl hi ?_
   cbv
   refine .mk _ hget ?_
   cbv
   refine ⟨(i1, bf, cf), ?_, hle, hmu⟩
   cbv
   repeat' (first | exact hin | exact e0 | exact e1 | exact e2 | exact e3 | exact e4 | exact e5 | exact e6 | exact e7 | exact e8 | exact e9 | exact e10 | exact e11 | exact e12 | exact e13 | exact e14 | exact e15 | exact e16 | exact e17 | exact e18 | exact e19 | exact e20 | exact e21 | exact e22 | exact e23 | exact e24 | exact rfl | exact trivial | constructor)
 . obtain rfl : i = 24 := by omega
   have hcmp := lt_f hA (x := 24) (n := 24) rfl (by decide)
   cbv
   refine ABr.f hcmp ?_
   cbv
end Go.Proofs.Ytkhipnhdbaahcaa
end
