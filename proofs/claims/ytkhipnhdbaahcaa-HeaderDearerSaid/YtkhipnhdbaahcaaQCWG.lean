import Derived.Test.YtkhipnhdbaahcaaQCWD
import Derived.Test.YtkhipnhdbaahcaaQCC
set_option linter.unusedVariables false
set_option linter.unusedSimpArgs false
set_option linter.unusedSectionVars false
set_option maxRecDepth 100000
set_option exponentiation.threshold 2000
set_option maxHeartbeats 8000000
set_option maxHeartbeats 16000000
set_option maxHeartbeats 4000000
section
namespace Go.Proofs.Ytkhipnhdbaahcaa
open Go Eng
theorem lzGen (x n : Nat) (hx : x < 18446744073709551616) (hn : IsLen x n) (h64 : n ≤ 64) : Sp 95 [.s .u64 (x : Int)] (.s .i64 ((64 - n : Nat) : Int)) := by
 have c := len64S x n hx hn
 have hs : ∀ (A : Ar) (hA : A = Ar.real), A.bin .sub .i64 64 (n : Int) = ((64 - n : Nat) : Int) := fun A hA => e_sub hA rfl rfl (show (64 : Int) - (n : Int) = ((64 - n : Nat) : Int) by omega) (by unfold Fits; omega)
 generalize 64 - n = m at *
 refine mk Try.func95 rfl rfl L0 R1 (by decide +kernel) fun A S hA hS => ?_
 have hs := hs A hA
 unfold bodyOf Try.f95
 cbv
 refine aF hS c ?_
 cbv
 exact hs
structure DGuess (B U u v1 v0 Q : Nat) : Prop where
 a : B ≤ 2 * v1
 b : v1 < B
 c : v0 < B
 d : U < v1 * B + v0
 e : u < B
 q : Q = (U * B + u) / (v1 * B + v0)
section
variable {B U u v1 v0 Q : Nat}
theorem DGuess.pos (h : DGuess B U u v1 v0 Q) : 0 < v1 * B + v0 := by
 have h1 := h.a
 have h2 := h.b
 exact Nat.lt_of_lt_of_le (Nat.mul_pos (show 0 < v1 by omega) (show 0 < B by omega)) (Nat.le_add_right _ _)
theorem DGuess.lt (h : DGuess B U u v1 v0 Q) : Q < B := by
 have h1 := h.d
 have h2 := h.e
 rw [h.q, Nat.div_lt_iff_lt_mul h.pos]
 have := Nat.mul_le_mul_right B (show U + 1 ≤ v1 * B + v0 from h1)
 rw [Nat.add_mul, Nat.one_mul, Nat.mul_comm (v1 * B + v0)] at this
 generalize B * (v1 * B + v0) = p at *
 generalize U * B = p2 at *
 omega
theorem DGuess.le {q : Nat} (h : DGuess B U u v1 v0 Q) (hq : q * (v1 * B + v0) ≤ U * B + u) : q ≤ Q := by
 rw [h.q]; exact (Nat.le_div_iff_mul_le h.pos).2 hq
theorem DGuess.ge {q : Nat} (h : DGuess B U u v1 v0 Q) (hq : U * B + u < q * (v1 * B + v0)) : Q < q := by
 rw [h.q]; exact (Nat.div_lt_iff_lt_mul h.pos).2 hq
structure DP (B U v1 Q q r : Nat) : Prop where
 le : Q ≤ q
 eq : q * v1 + r = U
 bd : q ≤ B + 1
 rl : r < B
theorem DGuess.start (h : DGuess B U u v1 v0 Q) : DP B U v1 Q (U / v1) (U % v1) := by
 have h1 := h.a
 have h2 := h.b
 have h3 := h.c
 have h4 := h.d
 have e := Nat.div_add_mod U v1
 have m := Nat.mod_lt U (show 0 < v1 by omega)
 rw [Nat.mul_comm] at e
 refine ⟨?_, e, ?_, by omega⟩
 . refine Nat.le_of_lt_succ (h.ge ?_)
   have e5 := h.e
   rw [Nat.succ_mul, Nat.mul_add, ← Nat.mul_assoc]
   have h6 : U + 1 ≤ U / v1 * v1 + v1 := by omega
   have h7 := Nat.mul_le_mul_right B h6
   rw [Nat.add_mul, Nat.add_mul, Nat.one_mul] at h7
   generalize U / v1 * v1 * B = p at *
   generalize U / v1 * v0 = p2 at *
   generalize v1 * B = p3 at *
   generalize U * B = p4 at *
   omega
 . have h6 : U / v1 < B + 2 := by
     rw [Nat.div_lt_iff_lt_mul (by omega), Nat.add_mul, Nat.mul_comm B]
     generalize v1 * B = p3 at *
     omega
   omega
theorem DP.stop {q r : Nat} (h : DGuess B U u v1 v0 Q) (p : DP B U v1 Q q r) (h2 : q * v0 ≤ r * B + u) : q = Q := by
 have e := p.eq
 refine Nat.le_antisymm (h.le ?_) p.le
 rw [Nat.mul_add, ← Nat.mul_assoc, ← e, Nat.add_mul]
 generalize q * v1 * B = p1 at *
 generalize q * v0 = p2 at *
 generalize r * B = p3 at *
 omega
theorem DP.next {q r : Nat} (h : DGuess B U u v1 v0 Q) (p : DP B U v1 Q q r) (h2 : B ≤ q ∨ r * B + u < q * v0) : Q ≤ q - 1 ∧ 0 < q ∧ (q - 1) * v1 + (r + v1) = U := by
 have e := p.eq
 have hlt : Q < q := by
   rcases h2 with h2 | h2
   . exact Nat.lt_of_lt_of_le h.lt h2
   . refine h.ge ?_
     rw [Nat.mul_add, ← Nat.mul_assoc, ← e, Nat.add_mul]
     generalize q * v1 * B = p1 at *
     generalize q * v0 = p2 at *
     generalize r * B = p3 at *
     omega
 refine ⟨by omega, by omega, ?_⟩
 obtain ⟨k, rfl⟩ : ∃ k, q = k + 1 := ⟨q - 1, by omega⟩
 rw [Nat.add_sub_cancel]
 rw [Nat.succ_mul] at e
 omega
theorem DP.last {q r : Nat} (h : DGuess B U u v1 v0 Q) (p : DP B U v1 Q q r) (h2 : Q ≤ q - 1 ∧ 0 < q ∧ (q - 1) * v1 + (r + v1) = U) (h3 : B ≤ r + v1) : q - 1 = Q := by
 have hb := p.bd
 have hc := h.c
 refine Nat.le_antisymm (h.le ?_) h2.1
 have e := h2.2.2
 have h5 : (q - 1) * v0 ≤ B * B := Nat.mul_le_mul (by omega) (by omega)
 have h6 := Nat.mul_le_mul_right B h3
 rw [Nat.mul_add, ← Nat.mul_assoc, ← e, Nat.add_mul]
 generalize (q - 1) * v1 * B = p1 at *
 generalize (q - 1) * v0 = p2 at *
 generalize (r + v1) * B = p3 at *
 generalize B * B = p4 at *
 omega
theorem DP.more {q r : Nat} (h : DGuess B U u v1 v0 Q) (p : DP B U v1 Q q r) (h2 : Q ≤ q - 1 ∧ 0 < q ∧ (q - 1) * v1 + (r + v1) = U) (h3 : r + v1 < B) : DP B U v1 Q (q - 1) (r + v1) :=
 ⟨h2.1, h2.2.2, by have := p.bd; omega, h3⟩
end
theorem d_rest {U u p r : Nat} (h : U * 4294967296 + u = p + r) (hr : r < 18446744073709551616) (hu : u < 18446744073709551616) : ((U * 4294967296 % 18446744073709551616 + u) % 18446744073709551616 + 18446744073709551616 - p % 18446744073709551616) % 18446744073709551616 = r := by omega
theorem div_two {B U u1 u0 v q1 r1 q0 r0 : Nat} (hv : 0 < v) (h1 : U * B + u1 = q1 * v + r1) (h0 : r1 * B + u0 = q0 * v + r0) (hr : r0 < v) : (U * (B * B) + u1 * B + u0) / v = q1 * B + q0 ∧ (U * (B * B) + u1 * B + u0) % v = r0 := by
 have e : U * (B * B) + u1 * B + u0 = v * (q1 * B + q0) + r0 := by
   have e1 : v * (q1 * B + q0) = q1 * v * B + q0 * v := by rw [Nat.mul_add, ← Nat.mul_assoc, Nat.mul_comm v q1, Nat.mul_comm v q0]
   have e2 := congrArg (· * B) h1
   simp only [Nat.add_mul] at e2
   rw [e1, ← Nat.mul_assoc]
   generalize q1 * v * B = a at *
   generalize q0 * v = b at *
   generalize U * B * B = c at *
   generalize u1 * B = d at *
   generalize r1 * B = f at *
   omega
 rw [e]
 exact ⟨by rw [Nat.mul_add_div hv, Nat.div_eq_of_lt hr, Nat.add_zero], by rw [Nat.mul_add_mod, Nat.mod_eq_of_lt hr]⟩
section
variable {A : Ar} (hA : A = Ar.real)
include hA
theorem b_mul (a b : Nat) (h : a * b < 18446744073709551616) : A.bin .mul .u64 (a : Int) (b : Int) = ((a * b : Nat) : Int) := by rw [hA]; exact (u_mul a b).trans (congrArg Int.ofNat (Nat.mod_eq_of_lt h))
theorem b_mulW (a b : Nat) : A.bin .mul .u64 (a : Int) (b : Int) = ((a * b % 18446744073709551616 : Nat) : Int) := by rw [hA]; exact u_mul a b
theorem b_add (a b : Nat) (h : a + b < 18446744073709551616) : A.bin .add .u64 (a : Int) (b : Int) = ((a + b : Nat) : Int) := by rw [hA]; exact (u_add a b).trans (congrArg Int.ofNat (Nat.mod_eq_of_lt h))
theorem b_addW (a b : Nat) : A.bin .add .u64 (a : Int) (b : Int) = (((a + b) % 18446744073709551616 : Nat) : Int) := by rw [hA]; exact u_add a b
theorem b_sub (a b : Nat) (h : b ≤ a) (ha : a < 18446744073709551616) : A.bin .sub .u64 (a : Int) (b : Int) = ((a - b : Nat) : Int) := by
 rw [hA]; exact (u_sub a b (by omega)).trans (congrArg Int.ofNat (by omega))
theorem b_subW (a b : Nat) (h : b ≤ 18446744073709551616) : A.bin .sub .u64 (a : Int) (b : Int) = (((a + 18446744073709551616 - b) % 18446744073709551616 : Nat) : Int) := by rw [hA]; exact u_sub a b h
theorem b_quo (a b : Nat) (ha : a < 18446744073709551616) : A.bin .quo .u64 (a : Int) (b : Int) = ((a / b : Nat) : Int) := by rw [hA]; exact quo_u ha
theorem b_shr (a k : Nat) (hk : k ≤ 64) : A.bin .shr .u64 (a : Int) (k : Int) = ((a / 2 ^ k : Nat) : Int) := by rw [hA]; exact u_shr a k hk
theorem b_shl (a k : Nat) (hk : k ≤ 64) (h : a * 2 ^ k < 18446744073709551616) : A.bin .shl .u64 (a : Int) (k : Int) = ((a * 2 ^ k : Nat) : Int) := by rw [hA]; exact (u_shl a k hk).trans (congrArg Int.ofNat (Nat.mod_eq_of_lt h))
theorem b_shlW (a k : Nat) (hk : k ≤ 64) : A.bin .shl .u64 (a : Int) (k : Int) = ((a * 2 ^ k % 18446744073709551616 : Nat) : Int) := by rw [hA]; exact u_shl a k hk
theorem b_ge (a b : Nat) : A.cmp .geq (a : Int) (b : Int) = decide (b ≤ a) := by
 rw [hA]; show decide ((a : Int) ≥ (b : Int)) = _; congr 1; simp only [eq_iff_iff]; omega
theorem b_gt (a b : Nat) : A.cmp .gtr (a : Int) (b : Int) = decide (b < a) := by
 rw [hA]; show decide ((a : Int) > (b : Int)) = _; congr 1; simp only [eq_iff_iff]; omega
theorem b_okq (a : Nat) (h : 0 < a) : A.okb .quo (a : Int) = true := by
 rw [hA]; show (!((a : Int) == 0)) = true
 rw [beq_eq_false_iff_ne.2 (by omega)]; rfl
end
theorem div64_zero (l y : Nat) (hl : l < 18446744073709551616) (hy : 0 < y) (hyW : y < 18446744073709551616) : Sp 61 [.s .u64 0, .s .u64 (l : Int), .s .u64 (y : Int)] (.tup [.s .u64 ((l / y : Nat) : Int), .s .u64 ((l % y : Nat) : Int)]) :=
 Spec.args (div0S l y hl hy) (by cbv)
theorem div64_walk (h l y s vn v1 v0 U un u1 u0 Q1 Rm Q0 q r : Nat) (hy0 : 0 < y) (hhy : h < y) (hh0 : 0 < h) (cl : Sp 95 [.s .u64 (y : Int)] (.s .i64 (s : Int)))
   (g1 : DGuess 4294967296 U u1 v1 v0 Q1) (g0 : DGuess 4294967296 Rm u0 v1 v0 Q0)
   (ar : ∀ A, A = Ar.real → A.wrap .u64 (s : Int) = (s : Int) ∧ A.okb .shl (s : Int) = true ∧ A.okb .shr (s : Int) = true ∧ A.okb .shr (A.bin .sub .u64 64 (s : Int)) = true ∧ A.bin .shl .u64 (y : Int) (s : Int) = (vn : Int) ∧ A.bin .shr .u64 (vn : Int) 32 = (v1 : Int) ∧ A.bin .and .u64 (vn : Int) 4294967295 = (v0 : Int) ∧
     A.bin .or .u64 (A.bin .shl .u64 (h : Int) (s : Int)) (A.bin .shr .u64 (l : Int) (A.bin .sub .u64 64 (s : Int))) = (U : Int) ∧ A.bin .shl .u64 (l : Int) (s : Int) = (un : Int) ∧ A.bin .shr .u64 (un : Int) 32 = (u1 : Int) ∧ A.bin .and .u64 (un : Int) 4294967295 = (u0 : Int) ∧
     A.bin .sub .u64 (A.bin .add .u64 (A.bin .mul .u64 (U : Int) 4294967296) (u1 : Int)) (A.bin .mul .u64 (Q1 : Int) (vn : Int)) = (Rm : Int) ∧
     A.bin .add .u64 (A.bin .mul .u64 (Q1 : Int) 4294967296) (Q0 : Int) = (q : Int) ∧ A.bin .shr .u64 (A.bin .sub .u64 (A.bin .add .u64 (A.bin .mul .u64 (Rm : Int) 4294967296) (u0 : Int)) (A.bin .mul .u64 (Q0 : Int) (vn : Int))) (s : Int) = (r : Int)) :
   Sp 61 [.s .u64 (h : Int), .s .u64 (l : Int), .s .u64 (y : Int)] (.tup [.s .u64 (q : Int), .s .u64 (r : Int)]) := by
 have UW : U < 18446744073709551616 := by
   have h1 := g1.d
   have h2 := g1.b
   have h3 := g1.c
   omega
 have RW : Rm < 18446744073709551616 := by
   have h1 := g0.d
   have h2 := g0.b
   have h3 := g0.c
   omega
 have v1p : 0 < v1 := by have h1 := g1.a; omega
 have v1l := g1.b
 have v0l := g1.c
 have u1l := g1.e
 have u0l := g0.e
 have start1 := g1.start
 have start0 := g0.start
 have rnd : ∀ (A : Ar) (hA : A = Ar.real) (X u Q a b : Nat), DGuess 4294967296 X u v1 v0 Q → DP 4294967296 X v1 Q a b →
     (a = Q ∧ A.cmp .geq (a : Int) 4294967296 = false ∧ A.cmp .gtr (A.bin .mul .u64 (a : Int) (v0 : Int)) (A.bin .add .u64 (A.bin .mul .u64 4294967296 (b : Int)) (u : Int)) = false) ∨
     ((A.cmp .geq (a : Int) 4294967296 = true ∨ (A.cmp .geq (a : Int) 4294967296 = false ∧ A.cmp .gtr (A.bin .mul .u64 (a : Int) (v0 : Int)) (A.bin .add .u64 (A.bin .mul .u64 4294967296 (b : Int)) (u : Int)) = true)) ∧
       A.bin .sub .u64 (a : Int) 1 = ((a - 1 : Nat) : Int) ∧ A.bin .add .u64 (b : Int) (v1 : Int) = ((b + v1 : Nat) : Int) ∧
       ((a - 1 = Q ∧ A.cmp .geq (A.bin .add .u64 (b : Int) (v1 : Int)) 4294967296 = true) ∨ (A.cmp .geq (A.bin .add .u64 (b : Int) (v1 : Int)) 4294967296 = false ∧ DP 4294967296 X v1 Q (a - 1) (b + v1) ∧ a - 1 < a))) := by
   intro A hA X u Q a b g p
   have hab := p.bd
   have hbl := p.rl
   have hul := g.e
   have m1 : a * v0 < 18446744073709551616 := by
     have h5 : a * v0 ≤ 4294967297 * 4294967295 := Nat.mul_le_mul hab (by omega)
     omega
   have e1 : A.bin .mul .u64 (a : Int) (v0 : Int) = ((a * v0 : Nat) : Int) := b_mul hA a v0 m1
   have e2 : A.bin .mul .u64 4294967296 (b : Int) = ((4294967296 * b : Nat) : Int) := b_mul hA 4294967296 b (by omega)
   have e3 : A.bin .add .u64 (A.bin .mul .u64 4294967296 (b : Int)) (u : Int) = ((4294967296 * b + u : Nat) : Int) := by rw [e2]; exact b_add hA _ _ (by omega)
   have c1 : A.cmp .geq (a : Int) 4294967296 = decide (4294967296 ≤ a) := b_ge hA a 4294967296
   have c2 : A.cmp .gtr (A.bin .mul .u64 (a : Int) (v0 : Int)) (A.bin .add .u64 (A.bin .mul .u64 4294967296 (b : Int)) (u : Int)) = decide (4294967296 * b + u < a * v0) := by rw [e1, e3]; exact b_gt hA _ _
   have e4 : A.bin .add .u64 (b : Int) (v1 : Int) = ((b + v1 : Nat) : Int) := b_add hA b v1 (by omega)
   have c3 : A.cmp .geq (A.bin .add .u64 (b : Int) (v1 : Int)) 4294967296 = decide (4294967296 ≤ b + v1) := by rw [e4]; exact b_ge hA _ 4294967296
   rw [c1, c2, c3]
   by_cases hc : 4294967296 ≤ a ∨ 4294967296 * b + u < a * v0
   . have n := p.next g (by rw [Nat.mul_comm b]; exact hc)
     refine .inr ⟨?_, ?_, e4, ?_⟩
     . by_cases h1 : 4294967296 ≤ a
       . exact .inl (decide_eq_true h1)
       . exact .inr ⟨decide_eq_false h1, decide_eq_true (hc.resolve_left h1)⟩
     . exact b_sub hA a 1 n.2.1 (by omega)
     . by_cases h3 : 4294967296 ≤ b + v1
       . exact .inl ⟨p.last g n h3, decide_eq_true h3⟩
       . exact .inr ⟨decide_eq_false h3, p.more g n (by omega), by have := n.2.1; omega⟩
   . have h1 : ¬ 4294967296 ≤ a := fun h => hc (.inl h)
     have h2 : ¬ 4294967296 * b + u < a * v0 := fun h => hc (.inr h)
     exact .inl ⟨p.stop g (by rw [Nat.mul_comm b]; omega), decide_eq_false h1, decide_eq_false h2⟩
 have q15 : ∀ (A : Ar) (hA : A = Ar.real) (X : Nat), X < 18446744073709551616 → A.bin .quo .u64 (X : Int) (v1 : Int) = ((X / v1 : Nat) : Int) ∧ A.bin .sub .u64 (X : Int) (A.bin .mul .u64 (A.bin .quo .u64 (X : Int) (v1 : Int)) (v1 : Int)) = ((X % v1 : Nat) : Int) := fun A hA X hX => by
   have e1 := b_quo hA X v1 hX
   have e := Nat.div_add_mod X v1
   rw [Nat.mul_comm] at e
   refine ⟨e1, ?_⟩
   rw [e1, b_mul hA _ _ (by omega)]
   exact (b_sub hA X (X / v1 * v1) (by omega) hX).trans (congrArg Int.ofNat (by omega))
 have okq : ∀ (A : Ar) (hA : A = Ar.real), A.okb .quo (v1 : Int) = true := fun A hA => b_okq hA v1 v1p
 have t0 : ∀ (A : Ar) (hA : A = Ar.real), A.cmp .eql (y : Int) 0 = false ∧ A.cmp .leq (y : Int) (h : Int) = false ∧ A.cmp .eql (h : Int) 0 = false := fun A hA => by
   rw [hA]
   exact ⟨beq_eq_false_iff_ne.2 (by omega), decide_eq_false (by omega), beq_eq_false_iff_ne.2 (by omega)⟩
 have hq1 : ∀ (A : Ar) (hA : A = Ar.real), A.okb .quo (v1 : Int) = true := okq
 refine mk Try.func61 rfl rfl L00 R1 (by decide +kernel) fun A S hA hS => ?_
 obtain ⟨t1, t2, t3⟩ := t0 A hA
 obtain ⟨a1, a2, a3, a4, a5, a6, a7, a8, a9, a10, a11, a12, a13, a14⟩ := ar A hA
 have rnd := rnd A hA
 have okq := okq A hA
 obtain ⟨b1, b2⟩ := q15 A hA U UW
 obtain ⟨b3, b4⟩ := q15 A hA Rm RW
 have s1 : A.bin .shl .u64 (y : Int) (A.wrap .u64 (s : Int)) = (vn : Int) := by rw [a1]; exact a5
 have s2 : A.bin .shr .u64 (A.bin .shl .u64 (y : Int) (A.wrap .u64 (s : Int))) 32 = (v1 : Int) := by rw [s1]; exact a6
 have s3 : A.bin .and .u64 (A.bin .shl .u64 (y : Int) (A.wrap .u64 (s : Int))) 4294967295 = (v0 : Int) := by rw [s1]; exact a7
 have s4 : A.bin .or .u64 (A.bin .shl .u64 (h : Int) (A.wrap .u64 (s : Int))) (A.bin .shr .u64 (l : Int) (A.bin .sub .u64 64 (A.wrap .u64 (s : Int)))) = (U : Int) := by rw [a1]; exact a8
 have s5 : A.bin .shl .u64 (l : Int) (A.wrap .u64 (s : Int)) = (un : Int) := by rw [a1]; exact a9
 have s6 : A.bin .shr .u64 (A.bin .shl .u64 (l : Int) (A.wrap .u64 (s : Int))) 32 = (u1 : Int) := by rw [s5]; exact a10
 have s7 : A.bin .and .u64 (A.bin .shl .u64 (l : Int) (A.wrap .u64 (s : Int))) 4294967295 = (u0 : Int) := by rw [s5]; exact a11
 have s8 : A.bin .quo .u64 (A.bin .or .u64 (A.bin .shl .u64 (h : Int) (A.wrap .u64 (s : Int))) (A.bin .shr .u64 (l : Int) (A.bin .sub .u64 64 (A.wrap .u64 (s : Int))))) (A.bin .shr .u64 (A.bin .shl .u64 (y : Int) (A.wrap .u64 (s : Int))) 32) = ((U / v1 : Nat) : Int) := by rw [s4, s2]; exact b1
 have s9 : A.bin .sub .u64 (A.bin .or .u64 (A.bin .shl .u64 (h : Int) (A.wrap .u64 (s : Int))) (A.bin .shr .u64 (l : Int) (A.bin .sub .u64 64 (A.wrap .u64 (s : Int))))) (A.bin .mul .u64 (A.bin .quo .u64 (A.bin .or .u64 (A.bin .shl .u64 (h : Int) (A.wrap .u64 (s : Int))) (A.bin .shr .u64 (l : Int) (A.bin .sub .u64 64 (A.wrap .u64 (s : Int))))) (A.bin .shr .u64 (A.bin .shl .u64 (y : Int) (A.wrap .u64 (s : Int))) 32)) (A.bin .shr .u64 (A.bin .shl .u64 (y : Int) (A.wrap .u64 (s : Int))) 32)) = ((U % v1 : Nat) : Int) := by rw [s4, s2]; exact b2
 have k1 : A.okb .shl (A.wrap .u64 (s : Int)) = true := by rw [a1]; exact a2
 have k2 : A.okb .shr (A.bin .sub .u64 64 (A.wrap .u64 (s : Int))) = true := by rw [a1]; exact a4
 have k3 : A.okb .quo (A.bin .shr .u64 (A.bin .shl .u64 (y : Int) (A.wrap .u64 (s : Int))) 32) = true := by rw [s2]; exact okq
 have w1 : A.bin .quo .u64 (A.bin .sub .u64 (A.bin .add .u64 (A.bin .mul .u64 (U : Int) 4294967296) (u1 : Int)) (A.bin .mul .u64 (Q1 : Int) (vn : Int))) (v1 : Int) = ((Rm / v1 : Nat) : Int) := by rw [a12]; exact b3
 have w2 : A.bin .sub .u64 (A.bin .sub .u64 (A.bin .add .u64 (A.bin .mul .u64 (U : Int) 4294967296) (u1 : Int)) (A.bin .mul .u64 (Q1 : Int) (vn : Int))) (A.bin .mul .u64 (A.bin .quo .u64 (A.bin .sub .u64 (A.bin .add .u64 (A.bin .mul .u64 (U : Int) 4294967296) (u1 : Int)) (A.bin .mul .u64 (Q1 : Int) (vn : Int))) (v1 : Int)) (v1 : Int)) = ((Rm % v1 : Nat) : Int) := by rw [a12]; exact b4
 clear b1 b2 b3 b4 a4 a5 a6 a7 a8 a9 a10 a11 q15 t0 ar hq1 UW RW v1p v1l v0l u1l u0l hy0 hhy hh0
 unfold bodyOf Try.f61
 cbv
 refine ABr.f t1 ?_
 cbv
 refine ABr.f t2 ?_
 cbv
 refine ABr.f t3 ?_
 cbv
 refine aF hS cl ?_
 cbv
 repeat ((first | refine .mk k1 ?_ | refine .mk k2 ?_ | refine .mk k3 ?_); cbv)
 refine .inv (α := Nat × Nat) (fun p => ⟨[.any, .any, .s .u64 ((vn : Nat) : Int), .any, .any, .any, .any, .any, .s .u64 ((s : Nat) : Int), .s .u64 ((v1 : Nat) : Int), .s .u64 ((v0 : Nat) : Int), .s .u64 ((U : Nat) : Int), .any, .s .u64 ((u1 : Nat) : Int), .s .u64 ((u0 : Nat) : Int), .s .u64 ((p.1 : Nat) : Int), .s .u64 ((p.2 : Nat) : Int), .any, .any, .any, .any, .any, .any, .any, .any, .any, .any, .any, .any, .any, .any, .any, .any, .any, .any, .any, .any, .any, .any, .any, .any, .any, .any, .any, .any, .any, .any, .any, .any, .any, .any, .any, .any, .any, .any, .any, .any, .any, .any, .any, .any, .any, .any, .any, .any, .any, .any, .any, .any, .any, .any, .any, .any, .any, .any, .any, .any, .any, .any, .any, .any, .any, .any, .any, .any, .any, .any, .any, .any, .any, .any, .any, .any, .any, .any, .any, .any, .any, .any, .any, .any, .any, .any, .any, .any, .any, .any, .any, .any, .any, .any, .any, .any, .any, .any, .any, .any, .any, .any, .any, .any, .any, .any, .any, .any, .any, .any, .any, .any, .any, .any, .any, .any, .any, .any], []⟩) (fun p => DP 4294967296 U v1 Q1 p.1 p.2) (fun p => p.1) (U / v1, U % v1) ?_ start1 ?_
 . clear start1 start0 rnd
   generalize U / v1 = d1 at *
   generalize U % v1 = d2 at *
   cbv
   repeat' (first | exact a1 | exact s1 | exact s2 | exact s3 | exact s4 | exact s6 | exact s7 | exact s8 | exact s9 | exact rfl | exact trivial | constructor)
 clear s1 s2 s3 s4 s5 s6 s7 s8 s9 k1 k2 k3 start1 t1 t2 t3 a1
 rintro ⟨a, b⟩ hp
 dsimp only at hp ⊢
 have hr := rnd U u1 Q1 a b g1 hp
 clear hp
 have tail : ∀ X : Prop, X → X := fun _ h => h
 rcases hr with ⟨hE, h1, h2⟩ | ⟨hc, e1, e2, hn⟩
 . rw [hE] at h1 h2 ⊢
   clear hE
   cbv
   repeat ((first | refine ABr.t (by assumption) ?_ | refine ABr.f (by assumption) ?_); cbv)
   refine .mk okq ?_
   cbv
   refine .inv (α := Nat × Nat) (fun p => ⟨[.any, .any, .s .u64 ((vn : Nat) : Int), .any, .any, .any, .any, .any, .s .u64 ((s : Nat) : Int), .s .u64 ((v1 : Nat) : Int), .s .u64 ((v0 : Nat) : Int), .any, .any, .any, .s .u64 ((u0 : Nat) : Int), .s .u64 ((Q1 : Nat) : Int), .s .u64 ((p.2 : Nat) : Int), .s .u64 ((Rm : Nat) : Int), .s .u64 ((p.1 : Nat) : Int), .any, .any, .any, .any, .any, .any, .any, .any, .any, .any, .any, .any, .any, .any, .any, .any, .any, .any, .any, .any, .any, .any, .any, .any, .any, .any, .any, .any, .any, .any, .any, .any, .any, .any, .any, .any, .any, .any, .any, .any, .any, .any, .any, .any, .any, .any, .any, .any, .any, .any, .any, .any, .any, .any, .any, .any, .any, .any, .any, .any, .any, .any, .any, .any, .any, .any, .any, .any, .any, .any, .any, .any, .any, .any, .any, .any, .any, .any, .any, .any, .any, .any, .any, .any, .any, .any, .any, .any, .any, .any, .any, .any, .any, .any, .any, .any, .any, .any, .any, .any, .any, .any, .any, .any, .any, .any, .any, .any, .any, .any, .any, .any, .any, .any, .any, .any], []⟩) (fun p => DP 4294967296 Rm v1 Q0 p.1 p.2) (fun p => p.1) (Rm / v1, Rm % v1) ?_ start0 ?_
   . clear start0 rnd
     generalize Rm / v1 = d1 at *
     generalize Rm % v1 = d2 at *
     cbv
     skip
     repeat' (first | exact a12 | exact w1 | exact w2 | exact rfl | exact trivial | constructor)
   clear start0 w1 w2 a12
   rintro ⟨c, d⟩ hp
   dsimp only at hp ⊢
   have hr := rnd Rm u0 Q0 c d g0 hp
   clear hp rnd
   rcases hr with ⟨hE, h1, h2⟩ | ⟨hc, f1, f2, hn⟩
   . rw [hE] at h1 h2 ⊢
     clear hE
     cbv
     repeat ((first | refine ABr.t (by assumption) ?_ | refine ABr.f (by assumption) ?_); cbv)
     refine .mk a3 ?_
     cbv
     repeat' (first | exact a13 | exact a14 | exact rfl | exact trivial | constructor)
   . obtain ⟨c', hc'⟩ : ∃ c', c' = c - 1 := ⟨_, rfl⟩
     obtain ⟨d', hd'⟩ : ∃ d', d' = d + v1 := ⟨_, rfl⟩
     rw [← hc'] at f1 hn
     rw [← hd'] at f2 hn
     clear hc' hd'
     rcases hn with ⟨hE, h3⟩ | ⟨h3, hm, hl⟩
     . rw [hE] at f1
       clear hE
       rw [← f1] at a13 a14
       rcases hc with h1 | ⟨h1, h2⟩
       . cbv
         repeat ((first | refine ABr.t (by assumption) ?_ | refine ABr.f (by assumption) ?_); cbv)
         refine .mk a3 ?_
         cbv
         repeat' (first | exact a13 | exact a14 | exact rfl | exact trivial | constructor)
       . cbv
         repeat ((first | refine ABr.t (by assumption) ?_ | refine ABr.f (by assumption) ?_); cbv)
         refine .mk a3 ?_
         cbv
         repeat' (first | exact a13 | exact a14 | exact rfl | exact trivial | constructor)
     . rcases hc with h1 | ⟨h1, h2⟩
       . cbv
         repeat ((first | refine ABr.t (by assumption) ?_ | refine ABr.f (by assumption) ?_); cbv)
         refine ⟨(c', d'), ?_, hm, hl⟩
         cbv
         repeat' (first | exact f1 | exact f2 | exact rfl | exact trivial | constructor)
       . cbv
         repeat ((first | refine ABr.t (by assumption) ?_ | refine ABr.f (by assumption) ?_); cbv)
         refine ⟨(c', d'), ?_, hm, hl⟩
         cbv
         repeat' (first | exact f1 | exact f2 | exact rfl | exact trivial | constructor)
 . obtain ⟨a', ha'⟩ : ∃ a', a' = a - 1 := ⟨_, rfl⟩
   obtain ⟨b', hb'⟩ : ∃ b', b' = b + v1 := ⟨_, rfl⟩
   rw [← ha'] at e1 hn
   rw [← hb'] at e2 hn
   clear ha' hb'
   rcases hn with ⟨hE, h3⟩ | ⟨h3, hm, hl⟩
   . rw [hE] at e1
     clear hE
     rcases hc with h1 | ⟨h1, h2⟩
     . cbv
       repeat ((first | refine ABr.t (by assumption) ?_ | refine ABr.f (by assumption) ?_); cbv)
       rw [← e1] at a12 w1 w2
       refine .mk okq ?_
       cbv
       refine .inv (α := Nat × Nat) (fun p => ⟨[.any, .any, .s .u64 ((vn : Nat) : Int), .any, .any, .any, .any, .any, .s .u64 ((s : Nat) : Int), .s .u64 ((v1 : Nat) : Int), .s .u64 ((v0 : Nat) : Int), .any, .any, .any, .s .u64 ((u0 : Nat) : Int), .s .u64 ((Q1 : Nat) : Int), .s .u64 ((p.2 : Nat) : Int), .s .u64 ((Rm : Nat) : Int), .s .u64 ((p.1 : Nat) : Int), .any, .any, .any, .any, .any, .any, .any, .any, .any, .any, .any, .any, .any, .any, .any, .any, .any, .any, .any, .any, .any, .any, .any, .any, .any, .any, .any, .any, .any, .any, .any, .any, .any, .any, .any, .any, .any, .any, .any, .any, .any, .any, .any, .any, .any, .any, .any, .any, .any, .any, .any, .any, .any, .any, .any, .any, .any, .any, .any, .any, .any, .any, .any, .any, .any, .any, .any, .any, .any, .any, .any, .any, .any, .any, .any, .any, .any, .any, .any, .any, .any, .any, .any, .any, .any, .any, .any, .any, .any, .any, .any, .any, .any, .any, .any, .any, .any, .any, .any, .any, .any, .any, .any, .any, .any, .any, .any, .any, .any, .any, .any, .any, .any, .any, .any, .any], []⟩) (fun p => DP 4294967296 Rm v1 Q0 p.1 p.2) (fun p => p.1) (Rm / v1, Rm % v1) ?_ start0 ?_
       . clear start0 rnd
         generalize Rm / v1 = d1 at *
         generalize Rm % v1 = d2 at *
         cbv
         skip
         repeat' (first | exact a12 | exact e1 | exact w1 | exact w2 | exact rfl | exact trivial | constructor)
       clear start0 w1 w2 a12
       rintro ⟨c, d⟩ hp
       dsimp only at hp ⊢
       have hr := rnd Rm u0 Q0 c d g0 hp
       clear hp rnd
       rcases hr with ⟨hE, h1, h2⟩ | ⟨hc, f1, f2, hn⟩
       . rw [hE] at h1 h2 ⊢
         clear hE
         cbv
         repeat ((first | refine ABr.t (by assumption) ?_ | refine ABr.f (by assumption) ?_); cbv)
         refine .mk a3 ?_
         cbv
         repeat' (first | exact a13 | exact a14 | exact rfl | exact trivial | constructor)
       . obtain ⟨c', hc'⟩ : ∃ c', c' = c - 1 := ⟨_, rfl⟩
         obtain ⟨d', hd'⟩ : ∃ d', d' = d + v1 := ⟨_, rfl⟩
         rw [← hc'] at f1 hn
         rw [← hd'] at f2 hn
         clear hc' hd'
         rcases hn with ⟨hE, h3⟩ | ⟨h3, hm, hl⟩
         . rw [hE] at f1
           clear hE
           rw [← f1] at a13 a14
           rcases hc with h1 | ⟨h1, h2⟩
           . cbv
             repeat ((first | refine ABr.t (by assumption) ?_ | refine ABr.f (by assumption) ?_); cbv)
             refine .mk a3 ?_
             cbv
             repeat' (first | exact a13 | exact a14 | exact rfl | exact trivial | constructor)
           . cbv
             repeat ((first | refine ABr.t (by assumption) ?_ | refine ABr.f (by assumption) ?_); cbv)
             refine .mk a3 ?_
             cbv
             repeat' (first | exact a13 | exact a14 | exact rfl | exact trivial | constructor)
         . rcases hc with h1 | ⟨h1, h2⟩
           . cbv
             repeat ((first | refine ABr.t (by assumption) ?_ | refine ABr.f (by assumption) ?_); cbv)
             refine ⟨(c', d'), ?_, hm, hl⟩
             cbv
             repeat' (first | exact f1 | exact f2 | exact rfl | exact trivial | constructor)
           . cbv
             repeat ((first | refine ABr.t (by assumption) ?_ | refine ABr.f (by assumption) ?_); cbv)
             refine ⟨(c', d'), ?_, hm, hl⟩
             cbv
             repeat' (first | exact f1 | exact f2 | exact rfl | exact trivial | constructor)
     . cbv
       repeat ((first | refine ABr.t (by assumption) ?_ | refine ABr.f (by assumption) ?_); cbv)
       rw [← e1] at a12 w1 w2
       refine .mk okq ?_
       cbv
       refine .inv (α := Nat × Nat) (fun p => ⟨[.any, .any, .s .u64 ((vn : Nat) : Int), .any, .any, .any, .any, .any, .s .u64 ((s : Nat) : Int), .s .u64 ((v1 : Nat) : Int), .s .u64 ((v0 : Nat) : Int), .any, .any, .any, .s .u64 ((u0 : Nat) : Int), .s .u64 ((Q1 : Nat) : Int), .s .u64 ((p.2 : Nat) : Int), .s .u64 ((Rm : Nat) : Int), .s .u64 ((p.1 : Nat) : Int), .any, .any, .any, .any, .any, .any, .any, .any, .any, .any, .any, .any, .any, .any, .any, .any, .any, .any, .any, .any, .any, .any, .any, .any, .any, .any, .any, .any, .any, .any, .any, .any, .any, .any, .any, .any, .any, .any, .any, .any, .any, .any, .any, .any, .any, .any, .any, .any, .any, .any, .any, .any, .any, .any, .any, .any, .any, .any, .any, .any, .any, .any, .any, .any, .any, .any, .any, .any, .any, .any, .any, .any, .any, .any, .any, .any, .any, .any, .any, .any, .any, .any, .any, .any, .any, .any, .any, .any, .any, .any, .any, .any, .any, .any, .any, .any, .any, .any, .any, .any, .any, .any, .any, .any, .any, .any, .any, .any, .any, .any, .any, .any, .any, .any, .any, .any], []⟩) (fun p => DP 4294967296 Rm v1 Q0 p.1 p.2) (fun p => p.1) (Rm / v1, Rm % v1) ?_ start0 ?_
       . clear start0 rnd
         generalize Rm / v1 = d1 at *
         generalize Rm % v1 = d2 at *
         cbv
         skip
         repeat' (first | exact a12 | exact e1 | exact w1 | exact w2 | exact rfl | exact trivial | constructor)
       clear start0 w1 w2 a12
       rintro ⟨c, d⟩ hp
       dsimp only at hp ⊢
       have hr := rnd Rm u0 Q0 c d g0 hp
       clear hp rnd
       rcases hr with ⟨hE, h1, h2⟩ | ⟨hc, f1, f2, hn⟩
       . rw [hE] at h1 h2 ⊢
         clear hE
         cbv
         repeat ((first | refine ABr.t (by assumption) ?_ | refine ABr.f (by assumption) ?_); cbv)
         refine .mk a3 ?_
         cbv
         repeat' (first | exact a13 | exact a14 | exact rfl | exact trivial | constructor)
       . obtain ⟨c', hc'⟩ : ∃ c', c' = c - 1 := ⟨_, rfl⟩
         obtain ⟨d', hd'⟩ : ∃ d', d' = d + v1 := ⟨_, rfl⟩
         rw [← hc'] at f1 hn
         rw [← hd'] at f2 hn
         clear hc' hd'
         rcases hn with ⟨hE, h3⟩ | ⟨h3, hm, hl⟩
         . rw [hE] at f1
           clear hE
           rw [← f1] at a13 a14
           rcases hc with h1 | ⟨h1, h2⟩
           . cbv
             repeat ((first | refine ABr.t (by assumption) ?_ | refine ABr.f (by assumption) ?_); cbv)
             refine .mk a3 ?_
             cbv
             repeat' (first | exact a13 | exact a14 | exact rfl | exact trivial | constructor)
           . cbv
             repeat ((first | refine ABr.t (by assumption) ?_ | refine ABr.f (by assumption) ?_); cbv)
             refine .mk a3 ?_
             cbv
             repeat' (first | exact a13 | exact a14 | exact rfl | exact trivial | constructor)
         . rcases hc with h1 | ⟨h1, h2⟩
           . cbv
             repeat ((first | refine ABr.t (by assumption) ?_ | refine ABr.f (by assumption) ?_); cbv)
             refine ⟨(c', d'), ?_, hm, hl⟩
             cbv
             repeat' (first | exact f1 | exact f2 | exact rfl | exact trivial | constructor)
           . cbv
             repeat ((first | refine ABr.t (by assumption) ?_ | refine ABr.f (by assumption) ?_); cbv)
             refine ⟨(c', d'), ?_, hm, hl⟩
             cbv
             repeat' (first | exact f1 | exact f2 | exact rfl | exact trivial | constructor)
   . rcases hc with h1 | ⟨h1, h2⟩
     . cbv
       repeat ((first | refine ABr.t (by assumption) ?_ | refine ABr.f (by assumption) ?_); cbv)
       refine ⟨(a', b'), ?_, hm, hl⟩
       cbv
       repeat' (first | exact e1 | exact e2 | exact rfl | exact trivial | constructor)
     . cbv
       repeat ((first | refine ABr.t (by assumption) ?_ | refine ABr.f (by assumption) ?_); cbv)
       refine ⟨(a', b'), ?_, hm, hl⟩
       cbv
       repeat' (first | exact e1 | exact e2 | exact rfl | exact trivial | constructor)
theorem b_and32 {A : Ar} (hA : A = Ar.real) (a : Nat) (ha : a < 18446744073709551616) : A.bin .and .u64 (a : Int) 4294967295 = ((a % 4294967296 : Nat) : Int) := by rw [hA]; exact u_mask a 32 (by decide) ha
theorem b_orHi {A : Ar} (hA : A = Ar.real) (a b k : Nat) (ha : a < 2 ^ k) (hk : k ≤ 64) (h : b * 2 ^ k < 18446744073709551616) (ha2 : a < 18446744073709551616) : A.bin .or .u64 ((b * 2 ^ k : Nat) : Int) (a : Int) = ((b * 2 ^ k + a : Nat) : Int) := by
 rw [hA]
 have h2 : 2 ^ k * b < 18446744073709551616 := by rw [Nat.mul_comm]; exact h
 have e := u_or_add a b k ha h2 hk
 have e3 : rbin .or .u64 ((b * 2 ^ k : Nat) : Int) (a : Int) = rbin .or .u64 (a : Int) ((2 ^ k * b : Nat) : Int) := by
   rw [Nat.mul_comm]
   refine (u_or _ _ h2 ha2).trans (Eq.trans ?_ (u_or _ _ ha2 h2).symm)
   rw [Nat.or_comm]
 exact (e3.trans e).trans (congrArg Int.ofNat (by rw [Nat.add_comm, Nat.mul_comm]))
theorem q_two {a b : Nat} (ha : a < 4294967296) (hb : b < 4294967296) : a * 4294967296 < 18446744073709551616 ∧ a * 4294967296 + b < 18446744073709551616 := by omega
theorem div64S (h l y q r : Nat) (hl : l < 18446744073709551616) (hhy : h < y) (hyW : y < 18446744073709551616) (hq : q = (h * 18446744073709551616 + l) / y) (hr : r = (h * 18446744073709551616 + l) % y) : Sp 61 [.s .u64 (h : Int), .s .u64 (l : Int), .s .u64 (y : Int)] (.tup [.s .u64 (q : Int), .s .u64 (r : Int)]) := by
 by_cases h0 : h = 0
 . subst h0
   rw [Nat.zero_mul, Nat.zero_add] at hq hr
   subst hq hr
   exact div64_zero l y hl hhy hyW
 obtain ⟨n, hn⟩ := isLen_ex y
 have hn64 : n ≤ 64 := hn.ge (show y < 2 ^ 64 by omega)
 have hn1 : 0 < n := by
   rcases Nat.eq_zero_or_pos n with e | e
   . have := hn.1; rw [e] at this; omega
   . exact e
 have hlo := hn.2 hn1
 obtain ⟨s, hs⟩ : ∃ s, s = 64 - n := ⟨_, rfl⟩
 have hs64 : s < 64 := by omega
 have cl := lzGen y n hyW hn hn64
 rw [← hs] at cl
 obtain ⟨vn, hvn⟩ : ∃ vn, vn = y * 2 ^ s := ⟨_, rfl⟩
 have vhi : vn < 18446744073709551616 := by
   rw [hvn]
   have : y * 2 ^ s < 2 ^ n * 2 ^ s := Nat.mul_lt_mul_of_pos_right hn.1 (Nat.two_pow_pos _)
   rw [← Nat.pow_add, show n + s = 64 by omega] at this
   exact this
 have vlo : 9223372036854775808 ≤ vn := by
   rw [hvn]
   have : 2 ^ (n - 1) * 2 ^ s ≤ y * 2 ^ s := Nat.mul_le_mul_right _ hlo
   rw [← Nat.pow_add, show n - 1 + s = 63 by omega] at this
   exact this
 obtain ⟨t, ht⟩ : ∃ t, t = l / 2 ^ (64 - s) := ⟨_, rfl⟩
 obtain ⟨un, hun⟩ : ∃ un, un = l * 2 ^ s % 18446744073709551616 := ⟨_, rfl⟩
 obtain ⟨U, hU⟩ : ∃ U, U = h * 2 ^ s + t := ⟨_, rfl⟩
 have tlt : t < 2 ^ s := by
   rw [ht, Nat.div_lt_iff_lt_mul (Nat.two_pow_pos _), ← Nat.pow_add, show s + (64 - s) = 64 by omega]; exact hl
 have tq : l * 2 ^ s / 18446744073709551616 = t := by
   rw [ht, show 18446744073709551616 = 2 ^ (64 - s) * 2 ^ s by rw [← Nat.pow_add, show 64 - s + s = 64 by omega]]
   exact Nat.mul_div_mul_right _ _ (Nat.two_pow_pos _)
 have hN : (h * 18446744073709551616 + l) * 2 ^ s = U * 18446744073709551616 + un := by
   have e := Nat.mod_add_div (l * 2 ^ s) 18446744073709551616
   rw [tq, ← hun] at e
   rw [hU, Nat.add_mul, Nat.add_mul, ← e, Nat.mul_right_comm]
   omega
 have unW : un < 18446744073709551616 := by rw [hun]; exact Nat.mod_lt _ (by decide)
 have hNy : h * 18446744073709551616 + l < y * 18446744073709551616 := by omega
 have Uv : U < vn := by
   have h1 : (h * 18446744073709551616 + l) * 2 ^ s < y * 18446744073709551616 * 2 ^ s := Nat.mul_lt_mul_of_pos_right hNy (Nat.two_pow_pos _)
   rw [hN, Nat.mul_right_comm, ← hvn] at h1
   omega
 obtain ⟨v1, hv1⟩ : ∃ v1, v1 = vn / 4294967296 := ⟨_, rfl⟩
 obtain ⟨v0, hv0⟩ : ∃ v0, v0 = vn % 4294967296 := ⟨_, rfl⟩
 obtain ⟨u1, hu1⟩ : ∃ u1, u1 = un / 4294967296 := ⟨_, rfl⟩
 obtain ⟨u0, hu0⟩ : ∃ u0, u0 = un % 4294967296 := ⟨_, rfl⟩
 have hvv : v1 * 4294967296 + v0 = vn := by omega
 obtain ⟨Q1, hQ1⟩ : ∃ Q1, Q1 = (U * 4294967296 + u1) / vn := ⟨_, rfl⟩
 obtain ⟨Rm, hRm⟩ : ∃ Rm, Rm = (U * 4294967296 + u1) % vn := ⟨_, rfl⟩
 obtain ⟨Q0, hQ0⟩ : ∃ Q0, Q0 = (Rm * 4294967296 + u0) / vn := ⟨_, rfl⟩
 obtain ⟨R0, hR0⟩ : ∃ R0, R0 = (Rm * 4294967296 + u0) % vn := ⟨_, rfl⟩
 have vpos : 0 < vn := by omega
 have Rlt : Rm < vn := by rw [hRm]; exact Nat.mod_lt _ vpos
 have R0lt : R0 < vn := by rw [hR0]; exact Nat.mod_lt _ vpos
 have g1 : DGuess 4294967296 U u1 v1 v0 Q1 := ⟨by omega, by omega, by omega, by omega, by omega, by rw [hvv]; exact hQ1⟩
 have g0 : DGuess 4294967296 Rm u0 v1 v0 Q0 := ⟨by omega, by omega, by omega, by omega, by omega, by rw [hvv]; exact hQ0⟩
 have d1 : U * 4294967296 + u1 = Q1 * vn + Rm := by
   have e := Nat.div_add_mod (U * 4294967296 + u1) vn
   rw [← hQ1, ← hRm, Nat.mul_comm vn] at e; exact e.symm
 have d0 : Rm * 4294967296 + u0 = Q0 * vn + R0 := by
   have e := Nat.div_add_mod (Rm * 4294967296 + u0) vn
   rw [← hQ0, ← hR0, Nat.mul_comm vn] at e; exact e.symm
 obtain ⟨D1, D2⟩ := div_two vpos d1 d0 R0lt
 have eN : U * (4294967296 * 4294967296) + u1 * 4294967296 + u0 = (h * 18446744073709551616 + l) * 2 ^ s := by
   rw [hN, show (4294967296 * 4294967296 : Nat) = 18446744073709551616 from rfl]
   have eu : un = u1 * 4294967296 + u0 := by rw [hu1, hu0]; exact (Nat.div_add_mod' un 4294967296).symm
   rw [eu, Nat.add_assoc]
 rw [eN, hvn, Nat.mul_div_mul_right _ _ (Nat.two_pow_pos _), ← hq] at D1
 rw [eN, hvn, Nat.mul_mod_mul_right, ← hr] at D2
 have qW : q < 18446744073709551616 := by rw [hq]; exact (Nat.div_lt_iff_lt_mul (Nat.lt_of_le_of_lt (Nat.zero_le _) hhy)).2 (by rw [Nat.mul_comm 18446744073709551616 y]; exact hNy)
 have Q1l := g1.lt
 have Q0l := g0.lt
 have UW : U < 18446744073709551616 := Nat.lt_trans Uv vhi
 have RW : Rm < 18446744073709551616 := Nat.lt_trans Rlt vhi
 have R0W : R0 < 18446744073709551616 := Nat.lt_trans R0lt vhi
 have u1W : u1 < 18446744073709551616 := Nat.lt_of_le_of_lt (by rw [hu1]; exact Nat.div_le_self _ _) unW
 have u0W : u0 < 18446744073709551616 := Nat.lt_of_le_of_lt (by rw [hu0]; exact Nat.mod_le _ _) unW
 have UW' : h * 2 ^ s + t < 18446744073709551616 := hU ▸ UW
 have hsW : h * 2 ^ s < 18446744073709551616 := Nat.lt_of_le_of_lt (Nat.le_add_right _ _) UW'
 have tW : t < 18446744073709551616 := Nat.lt_of_le_of_lt (Nat.le_add_left _ _) UW'
 obtain ⟨Q1W, QQW⟩ := q_two Q1l Q0l
 have y0 : 0 < y := Nat.lt_of_le_of_lt (Nat.zero_le _) hhy
 have hp : 0 < h := Nat.pos_of_ne_zero h0
 clear eN hN hNy
 refine div64_walk h l y s vn v1 v0 U un u1 u0 Q1 Rm Q0 q r y0 hhy hp cl g1 g0 fun A hA => ?_
 have e64 : A.bin .sub .u64 64 (s : Int) = ((64 - s : Nat) : Int) := b_sub hA 64 s (by omega) (by decide)
 refine ⟨?_, (a_okbS hA (by omega)).2, (a_okbS hA (by omega)).1, ?_, ?_, ?_, ?_, ?_, ?_, ?_, ?_, ?_, ?_, ?_⟩
 . rw [hA]; show IntKind.u64.wrap (s : Int) = _; rw [wrap_u64]; omega
 . rw [e64]; exact (a_okbS hA (by omega)).1
 . rw [hvn]; exact b_shl hA y s (by omega) (by rw [← hvn]; exact vhi)
 . rw [hv1]; exact b_shr hA vn 32 (by decide)
 . rw [hv0]; exact b_and32 hA vn vhi
 . rw [e64, b_shl hA h s (by omega) hsW, b_shr hA l (64 - s) (by omega), ← ht, hU]
   exact b_orHi hA t h s tlt (by omega) hsW tW
 . rw [hun]; exact b_shlW hA l s (by omega)
 . rw [hu1]; exact b_shr hA un 32 (by decide)
 . rw [hu0]; exact b_and32 hA un unW
 . have m1 : A.bin .mul .u64 (U : Int) 4294967296 = ((U * 4294967296 % 18446744073709551616 : Nat) : Int) := b_mulW hA U 4294967296
   rw [m1, b_addW hA, b_mulW hA, b_subW hA _ _ (Nat.le_of_lt (Nat.mod_lt _ (by decide))), d_rest d1 RW u1W]
 . have m1 : A.bin .mul .u64 (Q1 : Int) 4294967296 = ((Q1 * 4294967296 : Nat) : Int) := b_mul hA Q1 4294967296 Q1W
   rw [m1, b_add hA _ _ QQW, D1]
 . have m1 : A.bin .mul .u64 (Rm : Int) 4294967296 = ((Rm * 4294967296 % 18446744073709551616 : Nat) : Int) := b_mulW hA Rm 4294967296
   rw [m1, b_addW hA, b_mulW hA, b_subW hA _ _ (Nat.le_of_lt (Nat.mod_lt _ (by decide))), d_rest d0 R0W u0W, b_shr hA R0 s (by omega), ← D2, Nat.mul_div_cancel _ (Nat.two_pow_pos _)]
end Go.Proofs.Ytkhipnhdbaahcaa
end
section
namespace Go.Proofs.Ytkhipnhdbaahcaa
open Go Eng
def TopM (m : Nat) : Prop := m < 2 ^ 256 ∧ 18446744073709551615 * 2 ^ 192 ≤ m
theorem TopM.w3 {m : Nat} (h : TopM m) {lim : Lim} (hl : lim = limR) : lim m 3 = 18446744073709551615 := by
 subst hl
 have h1 := h.1
 have h2 := h.2
 show ((m / 2 ^ 192 % 2 ^ 64 : Nat) : Int) = _
 have : m / 2 ^ 192 = 18446744073709551615 := by
   refine Nat.le_antisymm ?_ ((Nat.le_div_iff_mul_le (Nat.two_pow_pos _)).2 h2)
   have : m / 2 ^ 192 < 2 ^ 64 := Nat.div_lt_of_lt_mul (by rw [← Nat.pow_add]; exact h1)
   omega
 rw [this]; rfl
end Go.Proofs.Ytkhipnhdbaahcaa
end
