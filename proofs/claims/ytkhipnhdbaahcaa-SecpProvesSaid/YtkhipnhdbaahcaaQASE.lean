import Derived.Test.YtkhipnhdbaahcaaQAWC
import Derived.Test.YtkhipnhdbaahcaaQAH
set_option linter.unusedVariables false
set_option linter.unusedSimpArgs false
set_option linter.unusedSectionVars false
set_option maxRecDepth 100000
set_option exponentiation.threshold 2000
set_option maxHeartbeats 4000000
section
namespace Go.Proofs.Ytkhipnhdbaahcaa
open Go Eng
theorem lzS : Sp 95 [.s .u64 18446744073709551615] (.i .i64 0) := by
 have c := len64S 18446744073709551615 64 (by decide) (by decide)
 refine mk Try.func95 rfl rfl L0 R1 (by decide +kernel) fun A S hA hS => ?_
 have h : A.bin .sub .i64 64 64 = 0 := by rw [hA]; rfl
 unfold bodyOf Try.f95
 cbv
 refine aF hS c ?_
 cbv
 exact h
theorem quo_u {x y : Nat} (hx : x < 18446744073709551616) : rbin .quo .u64 (x : Int) (y : Int) = ((x / y : Nat) : Int) := by
 show IntKind.u64.wrap (Int.tdiv x y) = _
 rw [wrap_u64]
 have : x / y ≤ x := Nat.div_le_self _ _
 rw [← Int.ofNat_tdiv]
 generalize x / y = q at *
 omega
theorem rem_u {x y : Nat} : rbin .rem .u64 (x : Int) (y : Int) = ((x % y : Nat) : Int) := Int.ofNat_tmod x y
theorem div0S (x y : Nat) (hx : x < 18446744073709551616) (hy : 0 < y) : Sp 61 [.i .u64 0, .s .u64 (x : Int), .s .u64 (y : Int)] (.tup [.s .u64 ((x / y : Nat) : Int), .s .u64 ((x % y : Nat) : Int)]) := by
 have q := quo_u (y := y) hx
 have r := rem_u (x := x) (y := y)
 generalize ((x / y : Nat) : Int) = qi at *
 generalize ((x % y : Nat) : Int) = ri at *
 obtain ⟨yi, hyi⟩ : ∃ z : Int, z = (y : Int) := ⟨_, rfl⟩
 have hy0 : yi ≠ 0 := by omega
 have hyp : ¬ yi ≤ 0 := by omega
 rw [← hyi] at q r ⊢
 generalize (x : Int) = xi at *
 clear hyi
 refine mk Try.func61 rfl rfl L0 R1 (by decide +kernel) fun A S hA hS => ?_
 have e1 := eq0_f hA hy0
 have e2 : A.cmp .leq yi 0 = false := by rw [hA]; exact decide_eq_false hyp
 have ok : A.okb .quo yi = true ∧ A.okb .rem yi = true := by
   rw [hA]
   have : rokb .quo yi = true := by show (!(yi == 0)) = true; rw [beq_eq_false_iff_ne.2 hy0]; rfl
   exact ⟨this, this⟩
 have q : A.bin .quo .u64 xi yi = qi := by rw [hA]; exact q
 have r : A.bin .rem .u64 xi yi = ri := by rw [hA]; exact r
 unfold bodyOf Try.f61
 cbv
 refine ABr.f e1 ?_
 cbv
 refine ABr.f e2 ?_
 cbv
 refine .mk ok.1 ?_
 cbv
 refine .mk ok.2 ?_
 cbv
 exact ⟨q, r⟩
theorem add00 {A : Ar} (hA : A = Ar.real) : A.bin .add .u64 0 0 = 0 := by rw [hA]; rfl
theorem mul0 (v : Int) (hv : 0 ≤ v ∧ v < 18446744073709551616) : Sp 94 [.s .u64 0, .s .u64 v] (.tup [.s .u64 0, .s .u64 0]) := by
 obtain ⟨v, rfl⟩ : ∃ n : Nat, v = n := ⟨v.toNat, by omega⟩
 exact mul64S 0 v 0 0 (by decide) (by have := hv.2; simpa using (by omega : v < 18446744073709551616)) (by rw [Nat.zero_mul]) (by decide)
theorem mul1 (v : Int) (hv : 0 ≤ v ∧ v < 18446744073709551616) : Sp 94 [.s .u64 1, .s .u64 v] (.tup [.s .u64 0, .s .u64 v]) := by
 obtain ⟨v, rfl⟩ : ∃ n : Nat, v = n := ⟨v.toNat, by omega⟩
 exact mul64S 1 v 0 v (by decide) (by have := hv.2; simpa using (by omega : v < 18446744073709551616)) (by rw [Nat.one_mul, Nat.mul_zero, Nat.add_zero]) (by have := hv.2; simpa using (by omega : v < 18446744073709551616))
theorem take0S (u0 u1 u2 u3 v0 v1 v2 v3 : Int) (hu0 : 0 ≤ u0 ∧ u0 < 18446744073709551616) (hu1 : 0 ≤ u1 ∧ u1 < 18446744073709551616) (hu2 : 0 ≤ u2 ∧ u2 < 18446744073709551616) (hu3 : 0 ≤ u3 ∧ u3 < 18446744073709551616) (hv0 : 0 ≤ v0 ∧ v0 < 18446744073709551616) (hv1 : 0 ≤ v1 ∧ v1 < 18446744073709551616) (hv2 : 0 ≤ v2 ∧ v2 < 18446744073709551616) (hv3 : 0 ≤ v3 ∧ v3 < 18446744073709551616) (C : Blk) : SpecM Try.prog 126 [⟨true, true, [.s .u64 u0, .s .u64 u1, .s .u64 u2, .s .u64 u3, .i .u64 0]⟩, ⟨true, true, [.s .u64 v0, .s .u64 v1, .s .u64 v2, .s .u64 v3, .i .u64 0]⟩, C] [.osl false 0 0 5 1, .osl false 1 0 4 1, .s .u64 0] (.sb false) [⟨true, true, [.s .u64 u0, .s .u64 u1, .s .u64 u2, .s .u64 u3, .s .u64 0]⟩, ⟨true, true, [.s .u64 v0, .s .u64 v1, .s .u64 v2, .s .u64 v3, .i .u64 0]⟩, C] := by
 refine mkM Try.func126 rfl rfl L0 R0 (by decide +kernel) fun A S hA hS => ?_
 have a00 := add00 hA
 have hne : A.cmp .neq 0 0 = false := ne0_f hA rfl
 unfold bodyOf Try.f126
 cbv
 refine ACall.mk _ (cf hS (mul0 v0 hv0)) ?_
 cbv
 refine ACall.mk (.tup [.s .u64 0, .s .u64 0]) (cg hS (add64S (x := 0) (y := 0) (z := 0) (.s _) (.i _) (.i _) (by omega) (by omega) (by omega) 0 0 (by omega) (by omega)) ?_) ?_
 . cbv
   repeat' (first | exact a00 | exact rfl | exact trivial | constructor)
 cbv
 refine ACall.mk (.tup [.s .u64 u0, .s .u64 0]) (cg hS (sub64S (x := u0) (y := 0) (z := 0) (.s _) (.s _) (.i _) hu0 (by omega) (by omega) u0 0 (by omega) hu0) ?_) ?_
 . cbv
   repeat' (first | exact rfl | exact trivial | constructor)
 cbv
 refine ACall.mk _ (cf hS (mul0 v1 hv1)) ?_
 cbv
 refine ACall.mk (.tup [.s .u64 0, .s .u64 0]) (cg hS (add64S (x := 0) (y := 0) (z := 0) (.s _) (.i _) (.i _) (by omega) (by omega) (by omega) 0 0 (by omega) (by omega)) ?_) ?_
 . cbv
   repeat' (first | exact a00 | exact rfl | exact trivial | constructor)
 cbv
 refine ACall.mk (.tup [.s .u64 u1, .s .u64 0]) (cg hS (sub64S (x := u1) (y := 0) (z := 0) (.s _) (.s _) (.i _) hu1 (by omega) (by omega) u1 0 (by omega) hu1) ?_) ?_
 . cbv
   repeat' (first | exact rfl | exact trivial | constructor)
 cbv
 refine ACall.mk _ (cf hS (mul0 v2 hv2)) ?_
 cbv
 refine ACall.mk (.tup [.s .u64 0, .s .u64 0]) (cg hS (add64S (x := 0) (y := 0) (z := 0) (.s _) (.i _) (.i _) (by omega) (by omega) (by omega) 0 0 (by omega) (by omega)) ?_) ?_
 . cbv
   repeat' (first | exact a00 | exact rfl | exact trivial | constructor)
 cbv
 refine ACall.mk (.tup [.s .u64 u2, .s .u64 0]) (cg hS (sub64S (x := u2) (y := 0) (z := 0) (.s _) (.s _) (.i _) hu2 (by omega) (by omega) u2 0 (by omega) hu2) ?_) ?_
 . cbv
   repeat' (first | exact rfl | exact trivial | constructor)
 cbv
 refine ACall.mk _ (cf hS (mul0 v3 hv3)) ?_
 cbv
 refine ACall.mk (.tup [.s .u64 0, .s .u64 0]) (cg hS (add64S (x := 0) (y := 0) (z := 0) (.s _) (.i _) (.i _) (by omega) (by omega) (by omega) 0 0 (by omega) (by omega)) ?_) ?_
 . cbv
   repeat' (first | exact a00 | exact rfl | exact trivial | constructor)
 cbv
 refine ACall.mk (.tup [.s .u64 u3, .s .u64 0]) (cg hS (sub64S (x := u3) (y := 0) (z := 0) (.s _) (.s _) (.i _) hu3 (by omega) (by omega) u3 0 (by omega) hu3) ?_) ?_
 . cbv
   repeat' (first | exact rfl | exact trivial | constructor)
 cbv
 refine ACall.mk (.tup [.s .u64 0, .s .u64 0]) (cg hS (sub64S (x := 0) (y := 0) (z := 0) (.i _) (.s _) (.s _) (by omega) (by omega) (by omega) 0 0 (by omega) (by omega)) ?_) ?_
 . cbv
   repeat' (first | exact a00 | exact rfl | exact trivial | constructor)
 cbv
 exact ⟨congrArg AVal.sb hne, trivial⟩
theorem take1S (u0 u1 u2 u3 v0 v1 v2 v3 o0 o1 o2 o3 k1 k2 k3 k4 : Int) (hu0 : 0 ≤ u0 ∧ u0 < 18446744073709551616) (hu1 : 0 ≤ u1 ∧ u1 < 18446744073709551616) (hu2 : 0 ≤ u2 ∧ u2 < 18446744073709551616) (hu3 : 0 ≤ u3 ∧ u3 < 18446744073709551616) (hv0 : 0 ≤ v0 ∧ v0 < 18446744073709551616) (hv1 : 0 ≤ v1 ∧ v1 < 18446744073709551616) (hv2 : 0 ≤ v2 ∧ v2 < 18446744073709551616) (hv3 : 0 ≤ v3 ∧ v3 < 18446744073709551616) (e0 : o0 - 18446744073709551616 * k1 = u0 - v0 - 0) (e1 : o1 - 18446744073709551616 * k2 = u1 - v1 - k1) (e2 : o2 - 18446744073709551616 * k3 = u2 - v2 - k2) (e3 : o3 - 18446744073709551616 * k4 = u3 - v3 - k3) (r0 : 0 ≤ o0 ∧ o0 < 18446744073709551616) (r1 : 0 ≤ o1 ∧ o1 < 18446744073709551616) (r2 : 0 ≤ o2 ∧ o2 < 18446744073709551616) (r3 : 0 ≤ o3 ∧ o3 < 18446744073709551616) (q1 : 0 ≤ k1 ∧ k1 ≤ 1) (q2 : 0 ≤ k2 ∧ k2 ≤ 1) (q3 : 0 ≤ k3 ∧ k3 ≤ 1) (q4 : 0 ≤ k4 ∧ k4 ≤ 1) (hk : k4 = 0) (C : Blk) : SpecM Try.prog 126 [⟨true, true, [.s .u64 u0, .s .u64 u1, .s .u64 u2, .s .u64 u3, .i .u64 0]⟩, ⟨true, true, [.s .u64 v0, .s .u64 v1, .s .u64 v2, .s .u64 v3, .i .u64 0]⟩, C] [.osl false 0 0 5 1, .osl false 1 0 4 1, .s .u64 1] (.sb false) [⟨true, true, [.s .u64 o0, .s .u64 o1, .s .u64 o2, .s .u64 o3, .s .u64 0]⟩, ⟨true, true, [.s .u64 v0, .s .u64 v1, .s .u64 v2, .s .u64 v3, .i .u64 0]⟩, C] := by
 subst hk
 refine mkM Try.func126 rfl rfl L0 R0 (by decide +kernel) fun A S hA hS => ?_
 have a00 := add00 hA
 have hne : A.cmp .neq 0 0 = false := ne0_f hA rfl
 unfold bodyOf Try.f126
 cbv
 refine ACall.mk _ (cf hS (mul1 v0 hv0)) ?_
 cbv
 refine ACall.mk (.tup [.s .u64 v0, .s .u64 0]) (cg hS (add64S (x := v0) (y := 0) (z := 0) (.s _) (.i _) (.i _) hv0.1 (by omega) (by omega) v0 0 (by omega) hv0) ?_) ?_
 . cbv
   repeat' (first | exact a00 | exact rfl | exact trivial | constructor)
 cbv
 refine ACall.mk (.tup [.s .u64 o0, .s .u64 k1]) (cg hS (sub64S (x := u0) (y := v0) (z := 0) (.s _) (.s _) (.s _) hu0 hv0 (by omega) o0 k1 (by omega) r0) ?_) ?_
 . cbv
   repeat' (first | exact rfl | exact trivial | constructor)
 cbv
 refine ACall.mk _ (cf hS (mul1 v1 hv1)) ?_
 cbv
 refine ACall.mk (.tup [.s .u64 v1, .s .u64 0]) (cg hS (add64S (x := v1) (y := 0) (z := 0) (.s _) (.i _) (.i _) hv1.1 (by omega) (by omega) v1 0 (by omega) hv1) ?_) ?_
 . cbv
   repeat' (first | exact a00 | exact rfl | exact trivial | constructor)
 cbv
 refine ACall.mk (.tup [.s .u64 o1, .s .u64 k2]) (cg hS (sub64S (x := u1) (y := v1) (z := k1) (.s _) (.s _) (.s _) hu1 hv1 q1 o1 k2 (by omega) r1) ?_) ?_
 . cbv
   repeat' (first | exact rfl | exact trivial | constructor)
 cbv
 refine ACall.mk _ (cf hS (mul1 v2 hv2)) ?_
 cbv
 refine ACall.mk (.tup [.s .u64 v2, .s .u64 0]) (cg hS (add64S (x := v2) (y := 0) (z := 0) (.s _) (.i _) (.i _) hv2.1 (by omega) (by omega) v2 0 (by omega) hv2) ?_) ?_
 . cbv
   repeat' (first | exact a00 | exact rfl | exact trivial | constructor)
 cbv
 refine ACall.mk (.tup [.s .u64 o2, .s .u64 k3]) (cg hS (sub64S (x := u2) (y := v2) (z := k2) (.s _) (.s _) (.s _) hu2 hv2 q2 o2 k3 (by omega) r2) ?_) ?_
 . cbv
   repeat' (first | exact rfl | exact trivial | constructor)
 cbv
 refine ACall.mk _ (cf hS (mul1 v3 hv3)) ?_
 cbv
 refine ACall.mk (.tup [.s .u64 v3, .s .u64 0]) (cg hS (add64S (x := v3) (y := 0) (z := 0) (.s _) (.i _) (.i _) hv3.1 (by omega) (by omega) v3 0 (by omega) hv3) ?_) ?_
 . cbv
   repeat' (first | exact a00 | exact rfl | exact trivial | constructor)
 cbv
 refine ACall.mk (.tup [.s .u64 o3, .s .u64 0]) (cg hS (sub64S (x := u3) (y := v3) (z := k3) (.s _) (.s _) (.s _) hu3 hv3 q3 o3 0 (by omega) r3) ?_) ?_
 . cbv
   repeat' (first | exact rfl | exact trivial | constructor)
 cbv
 refine ACall.mk (.tup [.s .u64 0, .s .u64 0]) (cg hS (sub64S (x := 0) (y := 0) (z := 0) (.i _) (.s _) (.s _) (by omega) (by omega) (by omega) 0 0 (by omega) (by omega)) ?_) ?_
 . cbv
   repeat' (first | exact a00 | exact rfl | exact trivial | constructor)
 cbv
 exact ⟨congrArg AVal.sb hne, trivial⟩
theorem take1bS (u0 u1 u2 u3 v0 v1 v2 v3 o0 o1 o2 o3 k1 k2 k3 k4 : Int) (hu0 : 0 ≤ u0 ∧ u0 < 18446744073709551616) (hu1 : 0 ≤ u1 ∧ u1 < 18446744073709551616) (hu2 : 0 ≤ u2 ∧ u2 < 18446744073709551616) (hu3 : 0 ≤ u3 ∧ u3 < 18446744073709551616) (hv0 : 0 ≤ v0 ∧ v0 < 18446744073709551616) (hv1 : 0 ≤ v1 ∧ v1 < 18446744073709551616) (hv2 : 0 ≤ v2 ∧ v2 < 18446744073709551616) (hv3 : 0 ≤ v3 ∧ v3 < 18446744073709551616) (e0 : o0 - 18446744073709551616 * k1 = u0 - v0 - 0) (e1 : o1 - 18446744073709551616 * k2 = u1 - v1 - k1) (e2 : o2 - 18446744073709551616 * k3 = u2 - v2 - k2) (e3 : o3 - 18446744073709551616 * k4 = u3 - v3 - k3) (r0 : 0 ≤ o0 ∧ o0 < 18446744073709551616) (r1 : 0 ≤ o1 ∧ o1 < 18446744073709551616) (r2 : 0 ≤ o2 ∧ o2 < 18446744073709551616) (r3 : 0 ≤ o3 ∧ o3 < 18446744073709551616) (q1 : 0 ≤ k1 ∧ k1 ≤ 1) (q2 : 0 ≤ k2 ∧ k2 ≤ 1) (q3 : 0 ≤ k3 ∧ k3 ≤ 1) (q4 : 0 ≤ k4 ∧ k4 ≤ 1) (hk : k4 = 1) (C : Blk) : SpecM Try.prog 126 [⟨true, true, [.s .u64 u0, .s .u64 u1, .s .u64 u2, .s .u64 u3, .i .u64 0]⟩, ⟨true, true, [.s .u64 v0, .s .u64 v1, .s .u64 v2, .s .u64 v3, .i .u64 0]⟩, C] [.osl false 0 0 5 1, .osl false 1 0 4 1, .s .u64 1] (.sb true) [⟨true, true, [.s .u64 o0, .s .u64 o1, .s .u64 o2, .s .u64 o3, .s .u64 18446744073709551615]⟩, ⟨true, true, [.s .u64 v0, .s .u64 v1, .s .u64 v2, .s .u64 v3, .i .u64 0]⟩, C] := by
 subst hk
 refine mkM Try.func126 rfl rfl L0 R0 (by decide +kernel) fun A S hA hS => ?_
 have a00 := add00 hA
 have hne : A.cmp .neq 1 0 = true := ne0_t hA (by decide)
 unfold bodyOf Try.f126
 cbv
 refine ACall.mk _ (cf hS (mul1 v0 hv0)) ?_
 cbv
 refine ACall.mk (.tup [.s .u64 v0, .s .u64 0]) (cg hS (add64S (x := v0) (y := 0) (z := 0) (.s _) (.i _) (.i _) hv0.1 (by omega) (by omega) v0 0 (by omega) hv0) ?_) ?_
 . cbv
   repeat' (first | exact a00 | exact rfl | exact trivial | constructor)
 cbv
 refine ACall.mk (.tup [.s .u64 o0, .s .u64 k1]) (cg hS (sub64S (x := u0) (y := v0) (z := 0) (.s _) (.s _) (.s _) hu0 hv0 (by omega) o0 k1 (by omega) r0) ?_) ?_
 . cbv
   repeat' (first | exact rfl | exact trivial | constructor)
 cbv
 refine ACall.mk _ (cf hS (mul1 v1 hv1)) ?_
 cbv
 refine ACall.mk (.tup [.s .u64 v1, .s .u64 0]) (cg hS (add64S (x := v1) (y := 0) (z := 0) (.s _) (.i _) (.i _) hv1.1 (by omega) (by omega) v1 0 (by omega) hv1) ?_) ?_
 . cbv
   repeat' (first | exact a00 | exact rfl | exact trivial | constructor)
 cbv
 refine ACall.mk (.tup [.s .u64 o1, .s .u64 k2]) (cg hS (sub64S (x := u1) (y := v1) (z := k1) (.s _) (.s _) (.s _) hu1 hv1 q1 o1 k2 (by omega) r1) ?_) ?_
 . cbv
   repeat' (first | exact rfl | exact trivial | constructor)
 cbv
 refine ACall.mk _ (cf hS (mul1 v2 hv2)) ?_
 cbv
 refine ACall.mk (.tup [.s .u64 v2, .s .u64 0]) (cg hS (add64S (x := v2) (y := 0) (z := 0) (.s _) (.i _) (.i _) hv2.1 (by omega) (by omega) v2 0 (by omega) hv2) ?_) ?_
 . cbv
   repeat' (first | exact a00 | exact rfl | exact trivial | constructor)
 cbv
 refine ACall.mk (.tup [.s .u64 o2, .s .u64 k3]) (cg hS (sub64S (x := u2) (y := v2) (z := k2) (.s _) (.s _) (.s _) hu2 hv2 q2 o2 k3 (by omega) r2) ?_) ?_
 . cbv
   repeat' (first | exact rfl | exact trivial | constructor)
 cbv
 refine ACall.mk _ (cf hS (mul1 v3 hv3)) ?_
 cbv
 refine ACall.mk (.tup [.s .u64 v3, .s .u64 0]) (cg hS (add64S (x := v3) (y := 0) (z := 0) (.s _) (.i _) (.i _) hv3.1 (by omega) (by omega) v3 0 (by omega) hv3) ?_) ?_
 . cbv
   repeat' (first | exact a00 | exact rfl | exact trivial | constructor)
 cbv
 refine ACall.mk (.tup [.s .u64 o3, .s .u64 1]) (cg hS (sub64S (x := u3) (y := v3) (z := k3) (.s _) (.s _) (.s _) hu3 hv3 q3 o3 1 (by omega) r3) ?_) ?_
 . cbv
   repeat' (first | exact rfl | exact trivial | constructor)
 cbv
 refine ACall.mk (.tup [.s .u64 18446744073709551615, .s .u64 1]) (cg hS (sub64S (x := 0) (y := 0) (z := 1) (.i _) (.s _) (.s _) (by omega) (by omega) (by omega) 18446744073709551615 1 (by omega) (by omega)) ?_) ?_
 . cbv
   repeat' (first | exact a00 | exact rfl | exact trivial | constructor)
 cbv
 exact ⟨congrArg AVal.sb hne, trivial⟩
theorem giveS (u0 u1 u2 u3 v0 v1 v2 v3 o0 o1 o2 o3 k1 k2 k3 k4 : Int) (hu0 : 0 ≤ u0 ∧ u0 < 18446744073709551616) (hu1 : 0 ≤ u1 ∧ u1 < 18446744073709551616) (hu2 : 0 ≤ u2 ∧ u2 < 18446744073709551616) (hu3 : 0 ≤ u3 ∧ u3 < 18446744073709551616) (hv0 : 0 ≤ v0 ∧ v0 < 18446744073709551616) (hv1 : 0 ≤ v1 ∧ v1 < 18446744073709551616) (hv2 : 0 ≤ v2 ∧ v2 < 18446744073709551616) (hv3 : 0 ≤ v3 ∧ v3 < 18446744073709551616) (e0 : o0 - 18446744073709551616 * k1 = u0 - v0 - 0) (e1 : o1 - 18446744073709551616 * k2 = u1 - v1 - k1) (e2 : o2 - 18446744073709551616 * k3 = u2 - v2 - k2) (e3 : o3 - 18446744073709551616 * k4 = u3 - v3 - k3) (r0 : 0 ≤ o0 ∧ o0 < 18446744073709551616) (r1 : 0 ≤ o1 ∧ o1 < 18446744073709551616) (r2 : 0 ≤ o2 ∧ o2 < 18446744073709551616) (r3 : 0 ≤ o3 ∧ o3 < 18446744073709551616) (q1 : 0 ≤ k1 ∧ k1 ≤ 1) (q2 : 0 ≤ k2 ∧ k2 ≤ 1) (q3 : 0 ≤ k3 ∧ k3 ≤ 1) (q4 : 0 ≤ k4 ∧ k4 ≤ 1) (hk : k4 = 1) (C : Blk) : SpecM Try.prog 127 [⟨true, true, [.s .u64 o0, .s .u64 o1, .s .u64 o2, .s .u64 o3, .s .u64 18446744073709551615]⟩, ⟨true, true, [.s .u64 v0, .s .u64 v1, .s .u64 v2, .s .u64 v3, .i .u64 0]⟩, C] [.osl false 0 0 5 1, .osl false 1 0 4 1] (.sb true) [⟨true, true, [.s .u64 u0, .s .u64 u1, .s .u64 u2, .s .u64 u3, .s .u64 0]⟩, ⟨true, true, [.s .u64 v0, .s .u64 v1, .s .u64 v2, .s .u64 v3, .i .u64 0]⟩, C] := by
 subst hk
 refine mkM Try.func127 rfl rfl L0 R0 (by decide +kernel) fun A S hA hS => ?_
 have hne : A.cmp .neq 1 0 = true := ne0_t hA (by decide)
 unfold bodyOf Try.f127
 cbv
 refine ACall.mk (.tup [.s .u64 u0, .s .u64 k1]) (cg hS (add64S (x := o0) (y := v0) (z := 0) (.s _) (.s _) (.s _) r0.1 hv0.1 (by omega) u0 k1 (by omega) hu0) ?_) ?_
 . cbv
   repeat' (first | exact rfl | exact trivial | constructor)
 cbv
 refine ACall.mk (.tup [.s .u64 u1, .s .u64 k2]) (cg hS (add64S (x := o1) (y := v1) (z := k1) (.s _) (.s _) (.s _) r1.1 hv1.1 q1 u1 k2 (by omega) hu1) ?_) ?_
 . cbv
   repeat' (first | exact rfl | exact trivial | constructor)
 cbv
 refine ACall.mk (.tup [.s .u64 u2, .s .u64 k3]) (cg hS (add64S (x := o2) (y := v2) (z := k2) (.s _) (.s _) (.s _) r2.1 hv2.1 q2 u2 k3 (by omega) hu2) ?_) ?_
 . cbv
   repeat' (first | exact rfl | exact trivial | constructor)
 cbv
 refine ACall.mk (.tup [.s .u64 u3, .s .u64 1]) (cg hS (add64S (x := o3) (y := v3) (z := k3) (.s _) (.s _) (.s _) r3.1 hv3.1 q3 u3 1 (by omega) hu3) ?_) ?_
 . cbv
   repeat' (first | exact rfl | exact trivial | constructor)
 cbv
 refine ACall.mk (.tup [.s .u64 0, .s .u64 1]) (cg hS (add64S (x := 18446744073709551615) (y := 0) (z := 1) (.s _) (.i _) (.s _) (by omega) (by omega) (by omega) 0 1 (by omega) (by omega)) ?_) ?_
 . cbv
   repeat' (first | exact rfl | exact trivial | constructor)
 cbv
 exact ⟨congrArg AVal.sb hne, trivial⟩
theorem div0lt (x : Int) (hx : 0 ≤ x ∧ x < 18446744073709551615) : Sp 61 [.i .u64 0, .s .u64 x, .s .u64 18446744073709551615] (.tup [.s .u64 0, .s .u64 x]) := by
 obtain ⟨x, rfl⟩ : ∃ n : Nat, x = n := ⟨x.toNat, by omega⟩
 have h := div0S x 18446744073709551615 (by omega) (by decide)
 rw [Nat.div_eq_of_lt (by omega), Nat.mod_eq_of_lt (by omega)] at h
 exact h
theorem div0eq : Sp 61 [.i .u64 0, .s .u64 18446744073709551615, .s .u64 18446744073709551615] (.tup [.s .u64 1, .s .u64 0]) := div0S 18446744073709551615 18446744073709551615 (by decide) (by decide)
theorem take0z (z : Int) (hz : z = 0) (u0 u1 u2 u3 v0 v1 v2 v3 : Int) (hu0 : 0 ≤ u0 ∧ u0 < 18446744073709551616) (hu1 : 0 ≤ u1 ∧ u1 < 18446744073709551616) (hu2 : 0 ≤ u2 ∧ u2 < 18446744073709551616) (hu3 : 0 ≤ u3 ∧ u3 < 18446744073709551616) (hv0 : 0 ≤ v0 ∧ v0 < 18446744073709551616) (hv1 : 0 ≤ v1 ∧ v1 < 18446744073709551616) (hv2 : 0 ≤ v2 ∧ v2 < 18446744073709551616) (hv3 : 0 ≤ v3 ∧ v3 < 18446744073709551616) (C : Blk) :
   SpecM Try.prog 126 [⟨true, true, [.s .u64 u0, .s .u64 u1, .s .u64 u2, .s .u64 u3, .i .u64 0]⟩, ⟨true, true, [.s .u64 v0, .s .u64 v1, .s .u64 v2, .s .u64 v3, .i .u64 0]⟩, C] [.osl false 0 0 5 1, .osl false 1 0 4 1, .s .u64 z] (.sb false)
     [⟨true, true, [.s .u64 u0, .s .u64 u1, .s .u64 u2, .s .u64 u3, .s .u64 0]⟩, ⟨true, true, [.s .u64 v0, .s .u64 v1, .s .u64 v2, .s .u64 v3, .i .u64 0]⟩, C] := by
 subst hz; exact take0S u0 u1 u2 u3 v0 v1 v2 v3 hu0 hu1 hu2 hu3 hv0 hv1 hv2 hv3 C
theorem c_lss {A : Ar} (hA : A = Ar.real) {x y : Int} {t : Bool} (h : decide (x < y) = t) : A.cmp .lss x y = t := (i_lt hA).trans h
theorem c_leq {A : Ar} (hA : A = Ar.real) {x y : Int} {t : Bool} (h : decide (x ≤ y) = t) : A.cmp .leq x y = t := by rw [hA]; exact h
theorem c_eql {A : Ar} (hA : A = Ar.real) {x y : Int} {t : Bool} (h : (x == y) = t) : A.cmp .eql x y = t := by rw [hA]; exact h
theorem stepA (u0 u1 u2 u3 v0 v1 v2 : Int) (hu0 : 0 ≤ u0 ∧ u0 < 18446744073709551616) (hu1 : 0 ≤ u1 ∧ u1 < 18446744073709551616) (hu2 : 0 ≤ u2 ∧ u2 < 18446744073709551616) (hu3 : 0 ≤ u3 ∧ u3 < 18446744073709551616) (hv0 : 0 ≤ v0 ∧ v0 < 18446744073709551616) (hv1 : 0 ≤ v1 ∧ v1 < 18446744073709551616) (hv2 : 0 ≤ v2 ∧ v2 < 18446744073709551616) (h3 : 0 < u3 ∧ u3 < 18446744073709551615) (C : Blk) : SpecM Try.prog 115 [⟨true, true, [.s .u64 u0, .s .u64 u1, .s .u64 u2, .s .u64 u3, .i .u64 0]⟩, ⟨true, true, [.s .u64 v0, .s .u64 v1, .s .u64 v2, .s .u64 18446744073709551615, .i .u64 0]⟩, C] [.osl false 0 0 5 1, .osl false 1 0 4 1] (.s .u64 0) [⟨true, true, [.s .u64 u0, .s .u64 u1, .s .u64 u2, .s .u64 u3, .s .u64 0]⟩, ⟨true, true, [.s .u64 v0, .s .u64 v1, .s .u64 v2, .s .u64 18446744073709551615, .i .u64 0]⟩, C] := by
 have cd := div0lt u3 ⟨hu3.1, h3.2⟩
 have cm := mul0 v2 hv2
 have ct := take0S u0 u1 u2 u3 v0 v1 v2 18446744073709551615 hu0 hu1 hu2 hu3 hv0 hv1 hv2 (show (0 : Int) ≤ 18446744073709551615 ∧ (18446744073709551615 : Int) < 18446744073709551616 by omega) C
 refine mkM Try.func115 rfl rfl L0 R0 (by decide +kernel) fun A S hA hS => ?_
 have t1 : A.cmp .lss 0 18446744073709551615 = true := c_lss hA rfl
 have t2 : A.cmp .lss 0 u3 = true := c_lss hA (decide_eq_true h3.1)
 unfold bodyOf Try.f115
 cbv
 refine ABr.t t1 ?_
 cbv
 refine aF hS cd ?_
 cbv
 refine aF hS cm ?_
 cbv
 repeat (first | (refine ABr.t t2 ?_; cbv))
 refine AMut.mk _ _ (Go.Proofs.Ytkhipnhdbaahcaa.cm hS ct) ?_
 cbv
 refine ABr.f rfl ?_
 cbv
theorem stepB2 (u0 u1 u2 u3 v0 v1 v2 : Int) (hu0 : 0 ≤ u0 ∧ u0 < 18446744073709551616) (hu1 : 0 ≤ u1 ∧ u1 < 18446744073709551616) (hu2 : 0 ≤ u2 ∧ u2 < 18446744073709551616) (hu3 : 0 ≤ u3 ∧ u3 < 18446744073709551616) (hv0 : 0 ≤ v0 ∧ v0 < 18446744073709551616) (hv1 : 0 ≤ v1 ∧ v1 < 18446744073709551616) (hv2 : 0 ≤ v2 ∧ v2 < 18446744073709551616) (h3 : u3 = 18446744073709551615) (h2 : u2 < v2) (C : Blk) : SpecM Try.prog 115 [⟨true, true, [.s .u64 u0, .s .u64 u1, .s .u64 u2, .s .u64 u3, .i .u64 0]⟩, ⟨true, true, [.s .u64 v0, .s .u64 v1, .s .u64 v2, .s .u64 18446744073709551615, .i .u64 0]⟩, C] [.osl false 0 0 5 1, .osl false 1 0 4 1] (.s .u64 0) [⟨true, true, [.s .u64 u0, .s .u64 u1, .s .u64 u2, .s .u64 u3, .s .u64 0]⟩, ⟨true, true, [.s .u64 v0, .s .u64 v1, .s .u64 v2, .s .u64 18446744073709551615, .i .u64 0]⟩, C] := by
 subst h3
 have cd := div0eq
 have cm1 := mul1 v2 hv2
 have cm0 := mul0 v2 hv2
 have s1r : rbin .sub .u64 1 1 = 0 := rfl
 have ct := fun z (hz : z = 0) => take0z z hz u0 u1 u2 18446744073709551615 v0 v1 v2 18446744073709551615 hu0 hu1 hu2 hu3 hv0 hv1 hv2 (show (0 : Int) ≤ 18446744073709551615 ∧ (18446744073709551615 : Int) < 18446744073709551616 by omega) C
 refine mkM Try.func115 rfl rfl L0 R0 (by decide +kernel) fun A S hA hS => ?_
 have t1 : A.cmp .lss 0 18446744073709551615 = true := c_lss hA rfl
 have t0 : A.cmp .lss 0 0 = false := c_lss hA rfl
 have t2 : A.cmp .eql 0 0 = true := c_eql hA rfl
 have t3 : A.cmp .leq v2 u2 = false := c_leq hA (decide_eq_false (by omega))
 have t4 : A.cmp .neq 0 0 = false := ne0_f hA rfl
 have s1 : A.bin .sub .u64 1 1 = 0 := by rw [hA]; rfl
 unfold bodyOf Try.f115
 cbv
 refine ABr.t t1 ?_
 cbv
 refine aF hS cd ?_
 cbv
 refine aF hS cm1 ?_
 cbv
 repeat (first | (refine ABr.f t0 ?_; cbv) | (refine ABr.t t2 ?_; cbv) | (refine ABr.f t3 ?_; cbv))
 refine ACall.mk (.tup [.s .u64 18446744073709551615, .s .u64 0]) (cg hS (add64S (x := 0) (y := 18446744073709551615) (z := 0) (.s _) (.s _) (.i _) (by omega) (by omega) (by omega) 18446744073709551615 0 (by omega) (by omega)) ?_) ?_
 . cbv
 cbv
 refine ABr.f t4 ?_
 cbv
 refine aG hS cm0 ?_ ?_
 . cbv
   repeat' (first | exact s1 | exact rfl | exact trivial | constructor)
 cbv
 repeat (first | (refine ABr.t t1 ?_; cbv))
 refine AMut.mk _ _ (Go.Proofs.Ytkhipnhdbaahcaa.cm hS (ct _ s1)) ?_
 cbv
 refine ABr.f rfl ?_
 cbv
 subst hA
 exact ⟨congrArg (AVal.s .u64) s1r, trivial⟩
theorem stepB1 (u0 u1 u2 u3 v0 v1 v2 o0 o1 o2 o3 k1 k2 k3 k4 : Int) (hu0 : 0 ≤ u0 ∧ u0 < 18446744073709551616) (hu1 : 0 ≤ u1 ∧ u1 < 18446744073709551616) (hu2 : 0 ≤ u2 ∧ u2 < 18446744073709551616) (hu3 : 0 ≤ u3 ∧ u3 < 18446744073709551616) (hv0 : 0 ≤ v0 ∧ v0 < 18446744073709551616) (hv1 : 0 ≤ v1 ∧ v1 < 18446744073709551616) (hv2 : 0 ≤ v2 ∧ v2 < 18446744073709551616) (e0 : o0 - 18446744073709551616 * k1 = u0 - v0 - 0) (e1 : o1 - 18446744073709551616 * k2 = u1 - v1 - k1) (e2 : o2 - 18446744073709551616 * k3 = u2 - v2 - k2) (e3 : o3 - 18446744073709551616 * k4 = u3 - 18446744073709551615 - k3) (r0 : 0 ≤ o0 ∧ o0 < 18446744073709551616) (r1 : 0 ≤ o1 ∧ o1 < 18446744073709551616) (r2 : 0 ≤ o2 ∧ o2 < 18446744073709551616) (r3 : 0 ≤ o3 ∧ o3 < 18446744073709551616) (q1 : 0 ≤ k1 ∧ k1 ≤ 1) (q2 : 0 ≤ k2 ∧ k2 ≤ 1) (q3 : 0 ≤ k3 ∧ k3 ≤ 1) (q4 : 0 ≤ k4 ∧ k4 ≤ 1) (hk : k4 = 0) (h3 : u3 = 18446744073709551615) (h2 : v2 ≤ u2) (C : Blk) : ∃ q, SpecM Try.prog 115 [⟨true, true, [.s .u64 u0, .s .u64 u1, .s .u64 u2, .s .u64 u3, .i .u64 0]⟩, ⟨true, true, [.s .u64 v0, .s .u64 v1, .s .u64 v2, .s .u64 18446744073709551615, .i .u64 0]⟩, C] [.osl false 0 0 5 1, .osl false 1 0 4 1] (.s .u64 q) [⟨true, true, [.s .u64 o0, .s .u64 o1, .s .u64 o2, .s .u64 o3, .s .u64 0]⟩, ⟨true, true, [.s .u64 v0, .s .u64 v1, .s .u64 v2, .s .u64 18446744073709551615, .i .u64 0]⟩, C] := by
 have cd := div0eq
 have cm1 := mul1 v2 hv2
 have ct := take1S u0 u1 u2 u3 v0 v1 v2 18446744073709551615 o0 o1 o2 o3 k1 k2 k3 k4 hu0 hu1 hu2 hu3 hv0 hv1 hv2 (show (0 : Int) ≤ 18446744073709551615 ∧ (18446744073709551615 : Int) < 18446744073709551616 by omega) e0 e1 e2 e3 r0 r1 r2 r3 q1 q2 q3 q4 hk C
 refine ⟨1, ?_⟩
 subst h3
 refine mkM Try.func115 rfl rfl L0 R0 (by decide +kernel) fun A S hA hS => ?_
 have t1 : A.cmp .lss 0 18446744073709551615 = true := c_lss hA rfl
 have t0 : A.cmp .lss 0 0 = false := c_lss hA rfl
 have t2 : A.cmp .eql 0 0 = true := c_eql hA rfl
 have t3 : A.cmp .leq v2 u2 = true := c_leq hA (decide_eq_true (by omega))
 unfold bodyOf Try.f115
 cbv
 refine ABr.t t1 ?_
 cbv
 refine aF hS cd ?_
 cbv
 refine aF hS cm1 ?_
 cbv
 repeat (first | (refine ABr.f t0 ?_; cbv) | (refine ABr.t t2 ?_; cbv) | (refine ABr.t t3 ?_; cbv))
 refine AMut.mk _ _ (Go.Proofs.Ytkhipnhdbaahcaa.cm hS ct) ?_
 cbv
 refine ABr.f rfl ?_
 cbv
theorem stepB3 (u0 u1 u2 u3 v0 v1 v2 o0 o1 o2 o3 k1 k2 k3 k4 : Int) (hu0 : 0 ≤ u0 ∧ u0 < 18446744073709551616) (hu1 : 0 ≤ u1 ∧ u1 < 18446744073709551616) (hu2 : 0 ≤ u2 ∧ u2 < 18446744073709551616) (hu3 : 0 ≤ u3 ∧ u3 < 18446744073709551616) (hv0 : 0 ≤ v0 ∧ v0 < 18446744073709551616) (hv1 : 0 ≤ v1 ∧ v1 < 18446744073709551616) (hv2 : 0 ≤ v2 ∧ v2 < 18446744073709551616) (e0 : o0 - 18446744073709551616 * k1 = u0 - v0 - 0) (e1 : o1 - 18446744073709551616 * k2 = u1 - v1 - k1) (e2 : o2 - 18446744073709551616 * k3 = u2 - v2 - k2) (e3 : o3 - 18446744073709551616 * k4 = u3 - 18446744073709551615 - k3) (r0 : 0 ≤ o0 ∧ o0 < 18446744073709551616) (r1 : 0 ≤ o1 ∧ o1 < 18446744073709551616) (r2 : 0 ≤ o2 ∧ o2 < 18446744073709551616) (r3 : 0 ≤ o3 ∧ o3 < 18446744073709551616) (q1 : 0 ≤ k1 ∧ k1 ≤ 1) (q2 : 0 ≤ k2 ∧ k2 ≤ 1) (q3 : 0 ≤ k3 ∧ k3 ≤ 1) (q4 : 0 ≤ k4 ∧ k4 ≤ 1) (hk : k4 = 1) (h3 : u3 = 18446744073709551615) (h2 : v2 ≤ u2) (C : Blk) : ∃ q, SpecM Try.prog 115 [⟨true, true, [.s .u64 u0, .s .u64 u1, .s .u64 u2, .s .u64 u3, .i .u64 0]⟩, ⟨true, true, [.s .u64 v0, .s .u64 v1, .s .u64 v2, .s .u64 18446744073709551615, .i .u64 0]⟩, C] [.osl false 0 0 5 1, .osl false 1 0 4 1] (.s .u64 q) [⟨true, true, [.s .u64 u0, .s .u64 u1, .s .u64 u2, .s .u64 u3, .s .u64 0]⟩, ⟨true, true, [.s .u64 v0, .s .u64 v1, .s .u64 v2, .s .u64 18446744073709551615, .i .u64 0]⟩, C] := by
 have cd := div0eq
 have cm1 := mul1 v2 hv2
 have ct := take1bS u0 u1 u2 u3 v0 v1 v2 18446744073709551615 o0 o1 o2 o3 k1 k2 k3 k4 hu0 hu1 hu2 hu3 hv0 hv1 hv2 (show (0 : Int) ≤ 18446744073709551615 ∧ (18446744073709551615 : Int) < 18446744073709551616 by omega) e0 e1 e2 e3 r0 r1 r2 r3 q1 q2 q3 q4 hk C
 have cg_ := giveS u0 u1 u2 u3 v0 v1 v2 18446744073709551615 o0 o1 o2 o3 k1 k2 k3 k4 hu0 hu1 hu2 hu3 hv0 hv1 hv2 (show (0 : Int) ≤ 18446744073709551615 ∧ (18446744073709551615 : Int) < 18446744073709551616 by omega) e0 e1 e2 e3 r0 r1 r2 r3 q1 q2 q3 q4 hk C
 refine ⟨0, ?_⟩
 have s1 : rbin .sub .u64 1 1 = 0 := rfl
 subst h3
 refine mkM Try.func115 rfl rfl L0 R0 (by decide +kernel) fun A S hA hS => ?_
 have t1 : A.cmp .lss 0 18446744073709551615 = true := c_lss hA rfl
 have t0 : A.cmp .lss 0 0 = false := c_lss hA rfl
 have t2 : A.cmp .eql 0 0 = true := c_eql hA rfl
 have t3 : A.cmp .leq v2 u2 = true := c_leq hA (decide_eq_true (by omega))
 unfold bodyOf Try.f115
 cbv
 refine ABr.t t1 ?_
 cbv
 refine aF hS cd ?_
 cbv
 refine aF hS cm1 ?_
 cbv
 repeat (first | (refine ABr.f t0 ?_; cbv) | (refine ABr.t t2 ?_; cbv) | (refine ABr.t t3 ?_; cbv))
 refine AMut.mk _ _ (Go.Proofs.Ytkhipnhdbaahcaa.cm hS ct) ?_
 cbv
 refine ABr.t rfl ?_
 cbv
 refine AMut.mk _ _ (Go.Proofs.Ytkhipnhdbaahcaa.cm hS cg_) ?_
 cbv
 repeat (first | (refine ABr.t t2 ?_; cbv))
 subst hA
 exact ⟨congrArg (AVal.s .u64) s1, trivial⟩
def TopM (m : Nat) : Prop := m < 2 ^ 256 ∧ 18446744073709551615 * 2 ^ 192 ≤ m
theorem TopM.topW {m : Nat} (h : TopM m) : TopW m 4 := ⟨h.1, fun _ => by have := h.2; show 2 ^ 192 ≤ m; omega⟩
theorem TopM.w3 {m : Nat} (h : TopM m) {lim : Lim} (hl : lim = limR) : lim m 3 = 18446744073709551615 := by
 subst hl
 have h1 := h.1
 have h2 := h.2
 show ((m / 2 ^ 192 % 2 ^ 64 : Nat) : Int) = _
 have : m / 2 ^ 192 = 18446744073709551615 := by
   refine Nat.le_antisymm ?_ ((Nat.le_div_iff_mul_le (Nat.two_pow_pos _)).2 h2)
   have : m / 2 ^ 192 < 2 ^ 64 := Nat.div_lt_of_lt_mul (by rw [← Nat.pow_add]; exact h1)
   omega
 rw [this]; rfl
theorem word_cases {x m : Nat} {lim : Lim} (hl : lim = limR) (hx : TopW x 4) (hm : TopM m) (C : Blk) :
   ∃ q : Int, SpecM Try.prog 115 [⟨true, true, [.s .u64 (lim x 0), .s .u64 (lim x 1), .s .u64 (lim x 2), .s .u64 (lim x 3), .i .u64 0]⟩, ⟨true, true, [.s .u64 (lim m 0), .s .u64 (lim m 1), .s .u64 (lim m 2), .s .u64 18446744073709551615, .i .u64 0]⟩, C] [.osl false 0 0 5 1, .osl false 1 0 4 1] (.s .u64 q)
     [⟨true, true, [.s .u64 (lim (x % m) 0), .s .u64 (lim (x % m) 1), .s .u64 (lim (x % m) 2), .s .u64 (lim (x % m) 3), .s .u64 0]⟩, ⟨true, true, [.s .u64 (lim m 0), .s .u64 (lim m 1), .s .u64 (lim m 2), .s .u64 18446744073709551615, .i .u64 0]⟩, C] := by
 have rx := fun i => lim_range hl x i
 have rm := fun i => lim_range hl m i
 have m3 := hm.w3 hl
 obtain ⟨e3, l3, n3⟩ := hx.top (k := 3) hl
 have sx := split4 hl x hx.1
 have sm := split4 hl m hm.1
 rw [m3] at sm
 have r3 := rx 3
 by_cases h3 : lim x 3 = 18446744073709551615
 . rw [h3] at sx
   by_cases h2 : lim x 2 < lim m 2
   . have hlt : x < m := by
       have a0 := rx 0; have a1 := rx 1; have b0 := rm 0; have b1 := rm 1; omega
     rw [Nat.mod_eq_of_lt hlt]
     exact ⟨0, stepB2 _ _ _ _ _ _ _ (rx 0) (rx 1) (rx 2) (rx 3) (rm 0) (rm 1) (rm 2) h3 h2 C⟩
   . obtain ⟨o0, k1, e0, p0, q1⟩ := borrow (rx 0) (rm 0) (z := 0) (by omega)
     obtain ⟨o1, k2, e1, p1, q2⟩ := borrow (rx 1) (rm 1) q1
     obtain ⟨o2, k3, e2, p2, q3⟩ := borrow (rx 2) (rm 2) q2
     obtain ⟨o3, k4, e3', p3, q4⟩ := borrow (x := lim x 3) (y := 18446744073709551615) r3 (by omega) q3
     by_cases hlt : x < m
     . rw [Nat.mod_eq_of_lt hlt]
       have hk : k4 = 1 := by
         rw [h3] at e3'
         have a0 := rx 0; have a1 := rx 1; have b0 := rm 0; have b1 := rm 1; have a2 := rx 2; have b2 := rm 2
         omega
       exact stepB3 _ _ _ _ _ _ _ o0 o1 o2 o3 k1 k2 k3 k4 (rx 0) (rx 1) (rx 2) (rx 3) (rm 0) (rm 1) (rm 2) e0 e1 e2 e3' p0 p1 p2 p3 q1 q2 q3 q4 hk h3 (by omega) C
     . have hmod : x % m = x - m := by
         rw [Nat.mod_eq_sub_mod (by omega), Nat.mod_eq_of_lt]
         have := hm.2; have := hx.1; omega
       have hk : k4 = 0 := by
         rw [h3] at e3'
         have a0 := rx 0; have a1 := rx 1; have b0 := rm 0; have b1 := rm 1; have a2 := rx 2; have b2 := rm 2
         omega
       have hv : ((x - m : Nat) : Int) = o0 + 18446744073709551616 * (o1 + 18446744073709551616 * (o2 + 18446744073709551616 * o3)) := by
         subst hk
         rw [h3] at e3'
         rw [Int.ofNat_sub (by omega)]
         omega
       obtain ⟨f0, f1, f2, f3⟩ := lim_of4 hl (a := x - m) (by have := hx.1; omega) p0 p1 p2 hv
       rw [hmod, f0, f1, f2, f3]
       exact stepB1 _ _ _ _ _ _ _ o0 o1 o2 o3 k1 k2 k3 k4 (rx 0) (rx 1) (rx 2) (rx 3) (rm 0) (rm 1) (rm 2) e0 e1 e2 e3' p0 p1 p2 p3 q1 q2 q3 q4 hk h3 (by omega) C
 . have hlt : x < m := by
     have a0 := rx 0; have a1 := rx 1; have a2 := rx 2; have b0 := rm 0; have b1 := rm 1; have b2 := rm 2; omega
   rw [Nat.mod_eq_of_lt hlt]
   exact ⟨0, stepA _ _ _ _ _ _ _ (rx 0) (rx 1) (rx 2) (rx 3) (rm 0) (rm 1) (rm 2) ⟨by omega, by omega⟩ C⟩
theorem divide0S {lim : Lim} (hl : lim = limR) (x m : Nat) (hx : TopW x 0) (hm : TopM m) : Sp 93 [.lst false 4 [.s .u64 (lim x 0), .s .u64 (lim x 1), .s .u64 (lim x 2), .s .u64 (lim x 3)], .lst false 4 [.s .u64 (lim m 0), .s .u64 (lim m 1), .s .u64 (lim m 2), .s .u64 (lim m 3)]] (.tup [.v (.slice none 0 0), .lst false 0 []]) := by
 have cx := trim0S hl x hx
 have cm := trim4S hl m hm.topW
 refine mk Try.func93 rfl rfl L0 R0 (by decide +kernel) fun A S hA hS => ?_
 unfold bodyOf Try.f93
 cbv
 refine aF hS cx ?_
 cbv
 refine aF hS cm ?_
 cbv
theorem divide1S {lim : Lim} (hl : lim = limR) (x m : Nat) (hx : TopW x 1) (hm : TopM m) : Sp 93 [.lst false 4 [.s .u64 (lim x 0), .s .u64 (lim x 1), .s .u64 (lim x 2), .s .u64 (lim x 3)], .lst false 4 [.s .u64 (lim m 0), .s .u64 (lim m 1), .s .u64 (lim m 2), .s .u64 (lim m 3)]] (.tup [.v (.slice none 0 0), .lst false 1 [.s .u64 (lim x 0)]]) := by
 have cx := trim1S hl x hx
 have cm := trim4S hl m hm.topW
 refine mk Try.func93 rfl rfl L0 R0 (by decide +kernel) fun A S hA hS => ?_
 unfold bodyOf Try.f93
 cbv
 refine aF hS cx ?_
 cbv
 refine aF hS cm ?_
 cbv
theorem divide2S {lim : Lim} (hl : lim = limR) (x m : Nat) (hx : TopW x 2) (hm : TopM m) : Sp 93 [.lst false 4 [.s .u64 (lim x 0), .s .u64 (lim x 1), .s .u64 (lim x 2), .s .u64 (lim x 3)], .lst false 4 [.s .u64 (lim m 0), .s .u64 (lim m 1), .s .u64 (lim m 2), .s .u64 (lim m 3)]] (.tup [.v (.slice none 0 0), .lst false 2 [.s .u64 (lim x 0), .s .u64 (lim x 1)]]) := by
 have cx := trim2S hl x hx
 have cm := trim4S hl m hm.topW
 refine mk Try.func93 rfl rfl L0 R0 (by decide +kernel) fun A S hA hS => ?_
 unfold bodyOf Try.f93
 cbv
 refine aF hS cx ?_
 cbv
 refine aF hS cm ?_
 cbv
theorem divide3S {lim : Lim} (hl : lim = limR) (x m : Nat) (hx : TopW x 3) (hm : TopM m) : Sp 93 [.lst false 4 [.s .u64 (lim x 0), .s .u64 (lim x 1), .s .u64 (lim x 2), .s .u64 (lim x 3)], .lst false 4 [.s .u64 (lim m 0), .s .u64 (lim m 1), .s .u64 (lim m 2), .s .u64 (lim m 3)]] (.tup [.v (.slice none 0 0), .lst false 3 [.s .u64 (lim x 0), .s .u64 (lim x 1), .s .u64 (lim x 2)]]) := by
 have cx := trim3S hl x hx
 have cm := trim4S hl m hm.topW
 refine mk Try.func93 rfl rfl L0 R0 (by decide +kernel) fun A S hA hS => ?_
 unfold bodyOf Try.f93
 cbv
 refine aF hS cx ?_
 cbv
 refine aF hS cm ?_
 cbv
theorem divide4S {lim : Lim} (hl : lim = limR) (x m : Nat) (hx : TopW x 4) (hm : TopM m) : ∃ q : Int, Sp 93 [.lst false 4 [.s .u64 (lim x 0), .s .u64 (lim x 1), .s .u64 (lim x 2), .s .u64 (lim x 3)], .lst false 4 [.s .u64 (lim m 0), .s .u64 (lim m 1), .s .u64 (lim m 2), .s .u64 (lim m 3)]] (.tup [.lst false 1 [.s .u64 q], .lst false 4 [.s .u64 (lim (x % m) 0), .s .u64 (lim (x % m) 1), .s .u64 (lim (x % m) 2), .s .u64 (lim (x % m) 3)]]) := by
 have cx := trim4S hl x hx
 have cm := trim4S hl m hm.topW
 have rx := fun i => lim_range hl x i
 have rm := fun i => lim_range hl m i
 have m3 := hm.w3 hl
 have cz := lzS
 have sx := shiftedS (lim x) (fun i _ => rx i)
 have sm := shiftedS (lim m) (fun i _ => rm i)
 rw [m3] at sm cm
 obtain ⟨q, st⟩ := word_cases hl hx hm ⟨true, true, [.i .u64 0]⟩
 have rr := fun i => lim_range hl (x % m) i
 generalize x % m = r at *
 rw [m3]
 refine ⟨q, ?_⟩
 refine mk Try.func93 rfl rfl L0 R0 (by decide +kernel) fun A S hA hS => ?_
 have s0 : ∀ i, A.bin .shr .u64 (lim r i) 0 = lim r i := fun i => by rw [hA]; exact shr0 (rr i).1
 unfold bodyOf Try.f93
 cbv
 refine aF hS cx ?_
 cbv
 refine aF hS cm ?_
 cbv
 refine aF hS cz ?_
 cbv
 refine aF hS sx ?_
 cbv
 refine aF hS sm ?_
 cbv
 refine AMut.mk _ _ (Go.Proofs.Ytkhipnhdbaahcaa.cm hS st) ?_
 cbv
 repeat' (first | exact s0 0 | exact s0 1 | exact s0 2 | exact s0 3 | exact trivial | exact rfl | constructor)
theorem bothS {lim : Lim} (hl : lim = limR) (x m : Nat) (hx : x < 2 ^ 256) (hm : TopM m) : Sp 58 [.lst false 4 [.s .u64 (lim x 0), .s .u64 (lim x 1), .s .u64 (lim x 2), .s .u64 (lim x 3)], u4 lim m] (.tup [.v (.slice none 0 0), u4 lim (x % m)]) ∨ ∃ q : Int, Sp 58 [.lst false 4 [.s .u64 (lim x 0), .s .u64 (lim x 1), .s .u64 (lim x 2), .s .u64 (lim x 3)], u4 lim m] (.tup [.lst false 1 [.s .u64 q], u4 lim (x % m)]) := by
 have hm0 : m ≠ 0 := by have := hm.2; omega
 obtain ⟨k, hk, ht⟩ := topW_ex hx
 have hz := hm.1
 by_cases h4 : k = 4
 . subst h4
   obtain ⟨q, cd⟩ := divide4S hl x m ht hm
   have cw := word4S (lim := lim) (x % m)
   refine .inr ⟨q, ?_⟩
   generalize x % m = r at *
   refine mk Try.func58 rfl rfl L0 R0 (by decide +kernel) fun A S hA hS => ?_
   have e := (zeq4 hA hl (x := m) hz).trans (decide_eq_false hm0)
   unfold bodyOf Try.f58
   cbv
   refine ABr.f e ?_
   cbv
   refine aF hS cd ?_
   cbv
   refine aF hS cw ?_
   cbv
 have hlt : x < m := by
   have h1 := ht.1
   have h2 := hm.2
   have : (2 : Nat) ^ (64 * k) ≤ 2 ^ 192 := Nat.pow_le_pow_right (by decide) (by omega)
   omega
 rw [Nat.mod_eq_of_lt hlt]
 refine .inl ?_
 rcases (by omega : k = 0 ∨ k = 1 ∨ k = 2 ∨ k = 3) with rfl | rfl | rfl | rfl
 . have cd := divide0S hl x m ht hm
   have cw := word0S hl x ht
   refine mk Try.func58 rfl rfl L0 R0 (by decide +kernel) fun A S hA hS => ?_
   have e := (zeq4 hA hl (x := m) hz).trans (decide_eq_false hm0)
   unfold bodyOf Try.f58
   cbv
   refine ABr.f e ?_
   cbv
   refine aF hS cd ?_
   cbv
   refine aF hS cw ?_
   cbv
 . have cd := divide1S hl x m ht hm
   have cw := word1S hl x ht
   refine mk Try.func58 rfl rfl L0 R0 (by decide +kernel) fun A S hA hS => ?_
   have e := (zeq4 hA hl (x := m) hz).trans (decide_eq_false hm0)
   unfold bodyOf Try.f58
   cbv
   refine ABr.f e ?_
   cbv
   refine aF hS cd ?_
   cbv
   refine aF hS cw ?_
   cbv
 . have cd := divide2S hl x m ht hm
   have cw := word2S hl x ht
   refine mk Try.func58 rfl rfl L0 R0 (by decide +kernel) fun A S hA hS => ?_
   have e := (zeq4 hA hl (x := m) hz).trans (decide_eq_false hm0)
   unfold bodyOf Try.f58
   cbv
   refine ABr.f e ?_
   cbv
   refine aF hS cd ?_
   cbv
   refine aF hS cw ?_
   cbv
 . have cd := divide3S hl x m ht hm
   have cw := word3S hl x ht
   refine mk Try.func58 rfl rfl L0 R0 (by decide +kernel) fun A S hA hS => ?_
   have e := (zeq4 hA hl (x := m) hz).trans (decide_eq_false hm0)
   unfold bodyOf Try.f58
   cbv
   refine ABr.f e ?_
   cbv
   refine aF hS cd ?_
   cbv
   refine aF hS cw ?_
   cbv
theorem modS {lim : Lim} (hl : lim = limR) (x m : Nat) (hx : x < 2 ^ 256) (hm : TopM m) : Sp 53 [u4 lim x, u4 lim m] (u4 lim (x % m)) := by
 rcases bothS hl x m hx hm with cb | ⟨q, cb⟩
 . generalize x % m = r at *
   refine mk Try.func53 rfl rfl L0 R1 (by decide +kernel) fun A S hA hS => ?_
   unfold bodyOf Try.f53
   cbv
   refine aF hS cb ?_
   cbv
 . generalize x % m = r at *
   refine mk Try.func53 rfl rfl L0 R1 (by decide +kernel) fun A S hA hS => ?_
   unfold bodyOf Try.f53
   cbv
   refine aF hS cb ?_
   cbv
theorem mkJ {f : FuncId} {fn : Func} {cap : List AVal} {n : Nat} {xs : Nat → List AVal} (hf : Try.prog.funcs[f]? = some fn) (hb : fn.body = some (bodyOf fn)) (hn : (fn.name == "runtime.NumGoroutine") = false) (Nl : Nat → Nat) (tr : Nat → Md)
   (hok : codeOK tr (bodyOf fn) = true) (hnr : noRange (bodyOf fn) = true) (h : ∀ (A : Ar) (S : SpecT), A = Ar.real → S.n = n → S.xs = xs → (∀ f As r, Sp f As r → S.fn f As r) → afunI A TT S Nl tr fn.ntmps fn.results (bodyOf fn) S.l cap (fun k => k = ghost n)) : SeqSp Try.prog f cap n xs :=
 seq_of_afunI (P := Try.prog) (T := TT) TT.ok TT.mixed (draw_ok (P := Try.prog) (T := TT) TT.ok) hf hb hn (N := Nl) (tr := tr) hok hnr fun l => h Ar.real { specs Try.prog with l := l, n := n, xs := xs, it := true, gc := false } rfl rfl rfl fun _ _ _ h => h
theorem a_offsF {A : Ar} (hA : A = Ar.real) (off i sz : Nat) : A.offs off i sz = off + i * sz := by rw [hA]; rfl
theorem row4F (lim : Lim) (e : Nat) : IsRow [.s .u64 (lim e 0), .s .u64 (lim e 1), .s .u64 (lim e 2), .s .u64 (lim e 3)] (lim e) 4 :=
 ⟨rfl, fun i hi => by match i, hi with | 0, _ => rfl | 1, _ => rfl | 2, _ => rfl | 3, _ => rfl⟩
theorem bitsOfS {lim : Lim} (e : Nat) : Sp 108 [u4 lim e] (.fn (.func 124) [] [.ref [.s .u64 (lim e 0), .s .u64 (lim e 1), .s .u64 (lim e 2), .s .u64 (lim e 3)] 0]) := by
 refine mkE Try.func108 rfl rfl LN R1 (by decide +kernel) fun A S hA hS => ?_
 unfold bodyOf Try.f108
 cbv
theorem word_bit (e k : Nat) : (limR e (k / 64)).toNat / 2 ^ (k % 64) % 2 = e / 2 ^ k % 2 := by
 unfold limR
 rw [Int.toNat_natCast]
 obtain ⟨r, hr⟩ : ∃ r, r = k % 64 := ⟨_, rfl⟩
 have e1 : k = 64 * (k / 64) + r := by omega
 rw [← hr]
 have e2 : e / 2 ^ k = e / 2 ^ (64 * (k / 64)) / 2 ^ r := by rw [Nat.div_div_eq_div_mul, ← Nat.pow_add, ← e1]
 rw [e2]
 generalize e / 2 ^ (64 * (k / 64)) = q
 have hr64 : r < 64 := by omega
 rw [show (2 : Nat) ^ 64 = 2 ^ r * 2 ^ (64 - r) by rw [← Nat.pow_add]; congr 1; omega, Nat.mod_mul_right_div_self]
 rw [show 64 - r = 1 + (63 - r) by omega, Nat.pow_add, Nat.mod_mul_right_mod]
theorem bitsI {lim : Lim} (hl : lim = limR) (e n : Nat) (he : e < 2 ^ 256) (hn : IsLen e n) (xs : Nat → List AVal)
   (hx : ∀ i, i < n → xs i = [.s .u64 ((e / 2 ^ (n - 1 - i) % 2 : Nat) : Int)]) : SeqSp Try.prog 124 [.ref [.s .u64 (lim e 0), .s .u64 (lim e 1), .s .u64 (lim e 2), .s .u64 (lim e 3)] 0] n xs := by
 have hn256 := hn.ge he
 have cb := bitsS hl e n he hn
 have hcs := row4F lim e
 have hw := fun i => lim_range hl e i
 have hbt : ∀ k : Nat, (lim e (k / 64)).toNat / 2 ^ (k % 64) % 2 = e / 2 ^ k % 2 := fun k => by rw [hl]; exact word_bit e k
 obtain ⟨ni, hni⟩ : ∃ z : Int, z = (n : Int) := ⟨_, rfl⟩
 rw [← hni] at cb
 have h00 : ni - 1 = (n : Int) - 1 - ((0 : Nat) : Int) := by omega
 refine mkJ Try.func124 rfl rfl LN R0 (by decide +kernel) (by decide +kernel) fun A S hA hSn hxs hfn => ?_
 have hsub0 : A.bin .sub .i64 ni 1 = ni - 1 := e_sub hA rfl rfl rfl (by omega)
 unfold bodyOf Try.f124
 cbv
 refine ACall.mk _ (hfn _ _ _ cb) ?_
 cbv
 refine .inv (α := Nat × Int) (fun p => ⟨[.v (.func (.yield S.l) #[] #[]), .ref [.s .u64 (lim e 0), .s .u64 (lim e 1), .s .u64 (lim e 2), .s .u64 (lim e 3)] 0, .tup [], .s .i64 p.2, .any, .any, .any, .any, .any, .any, .any, .any, .any, .any, .any, .any, .any, .any, .any, .any, .any, .any], ghost p.1⟩)
   (fun p => p.1 ≤ n ∧ p.2 = (n : Int) - 1 - p.1) (fun p => n - p.1) (0, ni - 1) ?_ ⟨Nat.zero_le _, h00⟩ ?_
 . cbv
   repeat' (first | exact hsub0 | exact rfl | exact trivial | constructor)
 rintro ⟨j, i⟩ ⟨hj, hi⟩
 dsimp only at hj hi ⊢
 by_cases h0 : i ≥ 0
 . obtain ⟨k, rfl⟩ : ∃ k : Nat, i = k := ⟨i.toNat, by omega⟩
   have hjk : n - 1 - j = k := by omega
   have hj' : j < n := by omega
   obtain ⟨y, hy⟩ : ∃ y : Int, y = k - 1 := ⟨_, rfl⟩
   have hlast : y = (n : Int) - 1 - (j + 1 : Nat) := by omega
   have hdec : n - (j + 1) < n - j := by omega
   obtain ⟨q, hqk⟩ : ∃ q, q = k / 64 := ⟨_, rfl⟩
   have hqn : q < 4 := by omega
   have hbk := hbt k
   rw [← hqk] at hbk
   have hrem : A.bin .rem .i64 (k : Int) 64 = ((k % 64 : Nat) : Int) := e_rem hA rfl rfl (by omega) (by omega)
   have hquo : A.bin .quo .i64 (k : Int) 64 = (q : Int) := e_quo hA rfl rfl (by omega) (by omega) (by omega) (by omega)
   have hsub : A.bin .sub .i64 (k : Int) 1 = y := e_sub hA rfl rfl hy.symm (by omega)
   have hok : A.okb .shr (A.bin .rem .i64 (k : Int) 64) = true := by rw [hrem]; exact (a_okbS hA (by omega)).1
   have hge : A.cmp .geq (k : Int) 0 = true := (i_ge hA).trans (decide_eq_true (by omega))
   have hq : lsub [.s .u64 (lim e 0), .s .u64 (lim e 1), .s .u64 (lim e 2), .s .u64 (lim e 3)] (A.offs 0 q 1) 1 = some [.s .u64 (lim e q)] := by rw [a_offsF hA, Nat.zero_add]; exact hcs.2 q hqn
   have hbit := u_bit hA (hw q) hrem (by omega)
   rw [hbk] at hbit
   have hargs : [AVal.s .u64 (A.bin .and .u64 (A.bin .shr .u64 (lim e q) (A.bin .rem .i64 (k : Int) 64)) 1)] = S.xs j := by
     rw [hxs, hx j hj', hbit, hjk]
   have nt : (!true) = false := rfl
   clear hbt hbk hbit
   cbv
   refine ABr.t hge ?_
   cbv
   refine .sym q hquo hqn ?_
   cbv
   refine .mk _ hq ?_
   cbv
   refine .mk hok ?_
   cbv
   refine .mk j rfl (by rw [hSn]; exact hj') rfl hargs ?_
   cbv
   refine ⟨(j + 1, y), ?_, ⟨hj', hlast⟩, hdec⟩
   cbv
   simp only [and_true]
   exact hsub
 . have hge : A.cmp .geq i 0 = false := (i_ge hA).trans (decide_eq_false h0)
   obtain rfl : j = n := by omega
   obtain ⟨g, hg⟩ : ∃ g, g = ghost j := ⟨_, rfl⟩
   rw [← hg]
   cbv
   refine ABr.f hge ?_
   cbv
variable {p : Nat} [NeZero p]
def timesH (k : Kf p) (r : List AVal) (j : Cv.Jac (Fin p)) (lim : Lim) (e : Nat) (o : Cv.Jac (Fin p)) : List Blk :=
 [⟨true, true, [.ref r 0]⟩, ⟨true, true, [.s .u64 (k.w j.x 0), .s .u64 (k.w j.x 1), .s .u64 (k.w j.x 2), .s .u64 (k.w j.x 3), .s .u64 (k.w j.y 0), .s .u64 (k.w j.y 1), .s .u64 (k.w j.y 2), .s .u64 (k.w j.y 3), .s .u64 (k.w j.z 0), .s .u64 (k.w j.z 1), .s .u64 (k.w j.z 2), .s .u64 (k.w j.z 3)]⟩,
   ⟨true, true, [.s .u64 (lim e 0), .s .u64 (lim e 1), .s .u64 (lim e 2), .s .u64 (lim e 3)]⟩, ⟨true, true, [.i .u64 0, .i .u64 0, .i .u64 0, .i .u64 0, .i .u64 0, .i .u64 0, .i .u64 0, .i .u64 0, .i .u64 0, .i .u64 0, .i .u64 0, .i .u64 0]⟩,
   ⟨true, true, [.s .u64 (k.w o.x 0), .s .u64 (k.w o.x 1), .s .u64 (k.w o.x 2), .s .u64 (k.w o.x 3), .s .u64 (k.w o.y 0), .s .u64 (k.w o.y 1), .s .u64 (k.w o.y 2), .s .u64 (k.w o.y 3), .s .u64 (k.w o.z 0), .s .u64 (k.w o.z 1), .s .u64 (k.w o.z 2), .s .u64 (k.w o.z 3)]⟩]
theorem bit_one {A : Ar} (hA : A = Ar.real) (t : Nat) : A.cmp .eql (t : Int) 1 = decide (t = 1) := by
 rw [hA]
 show ((t : Int) == 1) = _
 by_cases h : t = 1
 . subst h; rfl
 . rw [decide_eq_false h]; exact beq_eq_false_iff_ne.2 (by omega)
theorem timesS {k : Kf p} {r : List AVal} (hK : OkF k r) (j : Cv.Jac (Fin p)) {lim : Lim} (hl : lim = limR) (e n : Nat) (he : e < 2 ^ 256) (hn : IsLen e n) :
   Sp 81 [.ref r 0, Jf k j, u4 lim e] (Jf k (Gp.tmP k.O j e n n)) := by
 have tw := jdblS hK
 have pl := fun o => jaddS hK o j
 have hb := bitsOfS (lim := lim) e
 obtain ⟨t, ht⟩ : ∃ t : Nat → Nat, t = fun i => e / 2 ^ (n - 1 - i) % 2 := ⟨_, rfl⟩
 have hd := bitsI hl e n he hn (fun i => [.s .u64 ((t i : Nat) : Int)]) (fun i _ => by rw [ht])
 obtain ⟨x, hx⟩ : ∃ x : Nat → Cv.Jac (Fin p), x = Gp.tmP k.O j e n := ⟨_, rfl⟩
 have hx0 : x 0 = Cv.inf k.O := by rw [hx]; rfl
 have hxs : ∀ i, i < n → x (i + 1) = if t i = 1 then Gp.adP k.O (Gp.dbP k.O (x i)) j else Gp.dbP k.O (x i) := by
   intro i hi
   rw [hx, ht]
   rfl
 rw [← hx]
 have z := hK.zero
 clear hx ht
 refine mk Try.func81 rfl rfl LN R1 (by decide +kernel) fun A S hA hS => ?_
 unfold bodyOf Try.f81
 cbv
 refine aF hS hb ?_
 cbv
 refine .mk _ _ (cs hS hd) (fun i _ => rfl) (fun i => timesH k r j lim e (x i)) ?_ ?_ ?_
 . rw [hx0]
   cbv
   repeat' (first | exact (z _ (by decide)).symm | (have h := hK.sim 10; unfold simL at h; exact h) | (have h := hK.sim 11; unfold simL at h; exact h) | exact trivial | constructor)
 . intro i hi
   have hst := hxs i hi
   have hb := bit_one hA (t i)
   generalize x (i + 1) = y at hst ⊢
   generalize x i = xi at hst ⊢
   generalize t i = ti at hst hb ⊢
   have tw := tw xi
   generalize Gp.dbP k.O xi = di at *
   have pl := pl di
   generalize Gp.adP k.O di j = pi at *
   cbv
   refine aF hS tw ?_
   cbv
   by_cases h1 : ti = 1
   . rw [if_pos h1] at hst
     rw [decide_eq_true h1] at hb
     subst hst
     refine ABr.t hb ?_
     cbv
     refine aF hS pl ?_
     cbv
     repeat' (first | (have h := hK.sim 10; unfold simL at h; exact h) | (have h := hK.sim 11; unfold simL at h; exact h) | exact trivial | constructor)
   . rw [if_neg h1] at hst
     rw [decide_eq_false h1] at hb
     subst hst
     refine ABr.f hb ?_
     cbv
     repeat' (first | (have h := hK.sim 10; unfold simL at h; exact h) | (have h := hK.sim 11; unfold simL at h; exact h) | exact trivial | constructor)
 . generalize x n = y
   cbv
end Go.Proofs.Ytkhipnhdbaahcaa
end
