import Derived.Test.YtkhipnhdbaahcaaGreatQBWD
import Derived.Test.YtkhipnhdbaahcaaGreatQBWA
import Derived.Test.YtkhipnhdbaahcaaGreatQBGL
section
set_option linter.unusedVariables false
set_option linter.unusedSimpArgs false
namespace Go.Proofs.YtkhipnhdbaahcaaGreat
open Go Eng
set_option maxRecDepth 100000
set_option exponentiation.threshold 2000
set_option maxHeartbeats 4000000
theorem div0lt (x : Int) (hx : 0 ≤ x ∧ x < 18446744073709551615) : Sp 168 [.i .u64 0, .s .u64 x, .s .u64 18446744073709551615] (.tup [.s .u64 0, .s .u64 x]) := by
  obtain ⟨x, rfl⟩ : ∃ n : Nat, x = n := ⟨x.toNat, by omega⟩
  have h := div0S x 18446744073709551615 (by omega) (by decide)
  rw [Nat.div_eq_of_lt (by omega), Nat.mod_eq_of_lt (by omega)] at h
  exact h
theorem div0eq : Sp 168 [.i .u64 0, .s .u64 18446744073709551615, .s .u64 18446744073709551615] (.tup [.s .u64 1, .s .u64 0]) := div0S 18446744073709551615 18446744073709551615 (by decide) (by decide)
theorem take0z (z : Int) (hz : z = 0) (u0 u1 u2 u3 v0 v1 v2 v3 : Int) (hu0 : 0 ≤ u0 ∧ u0 < 18446744073709551616) (hu1 : 0 ≤ u1 ∧ u1 < 18446744073709551616) (hu2 : 0 ≤ u2 ∧ u2 < 18446744073709551616) (hu3 : 0 ≤ u3 ∧ u3 < 18446744073709551616) (hv0 : 0 ≤ v0 ∧ v0 < 18446744073709551616) (hv1 : 0 ≤ v1 ∧ v1 < 18446744073709551616) (hv2 : 0 ≤ v2 ∧ v2 < 18446744073709551616) (hv3 : 0 ≤ v3 ∧ v3 < 18446744073709551616) (C : Blk) :
    SpecM Tryz.prog 169 [⟨true, true, [.s .u64 u0, .s .u64 u1, .s .u64 u2, .s .u64 u3, .i .u64 0]⟩, ⟨true, true, [.s .u64 v0, .s .u64 v1, .s .u64 v2, .s .u64 v3, .i .u64 0]⟩, C] [.osl false 0 0 5 1, .osl false 1 0 4 1, .s .u64 z] (.sb false)
      [⟨true, true, [.s .u64 u0, .s .u64 u1, .s .u64 u2, .s .u64 u3, .s .u64 0]⟩, ⟨true, true, [.s .u64 v0, .s .u64 v1, .s .u64 v2, .s .u64 v3, .i .u64 0]⟩, C] := by
  subst hz; exact take0S u0 u1 u2 u3 v0 v1 v2 v3 hu0 hu1 hu2 hu3 hv0 hv1 hv2 hv3 C
theorem c_lss {A : Ar} (hA : A = Ar.real) {x y : Int} {t : Bool} (h : decide (x < y) = t) : A.cmp .lss x y = t := (i_lt hA).trans h
theorem c_leq {A : Ar} (hA : A = Ar.real) {x y : Int} {t : Bool} (h : decide (x ≤ y) = t) : A.cmp .leq x y = t := by rw [hA]; exact h
theorem c_eql {A : Ar} (hA : A = Ar.real) {x y : Int} {t : Bool} (h : (x == y) = t) : A.cmp .eql x y = t := by rw [hA]; exact h
theorem stepA (u0 u1 u2 u3 v0 v1 v2 : Int) (hu0 : 0 ≤ u0 ∧ u0 < 18446744073709551616) (hu1 : 0 ≤ u1 ∧ u1 < 18446744073709551616) (hu2 : 0 ≤ u2 ∧ u2 < 18446744073709551616) (hu3 : 0 ≤ u3 ∧ u3 < 18446744073709551616) (hv0 : 0 ≤ v0 ∧ v0 < 18446744073709551616) (hv1 : 0 ≤ v1 ∧ v1 < 18446744073709551616) (hv2 : 0 ≤ v2 ∧ v2 < 18446744073709551616) (h3 : 0 < u3 ∧ u3 < 18446744073709551615) (C : Blk) : SpecM Tryz.prog 165 [⟨true, true, [.s .u64 u0, .s .u64 u1, .s .u64 u2, .s .u64 u3, .i .u64 0]⟩, ⟨true, true, [.s .u64 v0, .s .u64 v1, .s .u64 v2, .s .u64 18446744073709551615, .i .u64 0]⟩, C] [.osl false 0 0 5 1, .osl false 1 0 4 1] (.s .u64 0) [⟨true, true, [.s .u64 u0, .s .u64 u1, .s .u64 u2, .s .u64 u3, .s .u64 0]⟩, ⟨true, true, [.s .u64 v0, .s .u64 v1, .s .u64 v2, .s .u64 18446744073709551615, .i .u64 0]⟩, C] := by
  have cd := div0lt u3 ⟨hu3.1, h3.2⟩
  have cm := mul0 v2 hv2
  have ct := take0S u0 u1 u2 u3 v0 v1 v2 18446744073709551615 hu0 hu1 hu2 hu3 hv0 hv1 hv2 (show (0 : Int) ≤ 18446744073709551615 ∧ (18446744073709551615 : Int) < 18446744073709551616 by omega) C
  refine mkM Tryz.func165 rfl rfl L0 R0 (by decide +kernel) fun A S hA hS => ?_
  have t1 : A.cmp .lss 0 18446744073709551615 = true := c_lss hA rfl
  have t2 : A.cmp .lss 0 u3 = true := c_lss hA (decide_eq_true h3.1)
  unfold bodyOf Tryz.f165
  cbv
  refine ABr.t t1 ?_
  cbv
  refine ACall.mk _ (cf hS cd) ?_
  cbv
  refine ACall.mk _ (cf hS cm) ?_
  cbv
  repeat (first | (refine ABr.t t2 ?_; cbv))
  refine AMut.mk _ _ (Go.Proofs.YtkhipnhdbaahcaaGreat.cm hS ct) ?_
  cbv
  refine ABr.f rfl ?_
  cbv
theorem stepB2 (u0 u1 u2 u3 v0 v1 v2 : Int) (hu0 : 0 ≤ u0 ∧ u0 < 18446744073709551616) (hu1 : 0 ≤ u1 ∧ u1 < 18446744073709551616) (hu2 : 0 ≤ u2 ∧ u2 < 18446744073709551616) (hu3 : 0 ≤ u3 ∧ u3 < 18446744073709551616) (hv0 : 0 ≤ v0 ∧ v0 < 18446744073709551616) (hv1 : 0 ≤ v1 ∧ v1 < 18446744073709551616) (hv2 : 0 ≤ v2 ∧ v2 < 18446744073709551616) (h3 : u3 = 18446744073709551615) (h2 : u2 < v2) (C : Blk) : SpecM Tryz.prog 165 [⟨true, true, [.s .u64 u0, .s .u64 u1, .s .u64 u2, .s .u64 u3, .i .u64 0]⟩, ⟨true, true, [.s .u64 v0, .s .u64 v1, .s .u64 v2, .s .u64 18446744073709551615, .i .u64 0]⟩, C] [.osl false 0 0 5 1, .osl false 1 0 4 1] (.s .u64 0) [⟨true, true, [.s .u64 u0, .s .u64 u1, .s .u64 u2, .s .u64 u3, .s .u64 0]⟩, ⟨true, true, [.s .u64 v0, .s .u64 v1, .s .u64 v2, .s .u64 18446744073709551615, .i .u64 0]⟩, C] := by
  subst h3
  have cd := div0eq
  have cm1 := mul1 v2 hv2
  have cm0 := mul0 v2 hv2
  have s1r : rbin .sub .u64 1 1 = 0 := rfl
  have ct := fun z (hz : z = 0) => take0z z hz u0 u1 u2 18446744073709551615 v0 v1 v2 18446744073709551615 hu0 hu1 hu2 hu3 hv0 hv1 hv2 (show (0 : Int) ≤ 18446744073709551615 ∧ (18446744073709551615 : Int) < 18446744073709551616 by omega) C
  refine mkM Tryz.func165 rfl rfl L0 R0 (by decide +kernel) fun A S hA hS => ?_
  have t1 : A.cmp .lss 0 18446744073709551615 = true := c_lss hA rfl
  have t0 : A.cmp .lss 0 0 = false := c_lss hA rfl
  have t2 : A.cmp .eql 0 0 = true := c_eql hA rfl
  have t3 : A.cmp .leq v2 u2 = false := c_leq hA (decide_eq_false (by omega))
  have t4 : A.cmp .neq 0 0 = false := ne0_f hA rfl
  have s1 : A.bin .sub .u64 1 1 = 0 := by rw [hA]; rfl
  unfold bodyOf Tryz.f165
  cbv
  refine ABr.t t1 ?_
  cbv
  refine ACall.mk _ (cf hS cd) ?_
  cbv
  refine ACall.mk _ (cf hS cm1) ?_
  cbv
  repeat (first | (refine ABr.f t0 ?_; cbv) | (refine ABr.t t2 ?_; cbv) | (refine ABr.f t3 ?_; cbv))
  refine ACall.mk (.tup [.s .u64 18446744073709551615, .s .u64 0]) (cg hS (add64S (x := 0) (y := 18446744073709551615) (z := 0) (.s _) (.s _) (.i _) (by omega) (by omega) (by omega) 18446744073709551615 0 (by omega) (by omega)) ?_) ?_
  · cbv
  cbv
  refine ABr.f t4 ?_
  cbv
  refine ACall.mk _ (cg hS cm0 ?_) ?_
  · cbv
    repeat' (first | exact s1 | exact rfl | exact trivial | constructor)
  cbv
  repeat (first | (refine ABr.t t1 ?_; cbv))
  refine AMut.mk _ _ (Go.Proofs.YtkhipnhdbaahcaaGreat.cm hS (ct _ s1)) ?_
  cbv
  refine ABr.f rfl ?_
  cbv
  subst hA
  exact ⟨congrArg (AVal.s .u64) s1r, trivial⟩
theorem stepB1 (u0 u1 u2 u3 v0 v1 v2 o0 o1 o2 o3 k1 k2 k3 k4 : Int) (hu0 : 0 ≤ u0 ∧ u0 < 18446744073709551616) (hu1 : 0 ≤ u1 ∧ u1 < 18446744073709551616) (hu2 : 0 ≤ u2 ∧ u2 < 18446744073709551616) (hu3 : 0 ≤ u3 ∧ u3 < 18446744073709551616) (hv0 : 0 ≤ v0 ∧ v0 < 18446744073709551616) (hv1 : 0 ≤ v1 ∧ v1 < 18446744073709551616) (hv2 : 0 ≤ v2 ∧ v2 < 18446744073709551616) (e0 : o0 - 18446744073709551616 * k1 = u0 - v0 - 0) (e1 : o1 - 18446744073709551616 * k2 = u1 - v1 - k1) (e2 : o2 - 18446744073709551616 * k3 = u2 - v2 - k2) (e3 : o3 - 18446744073709551616 * k4 = u3 - 18446744073709551615 - k3) (r0 : 0 ≤ o0 ∧ o0 < 18446744073709551616) (r1 : 0 ≤ o1 ∧ o1 < 18446744073709551616) (r2 : 0 ≤ o2 ∧ o2 < 18446744073709551616) (r3 : 0 ≤ o3 ∧ o3 < 18446744073709551616) (q1 : 0 ≤ k1 ∧ k1 ≤ 1) (q2 : 0 ≤ k2 ∧ k2 ≤ 1) (q3 : 0 ≤ k3 ∧ k3 ≤ 1) (q4 : 0 ≤ k4 ∧ k4 ≤ 1) (hk : k4 = 0) (h3 : u3 = 18446744073709551615) (h2 : v2 ≤ u2) (C : Blk) : ∃ q, SpecM Tryz.prog 165 [⟨true, true, [.s .u64 u0, .s .u64 u1, .s .u64 u2, .s .u64 u3, .i .u64 0]⟩, ⟨true, true, [.s .u64 v0, .s .u64 v1, .s .u64 v2, .s .u64 18446744073709551615, .i .u64 0]⟩, C] [.osl false 0 0 5 1, .osl false 1 0 4 1] (.s .u64 q) [⟨true, true, [.s .u64 o0, .s .u64 o1, .s .u64 o2, .s .u64 o3, .s .u64 0]⟩, ⟨true, true, [.s .u64 v0, .s .u64 v1, .s .u64 v2, .s .u64 18446744073709551615, .i .u64 0]⟩, C] := by
  have cd := div0eq
  have cm1 := mul1 v2 hv2
  have ct := take1S u0 u1 u2 u3 v0 v1 v2 18446744073709551615 o0 o1 o2 o3 k1 k2 k3 k4 hu0 hu1 hu2 hu3 hv0 hv1 hv2 (show (0 : Int) ≤ 18446744073709551615 ∧ (18446744073709551615 : Int) < 18446744073709551616 by omega) e0 e1 e2 e3 r0 r1 r2 r3 q1 q2 q3 q4 hk C
  refine ⟨1, ?_⟩
  subst h3
  refine mkM Tryz.func165 rfl rfl L0 R0 (by decide +kernel) fun A S hA hS => ?_
  have t1 : A.cmp .lss 0 18446744073709551615 = true := c_lss hA rfl
  have t0 : A.cmp .lss 0 0 = false := c_lss hA rfl
  have t2 : A.cmp .eql 0 0 = true := c_eql hA rfl
  have t3 : A.cmp .leq v2 u2 = true := c_leq hA (decide_eq_true (by omega))
  unfold bodyOf Tryz.f165
  cbv
  refine ABr.t t1 ?_
  cbv
  refine ACall.mk _ (cf hS cd) ?_
  cbv
  refine ACall.mk _ (cf hS cm1) ?_
  cbv
  repeat (first | (refine ABr.f t0 ?_; cbv) | (refine ABr.t t2 ?_; cbv) | (refine ABr.t t3 ?_; cbv))
  refine AMut.mk _ _ (Go.Proofs.YtkhipnhdbaahcaaGreat.cm hS ct) ?_
  cbv
  refine ABr.f rfl ?_
  cbv
theorem stepB3 (u0 u1 u2 u3 v0 v1 v2 o0 o1 o2 o3 k1 k2 k3 k4 : Int) (hu0 : 0 ≤ u0 ∧ u0 < 18446744073709551616) (hu1 : 0 ≤ u1 ∧ u1 < 18446744073709551616) (hu2 : 0 ≤ u2 ∧ u2 < 18446744073709551616) (hu3 : 0 ≤ u3 ∧ u3 < 18446744073709551616) (hv0 : 0 ≤ v0 ∧ v0 < 18446744073709551616) (hv1 : 0 ≤ v1 ∧ v1 < 18446744073709551616) (hv2 : 0 ≤ v2 ∧ v2 < 18446744073709551616) (e0 : o0 - 18446744073709551616 * k1 = u0 - v0 - 0) (e1 : o1 - 18446744073709551616 * k2 = u1 - v1 - k1) (e2 : o2 - 18446744073709551616 * k3 = u2 - v2 - k2) (e3 : o3 - 18446744073709551616 * k4 = u3 - 18446744073709551615 - k3) (r0 : 0 ≤ o0 ∧ o0 < 18446744073709551616) (r1 : 0 ≤ o1 ∧ o1 < 18446744073709551616) (r2 : 0 ≤ o2 ∧ o2 < 18446744073709551616) (r3 : 0 ≤ o3 ∧ o3 < 18446744073709551616) (q1 : 0 ≤ k1 ∧ k1 ≤ 1) (q2 : 0 ≤ k2 ∧ k2 ≤ 1) (q3 : 0 ≤ k3 ∧ k3 ≤ 1) (q4 : 0 ≤ k4 ∧ k4 ≤ 1) (hk : k4 = 1) (h3 : u3 = 18446744073709551615) (h2 : v2 ≤ u2) (C : Blk) : ∃ q, SpecM Tryz.prog 165 [⟨true, true, [.s .u64 u0, .s .u64 u1, .s .u64 u2, .s .u64 u3, .i .u64 0]⟩, ⟨true, true, [.s .u64 v0, .s .u64 v1, .s .u64 v2, .s .u64 18446744073709551615, .i .u64 0]⟩, C] [.osl false 0 0 5 1, .osl false 1 0 4 1] (.s .u64 q) [⟨true, true, [.s .u64 u0, .s .u64 u1, .s .u64 u2, .s .u64 u3, .s .u64 0]⟩, ⟨true, true, [.s .u64 v0, .s .u64 v1, .s .u64 v2, .s .u64 18446744073709551615, .i .u64 0]⟩, C] := by
  have cd := div0eq
  have cm1 := mul1 v2 hv2
  have ct := take1bS u0 u1 u2 u3 v0 v1 v2 18446744073709551615 o0 o1 o2 o3 k1 k2 k3 k4 hu0 hu1 hu2 hu3 hv0 hv1 hv2 (show (0 : Int) ≤ 18446744073709551615 ∧ (18446744073709551615 : Int) < 18446744073709551616 by omega) e0 e1 e2 e3 r0 r1 r2 r3 q1 q2 q3 q4 hk C
  have cg_ := giveS u0 u1 u2 u3 v0 v1 v2 18446744073709551615 o0 o1 o2 o3 k1 k2 k3 k4 hu0 hu1 hu2 hu3 hv0 hv1 hv2 (show (0 : Int) ≤ 18446744073709551615 ∧ (18446744073709551615 : Int) < 18446744073709551616 by omega) e0 e1 e2 e3 r0 r1 r2 r3 q1 q2 q3 q4 hk C
  refine ⟨0, ?_⟩
  have s1 : rbin .sub .u64 1 1 = 0 := rfl
  subst h3
  refine mkM Tryz.func165 rfl rfl L0 R0 (by decide +kernel) fun A S hA hS => ?_
  have t1 : A.cmp .lss 0 18446744073709551615 = true := c_lss hA rfl
  have t0 : A.cmp .lss 0 0 = false := c_lss hA rfl
  have t2 : A.cmp .eql 0 0 = true := c_eql hA rfl
  have t3 : A.cmp .leq v2 u2 = true := c_leq hA (decide_eq_true (by omega))
  unfold bodyOf Tryz.f165
  cbv
  refine ABr.t t1 ?_
  cbv
  refine ACall.mk _ (cf hS cd) ?_
  cbv
  refine ACall.mk _ (cf hS cm1) ?_
  cbv
  repeat (first | (refine ABr.f t0 ?_; cbv) | (refine ABr.t t2 ?_; cbv) | (refine ABr.t t3 ?_; cbv))
  refine AMut.mk _ _ (Go.Proofs.YtkhipnhdbaahcaaGreat.cm hS ct) ?_
  cbv
  refine ABr.t rfl ?_
  cbv
  refine AMut.mk _ _ (Go.Proofs.YtkhipnhdbaahcaaGreat.cm hS cg_) ?_
  cbv
  repeat (first | (refine ABr.t t2 ?_; cbv))
  subst hA
  exact ⟨congrArg (AVal.s .u64) s1, trivial⟩
end Go.Proofs.YtkhipnhdbaahcaaGreat
end
section
set_option linter.unusedVariables false
set_option linter.unusedSimpArgs false
namespace Go.Proofs.YtkhipnhdbaahcaaGreat
open Go Eng
set_option maxRecDepth 100000
set_option exponentiation.threshold 2000
set_option maxHeartbeats 4000000
/-- A modulus of four words whose highest is 2^64 - 1. -/
def TopM (m : Nat) : Prop := m < 2 ^ 256 ∧ 18446744073709551615 * 2 ^ 192 ≤ m
theorem TopM.topW {m : Nat} (h : TopM m) : TopW m 4 := ⟨h.1, fun _ => by have := h.2; show 2 ^ 192 ≤ m; omega⟩
theorem TopM.w3 {m : Nat} (h : TopM m) {lim : Lim} (hl : lim = limR) : lim m 3 = 18446744073709551615 := by
  subst hl
  have h1 := h.1
  have h2 := h.2
  show ((m / 2 ^ 192 % 2 ^ 64 : Nat) : Int) = _
  have : m / 2 ^ 192 = 18446744073709551615 := by
    refine Nat.le_antisymm ?_ ((Nat.le_div_iff_mul_le (Nat.two_pow_pos _)).2 h2)
    have : m / 2 ^ 192 < 2 ^ 64 := Nat.div_lt_of_lt_mul (by rw [← Nat.pow_add]; exact h1)
    omega
  rw [this]; rfl
theorem word_cases {x m : Nat} {lim : Lim} (hl : lim = limR) (hx : TopW x 4) (hm : TopM m) (C : Blk) :
    ∃ q : Int, SpecM Tryz.prog 165 [⟨true, true, [.s .u64 (lim x 0), .s .u64 (lim x 1), .s .u64 (lim x 2), .s .u64 (lim x 3), .i .u64 0]⟩, ⟨true, true, [.s .u64 (lim m 0), .s .u64 (lim m 1), .s .u64 (lim m 2), .s .u64 18446744073709551615, .i .u64 0]⟩, C] [.osl false 0 0 5 1, .osl false 1 0 4 1] (.s .u64 q)
      [⟨true, true, [.s .u64 (lim (x % m) 0), .s .u64 (lim (x % m) 1), .s .u64 (lim (x % m) 2), .s .u64 (lim (x % m) 3), .s .u64 0]⟩, ⟨true, true, [.s .u64 (lim m 0), .s .u64 (lim m 1), .s .u64 (lim m 2), .s .u64 18446744073709551615, .i .u64 0]⟩, C] := by
  have rx := fun i => lim_range hl x i
  have rm := fun i => lim_range hl m i
  have m3 := hm.w3 hl
  obtain ⟨e3, l3, n3⟩ := hx.top (k := 3) hl
  have sx := split4 hl x hx.1
  have sm := split4 hl m hm.1
  rw [m3] at sm
  have r3 := rx 3
  by_cases h3 : lim x 3 = 18446744073709551615
  · rw [h3] at sx
    by_cases h2 : lim x 2 < lim m 2
    · have hlt : x < m := by
        have a0 := rx 0; have a1 := rx 1; have b0 := rm 0; have b1 := rm 1; omega
      rw [Nat.mod_eq_of_lt hlt]
      exact ⟨0, stepB2 _ _ _ _ _ _ _ (rx 0) (rx 1) (rx 2) (rx 3) (rm 0) (rm 1) (rm 2) h3 h2 C⟩
    · obtain ⟨o0, k1, e0, p0, q1⟩ := borrow (rx 0) (rm 0) (z := 0) (by omega)
      obtain ⟨o1, k2, e1, p1, q2⟩ := borrow (rx 1) (rm 1) q1
      obtain ⟨o2, k3, e2, p2, q3⟩ := borrow (rx 2) (rm 2) q2
      obtain ⟨o3, k4, e3', p3, q4⟩ := borrow (x := lim x 3) (y := 18446744073709551615) r3 (by omega) q3
      by_cases hlt : x < m
      · rw [Nat.mod_eq_of_lt hlt]
        have hk : k4 = 1 := by
          rw [h3] at e3'
          have a0 := rx 0; have a1 := rx 1; have b0 := rm 0; have b1 := rm 1; have a2 := rx 2; have b2 := rm 2
          omega
        exact stepB3 _ _ _ _ _ _ _ o0 o1 o2 o3 k1 k2 k3 k4 (rx 0) (rx 1) (rx 2) (rx 3) (rm 0) (rm 1) (rm 2) e0 e1 e2 e3' p0 p1 p2 p3 q1 q2 q3 q4 hk h3 (by omega) C
      · have hmod : x % m = x - m := by
          rw [Nat.mod_eq_sub_mod (by omega), Nat.mod_eq_of_lt]
          have := hm.2; have := hx.1; omega
        have hk : k4 = 0 := by
          rw [h3] at e3'
          have a0 := rx 0; have a1 := rx 1; have b0 := rm 0; have b1 := rm 1; have a2 := rx 2; have b2 := rm 2
          omega
        have hv : ((x - m : Nat) : Int) = o0 + 18446744073709551616 * (o1 + 18446744073709551616 * (o2 + 18446744073709551616 * o3)) := by
          subst hk
          rw [h3] at e3'
          rw [Int.ofNat_sub (by omega)]
          omega
        obtain ⟨f0, f1, f2, f3⟩ := lim_of4 hl (a := x - m) (by have := hx.1; omega) p0 p1 p2 hv
        rw [hmod, f0, f1, f2, f3]
        exact stepB1 _ _ _ _ _ _ _ o0 o1 o2 o3 k1 k2 k3 k4 (rx 0) (rx 1) (rx 2) (rx 3) (rm 0) (rm 1) (rm 2) e0 e1 e2 e3' p0 p1 p2 p3 q1 q2 q3 q4 hk h3 (by omega) C
  · have hlt : x < m := by
      have a0 := rx 0; have a1 := rx 1; have a2 := rx 2; have b0 := rm 0; have b1 := rm 1; have b2 := rm 2; omega
    rw [Nat.mod_eq_of_lt hlt]
    exact ⟨0, stepA _ _ _ _ _ _ _ (rx 0) (rx 1) (rx 2) (rx 3) (rm 0) (rm 1) (rm 2) ⟨by omega, by omega⟩ C⟩
theorem divide0S {lim : Lim} (hl : lim = limR) (x m : Nat) (hx : TopW x 0) (hm : TopM m) : Sp 138 [.lst false 4 [.s .u64 (lim x 0), .s .u64 (lim x 1), .s .u64 (lim x 2), .s .u64 (lim x 3)], .lst false 4 [.s .u64 (lim m 0), .s .u64 (lim m 1), .s .u64 (lim m 2), .s .u64 (lim m 3)]] (.tup [.v (.slice none 0 0), .lst false 0 []]) := by
  have cx := trim0S hl x hx
  have cm := trim4S hl m hm.topW
  refine mk Tryz.func138 rfl rfl L0 R0 (by decide +kernel) fun A S hA hS => ?_
  unfold bodyOf Tryz.f138
  cbv
  refine ACall.mk _ (cf hS cx) ?_
  cbv
  refine ACall.mk _ (cf hS cm) ?_
  cbv
theorem divide1S {lim : Lim} (hl : lim = limR) (x m : Nat) (hx : TopW x 1) (hm : TopM m) : Sp 138 [.lst false 4 [.s .u64 (lim x 0), .s .u64 (lim x 1), .s .u64 (lim x 2), .s .u64 (lim x 3)], .lst false 4 [.s .u64 (lim m 0), .s .u64 (lim m 1), .s .u64 (lim m 2), .s .u64 (lim m 3)]] (.tup [.v (.slice none 0 0), .lst false 1 [.s .u64 (lim x 0)]]) := by
  have cx := trim1S hl x hx
  have cm := trim4S hl m hm.topW
  refine mk Tryz.func138 rfl rfl L0 R0 (by decide +kernel) fun A S hA hS => ?_
  unfold bodyOf Tryz.f138
  cbv
  refine ACall.mk _ (cf hS cx) ?_
  cbv
  refine ACall.mk _ (cf hS cm) ?_
  cbv
theorem divide2S {lim : Lim} (hl : lim = limR) (x m : Nat) (hx : TopW x 2) (hm : TopM m) : Sp 138 [.lst false 4 [.s .u64 (lim x 0), .s .u64 (lim x 1), .s .u64 (lim x 2), .s .u64 (lim x 3)], .lst false 4 [.s .u64 (lim m 0), .s .u64 (lim m 1), .s .u64 (lim m 2), .s .u64 (lim m 3)]] (.tup [.v (.slice none 0 0), .lst false 2 [.s .u64 (lim x 0), .s .u64 (lim x 1)]]) := by
  have cx := trim2S hl x hx
  have cm := trim4S hl m hm.topW
  refine mk Tryz.func138 rfl rfl L0 R0 (by decide +kernel) fun A S hA hS => ?_
  unfold bodyOf Tryz.f138
  cbv
  refine ACall.mk _ (cf hS cx) ?_
  cbv
  refine ACall.mk _ (cf hS cm) ?_
  cbv
theorem divide3S {lim : Lim} (hl : lim = limR) (x m : Nat) (hx : TopW x 3) (hm : TopM m) : Sp 138 [.lst false 4 [.s .u64 (lim x 0), .s .u64 (lim x 1), .s .u64 (lim x 2), .s .u64 (lim x 3)], .lst false 4 [.s .u64 (lim m 0), .s .u64 (lim m 1), .s .u64 (lim m 2), .s .u64 (lim m 3)]] (.tup [.v (.slice none 0 0), .lst false 3 [.s .u64 (lim x 0), .s .u64 (lim x 1), .s .u64 (lim x 2)]]) := by
  have cx := trim3S hl x hx
  have cm := trim4S hl m hm.topW
  refine mk Tryz.func138 rfl rfl L0 R0 (by decide +kernel) fun A S hA hS => ?_
  unfold bodyOf Tryz.f138
  cbv
  refine ACall.mk _ (cf hS cx) ?_
  cbv
  refine ACall.mk _ (cf hS cm) ?_
  cbv
theorem divide4S {lim : Lim} (hl : lim = limR) (x m : Nat) (hx : TopW x 4) (hm : TopM m) : ∃ q : Int, Sp 138 [.lst false 4 [.s .u64 (lim x 0), .s .u64 (lim x 1), .s .u64 (lim x 2), .s .u64 (lim x 3)], .lst false 4 [.s .u64 (lim m 0), .s .u64 (lim m 1), .s .u64 (lim m 2), .s .u64 (lim m 3)]] (.tup [.lst false 1 [.s .u64 q], .lst false 4 [.s .u64 (lim (x % m) 0), .s .u64 (lim (x % m) 1), .s .u64 (lim (x % m) 2), .s .u64 (lim (x % m) 3)]]) := by
  have cx := trim4S hl x hx
  have cm := trim4S hl m hm.topW
  have rx := fun i => lim_range hl x i
  have rm := fun i => lim_range hl m i
  have m3 := hm.w3 hl
  have cz := lzS
  have sx := shiftedS (lim x) (fun i _ => rx i)
  have sm := shiftedS (lim m) (fun i _ => rm i)
  rw [m3] at sm cm
  obtain ⟨q, st⟩ := word_cases hl hx hm ⟨true, true, [.i .u64 0]⟩
  have rr := fun i => lim_range hl (x % m) i
  generalize x % m = r at *
  rw [m3]
  refine ⟨q, ?_⟩
  refine mk Tryz.func138 rfl rfl L0 R0 (by decide +kernel) fun A S hA hS => ?_
  have s0 : ∀ i, A.bin .shr .u64 (lim r i) 0 = lim r i := fun i => by rw [hA]; exact shr0 (rr i).1
  unfold bodyOf Tryz.f138
  cbv
  refine ACall.mk _ (cf hS cx) ?_
  cbv
  refine ACall.mk _ (cf hS cm) ?_
  cbv
  refine ACall.mk _ (cf hS cz) ?_
  cbv
  refine ACall.mk _ (cf hS sx) ?_
  cbv
  refine ACall.mk _ (cf hS sm) ?_
  cbv
  refine AMut.mk _ _ (Go.Proofs.YtkhipnhdbaahcaaGreat.cm hS st) ?_
  cbv
  repeat' (first | exact s0 0 | exact s0 1 | exact s0 2 | exact s0 3 | exact trivial | exact rfl | constructor)
theorem bothS {lim : Lim} (hl : lim = limR) (x m : Nat) (hx : x < 2 ^ 256) (hm : TopM m) : Sp 105 [.lst false 4 [.s .u64 (lim x 0), .s .u64 (lim x 1), .s .u64 (lim x 2), .s .u64 (lim x 3)], u4 lim m] (.tup [.v (.slice none 0 0), u4 lim (x % m)]) ∨ ∃ q : Int, Sp 105 [.lst false 4 [.s .u64 (lim x 0), .s .u64 (lim x 1), .s .u64 (lim x 2), .s .u64 (lim x 3)], u4 lim m] (.tup [.lst false 1 [.s .u64 q], u4 lim (x % m)]) := by
  have hm0 : m ≠ 0 := by have := hm.2; omega
  obtain ⟨k, hk, ht⟩ := topW_ex hx
  have hz := hm.1
  by_cases h4 : k = 4
  · subst h4
    obtain ⟨q, cd⟩ := divide4S hl x m ht hm
    have cw := word4S (lim := lim) (x % m)
    refine .inr ⟨q, ?_⟩
    generalize x % m = r at *
    refine mk Tryz.func105 rfl rfl L0 R0 (by decide +kernel) fun A S hA hS => ?_
    have e := (zeq4 hA hl (x := m) hz).trans (decide_eq_false hm0)
    unfold bodyOf Tryz.f105
    cbv
    refine ABr.f e ?_
    cbv
    refine ACall.mk _ (cf hS cd) ?_
    cbv
    refine ACall.mk _ (cf hS cw) ?_
    cbv
  have hlt : x < m := by
    have h1 := ht.1
    have h2 := hm.2
    have : (2 : Nat) ^ (64 * k) ≤ 2 ^ 192 := Nat.pow_le_pow_right (by decide) (by omega)
    omega
  rw [Nat.mod_eq_of_lt hlt]
  refine .inl ?_
  rcases (by omega : k = 0 ∨ k = 1 ∨ k = 2 ∨ k = 3) with rfl | rfl | rfl | rfl
  · have cd := divide0S hl x m ht hm
    have cw := word0S hl x ht
    refine mk Tryz.func105 rfl rfl L0 R0 (by decide +kernel) fun A S hA hS => ?_
    have e := (zeq4 hA hl (x := m) hz).trans (decide_eq_false hm0)
    unfold bodyOf Tryz.f105
    cbv
    refine ABr.f e ?_
    cbv
    refine ACall.mk _ (cf hS cd) ?_
    cbv
    refine ACall.mk _ (cf hS cw) ?_
    cbv
  · have cd := divide1S hl x m ht hm
    have cw := word1S hl x ht
    refine mk Tryz.func105 rfl rfl L0 R0 (by decide +kernel) fun A S hA hS => ?_
    have e := (zeq4 hA hl (x := m) hz).trans (decide_eq_false hm0)
    unfold bodyOf Tryz.f105
    cbv
    refine ABr.f e ?_
    cbv
    refine ACall.mk _ (cf hS cd) ?_
    cbv
    refine ACall.mk _ (cf hS cw) ?_
    cbv
  · have cd := divide2S hl x m ht hm
    have cw := word2S hl x ht
    refine mk Tryz.func105 rfl rfl L0 R0 (by decide +kernel) fun A S hA hS => ?_
    have e := (zeq4 hA hl (x := m) hz).trans (decide_eq_false hm0)
    unfold bodyOf Tryz.f105
    cbv
    refine ABr.f e ?_
    cbv
    refine ACall.mk _ (cf hS cd) ?_
    cbv
    refine ACall.mk _ (cf hS cw) ?_
    cbv
  · have cd := divide3S hl x m ht hm
    have cw := word3S hl x ht
    refine mk Tryz.func105 rfl rfl L0 R0 (by decide +kernel) fun A S hA hS => ?_
    have e := (zeq4 hA hl (x := m) hz).trans (decide_eq_false hm0)
    unfold bodyOf Tryz.f105
    cbv
    refine ABr.f e ?_
    cbv
    refine ACall.mk _ (cf hS cd) ?_
    cbv
    refine ACall.mk _ (cf hS cw) ?_
    cbv
theorem modS {lim : Lim} (hl : lim = limR) (x m : Nat) (hx : x < 2 ^ 256) (hm : TopM m) : Sp 55 [u4 lim x, u4 lim m] (u4 lim (x % m)) := by
  rcases bothS hl x m hx hm with cb | ⟨q, cb⟩
  · generalize x % m = r at *
    refine mk Tryz.func55 rfl rfl L0 R1 (by decide +kernel) fun A S hA hS => ?_
    unfold bodyOf Tryz.f55
    cbv
    refine ACall.mk _ (cf hS cb) ?_
    cbv
  · generalize x % m = r at *
    refine mk Tryz.func55 rfl rfl L0 R1 (by decide +kernel) fun A S hA hS => ?_
    unfold bodyOf Tryz.f55
    cbv
    refine ACall.mk _ (cf hS cb) ?_
    cbv
end Go.Proofs.YtkhipnhdbaahcaaGreat
end
section
set_option linter.unusedVariables false
set_option linter.unusedSectionVars false
set_option linter.unusedSimpArgs false
namespace Go.Proofs.YtkhipnhdbaahcaaGreat
open Go Eng
set_option maxRecDepth 100000
set_option exponentiation.threshold 2000
set_option maxHeartbeats 4000000
/-- An iterator that calls others. -/
theorem mkJ {f : FuncId} {fn : Func} {cap : List AVal} {n : Nat} {xs : Nat → List AVal} (hf : Tryz.prog.funcs[f]? = some fn) (hb : fn.body = some (bodyOf fn)) (hn : (fn.name == "runtime.NumGoroutine") = false) (Nl : Nat → Nat) (tr : Nat → Md)
    (hok : codeOK tr (bodyOf fn) = true) (hnr : noRange (bodyOf fn) = true) (h : ∀ (A : Ar) (S : SpecT), A = Ar.real → S.n = n → S.xs = xs → (∀ f As r, Sp f As r → S.fn f As r) → afunI A TT S Nl tr fn.ntmps fn.results (bodyOf fn) S.l cap (fun k => k = ghost n)) : SeqSp Tryz.prog f cap n xs :=
  seq_of_afunI (P := Tryz.prog) (T := TT) TT.ok TT.mixed (draw_ok (P := Tryz.prog) (T := TT) TT.ok) hf hb hn (N := Nl) (tr := tr) hok hnr fun l => h Ar.real { specs Tryz.prog with l := l, n := n, xs := xs, it := true, gc := false } rfl rfl rfl fun _ _ _ h => h
theorem a_offsF {A : Ar} (hA : A = Ar.real) (off i sz : Nat) : A.offs off i sz = off + i * sz := by rw [hA]; rfl
theorem row4F (lim : Lim) (e : Nat) : IsRow [.s .u64 (lim e 0), .s .u64 (lim e 1), .s .u64 (lim e 2), .s .u64 (lim e 3)] (lim e) 4 :=
  ⟨rfl, fun i hi => by match i, hi with | 0, _ => rfl | 1, _ => rfl | 2, _ => rfl | 3, _ => rfl⟩
theorem bitsOfS {lim : Lim} (e : Nat) : Sp 111 [u4 lim e] (.fn (.func 142) [] [.ref [.s .u64 (lim e 0), .s .u64 (lim e 1), .s .u64 (lim e 2), .s .u64 (lim e 3)] 0]) := by
  refine mkE Tryz.func111 rfl rfl LN R1 (by decide +kernel) fun A S hA hS => ?_
  unfold bodyOf Tryz.f111
  cbv
theorem word_bit (e k : Nat) : (limR e (k / 64)).toNat / 2 ^ (k % 64) % 2 = e / 2 ^ k % 2 := by
  unfold limR
  rw [Int.toNat_natCast]
  obtain ⟨r, hr⟩ : ∃ r, r = k % 64 := ⟨_, rfl⟩
  have e1 : k = 64 * (k / 64) + r := by omega
  rw [← hr]
  have e2 : e / 2 ^ k = e / 2 ^ (64 * (k / 64)) / 2 ^ r := by rw [Nat.div_div_eq_div_mul, ← Nat.pow_add, ← e1]
  rw [e2]
  generalize e / 2 ^ (64 * (k / 64)) = q
  have hr64 : r < 64 := by omega
  rw [show (2 : Nat) ^ 64 = 2 ^ r * 2 ^ (64 - r) by rw [← Nat.pow_add]; congr 1; omega, Nat.mod_mul_right_div_self]
  rw [show 64 - r = 1 + (63 - r) by omega, Nat.pow_add, Nat.mod_mul_right_mod]
theorem bitsI {lim : Lim} (hl : lim = limR) (e n : Nat) (he : e < 2 ^ 256) (hn : IsLen e n) (xs : Nat → List AVal)
    (hx : ∀ i, i < n → xs i = [.s .u64 ((e / 2 ^ (n - 1 - i) % 2 : Nat) : Int)]) : SeqSp Tryz.prog 142 [.ref [.s .u64 (lim e 0), .s .u64 (lim e 1), .s .u64 (lim e 2), .s .u64 (lim e 3)] 0] n xs := by
  have hn256 := hn.ge he
  have cb := bitsS hl e n he hn
  have hcs := row4F lim e
  have hw := fun i => lim_range hl e i
  have hbt : ∀ k : Nat, (lim e (k / 64)).toNat / 2 ^ (k % 64) % 2 = e / 2 ^ k % 2 := fun k => by rw [hl]; exact word_bit e k
  obtain ⟨ni, hni⟩ : ∃ z : Int, z = (n : Int) := ⟨_, rfl⟩
  rw [← hni] at cb
  have h00 : ni - 1 = (n : Int) - 1 - ((0 : Nat) : Int) := by omega
  refine mkJ Tryz.func142 rfl rfl LN R0 (by decide +kernel) (by decide +kernel) fun A S hA hSn hxs hfn => ?_
  have hsub0 : A.bin .sub .i64 ni 1 = ni - 1 := e_sub hA rfl rfl rfl (by omega)
  unfold bodyOf Tryz.f142
  cbv
  refine ACall.mk _ (hfn _ _ _ cb) ?_
  cbv
  refine .inv (α := Nat × Int) (fun p => ⟨[.v (.func (.yield S.l) #[] #[]), .ref [.s .u64 (lim e 0), .s .u64 (lim e 1), .s .u64 (lim e 2), .s .u64 (lim e 3)] 0, .tup [], .s .i64 p.2, .any, .any, .any, .any, .any, .any, .any, .any, .any, .any, .any, .any, .any, .any, .any, .any, .any, .any], ghost p.1⟩)
    (fun p => p.1 ≤ n ∧ p.2 = (n : Int) - 1 - p.1) (fun p => n - p.1) (0, ni - 1) ?_ ⟨Nat.zero_le _, h00⟩ ?_
  · cbv
    repeat' (first | exact hsub0 | exact rfl | exact trivial | constructor)
  rintro ⟨j, i⟩ ⟨hj, hi⟩
  dsimp only at hj hi ⊢
  by_cases h0 : i ≥ 0
  · obtain ⟨k, rfl⟩ : ∃ k : Nat, i = k := ⟨i.toNat, by omega⟩
    have hjk : n - 1 - j = k := by omega
    have hj' : j < n := by omega
    obtain ⟨y, hy⟩ : ∃ y : Int, y = k - 1 := ⟨_, rfl⟩
    have hlast : y = (n : Int) - 1 - (j + 1 : Nat) := by omega
    have hdec : n - (j + 1) < n - j := by omega
    obtain ⟨q, hqk⟩ : ∃ q, q = k / 64 := ⟨_, rfl⟩
    have hqn : q < 4 := by omega
    have hbk := hbt k
    rw [← hqk] at hbk
    have hrem : A.bin .rem .i64 (k : Int) 64 = ((k % 64 : Nat) : Int) := e_rem hA rfl rfl (by omega) (by omega)
    have hquo : A.bin .quo .i64 (k : Int) 64 = (q : Int) := e_quo hA rfl rfl (by omega) (by omega) (by omega) (by omega)
    have hsub : A.bin .sub .i64 (k : Int) 1 = y := e_sub hA rfl rfl hy.symm (by omega)
    have hok : A.okb .shr (A.bin .rem .i64 (k : Int) 64) = true := by rw [hrem]; exact (a_okbS hA (by omega)).1
    have hge : A.cmp .geq (k : Int) 0 = true := (i_ge hA).trans (decide_eq_true (by omega))
    have hq : lsub [.s .u64 (lim e 0), .s .u64 (lim e 1), .s .u64 (lim e 2), .s .u64 (lim e 3)] (A.offs 0 q 1) 1 = some [.s .u64 (lim e q)] := by rw [a_offsF hA, Nat.zero_add]; exact hcs.2 q hqn
    have hbit := u_bit hA (hw q) hrem (by omega)
    rw [hbk] at hbit
    have hargs : [AVal.s .u64 (A.bin .and .u64 (A.bin .shr .u64 (lim e q) (A.bin .rem .i64 (k : Int) 64)) 1)] = S.xs j := by
      rw [hxs, hx j hj', hbit, hjk]
    have nt : (!true) = false := rfl
    clear hbt hbk hbit
    cbv
    refine ABr.t hge ?_
    cbv
    refine .sym q hquo hqn ?_
    cbv
    refine .mk _ hq ?_
    cbv
    refine .mk hok ?_
    cbv
    refine .mk j rfl (by rw [hSn]; exact hj') rfl hargs ?_
    cbv
    refine ⟨(j + 1, y), ?_, ⟨hj', hlast⟩, hdec⟩
    cbv
    simp only [and_true]
    exact hsub
  · have hge : A.cmp .geq i 0 = false := (i_ge hA).trans (decide_eq_false h0)
    obtain rfl : j = n := by omega
    obtain ⟨g, hg⟩ : ∃ g, g = ghost j := ⟨_, rfl⟩
    rw [← hg]
    cbv
    refine ABr.f hge ?_
    cbv
variable {p : Nat} [NeZero p]
def timesH (k : Kf p) (r : List AVal) (j : Cv.Jac (Fin p)) (lim : Lim) (e : Nat) (o : Cv.Jac (Fin p)) : List Blk :=
  [⟨true, true, [.ref r 0]⟩, ⟨true, true, [.s .u64 (k.w j.x 0), .s .u64 (k.w j.x 1), .s .u64 (k.w j.x 2), .s .u64 (k.w j.x 3), .s .u64 (k.w j.y 0), .s .u64 (k.w j.y 1), .s .u64 (k.w j.y 2), .s .u64 (k.w j.y 3), .s .u64 (k.w j.z 0), .s .u64 (k.w j.z 1), .s .u64 (k.w j.z 2), .s .u64 (k.w j.z 3)]⟩,
    ⟨true, true, [.s .u64 (lim e 0), .s .u64 (lim e 1), .s .u64 (lim e 2), .s .u64 (lim e 3)]⟩, ⟨true, true, [.i .u64 0, .i .u64 0, .i .u64 0, .i .u64 0, .i .u64 0, .i .u64 0, .i .u64 0, .i .u64 0, .i .u64 0, .i .u64 0, .i .u64 0, .i .u64 0]⟩,
    ⟨true, true, [.s .u64 (k.w o.x 0), .s .u64 (k.w o.x 1), .s .u64 (k.w o.x 2), .s .u64 (k.w o.x 3), .s .u64 (k.w o.y 0), .s .u64 (k.w o.y 1), .s .u64 (k.w o.y 2), .s .u64 (k.w o.y 3), .s .u64 (k.w o.z 0), .s .u64 (k.w o.z 1), .s .u64 (k.w o.z 2), .s .u64 (k.w o.z 3)]⟩]
theorem bit_one {A : Ar} (hA : A = Ar.real) (t : Nat) : A.cmp .eql (t : Int) 1 = decide (t = 1) := by
  rw [hA]
  show ((t : Int) == 1) = _
  by_cases h : t = 1
  · subst h; rfl
  · rw [decide_eq_false h]; exact beq_eq_false_iff_ne.2 (by omega)
theorem timesS {k : Kf p} {r : List AVal} (hK : OkF k r) (j : Cv.Jac (Fin p)) {lim : Lim} (hl : lim = limR) (e n : Nat) (he : e < 2 ^ 256) (hn : IsLen e n) :
    Sp 65 [.ref r 0, Jf k j, u4 lim e] (Jf k (Gp.tmP k.O j e n n)) := by
  have tw := jdblS hK
  have pl := fun o => jaddS hK o j
  have hb := bitsOfS (lim := lim) e
  obtain ⟨t, ht⟩ : ∃ t : Nat → Nat, t = fun i => e / 2 ^ (n - 1 - i) % 2 := ⟨_, rfl⟩
  have hd := bitsI hl e n he hn (fun i => [.s .u64 ((t i : Nat) : Int)]) (fun i _ => by rw [ht])
  obtain ⟨x, hx⟩ : ∃ x : Nat → Cv.Jac (Fin p), x = Gp.tmP k.O j e n := ⟨_, rfl⟩
  have hx0 : x 0 = Cv.inf k.O := by rw [hx]; rfl
  have hxs : ∀ i, i < n → x (i + 1) = if t i = 1 then Gp.adP k.O (Gp.dbP k.O (x i)) j else Gp.dbP k.O (x i) := by
    intro i hi
    rw [hx, ht]
    rfl
  rw [← hx]
  have z := hK.zero
  clear hx ht
  refine mk Tryz.func65 rfl rfl LN R1 (by decide +kernel) fun A S hA hS => ?_
  unfold bodyOf Tryz.f65
  cbv
  refine ACall.mk _ (cf hS hb) ?_
  cbv
  refine .mk _ _ (cs hS hd) (fun i _ => rfl) (fun i => timesH k r j lim e (x i)) ?_ ?_ ?_
  · rw [hx0]
    cbv
    repeat' (first | exact (z _ (by decide)).symm | (have h := hK.sim 10; unfold simL at h; exact h) | (have h := hK.sim 11; unfold simL at h; exact h) | exact trivial | constructor)
  · intro i hi
    have hst := hxs i hi
    have hb := bit_one hA (t i)
    generalize x (i + 1) = y at hst ⊢
    generalize x i = xi at hst ⊢
    generalize t i = ti at hst hb ⊢
    have tw := tw xi
    generalize Gp.dbP k.O xi = di at *
    have pl := pl di
    generalize Gp.adP k.O di j = pi at *
    cbv
    refine ACall.mk _ (cf hS tw) ?_
    cbv
    by_cases h1 : ti = 1
    · rw [if_pos h1] at hst
      rw [decide_eq_true h1] at hb
      subst hst
      refine ABr.t hb ?_
      cbv
      refine ACall.mk _ (cf hS pl) ?_
      cbv
      repeat' (first | (have h := hK.sim 10; unfold simL at h; exact h) | (have h := hK.sim 11; unfold simL at h; exact h) | exact trivial | constructor)
    · rw [if_neg h1] at hst
      rw [decide_eq_false h1] at hb
      subst hst
      refine ABr.f hb ?_
      cbv
      repeat' (first | (have h := hK.sim 10; unfold simL at h; exact h) | (have h := hK.sim 11; unfold simL at h; exact h) | exact trivial | constructor)
  · generalize x n = y
    cbv
end Go.Proofs.YtkhipnhdbaahcaaGreat
end
section
set_option linter.unusedVariables false
set_option linter.unusedSectionVars false
set_option linter.unusedSimpArgs false
namespace Go.Proofs.YtkhipnhdbaahcaaGreat
open Go Eng
set_option maxRecDepth 100000
set_option exponentiation.threshold 2000
set_option maxHeartbeats 4000000
/-- secp's rings: what a walk is not to open. -/
structure Sec (H : H5) (k : Kf Sk.pS) (r : List AVal) (kn : Kf Sk.nS) (rn : List AVal) (m n : Nat) : Prop where
  mk_ ::
  hH : H = H5.real
  ok : OkF k r
  okn : OkF kn rn
  prime : Sp 49 [] (.ref r 0)
  order : Sp 82 [] (.ref rn 0)
  sp : Sp 48 [] (u4 H.lim m)
  sn : Sp 80 [] (u4 H.lim n)
  hm : m = Sk.pS
  hn : n = Sk.nS
  uv : ∀ (a : Fin Sk.pS) i, k.v a i = H.lim a.val i
  un : ∀ (a : Fin Sk.nS) i, kn.v a i = H.lim a.val i
  o : k.O = Sk.O
  on : kn.O = Cv.ops1 Cv.inv1
theorem sec (H : H5) (hH : H = H5.real) : Sec H (Kof H Sk.pS) (R4 H Sk.pS) (Kof H Sk.nS) (R4 H Sk.nS) Sk.pS Sk.nS where
  hH := hH
  ok := okF hH prP
  okn := okF hH prN
  prime := by
    have cp := SecpPS hH
    have cm := MakeS4 hH prP.toMod
    rw [show secpP = Sk.pS from rfl] at cp
    have s := simRF H Sk.pS 10
    generalize Sk.pS = m at *
    generalize R4 H m = r at *
    refine mk Tryz.func49 rfl rfl L0 R1 (by decide +kernel) fun A S hA hS => ?_
    unfold bodyOf Tryz.f49
    cbv
    refine ACall.mk _ (cf hS cp) ?_
    cbv
    refine ACall.mk _ (cf hS cm) ?_
    cbv
    unfold simL at s
    exact s
  order := by
    have cp := SecpNS hH
    have cm := MakeS4 hH prN.toMod
    rw [show secpN = Sk.nS from rfl] at cp
    have s := simRF H Sk.nS 10
    generalize Sk.nS = m at *
    generalize R4 H m = r at *
    refine mk Tryz.func82 rfl rfl L0 R1 (by decide +kernel) fun A S hA hS => ?_
    unfold bodyOf Tryz.f82
    cbv
    refine ACall.mk _ (cf hS cp) ?_
    cbv
    refine ACall.mk _ (cf hS cm) ?_
    cbv
    unfold simL at s
    exact s
  sp := SecpPS hH
  sn := SecpNS hH
  hm := rfl
  hn := rfl
  uv := fun _ _ => rfl
  un := fun _ _ => rfl
  o := rfl
  on := rfl
theorem topP : TopM Sk.pS := ⟨by decide, by decide⟩
theorem topN : TopM Sk.nS := ⟨by decide, by decide⟩
theorem fs_val {x : Nat} (h : x < Sk.pS) : (Sk.fs x).val = x := Nat.mod_eq_of_lt h
/-- Any point as it comes. -/
def PS (H : H5) (x y : Nat) (inf : Bool) : AVal := .agg [.s .u64 (H.lim x 0), .s .u64 (H.lim x 1), .s .u64 (H.lim x 2), .s .u64 (H.lim x 3), .s .u64 (H.lim y 0), .s .u64 (H.lim y 1), .s .u64 (H.lim y 2), .s .u64 (H.lim y 3), .sb inf]
/-- Whether it is one. -/
def GoodQ (x y : Nat) (inf : Bool) : Prop := (inf = true ∧ x = 0 ∧ y = 0) ∨ (inf = false ∧ x < Sk.pS ∧ y < Sk.pS ∧ Sk.fs y * Sk.fs y = Sk.fs x * Sk.fs x * Sk.fs x + Sk.fs 7)
instance (x y : Nat) (inf : Bool) : Decidable (GoodQ x y inf) := inferInstanceAs (Decidable (_ ∨ _))
def ptQ (x y : Nat) (inf : Bool) : Cv.Pt (Fin Sk.pS) := if inf then none else some (Sk.fs x, Sk.fs y)
def onS (P : Cv.Pt (Fin Sk.pS)) : Prop := Cv.onC Sk.O (Sk.fs 7) P
theorem GoodQ.on {x y : Nat} {inf : Bool} (h : GoodQ x y inf) : onS (ptQ x y inf) := by
  rcases h with ⟨rfl, _, _⟩ | ⟨rfl, _, _, h⟩
  · exact trivial
  · exact h
section
variable {H : H5} {k : Kf Sk.pS} {r : List AVal} {kn : Kf Sk.nS} {rn : List AVal} {m n : Nat} (hs : Sec H k r kn rn m n)
include hs
theorem Sec.lim0 (i : Nat) : H.lim 0 i = 0 := by
  rw [hs.hH]; show ((0 / 2 ^ (64 * i) % 2 ^ 64 : Nat) : Int) = 0
  rw [Nat.zero_div]; rfl
theorem Sec.v_fs {x : Nat} (h : x < Sk.pS) (i : Nat) : k.v (Sk.fs x) i = H.lim x i := by rw [hs.uv, fs_val h]
theorem Sec.inn {x : Nat} (h : x < Sk.pS) : Sp 52 [.ref r 0, u4 H.lim x] (Ef k (Sk.fs x)) := by
  have c := hs.ok.inn (Sk.fs x)
  unfold Uf at c
  rw [hs.v_fs h, hs.v_fs h, hs.v_fs h, hs.v_fs h] at c
  exact c
theorem Sec.sim {x y : Nat} {inf : Bool} (h : GoodQ x y inf) : Sim (PS H x y inf) (Pf k (ptQ x y inf)) := by
  rcases h with ⟨rfl, rfl, rfl⟩ | ⟨rfl, hx, hy, _⟩
  · have z := hs.lim0
    exact ⟨z 0, z 1, z 2, z 3, z 0, z 1, z 2, z 3, rfl⟩
  · have vx := fun i => (hs.v_fs hx i).symm
    have vy := fun i => (hs.v_fs hy i).symm
    exact ⟨vx 0, vx 1, vx 2, vx 3, vy 0, vy 1, vy 2, vy 3, rfl⟩
theorem Sec.sim' {x y : Nat} {inf : Bool} (h : GoodQ x y inf) : Sim (Pf k (ptQ x y inf)) (PS H x y inf) := by
  rcases h with ⟨rfl, rfl, rfl⟩ | ⟨rfl, hx, hy, _⟩
  · have z := hs.lim0
    exact ⟨(z 0).symm, (z 1).symm, (z 2).symm, (z 3).symm, (z 0).symm, (z 1).symm, (z 2).symm, (z 3).symm, rfl⟩
  · have vx := hs.v_fs hx
    have vy := hs.v_fs hy
    exact ⟨vx 0, vx 1, vx 2, vx 3, vy 0, vy 1, vy 2, vy 3, rfl⟩
theorem Sec.curve (x : Fin Sk.pS) : Sp 51 [.ref r 0, Ef k x] (Ef k (x * x * x + Sk.fs 7)) := by
  have hK := hs.ok
  have c7 := hs.inn (x := 7) (by decide)
  have h70 : H.lim 7 0 = 7 := by rw [hs.hH]; rfl
  have h7s : ∀ i, i < 3 → H.lim 7 (i + 1) = 0 := fun i hi => by
    rw [hs.hH]; show ((7 / 2 ^ (64 * (i + 1)) % 2 ^ 64 : Nat) : Int) = 0
    rw [Nat.div_eq_of_lt (Nat.lt_of_lt_of_le (by decide : 7 < 2 ^ 64) (Nat.pow_le_pow_right (n := 2) (i := 64) (by decide) (by omega)))]; rfl
  have e1 := hK.mul x x
  have e2 := hK.mul (x * x) x
  have e3 := hK.add (x * x * x) (Sk.fs 7)
  rw [hs.o] at e1 e2 e3
  replace e1 : Sp 57 [.ref r 0, Ef k x, Ef k x] (Ef k (x * x)) := e1
  replace e2 : Sp 57 [.ref r 0, Ef k (x * x), Ef k x] (Ef k (x * x * x)) := e2
  replace e3 : Sp 90 [.ref r 0, Ef k (x * x * x), Ef k (Sk.fs 7)] (Ef k (x * x * x + Sk.fs 7)) := e3
  generalize x * x * x + Sk.fs 7 = w at *
  generalize x * x * x = v at *
  generalize x * x = u at *
  generalize Sk.fs 7 = s at *
  refine mk Tryz.func51 rfl rfl L0 R1 (by decide +kernel) fun A S hA hS => ?_
  unfold bodyOf Tryz.f51
  cbv
  refine ACall.mk _ (cf hS e1) ?_
  cbv
  refine ACall.mk _ (cf hS e2) ?_
  cbv
  refine ACall.mk _ (cg hS c7 ?_) ?_
  · cbv
    repeat' (first | exact h70.symm | exact (h7s _ (by decide)).symm | (have h := hK.sim 10; unfold simL at h; exact h) | exact trivial | exact rfl | constructor)
  cbv
  refine ACall.mk _ (cf hS e3) ?_
  cbv
theorem Sec.ge {x : Nat} {A : Ar} (hA : A = Ar.real) (t : Bool) (h : decide (m ≤ x) = t) : A.cmp .geq (cmpZ x m) 0 = t := by
  rw [u_ge hA, ← h]
  unfold cmpZ
  by_cases h1 : x < m
  · rw [if_pos h1, decide_eq_false (by omega), decide_eq_false (by omega)]
  · rw [if_neg h1]
    by_cases h2 : m < x
    · rw [if_pos h2, decide_eq_true (by omega), decide_eq_true (by omega)]
    · rw [if_neg h2, decide_eq_true (by omega), decide_eq_true (by omega)]
theorem Sec.good (x y : Nat) (hx : x < 2 ^ 256) (hy : y < 2 ^ 256) (inf : Bool) (t : Bool) (ht : t = decide (GoodQ x y inf)) : Sp 14 [PS H x y inf] (.sb t) := by
  have hl := H5.hlim hs.hH
  cases inf with
  | true =>
    have e : t = (decide (x = 0) && decide (y = 0)) := by
      rw [ht]
      unfold GoodQ
      by_cases h1 : x = 0 <;> by_cases h2 : y = 0 <;> simp [h1, h2]
    by_cases h1 : x = 0
    · rw [decide_eq_true h1, Bool.true_and] at e
      refine mk Tryz.func14 rfl rfl L0 R1 (by decide +kernel) fun A S hA hS => ?_
      have e1 := (zeq4 hA hl (x := x) hx).trans (decide_eq_true h1)
      have e2 := (zeq4 hA hl (x := y) hy).trans e.symm
      unfold bodyOf Tryz.f14
      cbv
      refine ABr.t rfl ?_
      cbv
      repeat (first | (refine ABr.t e1 ?_; cbv))
      exact e2
    · rw [decide_eq_false h1, Bool.false_and] at e
      subst e
      refine mk Tryz.func14 rfl rfl L0 R1 (by decide +kernel) fun A S hA hS => ?_
      have e1 := (zeq4 hA hl (x := x) hx).trans (decide_eq_false h1)
      unfold bodyOf Tryz.f14
      cbv
      refine ABr.t rfl ?_
      cbv
      repeat (first | (refine ABr.f e1 ?_; cbv))
  | false =>
    have e : t = decide (x < Sk.pS ∧ y < Sk.pS ∧ Sk.fs y * Sk.fs y = Sk.fs x * Sk.fs x * Sk.fs x + Sk.fs 7) := by
      rw [ht]
      unfold GoodQ
      congr 1
      simp
    have hm256 : m < 2 ^ 256 := by rw [hs.hm]; decide
    have sp := hs.sp
    have cx := cmpS hl x m hx hm256
    have cy := cmpS hl y m hy hm256
    have gx := fun (A : Ar) (hA : A = Ar.real) => hs.ge (x := x) hA
    have gy := fun (A : Ar) (hA : A = Ar.real) => hs.ge (x := y) hA
    by_cases h1 : m ≤ x
    · rw [decide_eq_false (fun h => by have h1' := h.1; have := hs.hm; omega)] at e
      subst e
      refine mk Tryz.func14 rfl rfl L0 R1 (by decide +kernel) fun A S hA hS => ?_
      have g1 := gx A hA true (decide_eq_true h1)
      generalize cmpZ x m = zx at *
      unfold bodyOf Tryz.f14
      cbv
      refine ABr.f rfl ?_
      cbv
      refine ACall.mk _ (cf hS sp) ?_
      cbv
      refine ACall.mk _ (cf hS cx) ?_
      cbv
      repeat (first | (refine ABr.t g1 ?_; cbv))
    by_cases h2 : m ≤ y
    · rw [decide_eq_false (fun h => by have h1' := h.2.1; have := hs.hm; omega)] at e
      subst e
      refine mk Tryz.func14 rfl rfl L0 R1 (by decide +kernel) fun A S hA hS => ?_
      have g1 := gx A hA false (decide_eq_false h1)
      have g2 := gy A hA true (decide_eq_true h2)
      generalize cmpZ x m = zx at *
      generalize cmpZ y m = zy at *
      unfold bodyOf Tryz.f14
      cbv
      refine ABr.f rfl ?_
      cbv
      repeat (first
        | (refine ABr.t (by assumption) ?_; cbv)
        | (refine ABr.f (by assumption) ?_; cbv)
        | (refine ABr.t rfl ?_; cbv)
        | (refine ABr.f rfl ?_; cbv)
        | (refine ACall.mk _ (cf hS sp) ?_; cbv)
        | (refine ACall.mk _ (cf hS cx) ?_; cbv)
        | (refine ACall.mk _ (cf hS cy) ?_; cbv))
    have hx' : x < Sk.pS := by have := hs.hm; omega
    have hy' : y < Sk.pS := by have := hs.hm; omega
    have e : t = decide (Sk.fs y * Sk.fs y = Sk.fs x * Sk.fs x * Sk.fs x + Sk.fs 7) := by
      rw [e]; congr 1; simp only [eq_iff_iff]; constructor
      · exact fun h => h.2.2
      · exact fun h => ⟨hx', hy', h⟩
    have cp := hs.prime
    have iy := hs.inn hy'
    have ix := hs.inn hx'
    have cc := hs.curve (Sk.fs x)
    have cm := hs.ok.mul (Sk.fs y) (Sk.fs y)
    rw [hs.o] at cm
    replace cm : Sp 57 [.ref r 0, Ef k (Sk.fs y), Ef k (Sk.fs y)] (Ef k (Sk.fs y * Sk.fs y)) := cm
    have hinj := hs.ok.inj
    generalize Sk.fs x * Sk.fs x * Sk.fs x + Sk.fs 7 = w at *
    generalize Sk.fs y * Sk.fs y = v at *
    generalize Sk.fs x = fx at *
    generalize Sk.fs y = fy at *
    refine mk Tryz.func14 rfl rfl L0 R1 (by decide +kernel) fun A S hA hS => ?_
    have g1 := gx A hA false (decide_eq_false h1)
    have g2 := gy A hA false (decide_eq_false h2)
    have eq := (words_eq hinj hA v w).trans e.symm
    generalize cmpZ x m = zx at *
    generalize cmpZ y m = zy at *
    clear e gx gy
    unfold bodyOf Tryz.f14
    cbv
    refine ABr.f rfl ?_
    cbv
    repeat (first
      | (refine ABr.t (by assumption) ?_; cbv)
      | (refine ABr.f (by assumption) ?_; cbv)
      | (refine ABr.t rfl ?_; cbv)
      | (refine ABr.f rfl ?_; cbv)
      | (refine ACall.mk _ (cf hS sp) ?_; cbv)
      | (refine ACall.mk _ (cf hS cx) ?_; cbv)
      | (refine ACall.mk _ (cf hS cy) ?_; cbv)
      | (refine ACall.mk _ (cf hS cp) ?_; cbv)
      | (refine ACall.mk _ (cf hS iy) ?_; cbv)
      | (refine ACall.mk _ (cf hS cm) ?_; cbv)
      | (refine ACall.mk _ (cf hS ix) ?_; cbv)
      | (refine ACall.mk _ (cf hS cc) ?_; cbv))
    exact eq
theorem Sec.goodP (P : Cv.Pt (Fin Sk.pS)) (hP : onS P) : Sp 14 [Pf k P] (.sb true) := by
  rcases P with _ | ⟨x, y⟩
  · have g : GoodQ 0 0 true := .inl ⟨rfl, rfl, rfl⟩
    have := hs.good 0 0 (by decide) (by decide) true true (decide_eq_true g).symm
    exact Spec.args this (hs.sim' g)
  · have e1 : Sk.fs x.val = x := Fin.ext (fs_val x.isLt)
    have e2 : Sk.fs y.val = y := Fin.ext (fs_val y.isLt)
    have g : GoodQ x.val y.val false := .inr ⟨rfl, x.isLt, y.isLt, by rw [e1, e2]; exact hP⟩
    have hp : ∀ a : Fin Sk.pS, a.val < 2 ^ 256 := fun a => Nat.lt_trans a.isLt (by decide)
    have c := hs.good x.val y.val (hp x) (hp y) false true (decide_eq_true g).symm
    have s := hs.sim' g
    rw [show ptQ x.val y.val false = some (x, y) by show some (Sk.fs x.val, Sk.fs y.val) = _; rw [e1, e2]] at s
    exact Spec.args c s
end
end Go.Proofs.YtkhipnhdbaahcaaGreat
end
section
set_option linter.unusedVariables false
set_option linter.unusedSectionVars false
set_option linter.unusedSimpArgs false
namespace Go.Proofs.YtkhipnhdbaahcaaGreat
open Go Eng
set_option maxRecDepth 100000
set_option exponentiation.threshold 2000
set_option maxHeartbeats 4000000
theorem down_upS (P : Cv.Pt (Fin Sk.pS)) (hP : onS P) : Cv.down Sk.O (Cv.up Sk.O P) = P := by
  have h := Sk.hA none P trivial hP
  have e : Cv.plus Sk.O (Cv.up Sk.O none) (Cv.up Sk.O P) = Cv.up Sk.O P := if_pos rfl
  rw [e] at h
  exact h
theorem timesMn (P : Cv.Pt (Fin Sk.pS)) (hP : onS P) (e n : Nat) (hn : IsLen e n) : Cv.down Sk.O (Gp.tmP Sk.O (Cv.up Sk.O P) e n n) = Gp.mn Sk.O P e := by
  have h := Gp.tmP_mn Sk.F Sk.L Sk.no2 Sk.hA (p := Cv.up Sk.O P) (by rw [down_upS P hP]; exact hP) hn.1 n (Nat.le_refl _)
  rwa [Nat.sub_self, Nat.pow_zero, Nat.div_one, down_upS P hP] at h
theorem not_t {A : Ar} (hA : A = Ar.real) : A.not true = false := by rw [hA]; rfl
theorem not_f {A : Ar} (hA : A = Ar.real) : A.not false = true := by rw [hA]; rfl
def zPt : AVal := .agg [.i .u64 0, .i .u64 0, .i .u64 0, .i .u64 0, .i .u64 0, .i .u64 0, .i .u64 0, .i .u64 0, .b false]
section
variable {H : H5} {k : Kf Sk.pS} {r : List AVal} {kn : Kf Sk.nS} {rn : List AVal} {m n : Nat} (hs : Sec H k r kn rn m n)
include hs
theorem Sec.L : Cv.Laws k.O := by rw [hs.o]; exact Sk.L
theorem Sec.add (P Q : Cv.Pt (Fin Sk.pS)) (hP : onS P) (hQ : onS Q) : Sp 18 [Pf k P, Pf k Q] (.tup [Pf k (Cv.sumR Sk.O P Q), .i .i64 0]) := by
  have gp := hs.goodP P hP
  have gq := hs.goodP Q hQ
  have cp := hs.prime
  have jp := jacS hs.ok P
  have jq := jacS hs.ok Q
  have ca := jaddS hs.ok (Cv.up k.O P) (Cv.up k.O Q)
  have cd := affS hs.ok hs.L (Gp.adP k.O (Cv.up k.O P) (Cv.up k.O Q))
  have e : Cv.down k.O (Gp.adP k.O (Cv.up k.O P) (Cv.up k.O Q)) = Cv.sumR Sk.O P Q := by
    rw [hs.o, Gp.adP_eq Sk.F]; exact Sk.hA P Q hP hQ
  rw [e] at cd
  generalize Cv.sumR Sk.O P Q = R at *
  generalize Gp.adP k.O (Cv.up k.O P) (Cv.up k.O Q) = a at *
  generalize Cv.up k.O P = u at *
  generalize Cv.up k.O Q = v at *
  clear e
  rcases P with _ | ⟨px, py⟩ <;> rcases Q with _ | ⟨qx, qy⟩ <;> rcases R with _ | ⟨x, y⟩
  all_goals
    refine mk Tryz.func18 rfl rfl L0 R1 (by decide +kernel) fun A S hA hS => ?_
    have nt := not_t hA
    unfold bodyOf Tryz.f18
    cbv
    repeat (first
      | (refine ABr.t (by assumption) ?_; cbv)
      | (refine ABr.f (by assumption) ?_; cbv)
      | (refine ABr.t rfl ?_; cbv)
      | (refine ABr.f rfl ?_; cbv)
      | (refine ACall.mk _ (cf hS gp) ?_; cbv)
      | (refine ACall.mk _ (cf hS gq) ?_; cbv)
      | (refine ACall.mk _ (cf hS cp) ?_; cbv))
    refine ACall.mk _ (cf hS jp) ?_
    cbv
    refine ACall.mk _ (cf hS jq) ?_
    cbv
    refine ACall.mk _ (cf hS ca) ?_
    cbv
    refine ACall.mk _ (cf hS cd) ?_
    cbv
theorem Sec.mul (P : Cv.Pt (Fin Sk.pS)) (hP : onS P) (e : Nat) (he : e < 2 ^ 256) : Sp 20 [Pf k P, u4 H.lim e] (.tup [Pf k (Gp.mn Sk.O P e), .i .i64 0]) := by
  obtain ⟨l, hl⟩ := isLen_ex e
  have gp := hs.goodP P hP
  have cp := hs.prime
  have jp := jacS hs.ok P
  have ct := timesS hs.ok (Cv.up k.O P) (H5.hlim hs.hH) e l he hl
  have cd := affS hs.ok hs.L (Gp.tmP k.O (Cv.up k.O P) e l l)
  have e1 : Cv.down k.O (Gp.tmP k.O (Cv.up k.O P) e l l) = Gp.mn Sk.O P e := by
    rw [hs.o]; exact timesMn P hP e l hl
  rw [e1] at cd
  generalize Gp.mn Sk.O P e = R at *
  generalize Gp.tmP k.O (Cv.up k.O P) e l l = a at *
  generalize Cv.up k.O P = u at *
  clear e1
  rcases P with _ | ⟨px, py⟩ <;> rcases R with _ | ⟨x, y⟩
  all_goals
    refine mk Tryz.func20 rfl rfl L0 R1 (by decide +kernel) fun A S hA hS => ?_
    have nt := not_t hA
    unfold bodyOf Tryz.f20
    cbv
    repeat (first
      | (refine ABr.t (by assumption) ?_; cbv)
      | (refine ABr.f (by assumption) ?_; cbv)
      | (refine ABr.t rfl ?_; cbv)
      | (refine ABr.f rfl ?_; cbv)
      | (refine ACall.mk _ (cf hS gp) ?_; cbv)
      | (refine ACall.mk _ (cf hS cp) ?_; cbv)
      | (refine ACall.mk _ (cf hS jp) ?_; cbv)
      | (refine ACall.mk _ (cf hS ct) ?_; cbv)
      | (refine ACall.mk _ (cf hS cd) ?_; cbv))
theorem Sec.neg (P : Cv.Pt (Fin Sk.pS)) (hP : onS P) : Sp 13 [Pf k P] (.tup [Pf k (Gp.ngp Sk.O P), .i .i64 0]) := by
  have gp := hs.goodP P hP
  have ci := infS (k := k)
  rcases P with _ | ⟨x, y⟩
  · unfold Gp.ngp
    refine mk Tryz.func13 rfl rfl L0 R1 (by decide +kernel) fun A S hA hS => ?_
    have nt := not_t hA
    unfold bodyOf Tryz.f13
    cbv
    repeat (first
      | (refine ABr.t (by assumption) ?_; cbv)
      | (refine ABr.f (by assumption) ?_; cbv)
      | (refine ABr.t rfl ?_; cbv)
      | (refine ABr.f rfl ?_; cbv)
      | (refine ACall.mk _ (cf hS gp) ?_; cbv)
      | (refine ACall.mk _ (cf hS ci) ?_; cbv))
  · have sp := hs.sp
    have hl := H5.hlim hs.hH
    have hm256 : m < 2 ^ 256 := by rw [hs.hm]; decide
    have hy : y.val < m := by rw [hs.hm]; exact y.isLt
    have cs_ := subS hl m y.val hm256 (Nat.le_of_lt hy)
    have cm_ := modS hl (m - y.val) m (by omega) (by rw [hs.hm]; exact topP)
    have e : (m - y.val) % m = (0 - y).val := by
      rw [hs.hm]
      have := fin_subF 0 y
      rw [Cv.val_zero, Nat.zero_add] at this
      exact this
    rw [e] at cm_
    have v0 := hs.uv (0 - y)
    have vy := hs.uv y
    have e2 : Gp.ngp Sk.O (some (x, y)) = some (x, 0 - y) := rfl
    rw [e2]
    generalize (0 : Fin Sk.pS) - y = z at *
    generalize m - y.val = d at *
    have w0 := vy 0
    have w1 := vy 1
    have w2 := vy 2
    have w3 := vy 3
    have z0 := v0 0
    have z1 := v0 1
    have z2 := v0 2
    have z3 := v0 3
    clear vy v0 e e2
    generalize z.val = zv at *
    generalize y.val = yv at *
    refine mk Tryz.func13 rfl rfl L0 R1 (by decide +kernel) fun A S hA hS => ?_
    have nt := not_t hA
    have ne : A.eqs [(.s .u64 (k.v x 0), .i .u64 0), (.s .u64 (k.v x 1), .i .u64 0), (.s .u64 (k.v x 2), .i .u64 0), (.s .u64 (k.v x 3), .i .u64 0), (.s .u64 (k.v y 0), .i .u64 0), (.s .u64 (k.v y 1), .i .u64 0), (.s .u64 (k.v y 2), .i .u64 0), (.s .u64 (k.v y 3), .i .u64 0), (.b false, .b true)] = false := by
      rw [hA]
      show List.all _ _ = false
      simp [leafEq]
    unfold bodyOf Tryz.f13
    cbv
    repeat (first
      | (refine ABr.t (by assumption) ?_; cbv)
      | (refine ABr.f (by assumption) ?_; cbv)
      | (refine ABr.t rfl ?_; cbv)
      | (refine ABr.f rfl ?_; cbv)
      | (refine ACall.mk _ (cf hS gp) ?_; cbv)
      | (refine ACall.mk _ (cf hS ci) ?_; cbv)
      | (refine ACall.mk _ (cf hS sp) ?_; cbv))
    refine ACall.mk _ (cg hS cs_ ?_) ?_
    · cbv
      repeat' (first | exact w0 | exact w1 | exact w2 | exact w3 | exact rfl | exact trivial | constructor)
    cbv
    repeat (first
      | (refine ABr.t (by assumption) ?_; cbv)
      | (refine ABr.f (by assumption) ?_; cbv)
      | (refine ABr.t rfl ?_; cbv)
      | (refine ABr.f rfl ?_; cbv)
      | (refine ACall.mk _ (cf hS sp) ?_; cbv)
      | (refine ACall.mk _ (cf hS cm_) ?_; cbv))
    repeat' (first | exact z0.symm | exact z1.symm | exact z2.symm | exact z3.symm | exact rfl | exact trivial | constructor)
/-- What is no point is refused. -/
theorem Sec.addBad (x y : Nat) (hx : x < 2 ^ 256) (hy : y < 2 ^ 256) (i : Bool) (u v : Nat) (hu : u < 2 ^ 256) (hv : v < 2 ^ 256) (j : Bool) (h : ¬ (GoodQ x y i ∧ GoodQ u v j)) : Sp 18 [PS H x y i, PS H u v j] (.tup [zPt, .i .i64 60]) := by
  have g1 := hs.good x y hx hy i _ rfl
  have g2 := hs.good u v hu hv j _ rfl
  by_cases h1 : GoodQ x y i
  · rw [decide_eq_true h1] at g1
    rw [decide_eq_false (fun e => h ⟨h1, e⟩)] at g2
    refine mk Tryz.func18 rfl rfl L0 R1 (by decide +kernel) fun A S hA hS => ?_
    have nt := not_t hA
    have nf := not_f hA
    unfold bodyOf Tryz.f18
    cbv
    repeat (first
      | (refine ABr.t (by assumption) ?_; cbv)
      | (refine ABr.f (by assumption) ?_; cbv)
      | (refine ABr.t rfl ?_; cbv)
      | (refine ABr.f rfl ?_; cbv)
      | (refine ACall.mk _ (cf hS g1) ?_; cbv)
      | (refine ACall.mk _ (cf hS g2) ?_; cbv))
  · rw [decide_eq_false h1] at g1
    refine mk Tryz.func18 rfl rfl L0 R1 (by decide +kernel) fun A S hA hS => ?_
    have nf := not_f hA
    unfold bodyOf Tryz.f18
    cbv
    repeat (first
      | (refine ABr.t (by assumption) ?_; cbv)
      | (refine ABr.f (by assumption) ?_; cbv)
      | (refine ABr.t rfl ?_; cbv)
      | (refine ABr.f rfl ?_; cbv)
      | (refine ACall.mk _ (cf hS g1) ?_; cbv))
theorem Sec.mulBad (x y : Nat) (hx : x < 2 ^ 256) (hy : y < 2 ^ 256) (i : Bool) (e : Nat) (h : ¬ GoodQ x y i) : Sp 20 [PS H x y i, u4 H.lim e] (.tup [zPt, .i .i64 60]) := by
  have g1 := hs.good x y hx hy i _ rfl
  rw [decide_eq_false h] at g1
  refine mk Tryz.func20 rfl rfl L0 R1 (by decide +kernel) fun A S hA hS => ?_
  have nf := not_f hA
  unfold bodyOf Tryz.f20
  cbv
  repeat (first
    | (refine ABr.t (by assumption) ?_; cbv)
    | (refine ABr.f (by assumption) ?_; cbv)
    | (refine ABr.t rfl ?_; cbv)
    | (refine ABr.f rfl ?_; cbv)
    | (refine ACall.mk _ (cf hS g1) ?_; cbv))
theorem Sec.negBad (x y : Nat) (hx : x < 2 ^ 256) (hy : y < 2 ^ 256) (i : Bool) (h : ¬ GoodQ x y i) : Sp 13 [PS H x y i] (.tup [zPt, .i .i64 60]) := by
  have g1 := hs.good x y hx hy i _ rfl
  rw [decide_eq_false h] at g1
  refine mk Tryz.func13 rfl rfl L0 R1 (by decide +kernel) fun A S hA hS => ?_
  have nf := not_f hA
  unfold bodyOf Tryz.f13
  cbv
  repeat (first
    | (refine ABr.t (by assumption) ?_; cbv)
    | (refine ABr.f (by assumption) ?_; cbv)
    | (refine ABr.t rfl ?_; cbv)
    | (refine ABr.f rfl ?_; cbv)
    | (refine ACall.mk _ (cf hS g1) ?_; cbv))
/-- A scalar is one that is not 0 and below the order. -/
theorem Sec.scalar (e : Nat) (he : e < 2 ^ 256) (t : Bool) (ht : t = decide (e ≠ 0 ∧ e < Sk.nS)) : Sp 70 [u4 H.lim e] (.sb t) := by
  have hl := H5.hlim hs.hH
  have hn256 : n < 2 ^ 256 := by rw [hs.hn]; decide
  have sn := hs.sn
  have cc := cmpS hl e n he hn256
  rw [← hs.hn] at ht
  by_cases h : e = 0
  · rw [decide_eq_false (fun h' => h'.1 h)] at ht
    subst ht
    refine mk Tryz.func70 rfl rfl L0 R1 (by decide +kernel) fun A S hA hS => ?_
    have e1 : A.not (A.eqs [(.s .u64 (H.lim e 0), .i .u64 0), (.s .u64 (H.lim e 1), .i .u64 0), (.s .u64 (H.lim e 2), .i .u64 0), (.s .u64 (H.lim e 3), .i .u64 0)]) = false := by
      rw [zeq4 hA hl (x := e) he, decide_eq_true h]; exact not_t hA
    generalize cmpZ e n = z at *
    unfold bodyOf Tryz.f70
    cbv
    repeat (first
      | (refine ABr.t (by assumption) ?_; cbv)
      | (refine ABr.f (by assumption) ?_; cbv)
      | (refine ABr.t rfl ?_; cbv)
      | (refine ABr.f rfl ?_; cbv)
      | (refine ACall.mk _ (cf hS sn) ?_; cbv)
      | (refine ACall.mk _ (cf hS cc) ?_; cbv))
  · have ht : t = decide (e < n) := by
      rw [ht]; congr 1; simp only [eq_iff_iff]; exact ⟨fun h => h.2, fun h' => ⟨h, h'⟩⟩
    refine mk Tryz.func70 rfl rfl L0 R1 (by decide +kernel) fun A S hA hS => ?_
    have e1 : A.not (A.eqs [(.s .u64 (H.lim e 0), .i .u64 0), (.s .u64 (H.lim e 1), .i .u64 0), (.s .u64 (H.lim e 2), .i .u64 0), (.s .u64 (H.lim e 3), .i .u64 0)]) = true := by
      rw [zeq4 hA hl (x := e) he, decide_eq_false h]; exact not_f hA
    have e2 : A.cmp .lss (cmpZ e n) 0 = t := by
      rw [i_lt hA, ht]
      unfold cmpZ
      by_cases h1 : e < n
      · rw [if_pos h1, decide_eq_true h1, decide_eq_true (by omega)]
      · rw [if_neg h1, decide_eq_false h1]
        split <;> exact decide_eq_false (by omega)
    generalize cmpZ e n = z at *
    unfold bodyOf Tryz.f70
    cbv
    repeat (first
      | (refine ABr.t (by assumption) ?_; cbv)
      | (refine ABr.f (by assumption) ?_; cbv)
      | (refine ABr.t rfl ?_; cbv)
      | (refine ABr.f rfl ?_; cbv)
      | (refine ACall.mk _ (cf hS sn) ?_; cbv)
      | (refine ACall.mk _ (cf hS cc) ?_; cbv))
    exact e2
theorem Sec.base : Sp 15 [] (Pf k Sk.G) := by
  have vx := hs.v_fs (x := Sk.gx) (by decide)
  have vy := hs.v_fs (x := Sk.gy) (by decide)
  have ex : ∀ i, i < 4 → H.lim Sk.gx i = limR Sk.gx i := fun i _ => by rw [hs.hH]; rfl
  have ey : ∀ i, i < 4 → H.lim Sk.gy i = limR Sk.gy i := fun i _ => by rw [hs.hH]; rfl
  have x0 : (6481385041966929816 : Int) = k.v (Sk.fs Sk.gx) 0 := by rw [vx, ex 0 (by decide)]; decide
  have x1 : (188021827762530521 : Int) = k.v (Sk.fs Sk.gx) 1 := by rw [vx, ex 1 (by decide)]; decide
  have x2 : (6170039885052185351 : Int) = k.v (Sk.fs Sk.gx) 2 := by rw [vx, ex 2 (by decide)]; decide
  have x3 : (8772561819708210092 : Int) = k.v (Sk.fs Sk.gx) 3 := by rw [vx, ex 3 (by decide)]; decide
  have y0 : (11261198710074299576 : Int) = k.v (Sk.fs Sk.gy) 0 := by rw [vy, ey 0 (by decide)]; decide
  have y1 : (18237243440184513561 : Int) = k.v (Sk.fs Sk.gy) 1 := by rw [vy, ey 1 (by decide)]; decide
  have y2 : (6747795201694173352 : Int) = k.v (Sk.fs Sk.gy) 2 := by rw [vy, ey 2 (by decide)]; decide
  have y3 : (5204712524664259685 : Int) = k.v (Sk.fs Sk.gy) 3 := by rw [vy, ey 3 (by decide)]; decide
  clear vx vy ex ey
  have eG : Sk.G = some (Sk.fs Sk.gx, Sk.fs Sk.gy) := rfl
  rw [eG]
  generalize Sk.fs Sk.gx = gx at *
  generalize Sk.fs Sk.gy = gy at *
  refine mk Tryz.func15 rfl rfl L0 R1 (by decide +kernel) fun A S hA hS => ?_
  unfold bodyOf Tryz.f15
  cbv
  repeat' (first | exact x0 | exact x1 | exact x2 | exact x3 | exact y0 | exact y1 | exact y2 | exact y3 | exact rfl | exact trivial | constructor)
theorem Sec.public (e : Nat) (he : e < 2 ^ 256) : (e ≠ 0 ∧ e < Sk.nS → Sp 26 [u4 H.lim e] (.tup [Pf k (Gp.mn Sk.O Sk.G e), .i .i64 0])) ∧ (¬ (e ≠ 0 ∧ e < Sk.nS) → Sp 26 [u4 H.lim e] (.tup [zPt, .i .i64 61])) := by
  have cs_ := hs.scalar e he _ rfl
  constructor
  · intro h
    rw [decide_eq_true h] at cs_
    have cb := hs.base
    have cm_ := hs.mul Sk.G Sk.onG e he
    generalize Gp.mn Sk.O Sk.G e = R at *
    have eG : Sk.G = some (Sk.fs Sk.gx, Sk.fs Sk.gy) := rfl
    rw [eG] at cb cm_
    generalize Sk.fs Sk.gx = gx at *
    generalize Sk.fs Sk.gy = gy at *
    rcases R with _ | ⟨x, y⟩
    all_goals
      refine mk Tryz.func26 rfl rfl L0 R1 (by decide +kernel) fun A S hA hS => ?_
      have nt := not_t hA
      unfold bodyOf Tryz.f26
      cbv
      repeat (first
        | (refine ABr.t (by assumption) ?_; cbv)
        | (refine ABr.f (by assumption) ?_; cbv)
        | (refine ABr.t rfl ?_; cbv)
        | (refine ABr.f rfl ?_; cbv)
        | (refine ACall.mk _ (cf hS cs_) ?_; cbv)
        | (refine ACall.mk _ (cf hS cb) ?_; cbv)
        | (refine ACall.mk _ (cf hS cm_) ?_; cbv))
  · intro h
    rw [decide_eq_false h] at cs_
    refine mk Tryz.func26 rfl rfl L0 R1 (by decide +kernel) fun A S hA hS => ?_
    have nf := not_f hA
    unfold bodyOf Tryz.f26
    cbv
    repeat (first
      | (refine ABr.t (by assumption) ?_; cbv)
      | (refine ABr.f (by assumption) ?_; cbv)
      | (refine ABr.t rfl ?_; cbv)
      | (refine ABr.f rfl ?_; cbv)
      | (refine ACall.mk _ (cf hS cs_) ?_; cbv))
end
end Go.Proofs.YtkhipnhdbaahcaaGreat
end
