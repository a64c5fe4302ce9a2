import Derived.Test.YtlmlganfjnokiaaV
set_option linter.unusedVariables false
set_option linter.unusedSimpArgs false
namespace Go.Proofs.Ytlmlganfjnokiaa
open Go Eng
set_option maxRecDepth 100000
set_option exponentiation.threshold 2000
/-- A ring that nobody made. -/
def noRing : AVal := .ref [.i .i64 0, .i .u64 0, .i .u64 0, .i .u64 0, .i .u64 0, .i .u64 0, .i .i64 0, .i .u64 0, .i .u64 0, .i .u64 0, .i .u64 0, .i .u64 0, .i .u64 0, .i .u64 0, .i .u64 0] 0
def nilRing : AVal := .v (.pointer none)
def zero4 : AVal := .agg [.i .u64 0, .i .u64 0, .i .u64 0, .i .u64 0]
theorem is_nilRing : Sp 73 [nilRing] (.b false) := by
  refine mk Try.func73 rfl rfl L0 R1 (by decide +kernel) fun A S hA hS => ?_
  unfold bodyOf Try.f73
  cbv
theorem Modulus_nilRing : Sp 44 [nilRing] zero4 := by
  refine mk Try.func44 rfl rfl L0 R1 (by decide +kernel) fun A S hA hS => ?_
  unfold bodyOf Try.f44
  cbv
  refine ACall.mk _ (cf hS is_nilRing) ?_
  cbv
  refine ACall.mk _ (cf hS none4S) ?_
  cbv
theorem In_nilRing {lim : Lim} (a : Nat) : Sp 28 [nilRing, u4 lim a] zero4 := by
  refine mk Try.func28 rfl rfl L0 R1 (by decide +kernel) fun A S hA hS => ?_
  unfold bodyOf Try.f28
  cbv
  refine ACall.mk _ (cf hS is_nilRing) ?_
  cbv
  refine ACall.mk _ (cf hS none4S) ?_
  cbv
theorem Out_nilRing {lim : Lim} (a : Nat) : Sp 42 [nilRing, u4 lim a] zero4 := by
  refine mk Try.func42 rfl rfl L0 R1 (by decide +kernel) fun A S hA hS => ?_
  unfold bodyOf Try.f42
  cbv
  refine ACall.mk _ (cf hS is_nilRing) ?_
  cbv
  refine ACall.mk _ (cf hS none4S) ?_
  cbv
theorem Add_nilRing {lim : Lim} (a b : Nat) : Sp 39 [nilRing, u4 lim a, u4 lim b] zero4 := by
  refine mk Try.func39 rfl rfl L0 R1 (by decide +kernel) fun A S hA hS => ?_
  unfold bodyOf Try.f39
  cbv
  refine ACall.mk _ (cf hS is_nilRing) ?_
  cbv
  refine ACall.mk _ (cf hS none4S) ?_
  cbv
theorem Sub_nilRing {lim : Lim} (a b : Nat) : Sp 40 [nilRing, u4 lim a, u4 lim b] zero4 := by
  refine mk Try.func40 rfl rfl L0 R1 (by decide +kernel) fun A S hA hS => ?_
  unfold bodyOf Try.f40
  cbv
  refine ACall.mk _ (cf hS is_nilRing) ?_
  cbv
  refine ACall.mk _ (cf hS none4S) ?_
  cbv
theorem Mul_nilRing {lim : Lim} (a b : Nat) : Sp 30 [nilRing, u4 lim a, u4 lim b] zero4 := by
  refine mk Try.func30 rfl rfl L0 R1 (by decide +kernel) fun A S hA hS => ?_
  unfold bodyOf Try.f30
  cbv
  refine ACall.mk _ (cf hS is_nilRing) ?_
  cbv
  refine ACall.mk _ (cf hS none4S) ?_
  cbv
theorem Neg_nilRing {lim : Lim} (hl : lim = limR) (b : Nat) : Sp 41 [nilRing, u4 lim b] zero4 := by
  have z : ∀ i, lim 0 i = 0 := by intro i; rw [hl]; show ((0 / 2 ^ (64 * i) % 2 ^ 64 : Nat) : Int) = 0; rw [Nat.zero_div]; rfl
  have s := Sub_nilRing (lim := lim) 0 b
  refine mk Try.func41 rfl rfl L0 R1 (by decide +kernel) fun A S hA hS => ?_
  unfold bodyOf Try.f41
  cbv
  refine ACall.mk _ (cf hS none4S) ?_
  cbv
  refine ACall.mk _ (cg hS s (by cbv; repeat' (first | exact (z _).symm | constructor))) ?_
  cbv
theorem Inv_nilRing {lim : Lim} (a : Nat) : Sp 29 [nilRing, u4 lim a] zero4 := by
  refine mk Try.func29 rfl rfl L0 R1 (by decide +kernel) fun A S hA hS => ?_
  unfold bodyOf Try.f29
  cbv
  refine ACall.mk _ (cf hS is_nilRing) ?_
  cbv
  refine ACall.mk _ (cf hS none4S) ?_
  cbv
theorem Exp_nilRing {lim : Lim} (a : Nat) (row : List AVal) (n : Nat) : Sp 38 [nilRing, u4 lim a, .lst true n row] zero4 := by
  refine mk Try.func38 rfl rfl L0 R1 (by decide +kernel) fun A S hA hS => ?_
  unfold bodyOf Try.f38
  cbv
  refine ACall.mk _ (cf hS is_nilRing) ?_
  cbv
  refine ACall.mk _ (cf hS none4S) ?_
  cbv
theorem Root_nilRing {lim : Lim} (a : Nat) : Sp 31 [nilRing, u4 lim a] (.tup [zero4, .b false]) := by
  refine mk Try.func31 rfl rfl L0 RRoot (by decide +kernel) fun A S hA hS => ?_
  unfold bodyOf Try.f31
  cbv
  refine ACall.mk _ (cf hS is_nilRing) ?_
  cbv
  refine ACall.mk _ (cf hS none4S) ?_
  cbv
theorem is_noRing : Sp 73 [noRing] (.b false) := by
  refine mk Try.func73 rfl rfl L0 R1 (by decide +kernel) fun A S hA hS => ?_
  unfold bodyOf Try.f73
  cbv
theorem Modulus_noRing : Sp 44 [noRing] zero4 := by
  refine mk Try.func44 rfl rfl L0 R1 (by decide +kernel) fun A S hA hS => ?_
  unfold bodyOf Try.f44
  cbv
  refine ACall.mk _ (cf hS is_noRing) ?_
  cbv
  refine ACall.mk _ (cf hS none4S) ?_
  cbv
theorem In_noRing {lim : Lim} (a : Nat) : Sp 28 [noRing, u4 lim a] zero4 := by
  refine mk Try.func28 rfl rfl L0 R1 (by decide +kernel) fun A S hA hS => ?_
  unfold bodyOf Try.f28
  cbv
  refine ACall.mk _ (cf hS is_noRing) ?_
  cbv
  refine ACall.mk _ (cf hS none4S) ?_
  cbv
theorem Out_noRing {lim : Lim} (a : Nat) : Sp 42 [noRing, u4 lim a] zero4 := by
  refine mk Try.func42 rfl rfl L0 R1 (by decide +kernel) fun A S hA hS => ?_
  unfold bodyOf Try.f42
  cbv
  refine ACall.mk _ (cf hS is_noRing) ?_
  cbv
  refine ACall.mk _ (cf hS none4S) ?_
  cbv
theorem Add_noRing {lim : Lim} (a b : Nat) : Sp 39 [noRing, u4 lim a, u4 lim b] zero4 := by
  refine mk Try.func39 rfl rfl L0 R1 (by decide +kernel) fun A S hA hS => ?_
  unfold bodyOf Try.f39
  cbv
  refine ACall.mk _ (cf hS is_noRing) ?_
  cbv
  refine ACall.mk _ (cf hS none4S) ?_
  cbv
theorem Sub_noRing {lim : Lim} (a b : Nat) : Sp 40 [noRing, u4 lim a, u4 lim b] zero4 := by
  refine mk Try.func40 rfl rfl L0 R1 (by decide +kernel) fun A S hA hS => ?_
  unfold bodyOf Try.f40
  cbv
  refine ACall.mk _ (cf hS is_noRing) ?_
  cbv
  refine ACall.mk _ (cf hS none4S) ?_
  cbv
theorem Mul_noRing {lim : Lim} (a b : Nat) : Sp 30 [noRing, u4 lim a, u4 lim b] zero4 := by
  refine mk Try.func30 rfl rfl L0 R1 (by decide +kernel) fun A S hA hS => ?_
  unfold bodyOf Try.f30
  cbv
  refine ACall.mk _ (cf hS is_noRing) ?_
  cbv
  refine ACall.mk _ (cf hS none4S) ?_
  cbv
theorem Neg_noRing {lim : Lim} (hl : lim = limR) (b : Nat) : Sp 41 [noRing, u4 lim b] zero4 := by
  have z : ∀ i, lim 0 i = 0 := by intro i; rw [hl]; show ((0 / 2 ^ (64 * i) % 2 ^ 64 : Nat) : Int) = 0; rw [Nat.zero_div]; rfl
  have s := Sub_noRing (lim := lim) 0 b
  refine mk Try.func41 rfl rfl L0 R1 (by decide +kernel) fun A S hA hS => ?_
  unfold bodyOf Try.f41
  cbv
  refine ACall.mk _ (cf hS none4S) ?_
  cbv
  refine ACall.mk _ (cg hS s (by cbv; repeat' (first | exact (z _).symm | constructor))) ?_
  cbv
theorem Inv_noRing {lim : Lim} (a : Nat) : Sp 29 [noRing, u4 lim a] zero4 := by
  refine mk Try.func29 rfl rfl L0 R1 (by decide +kernel) fun A S hA hS => ?_
  unfold bodyOf Try.f29
  cbv
  refine ACall.mk _ (cf hS is_noRing) ?_
  cbv
  refine ACall.mk _ (cf hS none4S) ?_
  cbv
theorem Exp_noRing {lim : Lim} (a : Nat) (row : List AVal) (n : Nat) : Sp 38 [noRing, u4 lim a, .lst true n row] zero4 := by
  refine mk Try.func38 rfl rfl L0 R1 (by decide +kernel) fun A S hA hS => ?_
  unfold bodyOf Try.f38
  cbv
  refine ACall.mk _ (cf hS is_noRing) ?_
  cbv
  refine ACall.mk _ (cf hS none4S) ?_
  cbv
theorem Root_noRing {lim : Lim} (a : Nat) : Sp 31 [noRing, u4 lim a] (.tup [zero4, .b false]) := by
  refine mk Try.func31 rfl rfl L0 RRoot (by decide +kernel) fun A S hA hS => ?_
  unfold bodyOf Try.f31
  cbv
  refine ACall.mk _ (cf hS is_noRing) ?_
  cbv
  refine ACall.mk _ (cf hS none4S) ?_
  cbv
theorem noneLawS {H : H5} (hH : H = H5.real) (a : Nat) (_ha : a < 2 ^ 256) : Sp 9 [u4 H.lim a] (.sb true) := by
  have hl := H5.hlim hH
  refine mk Try.func9 rfl rfl L0 R1 (by decide +kernel) fun A S hA hS => ?_
  unfold bodyOf Try.f9
  cbv
  refine ACall.mk _ (cf hS (awakeS hH)) ?_
  cbv
  refine ABr.f ((a_not hA true).trans rfl) ?_
  cbv
  repeat (first
    | (refine ACall.mk _ (cf hS (Root_nilRing a)) ?_; cbv)
    | (refine ACall.mk _ (cf hS Modulus_nilRing) ?_; cbv)
    | (refine ACall.mk _ (cf hS (In_nilRing a)) ?_; cbv)
    | (refine ACall.mk _ (cf hS (Out_nilRing a)) ?_; cbv)
    | (refine ACall.mk _ (cf hS (Add_nilRing a a)) ?_; cbv)
    | (refine ACall.mk _ (cf hS (Sub_nilRing a a)) ?_; cbv)
    | (refine ACall.mk _ (cf hS (Neg_nilRing hl a)) ?_; cbv)
    | (refine ACall.mk _ (cf hS (Mul_nilRing a a)) ?_; cbv)
    | (refine ACall.mk _ (cf hS (Inv_nilRing a)) ?_; cbv)
    | (refine ACall.mk _ (cg hS (Exp_nilRing (lim := H.lim) a [.s .u64 (H.lim a 0), .s .u64 (H.lim a 1), .s .u64 (H.lim a 2), .s .u64 (H.lim a 3)] 4) ?_) ?_; (focus (cbv; done)); cbv)
    | (refine ACall.mk _ (cf hS (Root_noRing a)) ?_; cbv)
    | (refine ACall.mk _ (cf hS Modulus_noRing) ?_; cbv)
    | (refine ACall.mk _ (cf hS (In_noRing a)) ?_; cbv)
    | (refine ACall.mk _ (cf hS (Out_noRing a)) ?_; cbv)
    | (refine ACall.mk _ (cf hS (Add_noRing a a)) ?_; cbv)
    | (refine ACall.mk _ (cf hS (Sub_noRing a a)) ?_; cbv)
    | (refine ACall.mk _ (cf hS (Neg_noRing hl a)) ?_; cbv)
    | (refine ACall.mk _ (cf hS (Mul_noRing a a)) ?_; cbv)
    | (refine ACall.mk _ (cf hS (Inv_noRing a)) ?_; cbv)
    | (refine ACall.mk _ (cg hS (Exp_noRing (lim := H.lim) a [.s .u64 (H.lim a 0), .s .u64 (H.lim a 1), .s .u64 (H.lim a 2), .s .u64 (H.lim a 3)] 4) ?_) ?_; (focus (cbv; done)); cbv))
  all_goals trace_state
end Go.Proofs.Ytlmlganfjnokiaa
