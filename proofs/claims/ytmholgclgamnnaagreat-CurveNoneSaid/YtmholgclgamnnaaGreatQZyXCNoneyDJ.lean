import Derived.Test.YtmholgclgamnnaaGreatQZCU
import Derived.Test.YtmholgclgamnnaaGreatQZDD
section
set_option linter.unusedVariables false
set_option linter.unusedSectionVars false
set_option linter.unusedSimpArgs false
namespace Go.Proofs.YtmholgclgamnnaaGreat
open Go Eng
set_option maxRecDepth 100000
set_option exponentiation.threshold 2000
set_option maxHeartbeats 4000000
/-- The cells of a curve that nobody made. -/
def Z4 : List AVal := [.i .i64 0, .v (.pointer none), .i .u64 0, .i .u64 0, .i .u64 0, .i .u64 0, .i .u64 0, .i .u64 0, .i .u64 0, .i .u64 0, .v .nilIface, .i .u64 0, .i .u64 0, .i .u64 0, .i .u64 0, .v .nilIface, .i .u64 0, .i .u64 0, .i .u64 0, .i .u64 0, .i .u64 0, .i .u64 0, .i .u64 0, .i .u64 0, .i .u64 0, .i .u64 0, .i .u64 0, .i .u64 0, .i .u64 0, .i .u64 0, .i .u64 0, .i .u64 0, .b false, .i .u64 0, .i .u64 0, .i .u64 0, .i .u64 0, .i .u64 0, .i .u64 0, .i .u64 0, .i .u64 0, .i .u64 0, .i .u64 0, .i .u64 0, .i .u64 0, .i .u64 0, .i .u64 0, .i .u64 0, .i .u64 0, .b false]
def O1 : AVal := .agg [.i .u64 0, .i .u64 0, .i .u64 0, .i .u64 0, .i .u64 0, .i .u64 0, .i .u64 0, .i .u64 0, .b true]
def O2 : AVal := .agg [.i .u64 0, .i .u64 0, .i .u64 0, .i .u64 0, .i .u64 0, .i .u64 0, .i .u64 0, .i .u64 0, .i .u64 0, .i .u64 0, .i .u64 0, .i .u64 0, .i .u64 0, .i .u64 0, .i .u64 0, .i .u64 0, .b true]
theorem is0n : Sp 108 [.v (.pointer none)] (.b false) := by
  refine mk Tryz.func108 rfl rfl L0 R1 (by decide +kernel) fun A S hA hS => ?_
  unfold bodyOf Tryz.f108
  cbv
  repeat (first
    | (refine ABr.t (by assumption) ?_; cbv)
    | (refine ABr.f (by assumption) ?_; cbv)
    | (refine ABr.t rfl ?_; cbv)
    | (refine ABr.f rfl ?_; cbv))
theorem inf1n : Sp 114 [.v (.pointer none)] (O1) := by
  have h0 := is0n
  refine mk Tryz.func114 rfl rfl L0 R1 (by decide +kernel) fun A S hA hS => ?_
  unfold bodyOf Tryz.f114
  cbv
  repeat (first
    | (refine ABr.t (by assumption) ?_; cbv)
    | (refine ABr.f (by assumption) ?_; cbv)
    | (refine ABr.t rfl ?_; cbv)
    | (refine ABr.f rfl ?_; cbv)
    | (refine ACall.mk _ (cf hS h0) ?_; cbv))
theorem inf2n : Sp 130 [.v (.pointer none)] (O2) := by
  have h0 := is0n
  refine mk Tryz.func130 rfl rfl L0 R1 (by decide +kernel) fun A S hA hS => ?_
  unfold bodyOf Tryz.f130
  cbv
  repeat (first
    | (refine ABr.t (by assumption) ?_; cbv)
    | (refine ABr.f (by assumption) ?_; cbv)
    | (refine ABr.t rfl ?_; cbv)
    | (refine ABr.f rfl ?_; cbv)
    | (refine ACall.mk _ (cf hS h0) ?_; cbv))
theorem base1n : Sp 44 [.v (.pointer none)] (O1) := by
  have h0 := is0n
  refine mk Tryz.func44 rfl rfl L0 R1 (by decide +kernel) fun A S hA hS => ?_
  unfold bodyOf Tryz.f44
  cbv
  repeat (first
    | (refine ABr.t (by assumption) ?_; cbv)
    | (refine ABr.f (by assumption) ?_; cbv)
    | (refine ABr.t rfl ?_; cbv)
    | (refine ABr.f rfl ?_; cbv)
    | (refine ACall.mk _ (cf hS h0) ?_; cbv))
theorem base2n : Sp 47 [.v (.pointer none)] (O2) := by
  have h0 := is0n
  refine mk Tryz.func47 rfl rfl L0 R1 (by decide +kernel) fun A S hA hS => ?_
  unfold bodyOf Tryz.f47
  cbv
  repeat (first
    | (refine ABr.t (by assumption) ?_; cbv)
    | (refine ABr.f (by assumption) ?_; cbv)
    | (refine ABr.t rfl ?_; cbv)
    | (refine ABr.f rfl ?_; cbv)
    | (refine ACall.mk _ (cf hS h0) ?_; cbv))
theorem good1n {H : H5} (P : PtA) : Sp 31 [.v (.pointer none), P1_4 H P] (.i .i64 3) := by
  have h0 := is0n
  refine mk Tryz.func31 rfl rfl L0 R1 (by decide +kernel) fun A S hA hS => ?_
  unfold bodyOf Tryz.f31
  cbv
  repeat (first
    | (refine ABr.t (by assumption) ?_; cbv)
    | (refine ABr.f (by assumption) ?_; cbv)
    | (refine ABr.t rfl ?_; cbv)
    | (refine ABr.f rfl ?_; cbv)
    | (refine ACall.mk _ (cf hS h0) ?_; cbv))
theorem good2n {H : H5} (P : PtB) : Sp 59 [.v (.pointer none), P2_4 H P] (.i .i64 3) := by
  have h0 := is0n
  refine mk Tryz.func59 rfl rfl L0 R1 (by decide +kernel) fun A S hA hS => ?_
  unfold bodyOf Tryz.f59
  cbv
  repeat (first
    | (refine ABr.t (by assumption) ?_; cbv)
    | (refine ABr.f (by assumption) ?_; cbv)
    | (refine ABr.t rfl ?_; cbv)
    | (refine ABr.f rfl ?_; cbv)
    | (refine ACall.mk _ (cf hS h0) ?_; cbv))
theorem add1n {H : H5} (P : PtA) : Sp 33 [.v (.pointer none), P1_4 H P, P1_4 H P] (.tup [O1, .i .i64 3]) := by
  have h0 := inf1n
  have h1 := good1n (H := H) P
  refine mk Tryz.func33 rfl rfl L0 R1 (by decide +kernel) fun A S hA hS => ?_
  unfold bodyOf Tryz.f33
  cbv
  repeat (first
    | (refine ABr.t (by assumption) ?_; cbv)
    | (refine ABr.f (by assumption) ?_; cbv)
    | (refine ABr.t rfl ?_; cbv)
    | (refine ABr.f rfl ?_; cbv)
    | (refine ACall.mk _ (cf hS h0) ?_; cbv)
    | (refine ACall.mk _ (cf hS h1) ?_; cbv))
theorem neg1n {H : H5} (P : PtA) : Sp 35 [.v (.pointer none), P1_4 H P] (.tup [O1, .i .i64 3]) := by
  have h0 := inf1n
  have h1 := good1n (H := H) P
  refine mk Tryz.func35 rfl rfl L0 R1 (by decide +kernel) fun A S hA hS => ?_
  unfold bodyOf Tryz.f35
  cbv
  repeat (first
    | (refine ABr.t (by assumption) ?_; cbv)
    | (refine ABr.f (by assumption) ?_; cbv)
    | (refine ABr.t rfl ?_; cbv)
    | (refine ABr.f rfl ?_; cbv)
    | (refine ACall.mk _ (cf hS h0) ?_; cbv)
    | (refine ACall.mk _ (cf hS h1) ?_; cbv))
theorem mul2n {H : H5} (P : PtB) (k : Nat) : Sp 54 [.v (.pointer none), P2_4 H P, u4 H.lim k] (.tup [O2, .i .i64 3]) := by
  have h0 := inf2n
  have h1 := good2n (H := H) P
  refine mk Tryz.func54 rfl rfl L0 R1 (by decide +kernel) fun A S hA hS => ?_
  unfold bodyOf Tryz.f54
  cbv
  repeat (first
    | (refine ABr.t (by assumption) ?_; cbv)
    | (refine ABr.f (by assumption) ?_; cbv)
    | (refine ABr.t rfl ?_; cbv)
    | (refine ABr.f rfl ?_; cbv)
    | (refine ACall.mk _ (cf hS h0) ?_; cbv)
    | (refine ACall.mk _ (cf hS h1) ?_; cbv))
theorem grp2n {H : H5} (P : PtB) : Sp 51 [.v (.pointer none), P2_4 H P] (.i .i64 3) := by
  have h0 := good2n (H := H) P
  refine mk Tryz.func51 rfl rfl L0 R1 (by decide +kernel) fun A S hA hS => ?_
  unfold bodyOf Tryz.f51
  cbv
  repeat (first
    | (refine ABr.t (by assumption) ?_; cbv)
    | (refine ABr.f (by assumption) ?_; cbv)
    | (refine ABr.t rfl ?_; cbv)
    | (refine ABr.f rfl ?_; cbv)
    | (refine ACall.mk _ (cf hS h0) ?_; cbv))
theorem is0z : Sp 108 [.ref Z4 0] (.b false) := by
  refine mk Tryz.func108 rfl rfl L0 R1 (by decide +kernel) fun A S hA hS => ?_
  unfold bodyOf Tryz.f108
  cbv
  repeat (first
    | (refine ABr.t (by assumption) ?_; cbv)
    | (refine ABr.f (by assumption) ?_; cbv)
    | (refine ABr.t rfl ?_; cbv)
    | (refine ABr.f rfl ?_; cbv))
theorem inf1z : Sp 114 [.ref Z4 0] (O1) := by
  have h0 := is0z
  refine mk Tryz.func114 rfl rfl L0 R1 (by decide +kernel) fun A S hA hS => ?_
  unfold bodyOf Tryz.f114
  cbv
  repeat (first
    | (refine ABr.t (by assumption) ?_; cbv)
    | (refine ABr.f (by assumption) ?_; cbv)
    | (refine ABr.t rfl ?_; cbv)
    | (refine ABr.f rfl ?_; cbv)
    | (refine ACall.mk _ (cf hS h0) ?_; cbv))
theorem inf2z : Sp 130 [.ref Z4 0] (O2) := by
  have h0 := is0z
  refine mk Tryz.func130 rfl rfl L0 R1 (by decide +kernel) fun A S hA hS => ?_
  unfold bodyOf Tryz.f130
  cbv
  repeat (first
    | (refine ABr.t (by assumption) ?_; cbv)
    | (refine ABr.f (by assumption) ?_; cbv)
    | (refine ABr.t rfl ?_; cbv)
    | (refine ABr.f rfl ?_; cbv)
    | (refine ACall.mk _ (cf hS h0) ?_; cbv))
theorem base1z : Sp 44 [.ref Z4 0] (O1) := by
  have h0 := is0z
  refine mk Tryz.func44 rfl rfl L0 R1 (by decide +kernel) fun A S hA hS => ?_
  unfold bodyOf Tryz.f44
  cbv
  repeat (first
    | (refine ABr.t (by assumption) ?_; cbv)
    | (refine ABr.f (by assumption) ?_; cbv)
    | (refine ABr.t rfl ?_; cbv)
    | (refine ABr.f rfl ?_; cbv)
    | (refine ACall.mk _ (cf hS h0) ?_; cbv))
theorem base2z : Sp 47 [.ref Z4 0] (O2) := by
  have h0 := is0z
  refine mk Tryz.func47 rfl rfl L0 R1 (by decide +kernel) fun A S hA hS => ?_
  unfold bodyOf Tryz.f47
  cbv
  repeat (first
    | (refine ABr.t (by assumption) ?_; cbv)
    | (refine ABr.f (by assumption) ?_; cbv)
    | (refine ABr.t rfl ?_; cbv)
    | (refine ABr.f rfl ?_; cbv)
    | (refine ACall.mk _ (cf hS h0) ?_; cbv))
theorem good1z {H : H5} (P : PtA) : Sp 31 [.ref Z4 0, P1_4 H P] (.i .i64 3) := by
  have h0 := is0z
  refine mk Tryz.func31 rfl rfl L0 R1 (by decide +kernel) fun A S hA hS => ?_
  unfold bodyOf Tryz.f31
  cbv
  repeat (first
    | (refine ABr.t (by assumption) ?_; cbv)
    | (refine ABr.f (by assumption) ?_; cbv)
    | (refine ABr.t rfl ?_; cbv)
    | (refine ABr.f rfl ?_; cbv)
    | (refine ACall.mk _ (cf hS h0) ?_; cbv))
theorem good2z {H : H5} (P : PtB) : Sp 59 [.ref Z4 0, P2_4 H P] (.i .i64 3) := by
  have h0 := is0z
  refine mk Tryz.func59 rfl rfl L0 R1 (by decide +kernel) fun A S hA hS => ?_
  unfold bodyOf Tryz.f59
  cbv
  repeat (first
    | (refine ABr.t (by assumption) ?_; cbv)
    | (refine ABr.f (by assumption) ?_; cbv)
    | (refine ABr.t rfl ?_; cbv)
    | (refine ABr.f rfl ?_; cbv)
    | (refine ACall.mk _ (cf hS h0) ?_; cbv))
theorem add1z {H : H5} (P : PtA) : Sp 33 [.ref Z4 0, P1_4 H P, P1_4 H P] (.tup [O1, .i .i64 3]) := by
  have h0 := inf1z
  have h1 := good1z (H := H) P
  refine mk Tryz.func33 rfl rfl L0 R1 (by decide +kernel) fun A S hA hS => ?_
  unfold bodyOf Tryz.f33
  cbv
  repeat (first
    | (refine ABr.t (by assumption) ?_; cbv)
    | (refine ABr.f (by assumption) ?_; cbv)
    | (refine ABr.t rfl ?_; cbv)
    | (refine ABr.f rfl ?_; cbv)
    | (refine ACall.mk _ (cf hS h0) ?_; cbv)
    | (refine ACall.mk _ (cf hS h1) ?_; cbv))
theorem neg1z {H : H5} (P : PtA) : Sp 35 [.ref Z4 0, P1_4 H P] (.tup [O1, .i .i64 3]) := by
  have h0 := inf1z
  have h1 := good1z (H := H) P
  refine mk Tryz.func35 rfl rfl L0 R1 (by decide +kernel) fun A S hA hS => ?_
  unfold bodyOf Tryz.f35
  cbv
  repeat (first
    | (refine ABr.t (by assumption) ?_; cbv)
    | (refine ABr.f (by assumption) ?_; cbv)
    | (refine ABr.t rfl ?_; cbv)
    | (refine ABr.f rfl ?_; cbv)
    | (refine ACall.mk _ (cf hS h0) ?_; cbv)
    | (refine ACall.mk _ (cf hS h1) ?_; cbv))
theorem mul2z {H : H5} (P : PtB) (k : Nat) : Sp 54 [.ref Z4 0, P2_4 H P, u4 H.lim k] (.tup [O2, .i .i64 3]) := by
  have h0 := inf2z
  have h1 := good2z (H := H) P
  refine mk Tryz.func54 rfl rfl L0 R1 (by decide +kernel) fun A S hA hS => ?_
  unfold bodyOf Tryz.f54
  cbv
  repeat (first
    | (refine ABr.t (by assumption) ?_; cbv)
    | (refine ABr.f (by assumption) ?_; cbv)
    | (refine ABr.t rfl ?_; cbv)
    | (refine ABr.f rfl ?_; cbv)
    | (refine ACall.mk _ (cf hS h0) ?_; cbv)
    | (refine ACall.mk _ (cf hS h1) ?_; cbv))
theorem grp2z {H : H5} (P : PtB) : Sp 51 [.ref Z4 0, P2_4 H P] (.i .i64 3) := by
  have h0 := good2z (H := H) P
  refine mk Tryz.func51 rfl rfl L0 R1 (by decide +kernel) fun A S hA hS => ?_
  unfold bodyOf Tryz.f51
  cbv
  repeat (first
    | (refine ABr.t (by assumption) ?_; cbv)
    | (refine ABr.f (by assumption) ?_; cbv)
    | (refine ABr.t rfl ?_; cbv)
    | (refine ABr.f rfl ?_; cbv)
    | (refine ACall.mk _ (cf hS h0) ?_; cbv))
theorem lw_none {H : H5} (hH : H = H5.real) (x0 x1 y0 y1 : Nat) (inf : Bool) (k : Nat) (aw : Sp 12 [] (.b true)) : Sp 9 [PLv H x0 x1 y0 y1 inf, u4 H.lim k] (.b true) := by
  have t1 := to4_1 hH x0 x1 y0 y1 inf
  have t2 := to4_2 hH x0 x1 y0 y1 inf
  generalize (⟨x0 % 2 ^ (64 * 4), y0 % 2 ^ (64 * 4), inf⟩ : PtA) = P at *
  generalize (⟨x0 % 2 ^ (64 * 4), x1 % 2 ^ (64 * 4), y0 % 2 ^ (64 * 4), y1 % 2 ^ (64 * 4), inf⟩ : PtB) = Q at *
  have n1 := add1n (H := H) P
  have n2 := mul2n (H := H) Q k
  have n3 := neg1n (H := H) P
  have n4 := base1n
  have n5 := base2n
  have n6 := good1n (H := H) P
  have n7 := grp2n (H := H) Q
  have z1 := add1z (H := H) P
  have z2 := mul2z (H := H) Q k
  have z3 := neg1z (H := H) P
  have z4 := base1z
  have z5 := base2z
  have z6 := good1z (H := H) P
  have z7 := grp2z (H := H) Q
  refine mk Tryz.func9 rfl rfl L0 R1 (by decide +kernel) fun A S hA hS => ?_
  unfold bodyOf Tryz.f9
  cbv
  repeat (first
    | (refine ABr.t (by assumption) ?_; cbv)
    | (refine ABr.f (by assumption) ?_; cbv)
    | (refine ABr.t rfl ?_; cbv)
    | (refine ABr.f rfl ?_; cbv)
    | (refine ACall.mk _ (cf hS aw) ?_; cbv)
    | (refine ACall.mk _ (cf hS t1) ?_; cbv)
    | (refine ACall.mk _ (cf hS t2) ?_; cbv)
    | (refine ACall.mk _ (cf hS n1) ?_; cbv)
    | (refine ACall.mk _ (cf hS n2) ?_; cbv)
    | (refine ACall.mk _ (cf hS n3) ?_; cbv)
    | (refine ACall.mk _ (cf hS n4) ?_; cbv)
    | (refine ACall.mk _ (cf hS n5) ?_; cbv)
    | (refine ACall.mk _ (cf hS n6) ?_; cbv)
    | (refine ACall.mk _ (cf hS n7) ?_; cbv)
    | (refine ACall.mk _ (cf hS z1) ?_; cbv)
    | (refine ACall.mk _ (cf hS z2) ?_; cbv)
    | (refine ACall.mk _ (cf hS z3) ?_; cbv)
    | (refine ACall.mk _ (cf hS z4) ?_; cbv)
    | (refine ACall.mk _ (cf hS z5) ?_; cbv)
    | (refine ACall.mk _ (cf hS z6) ?_; cbv)
    | (refine ACall.mk _ (cf hS z7) ?_; cbv))
end Go.Proofs.YtmholgclgamnnaaGreat
end
section
set_option linter.unusedVariables false
set_option linter.unusedSimpArgs false
set_option linter.unusedSectionVars false
namespace Go.Proofs.YtmholgclgamnnaaGreat
open Go Eng
set_option maxRecDepth 100000
set_option exponentiation.threshold 2000
theorem lw_none0 {H : H5} (hH : H = H5.real) (x0 x1 y0 y1 : Nat) (inf : Bool) (k : Nat) (_ : k < 2 ^ 256) : Sp 9 [PLv H x0 x1 y0 y1 inf, u4 H.lim k] (.sb true) := Spec.res (lw_none hH x0 x1 y0 y1 inf k awakeS) (by cbv)
end Go.Proofs.YtmholgclgamnnaaGreat
end
