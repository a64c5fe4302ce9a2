import Derived.Test.YtlmlganfjnokiaaBH
import Derived.Test.YtlmlganfjnokiaaV
set_option linter.unusedVariables false
set_option linter.unusedSimpArgs false
namespace Go.Proofs.Ytlmlganfjnokiaa
open Go Eng
set_option maxRecDepth 100000
set_option exponentiation.threshold 2000
set_option maxHeartbeats 4000000
theorem rSecpPS {H : H5} (hH : H = H5.real) : Sp 14 [] (.new false 4 1 (ws4 H.lim secpP)) := by
  refine mk Try.func14 rfl rfl L0 R0 (by decide +kernel) ?_
  intro A S hA hS
  unfold bodyOf Try.f14
  cbv
  refine ACall.mk _ (cf hS (rHex4 (H5.hlim hH) _ (by decide +kernel) (by decide +kernel))) ?_
  rw [show hexN _ = secpP from (by decide +kernel)]
  cbv
theorem rSecpNS {H : H5} (hH : H = H5.real) : Sp 16 [] (.new false 4 1 (ws4 H.lim secpN)) := by
  refine mk Try.func16 rfl rfl L0 R0 (by decide +kernel) ?_
  intro A S hA hS
  unfold bodyOf Try.f16
  cbv
  refine ACall.mk _ (cf hS (rHex4 (H5.hlim hH) _ (by decide +kernel) (by decide +kernel))) ?_
  rw [show hexN _ = secpN from (by decide +kernel)]
  cbv
theorem rBnPS {H : H5} (hH : H = H5.real) : Sp 18 [] (.new false 4 1 (ws4 H.lim bnP)) := by
  refine mk Try.func18 rfl rfl L0 R0 (by decide +kernel) ?_
  intro A S hA hS
  unfold bodyOf Try.f18
  cbv
  refine ACall.mk _ (cf hS (rHex4 (H5.hlim hH) _ (by decide +kernel) (by decide +kernel))) ?_
  rw [show hexN _ = bnP from (by decide +kernel)]
  cbv
theorem rBnRS {H : H5} (hH : H = H5.real) : Sp 20 [] (.new false 4 1 (ws4 H.lim bnR)) := by
  refine mk Try.func20 rfl rfl L0 R0 (by decide +kernel) ?_
  intro A S hA hS
  unfold bodyOf Try.f20
  cbv
  refine ACall.mk _ (cf hS (rHex4 (H5.hlim hH) _ (by decide +kernel) (by decide +kernel))) ?_
  rw [show hexN _ = bnR from (by decide +kernel)]
  cbv
theorem rBlsRS {H : H5} (hH : H = H5.real) : Sp 25 [] (.new false 4 1 (ws4 H.lim blsR)) := by
  refine mk Try.func25 rfl rfl L0 R0 (by decide +kernel) ?_
  intro A S hA hS
  unfold bodyOf Try.f25
  cbv
  refine ACall.mk _ (cf hS (rHex4 (H5.hlim hH) _ (by decide +kernel) (by decide +kernel))) ?_
  rw [show hexN _ = blsR from (by decide +kernel)]
  cbv
theorem rBlsPS {H : H5} (hH : H = H5.real) : Sp 23 [] (.new false 6 1 (ws6 H.lim blsP)) := by
  refine mk Try.func23 rfl rfl L0 R0 (by decide +kernel) ?_
  intro A S hA hS
  unfold bodyOf Try.f23
  cbv
  refine ACall.mk _ (cf hS (rHex6 (H5.hlim hH) _ (by decide +kernel) (by decide +kernel))) ?_
  rw [show hexN _ = blsP from (by decide +kernel)]
  cbv
theorem fourS {H : H5} (a : Nat) : Sp 13 [.lst false 4 (ws4 H.lim a)] (u4 H.lim a) := by
  refine mk Try.func13 rfl rfl L0 R0 (by decide +kernel) ?_
  intro A S hA hS
  unfold bodyOf Try.f13
  cbv
theorem sixS {H : H5} (a : Nat) : Sp 22 [.lst false 6 (ws6 H.lim a)] (u6 H.lim a) := by
  refine mk Try.func22 rfl rfl L0 R0 (by decide +kernel) ?_
  intro A S hA hS
  unfold bodyOf Try.f22
  cbv
theorem fieldPrimesS {H : H5} (hH : H = H5.real) : Sp 3 [] (.sb true) := by
  have hl := H5.hlim hH
  refine mk Try.func3 rfl rfl L0 R2 (by decide +kernel) ?_
  intro A S hA hS
  have same4 : ∀ a, A.eqs [(.s .u64 (H.lim a 0), .s .u64 (H.lim a 0)), (.s .u64 (H.lim a 1), .s .u64 (H.lim a 1)), (.s .u64 (H.lim a 2), .s .u64 (H.lim a 2)), (.s .u64 (H.lim a 3), .s .u64 (H.lim a 3))] = true := fun a => by
    rw [eqs_real hA]; simp [leafEq_s]
  have same6 : ∀ a, A.eqs [(.s .u64 (H.lim a 0), .s .u64 (H.lim a 0)), (.s .u64 (H.lim a 1), .s .u64 (H.lim a 1)), (.s .u64 (H.lim a 2), .s .u64 (H.lim a 2)), (.s .u64 (H.lim a 3), .s .u64 (H.lim a 3)), (.s .u64 (H.lim a 4), .s .u64 (H.lim a 4)), (.s .u64 (H.lim a 5), .s .u64 (H.lim a 5))] = true := fun a => by
    rw [eqs_real hA]; simp [leafEq_s]
  have f1 := same4 secpP
  have f2 := same4 secpN
  have f3 := same4 bnP
  have f4 := same4 bnR
  have f5 := same6 blsP
  have f6 := same4 blsR
  unfold bodyOf Try.f3
  cbv
  refine ACall.mk _ (cf hS (awakeS hH)) ?_
  cbv
  repeat (first
    | (refine ABr.t (by assumption) ?_; cbv)
    | (refine ABr.t rfl ?_; cbv)
    | (refine ACall.mk _ (cf hS (SecpPS hH)) ?_; cbv)
    | (refine ACall.mk _ (cf hS (SecpNS hH)) ?_; cbv)
    | (refine ACall.mk _ (cf hS (BnPS hH)) ?_; cbv)
    | (refine ACall.mk _ (cf hS (BnRS hH)) ?_; cbv)
    | (refine ACall.mk _ (cf hS (BlsPS hH)) ?_; cbv)
    | (refine ACall.mk _ (cf hS (BlsRS hH)) ?_; cbv)
    | (refine ACall.mk _ (cf hS (rSecpPS hH)) ?_; cbv)
    | (refine ACall.mk _ (cf hS (rSecpNS hH)) ?_; cbv)
    | (refine ACall.mk _ (cf hS (rBnPS hH)) ?_; cbv)
    | (refine ACall.mk _ (cf hS (rBnRS hH)) ?_; cbv)
    | (refine ACall.mk _ (cf hS (rBlsPS hH)) ?_; cbv)
    | (refine ACall.mk _ (cf hS (rBlsRS hH)) ?_; cbv)
    | (refine ACall.mk _ (cf hS (fourS _)) ?_; cbv)
    | (refine ACall.mk _ (cf hS (sixS _)) ?_; cbv))
  exact f6
end Go.Proofs.Ytlmlganfjnokiaa
