/- A blob's gas never costs less than 1, and never less where more blobs came than should. Conditions: none beside those of the given row. -/
import Derived.Test.YtkhipnhdbaahcaaQCC
import Derived.Test.YtkhipnhdbaahcaaQCHI
set_option linter.unusedVariables false
namespace Go.Proofs.Ytkhipnhdbaahcaa.headerDearer
open Go.ChangeShapes Go.WideShapes Go.ChangeAt Go.RowKit Eng
open Go.ChangeMaps (open_string shut_string)
set_option maxRecDepth 100000 in
theorem lifted (os : Os) (started : os.Started) (H : Type) (enc : TypeId × Value → H) :
   ReturnsInHanded {} Try.checked os 3 .any (Rows.headerDearerSpec.pre6 enc Try.prog Try.f3 Rows.headerDearerRow.domain false) (Rows.headerDearerSpec.post enc Try.prog Try.f3 false true false false) := by
 refine returnsInHanded_of_change_sized (C := Try.checked) own started (by kernel_rfl) Try.func3
   (ChangeSpec.witness6 (enc := enc) (C := Try.checked) false ⟨#[], #[.int .u64 0, .int .u64 0], []⟩ 8 (by kernel_rfl) (by kernel_rfl) (by kernel_rfl) (by kernel_rfl)) ?_
 intro W base args ds gs before hval0 hW hcnd hsz0 _
 have hval : ∀ (j : Nat) t v, Try.f3.params[j]? = some t → args[j]? = some v → Value.okWide Try.prog W .any base t v := hval0
 have hW' := hW
 obtain ⟨p, q, hA0, hV, rfl, hfz, hnd⟩ := hW
 have hA : DataW.TrodAll enc Try.prog W 0 (fun _ => true) true Try.f3.params.toList args.toList ds p := hA0
 rw [Try.params3] at hA hval
 obtain ⟨v0, vs0, d0, ds0, p0, q0, hargs, rfl, rfl, h0, r0⟩ := trodAll_cons hA
 obtain ⟨v1, vs1, d1, ds1, p1, q1, rfl, rfl, rfl, h1, r1⟩ := trodAll_cons r0
 obtain ⟨rfl, rfl, rfl⟩ := trodAll_nil r1
 obtain rfl : args = #[v0, v1] := by cases args; simp_all
 obtain ⟨rfl, rfl⟩ := trodVars_none hV
 have lt : ∀ {t v d p}, DataW.Trod enc Try.prog W 0 (fun _ => true) true t v d p → ∀ x ∈ p, x.block < W.heap.size := fun hk => by obtain ⟨m, hm⟩ := hk; exact DataW.trod_lt m _ _ _ hm
 obtain ⟨z0, hv0, _, _, w0⟩ := open_int Try.underlying22 (hval 0 22 v0 rfl rfl) h0
 have b0 := bounds_u64 w0
 obtain ⟨a0, ha0⟩ : ∃ a : Nat, z0 = a := ⟨z0.toNat, by omega⟩
 have l0 : a0 < 18446744073709551616 := by omega
 have e0 : Rep W (fun _ => False) noρ v0 (.s .u64 (a0 : Int)) := by rw [hv0, ha0]; exact .s _ _
 obtain ⟨z1, hv1, _, _, w1⟩ := open_int Try.underlying22 (hval 1 22 v1 rfl rfl) h1
 have b1 := bounds_u64 w1
 obtain ⟨a1, ha1⟩ : ∃ a : Nat, z1 = a := ⟨z1.toNat, by omega⟩
 have l1 : a1 < 18446744073709551616 := by omega
 have e1 : Rep W (fun _ => False) noρ v1 (.s .u64 (a1 : Int)) := by rw [hv1, ha1]; exact .s _ _
 refine (calls_of (vs := [v0, v1]) Try.func3 rfl rfl (lw_dearer (H := H5.real) rfl a0 a1 l0 l1) (.cons e0 (.cons e1 .nil))).mono fun e W' ⟨he, bel⟩ => ?_
 subst he
 exact ⟨_, rfl, _, _, _, [], _, [], hW', trodAll_mk1 (shut_bool Try.underlying4 _), (trodAll_cons_mk (Below.trod laidOut (by kernel_rfl) (of_decide_eq_true (by kernel_rfl)) h0 bel (lt h0)) (trodAll_cons_mk (Below.trod laidOut (by kernel_rfl) (of_decide_eq_true (by kernel_rfl)) h1 bel (lt h1)) trodAll_mk0)), rfl, bel.frame _, fun h => by cases h⟩
theorem over : Rows.headerDearerRow.holds Try.pinned (OpenSpec.ofChange Rows.headerDearerSpec) :=
 OpenClaim.holds_of_wide 3 Try.f3 rfl rfl rfl rfl rfl rfl rfl ⟨rfl, rfl, rfl, rfl, rfl⟩ rfl rfl rfl rfl rfl (by kernel_rfl) Try.func3 (by kernel_rfl)
   (of_decide_eq_true (by kernel_rfl)) (by unfold Func.isWrapper; first | (rw [if_pos (by decide +kernel)]; kernel_rfl) | (rw [if_neg (by decide +kernel)]; exact ⟨rfl, rfl⟩))
   (fun os started H enc _ => lifted os started H enc)
end Go.Proofs.Ytkhipnhdbaahcaa.headerDearer
namespace Go.Proofs.Ytkhipnhdbaahcaa
theorem headerDearer_holds : Rows.HeaderDearerSaid := headerDearer.over
end Go.Proofs.Ytkhipnhdbaahcaa
