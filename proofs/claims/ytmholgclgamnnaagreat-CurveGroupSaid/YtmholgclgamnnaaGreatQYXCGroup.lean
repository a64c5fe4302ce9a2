/- Multiples of a base by two numbers, added, are its multiple by their sum in all four groups, and r times the base is at infinity. Conditions: none beside those of the given row. -/
import Derived.Test.YtmholgclgamnnaaGreatQYDL
import Derived.Test.YtmholgclgamnnaaGreatQYCS
import Derived.Test.YtmholgclgamnnaaGreatQYD
import Derived.Test.YtmholgclgamnnaaGreatQYyXCGroupyDL
set_option linter.unusedVariables false
namespace Go.Proofs.YtmholgclgamnnaaGreat.curveGroup
open Go.ChangeShapes Go.WideShapes Go.ChangeAt Go.RowKit Eng
open Go.ChangeMaps (open_string shut_string)
set_option maxRecDepth 100000 in
theorem lifted (os : Os) (started : os.Started) (H : Type) (enc : TypeId × Value → H) :
    ReturnsInHanded {} Tryz.checked os 7 .any (Rows.curveGroupSpec.pre6 enc Tryz.prog Tryz.f7 Rows.curveGroupRow.domain false) (Rows.curveGroupSpec.post enc Tryz.prog Tryz.f7 false true false false) := by
  refine returnsInHanded_of_change_sized (C := Tryz.checked) own started (by kernel_rfl) Tryz.func7
    (ChangeSpec.witness6 (enc := enc) (C := Tryz.checked) false ⟨#[], #[.int .u64 0, .int .u64 0, .int .u64 0], []⟩ 8 (by kernel_rfl) (by kernel_rfl) (by kernel_rfl) (by kernel_rfl)) ?_
  intro W base args ds gs before hval0 hW hcnd hsz0 _
  have hval : ∀ (j : Nat) t v, Tryz.f7.params[j]? = some t → args[j]? = some v → Value.okWide Tryz.prog W .any base t v := hval0
  have hW' := hW
  obtain ⟨p, q, hA0, hV, rfl, hfz, hnd⟩ := hW
  have hA : DataW.TrodAll enc Tryz.prog W 0 (fun _ => true) true Tryz.f7.params.toList args.toList ds p := hA0
  rw [Tryz.params7] at hA hval
  obtain ⟨v0, vs0, d0, ds0, p0, q0, hargs, rfl, rfl, h0, r0⟩ := trodAll_cons hA
  obtain ⟨v1, vs1, d1, ds1, p1, q1, rfl, rfl, rfl, h1, r1⟩ := trodAll_cons r0
  obtain ⟨v2, vs2, d2, ds2, p2, q2, rfl, rfl, rfl, h2, r2⟩ := trodAll_cons r1
  obtain ⟨rfl, rfl, rfl⟩ := trodAll_nil r2
  obtain rfl : args = #[v0, v1, v2] := by cases args; simp_all
  obtain ⟨rfl, rfl⟩ := trodVars_none hV
  have lt : ∀ {t v d p}, DataW.Trod enc Tryz.prog W 0 (fun _ => true) true t v d p → ∀ x ∈ p, x.block < W.heap.size := fun hk => by obtain ⟨m, hm⟩ := hk; exact DataW.trod_lt m _ _ _ hm
  obtain ⟨z0, hv0, _, _, w0⟩ := open_int Tryz.underlying22 (hval 0 22 v0 rfl rfl) h0
  have b0 := bounds_u64 w0
  obtain ⟨a0, ha0⟩ : ∃ a : Nat, z0 = a := ⟨z0.toNat, by omega⟩
  have l0 : a0 < 18446744073709551616 := by omega
  have e0 : Rep W (fun _ => False) noρ v0 (.s .u64 (a0 : Int)) := by rw [hv0, ha0]; exact .s _ _
  obtain ⟨z1, hv1, _, _, w1⟩ := open_int Tryz.underlying22 (hval 1 22 v1 rfl rfl) h1
  have b1 := bounds_u64 w1
  obtain ⟨a1, ha1⟩ : ∃ a : Nat, z1 = a := ⟨z1.toNat, by omega⟩
  have l1 : a1 < 18446744073709551616 := by omega
  have e1 : Rep W (fun _ => False) noρ v1 (.s .u64 (a1 : Int)) := by rw [hv1, ha1]; exact .s _ _
  obtain ⟨z2, hv2, _, _, w2⟩ := open_int Tryz.underlying22 (hval 2 22 v2 rfl rfl) h2
  have b2 := bounds_u64 w2
  obtain ⟨a2, ha2⟩ : ∃ a : Nat, z2 = a := ⟨z2.toNat, by omega⟩
  have l2 : a2 < 18446744073709551616 := by omega
  have e2 : Rep W (fun _ => False) noρ v2 (.s .u64 (a2 : Int)) := by rw [hv2, ha2]; exact .s _ _
  refine (calls_of (vs := [v0, v1, v2]) Tryz.func7 rfl rfl (lw_group (H := H5.real) rfl a0 a1 a2 l0 l1 l2) (.cons e0 (.cons e1 (.cons e2 .nil)))).mono fun e W' ⟨he, bel⟩ => ?_
  subst he
  exact ⟨_, rfl, _, _, _, [], _, [], hW', trodAll_mk1 (shut_bool Tryz.underlying4 _), (trodAll_cons_mk (Below.trod laidOut (by kernel_rfl) (of_decide_eq_true (by kernel_rfl)) h0 bel (lt h0)) (trodAll_cons_mk (Below.trod laidOut (by kernel_rfl) (of_decide_eq_true (by kernel_rfl)) h1 bel (lt h1)) (trodAll_cons_mk (Below.trod laidOut (by kernel_rfl) (of_decide_eq_true (by kernel_rfl)) h2 bel (lt h2)) trodAll_mk0))), rfl, bel.frame _, fun h => by cases h⟩
theorem over : Rows.curveGroupRow.holds Tryz.pinned (OpenSpec.ofChange Rows.curveGroupSpec) :=
  OpenClaim.holds_of_wide 7 Tryz.f7 rfl rfl rfl rfl rfl rfl rfl ⟨rfl, rfl, rfl, rfl, rfl⟩ rfl rfl rfl rfl rfl (by kernel_rfl) Tryz.func7 (by kernel_rfl)
    (of_decide_eq_true (by kernel_rfl)) (by unfold Func.isWrapper; first | (rw [if_pos (by decide +kernel)]; kernel_rfl) | (rw [if_neg (by decide +kernel)]; exact ⟨rfl, rfl⟩))
    (fun os started H enc _ => lifted os started H enc)
end Go.Proofs.YtmholgclgamnnaaGreat.curveGroup
namespace Go.Proofs.YtmholgclgamnnaaGreat
/-- The row, under a short name, for the claim. -/
theorem curveGroup_holds : Rows.CurveGroupSaid := curveGroup.over
end Go.Proofs.YtmholgclgamnnaaGreat
