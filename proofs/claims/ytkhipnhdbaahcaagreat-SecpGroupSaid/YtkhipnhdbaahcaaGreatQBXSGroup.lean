/- The points are a group of the order N. Conditions: none beside those of the given row. -/
import Derived.Test.YtkhipnhdbaahcaaGreatQBSQ
import Derived.Test.YtkhipnhdbaahcaaGreatQBKB
import Derived.Test.YtkhipnhdbaahcaaGreatQBF
import Derived.Test.YtkhipnhdbaahcaaGreatQByXSGroupySR
set_option linter.unusedVariables false
namespace Go.Proofs.YtkhipnhdbaahcaaGreat.secpGroup
open Go.ChangeShapes Go.WideShapes Go.ChangeAt Go.RowKit Eng
open Go.ChangeMaps (open_string shut_string)
set_option maxRecDepth 100000 in
theorem lifted (os : Os) (started : os.Started) (H : Type) (enc : TypeId × Value → H) :
    ReturnsInHanded {} Tryz.checked os 5 .any (Rows.secpGroupSpec.pre6 enc Tryz.prog Tryz.f5 Rows.secpGroupRow.domain false) (Rows.secpGroupSpec.post enc Tryz.prog Tryz.f5 false true false false) := by
  refine returnsInHanded_of_change_sized (C := Tryz.checked) own started (by kernel_rfl) Tryz.func5
    (ChangeSpec.witness6 (enc := enc) (C := Tryz.checked) false ⟨#[], #[.agg #[.int .u64 0, .int .u64 0, .int .u64 0, .int .u64 0, .int .u64 0, .int .u64 0, .int .u64 0, .int .u64 0, .bool false], .agg #[.int .u64 0, .int .u64 0, .int .u64 0, .int .u64 0, .int .u64 0, .int .u64 0, .int .u64 0, .int .u64 0, .bool false], .agg #[.int .u64 0, .int .u64 0, .int .u64 0, .int .u64 0, .int .u64 0, .int .u64 0, .int .u64 0, .int .u64 0, .bool false], .agg #[.int .u64 0, .int .u64 0, .int .u64 0, .int .u64 0], .agg #[.int .u64 0, .int .u64 0, .int .u64 0, .int .u64 0]], []⟩ 8 (by kernel_rfl) (by kernel_rfl) (by kernel_rfl) (by kernel_rfl)) ?_
  intro W base args ds gs before hval0 hW hcnd hsz0 _
  have hval : ∀ (j : Nat) t v, Tryz.f5.params[j]? = some t → args[j]? = some v → Value.okWide Tryz.prog W .any base t v := hval0
  have hW' := hW
  obtain ⟨p, q, hA0, hV, rfl, hfz, hnd⟩ := hW
  have hA : DataW.TrodAll enc Tryz.prog W 0 (fun _ => true) true Tryz.f5.params.toList args.toList ds p := hA0
  rw [Tryz.params5] at hA hval
  obtain ⟨v0, vs0, d0, ds0, p0, q0, hargs, rfl, rfl, h0, r0⟩ := trodAll_cons hA
  obtain ⟨v1, vs1, d1, ds1, p1, q1, rfl, rfl, rfl, h1, r1⟩ := trodAll_cons r0
  obtain ⟨v2, vs2, d2, ds2, p2, q2, rfl, rfl, rfl, h2, r2⟩ := trodAll_cons r1
  obtain ⟨v3, vs3, d3, ds3, p3, q3, rfl, rfl, rfl, h3, r3⟩ := trodAll_cons r2
  obtain ⟨v4, vs4, d4, ds4, p4, q4, rfl, rfl, rfl, h4, r4⟩ := trodAll_cons r3
  obtain ⟨rfl, rfl, rfl⟩ := trodAll_nil r4
  obtain rfl : args = #[v0, v1, v2, v3, v4] := by cases args; simp_all
  obtain ⟨rfl, rfl⟩ := trodVars_none hV
  have lt : ∀ {t v d p}, DataW.Trod enc Tryz.prog W 0 (fun _ => true) true t v d p → ∀ x ∈ p, x.block < W.heap.size := fun hk => by obtain ⟨m, hm⟩ := hk; exact DataW.trod_lt m _ _ _ hm
  obtain ⟨x0, y0, t0, lx0, ly0, e0⟩ := open_pt (X := fun _ => False) Tryz.underlying26 (by kernel_rfl) Tryz.underlying22 Tryz.underlying4 (by kernel_rfl) (hval 0 26 v0 rfl rfl)
  obtain ⟨x1, y1, t1, lx1, ly1, e1⟩ := open_pt (X := fun _ => False) Tryz.underlying26 (by kernel_rfl) Tryz.underlying22 Tryz.underlying4 (by kernel_rfl) (hval 1 26 v1 rfl rfl)
  obtain ⟨x2, y2, t2, lx2, ly2, e2⟩ := open_pt (X := fun _ => False) Tryz.underlying26 (by kernel_rfl) Tryz.underlying22 Tryz.underlying4 (by kernel_rfl) (hval 2 26 v2 rfl rfl)
  obtain ⟨a3, l3, e3⟩ := open_u4 (X := fun _ => False) Tryz.underlying24 (by kernel_rfl) (by kernel_rfl) (by kernel_rfl) (hval 3 24 v3 rfl rfl)
  obtain ⟨a4, l4, e4⟩ := open_u4 (X := fun _ => False) Tryz.underlying24 (by kernel_rfl) (by kernel_rfl) (by kernel_rfl) (hval 4 24 v4 rfl rfl)
  refine (calls_of (vs := [v0, v1, v2, v3, v4]) Tryz.func5 rfl rfl (lw_group (H := H5.real) rfl x0 y0 t0 x1 y1 t1 x2 y2 t2 a3 a4 lx0 ly0 lx1 ly1 lx2 ly2 l3 l4) (.cons e0 (.cons e1 (.cons e2 (.cons e3 (.cons e4 .nil)))))).mono fun e W' ⟨he, bel⟩ => ?_
  subst he
  exact ⟨_, rfl, _, _, _, [], _, [], hW', trodAll_mk1 (shut_bool Tryz.underlying4 _), (trodAll_cons_mk (Below.trod laidOut (by kernel_rfl) (of_decide_eq_true (by kernel_rfl)) h0 bel (lt h0)) (trodAll_cons_mk (Below.trod laidOut (by kernel_rfl) (of_decide_eq_true (by kernel_rfl)) h1 bel (lt h1)) (trodAll_cons_mk (Below.trod laidOut (by kernel_rfl) (of_decide_eq_true (by kernel_rfl)) h2 bel (lt h2)) (trodAll_cons_mk (Below.trod laidOut (by kernel_rfl) (of_decide_eq_true (by kernel_rfl)) h3 bel (lt h3)) (trodAll_cons_mk (Below.trod laidOut (by kernel_rfl) (of_decide_eq_true (by kernel_rfl)) h4 bel (lt h4)) trodAll_mk0))))), rfl, bel.frame _, fun h => by cases h⟩
theorem over : Rows.secpGroupRow.holds Tryz.pinned (OpenSpec.ofChange Rows.secpGroupSpec) :=
  OpenClaim.holds_of_wide 5 Tryz.f5 rfl rfl rfl rfl rfl rfl rfl ⟨rfl, rfl, rfl, rfl, rfl⟩ rfl rfl rfl rfl rfl (by kernel_rfl) Tryz.func5 (by kernel_rfl)
    (of_decide_eq_true (by kernel_rfl)) (by unfold Func.isWrapper; first | (rw [if_pos (by decide +kernel)]; kernel_rfl) | (rw [if_neg (by decide +kernel)]; exact ⟨rfl, rfl⟩))
    (fun os started H enc _ => lifted os started H enc)
end Go.Proofs.YtkhipnhdbaahcaaGreat.secpGroup
namespace Go.Proofs.YtkhipnhdbaahcaaGreat
/-- The row, under a short name, for the claim. -/
theorem secpGroup_holds : Rows.SecpGroupSaid := secpGroup.over
end Go.Proofs.YtkhipnhdbaahcaaGreat
