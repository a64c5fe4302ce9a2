/- Any bytes are read as points, or refused, as the document says, and what is read is written again, byte for byte. Conditions: none beside those of the given row. -/
import Derived.Test.YtmholgclgamnnaaGreatQXC
import Derived.Test.YtmholgclgamnnaaGreatQXF
import Derived.Test.YtmholgclgamnnaaGreatQXDZ
set_option linter.unusedVariables false
namespace Go.Proofs.YtmholgclgamnnaaGreat.curveReads
open Go.ChangeShapes Go.WideShapes Go.ChangeAt Go.RowKit Eng
open Go.ChangeMaps (open_string shut_string)
set_option maxRecDepth 100000 in
theorem lifted (os : Os) (started : os.Started) (H : Type) (enc : TypeId × Value → H) :
   ReturnsInHanded {} Tryz.checked os 11 .any (Rows.curveReadsSpec.pre6 enc Tryz.prog Tryz.f11 Rows.curveReadsRow.domain false) (Rows.curveReadsSpec.post enc Tryz.prog Tryz.f11 false true false false) := by
 refine returnsInHanded_of_change_sized (C := Tryz.checked) own started (by kernel_rfl) Tryz.func11
   (ChangeSpec.witness6 (enc := enc) (C := Tryz.checked) false ⟨#[], #[.slice none 0 0, .slice none 0 0, .slice none 0 0], []⟩ 8 (by kernel_rfl) (by kernel_rfl) (by kernel_rfl) (by kernel_rfl)) ?_
 intro W base args ds gs before hval0 hW hcnd hsz0 _
 have hval : ∀ (j : Nat) t v, Tryz.f11.params[j]? = some t → args[j]? = some v → Value.okWide Tryz.prog W .any base t v := hval0
 have hW' := hW
 obtain ⟨p, q, hA0, hV, rfl, hfz, hnd⟩ := hW
 have hA : DataW.TrodAll enc Tryz.prog W 0 (fun _ => true) true Tryz.f11.params.toList args.toList ds p := hA0
 rw [Tryz.params11] at hA hval
 obtain ⟨v0, vs0, d0, ds0, p0, q0, hargs, rfl, rfl, h0, r0⟩ := trodAll_cons hA
 obtain ⟨v1, vs1, d1, ds1, p1, q1, rfl, rfl, rfl, h1, r1⟩ := trodAll_cons r0
 obtain ⟨v2, vs2, d2, ds2, p2, q2, rfl, rfl, rfl, h2, r2⟩ := trodAll_cons r1
 obtain ⟨rfl, rfl, rfl⟩ := trodAll_nil r2
 obtain rfl : args = #[v0, v1, v2] := by cases args; simp_all
 obtain ⟨rfl, rfl⟩ := trodVars_none hV
 have lt : ∀ {t v d p}, DataW.Trod enc Tryz.prog W 0 (fun _ => true) true t v d p → ∀ x ∈ p, x.block < W.heap.size := fun hk => by obtain ⟨m, hm⟩ := hk; exact DataW.trod_lt m _ _ _ hm
 obtain ⟨a0, k0, row0, o0, l0, e0⟩ := open_rowb Tryz.underlying111 Tryz.underlying5 (by kernel_rfl) (by kernel_rfl) (fun el sp hd => sized_slice hsz0 (j := 0) rfl (by rw [hd]; rfl) Tryz.underlying111) (hval 0 111 v0 rfl rfl) h0
 obtain ⟨a1, k1, row1, o1, l1, e1⟩ := open_rowb Tryz.underlying111 Tryz.underlying5 (by kernel_rfl) (by kernel_rfl) (fun el sp hd => sized_slice hsz0 (j := 1) rfl (by rw [hd]; rfl) Tryz.underlying111) (hval 1 111 v1 rfl rfl) h1
 obtain ⟨a2, k2, row2, o2, l2, e2⟩ := open_rowb Tryz.underlying111 Tryz.underlying5 (by kernel_rfl) (by kernel_rfl) (fun el sp hd => sized_slice hsz0 (j := 2) rfl (by rw [hd]; rfl) Tryz.underlying111) (hval 2 111 v2 rfl rfl) h2
 refine (calls_of (vs := [v0, v1, v2]) Tryz.func11 rfl rfl (lw_reads (H := H5.real) rfl  o0 l0 o1 l1 o2 l2) (.cons e0 (.cons e1 (.cons e2 .nil)))).mono fun e W' ⟨he, bel⟩ => ?_
 subst he
 exact ⟨_, rfl, _, _, _, [], _, [], hW', trodAll_mk1 (shut_bool Tryz.underlying4 _), (trodAll_cons_mk (Below.trod laidOut (by kernel_rfl) (of_decide_eq_true (by kernel_rfl)) h0 bel (lt h0)) (trodAll_cons_mk (Below.trod laidOut (by kernel_rfl) (of_decide_eq_true (by kernel_rfl)) h1 bel (lt h1)) (trodAll_cons_mk (Below.trod laidOut (by kernel_rfl) (of_decide_eq_true (by kernel_rfl)) h2 bel (lt h2)) trodAll_mk0))), rfl, bel.frame _, fun h => by cases h⟩
theorem over : Rows.curveReadsRow.holds Tryz.pinned (OpenSpec.ofChange Rows.curveReadsSpec) :=
 OpenClaim.holds_of_wide 11 Tryz.f11 rfl rfl rfl rfl rfl rfl rfl ⟨rfl, rfl, rfl, rfl, rfl⟩ rfl rfl rfl rfl rfl (by kernel_rfl) Tryz.func11 (by kernel_rfl)
   (of_decide_eq_true (by kernel_rfl)) (by unfold Func.isWrapper; first | (rw [if_pos (by decide +kernel)]; kernel_rfl) | (rw [if_neg (by decide +kernel)]; exact ⟨rfl, rfl⟩))
   (fun os started H enc _ => lifted os started H enc)
end Go.Proofs.YtmholgclgamnnaaGreat.curveReads
namespace Go.Proofs.YtmholgclgamnnaaGreat
theorem curveReads_holds : Rows.CurveReadsSaid := curveReads.over
end Go.Proofs.YtmholgclgamnnaaGreat
