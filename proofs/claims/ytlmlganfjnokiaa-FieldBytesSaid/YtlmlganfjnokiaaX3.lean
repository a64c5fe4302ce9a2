import Derived.Test.YtlmlganfjnokiaaX2
import Derived.Test.YtlmlganfjnokiaaBM
set_option linter.unusedVariables false
set_option linter.unusedSimpArgs false
namespace Go.Proofs.Ytlmlganfjnokiaa
open Go Eng
open Go.ChangeShapes Go.RowKit
set_option maxRecDepth 100000
/-- An argument that is a row of bytes. -/
theorem open_rowb {H : Type} {enc : TypeId × Value → H} {W : World} {t e : TypeId} {v : Value} {d : DataW H} {p : List MemPlace} {base : Nat} (hu : Try.prog.underlying t = some (.slice e)) (he : Try.prog.underlying e = some (.int .u8)) (hc : Try.prog.cellsOf e = 1) (hb1 : Try.prog.bytesOf e = 1) (hs : ∀ el sp : List (DataW H), d = .slice el sp → (el.length + sp.length) * Try.prog.bytesOf e ≤ reachBytes)
    (hval : Value.okWide Try.prog W .any base t v) (h : DataW.Trod enc Try.prog W 0 (fun _ => true) true t v d p) : ∃ (bs : Nat → Nat) (k : Nat) (row : List AVal), IsRowB row bs k ∧ k ≤ 140737488355328 ∧ Rep W (fun _ => False) noρ v (.lst true k row) := by
  obtain ⟨fuel, hf⟩ := h
  rcases open_ints hu he hc hf with ⟨h1, _⟩ | ⟨a, len, cap, zs, h1, _, hl, hm, hz, hx, hcell, hwf⟩
  · have hv := slice_val hu hval h1
    subst hv
    exact ⟨fun _ => 0, 0, [], ⟨rfl, fun i hi => by omega, fun _ => (by decide : 0 < 256)⟩, Nat.zero_le _, .lst0 _ _ _⟩
  · have hv := slice_val hu hval h1
    subst hv
    have hz : zs.length = cap := by simpa using hz
    have hsz := hs _ _ (congrArg Prod.fst hx)
    rw [hb1, Nat.mul_one] at hsz
    have hr47 := reachBytes_lt
    have hlk : len ≤ 140737488355328 := by
      simp only [lits, List.length_map, List.length_take, List.length_drop] at hsz
      omega
    obtain ⟨o, ho⟩ : ∃ o : Nat → Nat, o = fun i => (zs.getD i 0).toNat := ⟨_, rfl⟩
    have hb : ∀ i, i < zs.length → 0 ≤ zs.getD i 0 ∧ zs.getD i 0 < 256 := by
      intro i hi
      have := hwf (zs.getD i 0) (by rw [List.getD, List.getElem?_eq_getElem hi]; exact List.getElem_mem hi)
      have h2 := bounds_u8 this
      omega
    have hoW : ∀ j, o j < 256 := by
      intro j
      rw [ho]
      show (zs.getD j 0).toNat < _
      rcases Nat.lt_or_ge j zs.length with hj | hj
      · have := hb j hj; omega
      · rw [List.getD, List.getElem?_eq_none hj]; decide
    have hlim : ∀ j, j < len → ((o j : Nat) : Int) = zs.getD j 0 := by
      intro j hj
      rw [ho]
      have := (hb j (by omega)).1
      show ((zs.getD j 0).toNat : Int) = _
      omega
    have hrow : IsRowB ((List.range len).map fun i => AVal.s .u8 (o i : Nat)) o len := by
      refine ⟨by simp, fun i hi => ?_, hoW⟩
      rw [Nat.mul_one]
      exact lsub_one _ i _ (by rw [List.getElem?_map, List.getElem?_range hi]; rfl)
    refine ⟨o, len, _, hrow, hlk, ?_⟩
    rcases Nat.eq_zero_or_pos len with h0 | h0
    · subst h0
      exact .lst0 _ _ _
    · obtain ⟨blk, off, spot⟩ := a
      have hs := hcell 0 (by omega)
      have hs0 : W.cell? ⟨blk, off, spot⟩ = some (.int .u8 (zs.getD 0 0)) := hs
      have hspot : spot = none ∧ blk < W.heap.size := by
        unfold World.cell? at hs0
        split at hs0
        · rename_i c t' fz hh
          refine ⟨?_, (Array.getElem?_eq_some_iff.1 hh).1⟩
          cases spot with
          | none => rfl
          | some q => simp at hs0
        · cases hs0
      obtain ⟨hspot, hblk⟩ := hspot
      subst hspot
      refine .lst true blk off len cap ((List.range len).map fun i => .int .u8 (o i : Nat)) _ (fun h => h) hblk ?_ hl (by simp) ?_
      · intro j v hj
        have hj' : j < len := by
          rcases Nat.lt_or_ge j len with h | h
          · exact h
          · rw [List.getElem?_eq_none (by simpa using h)] at hj; cases hj
        rw [List.getElem?_map, List.getElem?_range hj'] at hj
        cases hj
        show _ = some (Value.int .u8 (o j : Nat))
        rw [hlim j hj', ← hcell j (by omega)]
        congr 1
        exact (Addr.add_mid blk off j).symm
      · intro j v x hv hx
        rw [List.getElem?_map] at hv hx
        cases hr : (List.range len)[j]? with
        | none => rw [hr] at hv; cases hv
        | some i => rw [hr] at hv hx; cases hv; cases hx; exact .s _ _
end Go.Proofs.Ytlmlganfjnokiaa
