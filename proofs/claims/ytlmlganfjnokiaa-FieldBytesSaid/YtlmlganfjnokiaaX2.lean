import Derived.Test.YtlmlganfjnokiaaX
import Derived.Test.YtlmlganfjnokiaaBD
set_option linter.unusedVariables false
set_option linter.unusedSimpArgs false
namespace Go.Proofs.Ytlmlganfjnokiaa
open Go Eng
open Go.ChangeShapes Go.RowKit
set_option maxRecDepth 100000
theorem slice_val {W : World} {t e : TypeId} {v : Value} {base : Nat} (hu : Try.prog.underlying t = some (.slice e)) (h : Value.okWide Try.prog W .any base t v) {a : Option Addr} {n c : Nat} (hv : v.cells.toList = [.slice a n c]) : v = .slice a n c := by
  unfold Value.okWide at h
  rw [hu] at h
  have h : Cell.okWide Try.prog W .any base t v := h
  unfold Cell.okWide at h
  rw [hu] at h
  have h : Cell.ok Try.prog W .any base t v := h
  unfold Cell.ok at h
  rw [hu] at h
  cases v with
  | slice b m c' => simpa [Value.cells] using hv
  | _ => exact h.elim

theorem lsub_one : ∀ (l : List AVal) (i : Nat) (x : AVal), l[i]? = some x → lsub l i 1 = some [x]
  | [], i, x, h => by simp at h
  | y :: l, 0, x, h => by
    simp at h
    subst h
    cases l <;> rfl
  | y :: l, i + 1, x, h => by
    rw [lsub]
    exact lsub_one l i x (by simpa using h)
/-- An argument that is a row of words. -/
theorem open_row {H : Type} {enc : TypeId × Value → H} {W : World} {t e : TypeId} {v : Value} {d : DataW H} {p : List MemPlace} {base : Nat} (hu : Try.prog.underlying t = some (.slice e)) (he : Try.prog.underlying e = some (.int .u64)) (hc : Try.prog.cellsOf e = 1)
    (hval : Value.okWide Try.prog W .any base t v) (h : DataW.Trod enc Try.prog W 0 (fun _ => true) true t v d p) : ∃ (a k : Nat) (row : List AVal), a < 2 ^ (64 * k) ∧ IsRow row (limR a) k ∧ k ≤ maxLen ∧ Rep W (fun _ => False) noρ v (.lst true k row) := by
  obtain ⟨fuel, hf⟩ := h
  rcases open_ints hu he hc hf with ⟨h1, _⟩ | ⟨a, len, cap, zs, h1, _, hl, hm, hz, _, hcell, hwf⟩
  · have hv := slice_val hu hval h1
    subst hv
    exact ⟨0, 0, [], by decide, ⟨rfl, fun i hi => by omega⟩, Nat.zero_le _, .lst0 _ _ _⟩
  · have hv := slice_val hu hval h1
    subst hv
    have hz : zs.length = cap := by simpa using hz
    obtain ⟨o, ho⟩ : ∃ o : Nat → Nat, o = fun i => (zs.getD i 0).toNat := ⟨_, rfl⟩
    have hb : ∀ i, i < zs.length → 0 ≤ zs.getD i 0 ∧ zs.getD i 0 < 18446744073709551616 := by
      intro i hi
      have := hwf (zs.getD i 0) (by rw [List.getD, List.getElem?_eq_getElem hi]; exact List.getElem_mem hi)
      have h2 := bounds_u64 this
      omega
    have hoW : ∀ j, o j < 18446744073709551616 := by
      intro j
      rw [ho]
      show (zs.getD j 0).toNat < _
      rcases Nat.lt_or_ge j zs.length with hj | hj
      · have := hb j hj; omega
      · rw [List.getD, List.getElem?_eq_none hj]; decide
    have hV : V o len < 2 ^ (64 * len) := by rw [pow_W]; exact V_lt len (fun j _ => hoW j)
    have hlim : ∀ j, j < len → limR (V o len) j = zs.getD j 0 := by
      intro j hj
      rw [limR_V (fun j _ => hoW j) hj, ho]
      have := (hb j (by omega)).1
      show ((zs.getD j 0).toNat : Int) = _
      omega
    have hrow : IsRow ((List.range len).map fun i => AVal.s .u64 (limR (V o len) i)) (limR (V o len)) len := by
      refine ⟨by simp, fun i hi => ?_⟩
      rw [Nat.mul_one]
      exact lsub_one _ i _ (by rw [List.getElem?_map, List.getElem?_range hi]; rfl)
    refine ⟨V o len, len, _, hV, hrow, by omega, ?_⟩
    rcases Nat.eq_zero_or_pos len with h0 | h0
    · subst h0
      exact .lst0 _ _ _
    · obtain ⟨blk, off, spot⟩ := a
      have hs := hcell 0 (by omega)
      have hs0 : W.cell? ⟨blk, off, spot⟩ = some (.int .u64 (zs.getD 0 0)) := hs
      have hspot : spot = none ∧ blk < W.heap.size := by
        unfold World.cell? at hs0
        split at hs0
        · rename_i c t' fz hh
          refine ⟨?_, (Array.getElem?_eq_some_iff.1 hh).1⟩
          cases spot with
          | none => rfl
          | some q => simp at hs0
        · cases hs0
      obtain ⟨hspot, hblk⟩ := hspot
      subst hspot
      refine .lst true blk off len cap ((List.range len).map fun i => .int .u64 (limR (V o len) i)) _ (fun h => h) hblk ?_ hl (by simp) ?_
      · intro j v hj
        have hj' : j < len := by
          rcases Nat.lt_or_ge j len with h | h
          · exact h
          · rw [List.getElem?_eq_none (by simpa using h)] at hj; cases hj
        rw [List.getElem?_map, List.getElem?_range hj'] at hj
        cases hj
        show _ = some (Value.int .u64 (limR (V o len) j))
        rw [hlim j hj', ← hcell j (by omega)]
        congr 1
        exact (Addr.add_mid blk off j).symm
      · intro j v x hv hx
        rw [List.getElem?_map] at hv hx
        cases hr : (List.range len)[j]? with
        | none => rw [hr] at hv; cases hv
        | some i => rw [hr] at hv hx; cases hv; cases hx; exact .s _ _
end Go.Proofs.Ytlmlganfjnokiaa
