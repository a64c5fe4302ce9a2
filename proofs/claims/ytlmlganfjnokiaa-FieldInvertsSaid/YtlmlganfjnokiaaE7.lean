/- The engine, part 7: the pure operations, done. -/
import Derived.Test.YtlmlganfjnokiaaE6
import Derived.Laws.Tables
set_option linter.unusedSimpArgs false
set_option linter.unusedVariables false
namespace Eng
open Go

section
variable {P : Program} {T : Ty} {w : World} {X : Nat → Prop} {ρ : Nat → Option Nat}

theorem aidx_inv {sym : Bool} {x : AVal} {n : Nat} {K : Nat → Prop} {v : Value} (hv : Rep w X ρ v x) (h : aidx sym x n K) :
    ∃ k j, v = .int k j ∧ 0 ≤ j ∧ j < (n : Int) ∧ K j.toNat := by
  unfold aidx at h
  split at h
  · cases hv
    split at h
    · obtain ⟨h1, h2⟩ := onlyIf_inv h
      simp at h1
      exact ⟨_, _, rfl, h1.1, by omega, h2⟩
    · cases h with
      | mk i h1 h2 h3 => subst h1; exact ⟨_, _, rfl, by omega, by omega, h3⟩
  · cases hv
    cases h with
    | mk i h1 h2 h3 => subst h1; exact ⟨_, _, rfl, by omega, by omega, h3⟩
  · exact h.elim

theorem foldl_set (cs : List Value) : ∀ (off j0 : Nat) (a : Array Value), off + j0 + cs.length ≤ a.size →
    ((cs.zipIdx j0).foldl (fun (r : Array Value) (p : Value × Nat) => r.setIfInBounds (off + p.2) p.1) a).toList = a.toList.take (off + j0) ++ cs ++ a.toList.drop (off + j0 + cs.length) := by
  induction cs with
  | nil => intro off j0 a h; simp
  | cons c cs ih =>
    intro off j0 a h
    simp only [List.zipIdx_cons, List.foldl_cons]
    simp only [List.length_cons] at h
    rw [ih off (j0 + 1) _ (by simp; omega)]
    have hlt : off + j0 < a.toList.length := by simp; omega
    simp only [Array.toList_setIfInBounds, List.length_cons]
    rw [show off + (j0 + 1) = off + j0 + 1 by omega]
    rw [List.take_set, List.drop_set_of_lt (by omega)]
    rw [List.take_succ_eq_append_getElem hlt]
    simp [List.set_append, Nat.min_eq_left (Nat.le_of_lt (by simpa using hlt)), show off + j0 + 1 + cs.length = off + j0 + (cs.length + 1) by omega]

theorem fillP_run {u : UT} {place : Nat → Option (Nat × Nat)} {e : Operand → AVal} {ρ' : Operand → Value} (he : ∀ x, Rep w X ρ (ρ' x) (e x))
    (hp : ∀ i off sz, aopP.placeOf T u i = some (off, sz) → place i = some (off, sz)) :
    ∀ (parts : List (Nat × Operand)) (cs r : List AVal) (a : Array Value), aopP.fillP T u (aopP.partsOf e parts) cs = some r → RepL w X ρ a.toList cs →
      ∃ a' : Array Value, Instr.fill place a (parts.map fun p => (p.1, ρ' p.2)) = some a' ∧ RepL w X ρ a'.toList r := by
  intro parts
  induction parts with
  | nil => intro cs r a h hr; simp [aopP.partsOf, aopP.fillP] at h; subst h; exact ⟨a, by simp [Instr.fill], hr⟩
  | cons p parts ih =>
    obtain ⟨i, x⟩ := p
    intro cs r a h hr
    simp only [aopP.partsOf] at h
    cases hc : (e x).cells with
    | none => rw [hc] at h; simp [aopP.fillP] at h
    | some ys =>
      rw [hc] at h
      simp only [aopP.fillP] at h
      split at h
      · cases h
      · rename_i off sz hpl
        split at h
        · rename_i cs' hlen hput
          have hy := (he x).cells hc
          obtain ⟨h1, h2⟩ := hr.put hy hput
          have hl := hy.length
          simp at hlen
          have hpl' := hp i off sz hpl
          simp only [List.map_cons, Instr.fill, hpl']
          have hs : (ρ' x).cells.size = sz := by have : (ρ' x).cells.size = (ρ' x).cells.toList.length := by simp
                                                 omega
          have hs2 : ¬ ((ρ' x).cells.size ≠ sz ∨ off + (ρ' x).cells.size > a.size) := by simp at h1; omega
          rw [if_neg (by simpa using hs2)]
          refine ih cs' r _ h ?_
          have := foldl_set (ρ' x).cells.toList off 0 a (by simp at h1 ⊢; omega)
          simp only [Nat.add_zero] at this
          rw [← Array.foldl_toList, Array.toList_zipIdx]
          rw [this]
          exact h2
        · cases h

theorem asub_inv {lo hi : Option AVal} {n : Nat} {K : Nat → Nat → Prop} {lo' hi' : Option Value} (h : aopP.asub lo hi n K)
    (hlo : ∀ x, lo = some x → ∃ v, lo' = some v ∧ Rep w X ρ v x) (hlo0 : lo = none → lo' = none) (hhi : ∀ x, hi = some x → ∃ v, hi' = some v ∧ Rep w X ρ v x) (hhi0 : hi = none → hi' = none) (isSlice : Bool) (cap : Nat) (hcap : n ≤ cap) :
    ∃ l r, (Instr.sliceBounds isSlice n cap lo' hi' none).run P w = .ok (l, r, cap) w ∧ l ≤ r ∧ r ≤ n ∧ K l r := by
  unfold aopP.asub at h
  split at h
  · exact h.elim
  · rename_i r hr
    split at h
    · exact h.elim
    · rename_i l hl
      have hh : ∃ f : World → Prop, True := ⟨fun _ => True, trivial⟩
      have h1 : r ≤ n ∧ ((hi' = none ∧ r = n) ∨ ∃ k j, hi' = some (.int k j) ∧ 0 ≤ j ∧ j.toNat = r) := by
        cases hi with
        | none => simp [subHi] at hr; subst hr; exact ⟨Nat.le_refl _, .inl ⟨hhi0 rfl, rfl⟩⟩
        | some x =>
          obtain ⟨v, hv, hrep⟩ := hhi x rfl
          cases x <;> simp [subHi] at hr
          obtain ⟨⟨h0, h1⟩, rfl⟩ := hr
          cases hrep
          exact ⟨by omega, .inr ⟨_, _, hv, h0, rfl⟩⟩
      have h2 : l ≤ r ∧ ((lo' = none ∧ l = 0) ∨ ∃ k j, lo' = some (.int k j) ∧ 0 ≤ j ∧ j.toNat = l) := by
        cases lo with
        | none => simp [subLo] at hl; subst hl; exact ⟨Nat.zero_le _, .inl ⟨hlo0 rfl, rfl⟩⟩
        | some x =>
          obtain ⟨v, hv, hrep⟩ := hlo x rfl
          cases x <;> simp [subLo] at hl
          obtain ⟨⟨h0, h1⟩, rfl⟩ := hl
          cases hrep
          exact ⟨by omega, .inr ⟨_, _, hv, h0, rfl⟩⟩
      refine ⟨l, r, ?_, h2.1, h1.1, h⟩
      obtain ⟨hr1, ⟨rfl, rfl⟩ | ⟨k, j, rfl, hj0, hj⟩⟩ := h1 <;> obtain ⟨hl1, ⟨rfl, rfl⟩ | ⟨k', i, rfl, hi0, hi⟩⟩ := h2
      · simp [Instr.sliceBounds]
      · have : i ≤ (r : Int) := by omega
        simp [Instr.sliceBounds, Instr.sliceBound, asIntOf, hi0, this, hi]
      · have : j ≤ (cap : Int) := by omega
        simp [Instr.sliceBounds, Instr.sliceBound, asIntOf, hj0, this, hj]
      · have h3 : j ≤ (cap : Int) := by omega
        have h4 : i ≤ (r : Int) := by omega
        simp [Instr.sliceBounds, Instr.sliceBound, asIntOf, hj0, h3, hj, hi0, h4, hi]
end
end Eng
