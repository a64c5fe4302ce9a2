/- The engine, part 22: a seat's types, checked. -/
import Derived.Test.YtlmlganfjnokiaaE21
set_option linter.unusedSimpArgs false
set_option linter.unusedVariables false
namespace Eng
open Go

def valEq : Value → Value → Bool
  | .int k n, .int k' n' => decide (k = k') && n == n'
  | .bool a, .bool b => a == b
  | .string a, .string b => a.data.toList.isEmpty && b.data.toList.isEmpty
  | .pointer none, .pointer none => true
  | .slice none n c, .slice none n' c' => n == n' && c == c'
  | .map none, .map none => true
  | .chan none, .chan none => true
  | .nilFunc, .nilFunc => true
  | .nilIface, .nilIface => true
  | _, _ => false
theorem valEq_eq {a b : Value} (h : valEq a b = true) : a = b := by
  unfold valEq at h
  split at h <;> simp at h
  · rw [h.1, h.2]
  · rw [h]
  · rename_i a b
    obtain ⟨⟨a⟩⟩ := a; obtain ⟨⟨b⟩⟩ := b
    simp at h; rw [h.1, h.2]
  · rfl
  · rw [h.1, h.2]
  · rfl
  · rfl
  · rfl
  · rfl
def valsEq : List Value → List Value → Bool
  | [], [] => true
  | a :: l, b :: k => valEq a b && valsEq l k
  | _, _ => false
theorem valsEq_eq : ∀ {l k : List Value}, valsEq l k = true → l = k
  | [], [], _ => rfl
  | a :: l, b :: k, h => by
    simp only [valsEq, Bool.and_eq_true] at h
    rw [valEq_eq h.1, valsEq_eq h.2]
  | [], _ :: _, h => by cases h
  | _ :: _, [], h => by cases h

def descOk (P : Program) (T : Ty) (t : TypeId) : Bool :=
  match T.und t, P.underlying t with
  | .int k, some (.int k') => decide (k = k')
  | .bool, some .bool => true
  | .str, some .string => true
  | .ptr e, some (.pointer e') => e == e'
  | .slice e, some (.slice e') => e == e'
  | .arr n e, some (.array n' e') => n == n' && e == e'
  | .struct fs, some (.struct gs) => decide (gs.toList.map (fun f => (f.offset, f.type, f.name)) = fs) && !P.stoodInHeld t && gs.toList.all fun f => (P.info? f.type).isSome
  | .iface ms, some (.interface ns) => decide (ns.toList = ms)
  | .other, _ => true
  | _, _ => false

def zeroOk (T : Ty) (t : TypeId) (z : Value) : Bool :=
  match isAgg (T.und t), z with
  | true, .agg cs => valsEq cs.toList (T.zero t)
  | false, z => oneV z && valsEq [z] (T.zero t)
  | _, _ => false

def infoOk (P : Program) (T : Ty) (t : TypeId) : Bool :=
  match T.und t with
  | .other => true
  | _ => match P.info? t with
    | some i => i.size == T.size t && i.bytes == T.bytes t && (match i.zero with | some z => zeroOk T t z | none => false)
    | none => false

def tyAt (P : Program) (T : Ty) (t : TypeId) : Bool :=
  descOk P T t && infoOk P T t && (!T.eqok t || !P.eqGuardType P.depth t)

theorem tyOk_of {P : Program} {T : Ty} (n : Nat) (h : (List.range n).all (tyAt P T) = true) (hbig : ∀ t, n ≤ t → T.und t = .other) (hother : ∀ t, T.und t = .other → T.size t = 0) (hz : ∀ t, (T.zero t).length = T.size t)
    (heq : ∀ t, n ≤ t → T.eqok t = false) (hm : ∀ t name f, T.meth t name = some f → ∀ v w, (method (P.types.size + Made.depth) t v name).run P w = .ok (f, v) w) : TyOk P T := by
  have hat : ∀ t, T.und t ≠ .other → descOk P T t = true ∧ infoOk P T t = true := by
    intro t ht
    have hlt : t < n := by
      rcases Nat.lt_or_ge t n with h' | h'
      · exact h'
      · exact absurd (hbig t h') ht
    have := List.all_eq_true.1 h t (by simpa using hlt)
    simp only [tyAt, Bool.and_eq_true] at this
    exact this.1
  refine ⟨?_, ?_, ?_, ?_, ?_, ?_, ?_, ?_, ?_, hother, hz, ?_, hm⟩
  · intro t k ht
    have := (hat t (by rw [ht]; simp)).1
    unfold descOk at this; rw [ht] at this
    split at this <;> simp_all
  · intro t ht
    have := (hat t (by rw [ht]; simp)).1
    unfold descOk at this; rw [ht] at this
    split at this <;> simp_all
  · intro t ht
    have := (hat t (by rw [ht]; simp)).1
    unfold descOk at this; rw [ht] at this
    split at this <;> simp_all
  · intro t e ht
    have := (hat t (by rw [ht]; simp)).1
    unfold descOk at this; rw [ht] at this
    split at this <;> simp_all
  · intro t e ht
    have := (hat t (by rw [ht]; simp)).1
    unfold descOk at this; rw [ht] at this
    split at this <;> simp_all
  · intro t m e ht
    have := (hat t (by rw [ht]; simp)).1
    unfold descOk at this; rw [ht] at this
    split at this <;> simp_all
  · intro t fs ht
    have := (hat t (by rw [ht]; simp)).1
    unfold descOk at this; rw [ht] at this
    cases hu : P.underlying t with
    | none => rw [hu] at this; simp at this
    | some d =>
      rw [hu] at this
      cases d <;> simp only [reduceCtorEq] at this
      rename_i gs
      simp only [Bool.and_eq_true, decide_eq_true_eq, Bool.not_eq_true', List.all_eq_true] at this
      exact ⟨gs, rfl, this.1.1, this.1.2, this.2⟩
  · intro t ms ht
    have := (hat t (by rw [ht]; simp)).1
    unfold descOk at this; rw [ht] at this
    cases hu : P.underlying t with
    | none => rw [hu] at this; simp at this
    | some d =>
      rw [hu] at this
      cases d <;> simp only [reduceCtorEq] at this
      rename_i gs
      simp only [decide_eq_true_eq] at this
      rw [← this]
  · intro t ht
    have h2 := (hat t ht).2
    unfold infoOk at h2
    have h3 : (match P.info? t with
      | some i => i.size == T.size t && i.bytes == T.bytes t && (match i.zero with | some z => zeroOk T t z | none => false)
      | none => false) = true := by
      cases hu : T.und t <;> rw [hu] at h2 <;> first | exact h2 | exact absurd hu ht
    cases hi : P.info? t with
    | none => rw [hi] at h3; simp at h3
    | some i =>
      rw [hi] at h3
      simp only [Bool.and_eq_true, beq_iff_eq] at h3
      cases hzz : i.zero with
      | none => rw [hzz] at h3; simp at h3
      | some z =>
        rw [hzz] at h3
        obtain ⟨⟨h4, h5⟩, h6⟩ := h3
        refine ⟨i, rfl, h4, h5, z, hzz, ?_⟩
        unfold zeroOk at h6
        cases ha : isAgg (T.und t) with
        | true =>
          rw [ha] at h6
          cases z <;> simp only [reduceCtorEq] at h6
          rename_i cs
          have := valsEq_eq h6
          exact ⟨by simpa [Value.cells] using this, fun _ => by rw [← this], fun h' => by cases h'⟩
        | false =>
          rw [ha] at h6
          simp only [Bool.and_eq_true] at h6
          have := valsEq_eq h6.2
          refine ⟨?_, fun h' => (by cases h'), fun _ => h6.1⟩
          cases z <;> first | (simp [oneV] at h6; done) | (simp only [Value.cells]; exact this)
  · intro t ht
    have hlt : t < n := by
      rcases Nat.lt_or_ge t n with h' | h'
      · exact h'
      · rw [heq t h'] at ht; cases ht
    have := List.all_eq_true.1 h t (by simpa using hlt)
    simp only [tyAt, Bool.and_eq_true, Bool.or_eq_true, Bool.not_eq_true'] at this
    rcases this.2 with h' | h'
    · rw [ht] at h'; cases h'
    · exact h'
end Eng
