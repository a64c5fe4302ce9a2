/- The engine, part 21: regions whose order is open, done. -/
import Derived.Test.YtlmlganfjnokiaaE20
set_option linter.unusedSimpArgs false
set_option linter.unusedVariables false
namespace Eng
open Go

section
variable {A : Ar} {T : Ty} {Sp : SpecT} {P : Program}

theorem astep_mono {tree : Md} {all : List Oper} {o : Oper} {s : St} {K K' : St → Prop} (h : astep A T Sp tree all o s K) (hk : ∀ s, K s → K' s) : astep A T Sp tree all o s K' := by
  obtain ⟨s', h1, h2⟩ := lin_step A T Sp tree all o s K h
  exact h2 K' (hk s' h1)

theorem front {tree : Md} {ops : Array Oper} {i : Oper} {K : St → Prop} : ∀ (r1 r2 : List Oper) (s : St), (∀ j ∈ r1, indep tree ops j i = true) → aops A T Sp tree ops.toList (r1 ++ i :: r2) s K → aops A T Sp tree ops.toList (i :: (r1 ++ r2)) s K
  | [], _, _, _, h => h
  | j :: r1, r2, s, hi, h => by
    have h1 : astep A T Sp tree ops.toList j s fun s1 => astep A T Sp tree ops.toList i s1 fun s2 => aops A T Sp tree ops.toList (r1 ++ r2) s2 K :=
      astep_mono h fun s1 h' => front r1 r2 s1 (fun k hk => hi k (by simp [hk])) h'
    exact swap (hi j (by simp)) h1

def rest (ops : Array Oper) (listed : Array Bool) : List Nat := (List.range ops.size).filter fun i => !listed.getD i true

/-- What has gone ahead has all that it waits for behind it. -/
def Closed (ops : Array Oper) (listed : Array Bool) : Prop := ∀ i o, ops[i]? = some o → listed.getD i true = true → ∀ e ∈ o.after, Region.binds .any e = true → listed.getD e.on false = true

theorem anc_listed {ops : Array Oper} {listed : Array Bool} (hs : listed.size = ops.size) (hc : Closed ops listed) : ∀ (d i j : Nat), anc ops d i j = true → (∀ o, ops[i]? = some o → ∀ e ∈ o.after, Region.binds .any e = true → listed.getD e.on false = true) → listed.getD j false = true := by
  intro d
  induction d with
  | zero => intro i j h; simp [anc] at h
  | succ d ih =>
    intro i j h hi
    simp only [anc] at h
    split at h
    · cases h
    · rename_i o ho
      rw [List.any_eq_true] at h
      obtain ⟨e, he, h⟩ := h
      simp only [Bool.and_eq_true, Bool.or_eq_true, beq_iff_eq] at h
      have hl := hi o ho e (by simpa using he) h.1
      rcases h.2 with rfl | h2
      · exact hl
      · refine ih e.on j h2 fun o' ho' e' he' hb' => ?_
        have hlt : e.on < listed.size := by
          rcases Nat.lt_or_ge e.on listed.size with h' | h'
          · exact h'
          · simp [Array.getD, Nat.not_lt.2 h'] at hl
        exact hc e.on o' ho' (by simp [Array.getD, hlt] at hl ⊢; exact hl) e' he' hb'

theorem draw_ok (hT : TyOk P T) : DrawOK P T := by
  intro Sp B Hi r hS hHi tree ops K Q ds hok hds hn s a w hd hr hq
  have hok' : ∀ (y : Oper) (iy : Nat), ops[iy]? = some y → (∀ e ∈ y.after, Region.binds .any e = true → e.on < iy) ∧ ∀ (x : Oper) (ix : Nat), ops[ix]? = some x → ix < iy → indep tree ops x y = true ∨ anc ops 3 iy ix = true := by
    intro y iy hy
    simp only [okDraw, List.all_eq_true] at hok
    have hm : ∀ (x : Oper) (ix : Nat), ops[ix]? = some x → (x, ix) ∈ ops.toList.zipIdx := by
      intro x ix hx
      rw [List.mem_zipIdx_iff_getElem?]
      simpa using hx
    have h1 := hok (y, iy) (hm y iy hy)
    simp only [Bool.and_eq_true, List.all_eq_true, Bool.or_eq_true, Bool.not_eq_true', decide_eq_true_eq, decide_eq_false_iff_not] at h1
    refine ⟨fun e he hb => ?_, fun x ix hx hlt => ?_⟩
    · have := h1.1 e (by simpa using he)
      rcases this with h' | h'
      · rw [hb] at h'; cases h'
      · exact h'
    · have := h1.2 (x, ix) (hm x ix hx)
      rcases this with (h' | h') | h'
      · exact absurd hlt h'
      · exact .inl h'
      · exact .inr h'
  have key : ∀ (fuel : Nat) (listed : Array Bool) (s : St) (a : Act) (w : World), listed.size = ops.size → (rest ops listed).length = fuel → Closed ops listed → a.defers = ds → RelE P B Hi s a w →
      aops Ar.real T Sp tree ops.toList ((rest ops listed).map fun i => ops.getD i default) s K → wpAnyIn (fz r) 1 P .any ops Q fuel listed a w := by
    intro fuel
    induction fuel with
    | zero =>
      intro listed s a w hs hl hc hd hr hq
      have h0 : rest ops listed = [] := List.eq_nil_of_length_eq_zero hl
      rw [h0] at hq
      refine ⟨?_, hn s a w hd hq hr⟩
      unfold rest at h0
      unfold Region.ready
      rw [List.filter_eq_nil_iff] at h0 ⊢
      intro i hi h'
      refine h0 i hi ?_
      simp only [Bool.and_eq_true] at h'
      exact h'.1
    | succ fuel ih =>
      intro listed s a w hs hl hc hd hr hq
      have hsorted : (rest ops listed).Pairwise (· < ·) := List.Pairwise.filter _ (List.pairwise_lt_range)
      have hmem : ∀ i, i ∈ rest ops listed ↔ i < ops.size ∧ listed.getD i true = false := by
        intro i; simp [rest]
      refine ⟨fun hrd => ?_, fun i hi => ?_⟩
      · exfalso
        obtain ⟨i, r, hir⟩ : ∃ i r, rest ops listed = i :: r := by
          cases hq' : rest ops listed with
          | nil => rw [hq'] at hl; simp at hl
          | cons i r => exact ⟨i, r, rfl⟩
        have him : i ∈ rest ops listed := by rw [hir]; simp
        obtain ⟨h1, h2⟩ := (hmem i).1 him
        have ho : ops[i]? = some ops[i] := Array.getElem?_eq_getElem h1
        have : i ∈ Region.ready .any ops listed := by
          unfold Region.ready
          rw [List.mem_filter]
          refine ⟨by simpa using h1, ?_⟩
          rw [h2, ho]
          simp only [Bool.not_false, Bool.true_and, Option.map_some, Option.getD_some, Array.all_eq_true_iff_forall_mem]
          intro e he
          cases hb : Region.binds .any e with
          | false => rfl
          | true =>
            have hlt := (hok' _ i ho).1 e he hb
            simp only [Bool.not_true, Bool.false_or]
            have hnot : e.on ∉ rest ops listed := by
              intro hin
              rw [hir] at hin hsorted
              rcases List.mem_cons.1 hin with h' | h'
              · omega
              · have := (List.pairwise_cons.1 hsorted).1 _ h'; omega
            have hlt' : e.on < listed.size := by omega
            have : listed.getD e.on true = true := by
              cases hq : listed.getD e.on true with
              | true => rfl
              | false => exact absurd ((hmem e.on).2 ⟨by omega, hq⟩) hnot
            simp [Array.getD, hlt'] at this ⊢
            exact this
        rw [hrd] at this
        cases this
      · obtain ⟨h1, o, ho, h3⟩ := mem_ready.1 hi
        have hlt : i < ops.size := (Array.getElem?_eq_some_iff.1 ho).1
        obtain ⟨r1, r2, hr12⟩ := List.append_of_mem ((hmem i).2 ⟨hlt, h1⟩)
        rw [hr12] at hsorted hq hl
        obtain ⟨hp1, hp2, hp3⟩ := List.pairwise_append.1 hsorted
        have hlow : ∀ j ∈ r1, j < i := fun j hj => hp3 j hj i (by simp)
        have hhigh : ∀ j ∈ r2, i < j := fun j hj => (List.pairwise_cons.1 hp2).1 j hj
        have hrest : rest ops (listed.setIfInBounds i true) = r1 ++ r2 := by
          have e1 : rest ops (listed.setIfInBounds i true) = (rest ops listed).filter fun j => decide (j ≠ i) := by
            unfold rest
            rw [List.filter_filter]
            apply List.filter_congr
            intro j hj
            by_cases e : j = i
            · subst e
              have : j < listed.size := by omega
              simp [this]
            · have := getD_set_ne (listed := listed) (i := i) (j := j) true (fun e' => e e'.symm)
              rw [this]; simp [e]
          rw [e1, hr12, List.filter_append, List.filter_cons]
          have f1 : r1.filter (fun j => decide (j ≠ i)) = r1 := List.filter_eq_self.2 fun j hj => by have := hlow j hj; simp; omega
          have f2 : r2.filter (fun j => decide (j ≠ i)) = r2 := List.filter_eq_self.2 fun j hj => by have := hhigh j hj; simp; omega
          rw [f1, f2]; simp
        have hgo : ops.getD i default = o := by simp [Array.getD, hlt]; have := ho; simp [Array.getElem?_eq_getElem hlt] at this; exact this
        rw [List.map_append, List.map_cons, hgo] at hq
        have hind : ∀ j ∈ r1.map (fun i => ops.getD i default), indep tree ops j o = true := by
          intro x hx
          obtain ⟨j, hj, rfl⟩ := List.mem_map.1 hx
          have hjr : j ∈ rest ops listed := by rw [hr12]; simp [hj]
          obtain ⟨hj1, hj2⟩ := (hmem j).1 hjr
          have hoj : ops[j]? = some (ops.getD j default) := by simp [Array.getD, hj1]
          rcases (hok' o i ho).2 _ j hoj (hlow j hj) with h' | h'
          · exact h'
          · exfalso
            have := anc_listed hs hc 3 i j h' fun o' ho' e he hb => by rw [ho] at ho'; cases ho'; exact h3 e he hb
            have hjs : j < listed.size := by omega
            simp [Array.getD, hjs] at this hj2
            rw [this] at hj2; cases hj2
        have hq' := front _ _ s hind hq
        refine astep_sound hT hS hHi r ho hr (by rw [hd]; exact hds) hq' fun s' a' w' hd' hk hr' => ?_
        refine ih (listed.setIfInBounds i true) s' a' w' (by simp [hs]) (by rw [hrest]; simp at hl ⊢; omega) ?_ (hd'.trans hd) hr' (by rw [hrest, List.map_append]; exact hk)
        intro k ok hok1 hk1 e he hb
        by_cases e1 : k = i
        · subst e1
          rw [ho] at hok1; cases hok1
          exact getD_set_true (h3 e he hb)
        · have : listed.getD k true = true := by
            rw [← getD_set_ne (listed := listed) (i := i) (j := k) true (fun e' => e1 e'.symm)]; exact hk1
          exact getD_set_true (hc k ok hok1 this e he hb)
  have hrep : ∀ i, i < ops.size → (Array.replicate ops.size false).getD i true = false := by
    intro i hi; simp [Array.getD, hi]
  have hall : rest ops (Array.replicate ops.size false) = List.range ops.size := by
    unfold rest
    rw [List.filter_eq_self]
    intro i hi
    rw [hrep i (by simpa using hi)]; rfl
  refine key ops.size _ s a w (by simp) (by rw [hall]; simp) (fun i o ho h => ?_) hd hr ?_
  · have hlt : i < ops.size := (Array.getElem?_eq_some_iff.1 ho).1
    rw [hrep i hlt] at h; cases h
  · rw [hall]
    have : (List.range ops.size).map (fun i => ops.getD i default) = ops.toList := by
      apply List.ext_getElem?
      intro i
      by_cases hi : i < ops.size
      · simp [hi, Array.getD]
      · simp [hi]
    rw [this]
    exact hq
end
end Eng
