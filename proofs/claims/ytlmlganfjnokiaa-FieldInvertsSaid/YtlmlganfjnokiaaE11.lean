/- The engine, part 11: new rows of one's own. -/
import Derived.Test.YtlmlganfjnokiaaE10
set_option linter.unusedSimpArgs false
set_option linter.unusedVariables false
namespace Eng
open Go

/-- HRel with the trees kept away from Z. -/
structure HRelZ (X Z : Nat → Prop) (ρ : Nat → Option Nat) (h : List Blk) (w : World) : Prop where
  inj : ∀ i j b, (hget h i).live = true → (hget h j).live = true → ρ i = some b → ρ j = some b → i = j
  blk : ∀ i, (hget h i).live = true → (∃ b vs, ρ i = some b ∧ b < w.heap.size ∧ ¬ X b ∧ w.rangeAt b 0 vs ∧ w.there b 0 vs.length ∧ RepL w Z ρ vs (hget h i).cells) ∨ (ρ i = none ∧ (hget h i).cells = [])
  dom : ∀ i, h.length ≤ i → ρ i = none
  res : ∀ i d, hget h i = mark d → ρ i = none

section
variable {P : Program} {T : Ty} {w w' : World} {X Z : Nat → Prop} {ρ : Nat → Option Nat} {h : List Blk}

theorem HRel.toZ (hh : HRel X ρ h w) (he : Ext (fun _ => False) w w') : HRelZ X (fun c => XX X ρ h c ∨ w.heap.size ≤ c) ρ h w' := by
  refine ⟨hh.inj, fun i hi => ?_, hh.dom, hh.res⟩
  rcases hh.blk i hi with ⟨b, vs, h1, h2, h3, h4, h5, h6⟩ | h'
  · refine .inl ⟨b, vs, h1, Nat.lt_of_lt_of_le h2 he.size, h3, rangeAt_ext he h2 id h4, he.there _ _ _ h5, h6.carry he (fun c hc h => ⟨?_, id⟩) (fun _ _ h => h)⟩
    rintro (h' | h')
    · exact h h'
    · omega
  · exact .inr h'
theorem HRelZ.toH (hh : HRelZ X Z ρ h w) (hZ : ∀ c, XX X ρ h c → Z c) : HRel X ρ h w := by
  refine ⟨hh.inj, fun i hi => ?_, hh.dom, hh.res⟩
  rcases hh.blk i hi with ⟨b, vs, h1, h2, h3, h4, h5, h6⟩ | h'
  · exact .inl ⟨b, vs, h1, h2, h3, h4, h5, h6.weaken hZ⟩
  · exact .inr h'

def upd (ρ : Nat → Option Nat) (i b : Nat) : Nat → Option Nat := fun j => if j = i then some b else ρ j

theorem hget_app (h : List Blk) (B : Blk) (i : Nat) : hget (h ++ [B]) i = if i = h.length then B else hget h i := by
  split
  · rename_i e; subst e; exact hget_append_len h B
  · rename_i e
    rcases Nat.lt_or_ge i h.length with hi | hi
    · exact hget_append_lt h [B] i hi
    · rw [hget_of_ge _ _ (by simp; omega), hget_of_ge h i hi]

theorem HRelZ.new (hh : HRelZ X Z ρ h w) {b : Nat} {us : List Value} {cs : List AVal} (hb : b < w.heap.size) (hX : ¬ X b) (hf : ∀ i, (hget h i).live = true → ρ i ≠ some b) (hra : w.rangeAt b 0 us) (hth : w.there b 0 us.length)
    (hus : RepL w Z ρ us cs) : HRelZ X Z (upd ρ h.length b) (h ++ [⟨true, true, cs⟩]) w := by
  have hup : ∀ i c, ρ i = some c → upd ρ h.length b i = some c := by
    intro i c hi
    unfold upd
    split
    · rename_i e; subst e; rw [hh.dom _ (Nat.le_refl _)] at hi; cases hi
    · exact hi
  have old : ∀ i, i ≠ h.length → upd ρ h.length b i = ρ i := fun i hi => by unfold upd; rw [if_neg hi]
  refine ⟨fun i j c hi hj h1 h2 => ?_, fun i hi => ?_, fun i hi => ?_, fun i d hm => ?_⟩
  · rw [hget_app] at hi hj
    by_cases ei : i = h.length <;> by_cases ej : j = h.length
    · omega
    · rw [if_neg ej] at hj
      rw [old j ej] at h2
      subst ei
      simp [upd] at h1
      subst h1
      exact absurd h2 (hf j hj)
    · rw [if_neg ei] at hi
      rw [old i ei] at h1
      subst ej
      simp [upd] at h2
      subst h2
      exact absurd h1 (hf i hi)
    · rw [if_neg ei] at hi
      rw [if_neg ej] at hj
      rw [old i ei] at h1
      rw [old j ej] at h2
      exact hh.inj i j c hi hj h1 h2
  · rw [hget_app] at hi ⊢
    by_cases ei : i = h.length
    · rw [if_pos ei]
      subst ei
      exact .inl ⟨b, us, by simp [upd], hb, hX, hra, hth, hus.carry (Ext.refl (fun _ => False) w) (fun _ _ h => ⟨h, id⟩) hup⟩
    · rw [if_neg ei] at hi ⊢
      rw [old i ei]
      rcases hh.blk i hi with ⟨b', vs, h1, h2, h3, h4, h5, h6⟩ | h'
      · exact .inl ⟨b', vs, h1, h2, h3, h4, h5, h6.carry (Ext.refl (fun _ => False) w) (fun _ _ h => ⟨h, id⟩) hup⟩
      · exact .inr h'
  · simp at hi
    rw [old i (by omega)]
    exact hh.dom i (by omega)
  · rw [hget_app] at hm
    by_cases ei : i = h.length
    · rw [if_pos ei] at hm; cases hm
    · rw [if_neg ei] at hm; rw [old i ei]; exact hh.res i d hm

theorem HRelZ.new0 (hh : HRelZ X Z ρ h w) : HRelZ X Z ρ (h ++ [⟨true, true, []⟩]) w := by
  have hd := hh.dom h.length (Nat.le_refl _)
  refine ⟨fun i j c hi hj h1 h2 => ?_, fun i hi => ?_, fun i hi => hh.dom i (by simp at hi; omega), fun i d hm => by
    rw [hget_app] at hm
    by_cases ei : i = h.length
    · rw [if_pos ei] at hm; cases hm
    · rw [if_neg ei] at hm; exact hh.res i d hm⟩
  · rw [hget_app] at hi hj
    by_cases ei : i = h.length
    · subst ei; rw [hd] at h1; cases h1
    · by_cases ej : j = h.length
      · subst ej; rw [hd] at h2; cases h2
      · rw [if_neg ei] at hi; rw [if_neg ej] at hj
        exact hh.inj i j c hi hj h1 h2
  · rw [hget_app] at hi ⊢
    by_cases ei : i = h.length
    · rw [if_pos ei]; subst ei; exact .inr ⟨hd, rfl⟩
    · rw [if_neg ei] at hi ⊢; exact hh.blk i hi

theorem XX_new {b c : Nat} {cs : List AVal} (hd : ρ h.length = none) (hc : XX X (upd ρ h.length b) (h ++ [⟨true, true, cs⟩]) c) : XX X ρ h c ∨ c = b := by
  rcases hc with hc | ⟨i, h1, h2, h3⟩
  · exact .inl (.inl hc)
  · rw [hget_app] at h1 h2
    by_cases ei : i = h.length
    · subst ei; simp [upd] at h3; exact .inr h3.symm
    · rw [if_neg ei] at h1 h2
      unfold upd at h3
      rw [if_neg ei] at h3
      exact .inl (.inr ⟨i, h1, h2, h3⟩)
theorem XX_new0 {c : Nat} (hd : ρ h.length = none) (hc : XX X ρ (h ++ [⟨true, true, []⟩]) c) : XX X ρ h c := by
  rcases hc with hc | ⟨i, h1, h2, h3⟩
  · exact .inl hc
  · rw [hget_app] at h1 h2
    by_cases ei : i = h.length
    · subst ei; rw [hd] at h3; cases h3
    · rw [if_neg ei] at h1 h2; exact .inr ⟨i, h1, h2, h3⟩
theorem upd_le (hd : ρ h.length = none) (b : Nat) : ∀ i c, ρ i = some c → upd ρ h.length b i = some c := by
  intro i c hi
  unfold upd
  split
  · rename_i e; subst e; rw [hd] at hi; cases hi
  · exact hi

/-- The new rows of an answer become one's own. -/
theorem adoptL_sound {w0 : World} : ∀ {N : List Nat} {vs : List Value} {xs : List AVal} {ρ : Nat → Option Nat} {h : List Blk}, Outs w0 w Z N vs xs → HRelZ X Z ρ h w → (∀ c, XX X ρ h c → Z c) → (∀ b, b ∈ N → Z b) → N.Nodup →
      (∀ b, b ∈ N → ∀ i, (hget h i).live = true → ρ i ≠ some b) → (∀ b, X b → b < w0.heap.size) →
    ∃ ρ', HRelZ X Z ρ' (adoptL h xs).2 w ∧ (∀ i c, ρ i = some c → ρ' i = some c) ∧ RepL w Z ρ' vs (adoptL h xs).1 ∧ (∀ c, XX X ρ' (adoptL h xs).2 c → Z c) ∧
      (∀ i b, (hget (adoptL h xs).2 i).live = true → (hget (adoptL h xs).2 i).wr = true → ρ' i = some b → w0.heap.size ≤ b ∨ ((hget h i).live = true ∧ (hget h i).wr = true ∧ ρ i = some b)) := by
  intro N vs xs ρ h ho
  induction ho generalizing ρ h with
  | nil => intro hh hXZ _ _ _ _; exact ⟨ρ, hh, fun _ _ h => h, .nil, hXZ, fun i b h1 h2 h3 => .inr ⟨h1, h2, h3⟩⟩
  | tree v x hx hs ih =>
    intro hh hXZ hN hnd hf hX
    obtain ⟨ρ', h1, h2, h3, h4, h5⟩ := ih hh hXZ hN hnd hf hX
    have hrx : Rep w Z ρ' v x := hx.up
    have e : ∀ xs', adoptL h (x :: xs') = (x :: (adoptL h xs').1, (adoptL h xs').2) := by
      intro xs'
      cases x <;> first | rfl | cases hx
    rw [e]
    exact ⟨ρ', h1, h2, .cons hrx h3, h4, h5⟩
  | new m n sz cap b us cs hb hb' hn hr ht ht' hu hs ih =>
    intro hh hXZ hN hnd hf hX
    have hd := hh.dom h.length (Nat.le_refl _)
    have hXb : ¬ X b := fun h' => by have := hX b h'; omega
    have hnew := hh.new hb' hXb (hf b (by simp)) hr ht (hu.up)
    obtain ⟨hbn, hnd'⟩ := List.nodup_cons.1 hnd
    obtain ⟨ρ', h1, h2, h3, h4, h5⟩ := ih hnew (fun c hc => by rcases XX_new hd hc with h' | rfl; exact hXZ c h'; exact hN _ (by simp)) (fun c hc => hN c (by simp [hc])) hnd' (fun c hc i hi => by
      rw [hget_app] at hi
      unfold upd
      split
      · intro e; cases e; exact hbn hc
      · rename_i ei; rw [if_neg ei] at hi; exact hf c (by simp [hc]) i hi) hX
    refine ⟨ρ', h1, fun i c hi => h2 i c (upd_le hd b i c hi), .cons (.osl m _ 0 n sz b cap (h2 _ _ (by simp [upd])) hn ht') h3, h4, fun i c hi1 hi2 hi3 => ?_⟩
    rcases h5 i c hi1 hi2 hi3 with h' | ⟨h6, h7, h8⟩
    · exact .inl h'
    · rw [hget_app] at h6 h7
      by_cases ei : i = h.length
      · subst ei; simp [upd] at h8; subst h8; exact .inl hb
      · rw [if_neg ei] at h6 h7
        unfold upd at h8
        rw [if_neg ei] at h8
        exact .inr ⟨h6, h7, h8⟩
  | new0 m sz a hs ih =>
    intro hh hXZ hN hnd hf hX
    have hd := hh.dom h.length (Nat.le_refl _)
    obtain ⟨ρ', h1, h2, h3, h4, h5⟩ := ih hh.new0 (fun c hc => hXZ c (XX_new0 hd hc)) hN hnd (fun c hc i hi => by
      rw [hget_app] at hi
      by_cases ei : i = h.length
      · subst ei; rw [hd]; simp
      · rw [if_neg ei] at hi; exact hf c hc i hi) hX
    refine ⟨ρ', h1, h2, .cons (.osl0 m _ 0 sz a) h3, h4, fun i c hi1 hi2 hi3 => ?_⟩
    rcases h5 i c hi1 hi2 hi3 with h' | ⟨h6, h7, h8⟩
    · exact .inl h'
    · rw [hget_app] at h6 h7
      by_cases ei : i = h.length
      · subst ei; rw [hd] at h8; cases h8
      · rw [if_neg ei] at h6 h7
        exact .inr ⟨h6, h7, h8⟩

theorem HRelZ.weaken {Z' : Nat → Prop} (hh : HRelZ X Z ρ h w) (hZ : ∀ c, Z' c → Z c) : HRelZ X Z' ρ h w := by
  refine ⟨hh.inj, fun i hi => ?_, hh.dom, hh.res⟩
  rcases hh.blk i hi with ⟨b, vs, h1, h2, h3, h4, h5, h6⟩ | h'
  · exact .inl ⟨b, vs, h1, h2, h3, h4, h5, h6.weaken hZ⟩
  · exact .inr h'
theorem HRelZ.freeze (hh : HRelZ X Z ρ h w) (l : List Nat) : HRelZ X Z ρ (Eng.freeze h l) w := by
  refine ⟨fun i j b h1 h2 => hh.inj i j b (by rwa [freeze_live] at h1) (by rwa [freeze_live] at h2), fun i hi => ?_, fun i hi => hh.dom i (by rwa [freeze_length] at hi), fun i d hm => hh.res i d (freeze_mark hm)⟩
  rw [freeze_live] at hi
  rw [freeze_cells]
  exact hh.blk i hi

theorem out_tup {w0 : World} {Xc : Nat → Prop} {v : Value} {xs : List AVal} (ho : OutR w0 w Xc v (.tup xs)) :
    ∃ N vs, v = .tuple vs.toArray ∧ N.Nodup ∧ Outs w0 w (fun b => Xc b ∨ b ∈ N) N vs xs := by
  rcases ho with ⟨N, vs, xs', rfl, he, hn, ho⟩ | ⟨N, hn, ho⟩
  · cases he; exact ⟨N, vs, rfl, hn, ho⟩
  · cases ho with
    | tree _ _ hr hs =>
      cases hs
      obtain ⟨us, rfl, hu⟩ := hr.tup_inv
      refine ⟨[], us, rfl, .nil, ?_⟩
      clear hr
      induction hu with
      | nil => exact .nil
      | cons h1 _ ih => exact .tree _ _ h1 ih

theorem out_one {w0 : World} {Xc : Nat → Prop} {v : Value} {r : AVal} (hr : ∀ xs, r ≠ .tup xs) (ho : OutR w0 w Xc v r) :
    ∃ N, N.Nodup ∧ Outs w0 w (fun b => Xc b ∨ b ∈ N) N [v] [r] := by
  rcases ho with ⟨N, vs, xs', rfl, he, hn, ho⟩ | ho
  · exact absurd he (hr _)
  · exact ho

theorem Outs.mem {w0 : World} {N : List Nat} {vs : List Value} {xs : List AVal} (ho : Outs w0 w Z N vs xs) : ∀ b, b ∈ N → w0.heap.size ≤ b := by
  induction ho with
  | nil => intro b hb; cases hb
  | tree v x hx hs ih => exact ih
  | new m n sz cap b us cs hb hb' hn hr ht ht' hu hs ih =>
    intro c hc
    rcases List.mem_cons.1 hc with rfl | hc
    · exact hb
    · exact ih c hc
  | new0 m sz a hs ih => exact ih

theorem adoptL_dead : ∀ (xs : List AVal) (h : List Blk), Dead h (adoptL h xs).2
  | [], h => Dead.refl h
  | x :: vs, h => by
    cases x <;> simp only [adoptL] <;> first
      | exact adoptL_dead vs h
      | exact (Dead.app h _).trans (adoptL_dead vs _)

/-- From before the call to behind the adoption. -/
theorem adopt_step {v : Value} {r : AVal} {L : List Nat} (hh : HRel X ρ h w) (hold : ∀ b, X b → b < w.heap.size) (he : Ext (fun _ => False) w w') (ho : OutR w w' (XXm X ρ h L) v r) :
    ∃ ρ', Step X ρ h w ρ' (adopt (freeze h L) r).2 w' ∧ Rep w' (XX X ρ' (adopt (freeze h L) r).2) ρ' v (adopt (freeze h L) r).1 := by
  have main : ∀ (N : List Nat) (vs : List Value) (xs : List AVal), N.Nodup → Outs w w' (fun b => XXm X ρ h L b ∨ b ∈ N) N vs xs →
      ∃ ρ', Step X ρ h w ρ' (adoptL (Eng.freeze h L) xs).2 w' ∧ RepL w' (XX X ρ' (adoptL (Eng.freeze h L) xs).2) ρ' vs (adoptL (Eng.freeze h L) xs).1 := by
    intro N vs xs hnd ho
    have hN := ho.mem
    have hz : HRelZ X (fun b => XXm X ρ h L b ∨ b ∈ N) ρ (Eng.freeze h L) w' := ((hh.toZ he).weaken fun c hc => by
      rcases hc with hc | hc
      · exact .inl (XXm_XX hc)
      · exact .inr (hN c hc)).freeze L
    obtain ⟨ρ', h1, h2, h3, h4, h5⟩ := adoptL_sound ho hz (fun c hc => .inl (XX_freeze hc)) (fun b hb => .inr hb) hnd (fun b hb i hi => by
      rw [freeze_live] at hi
      intro e
      have := hN b hb
      rcases hh.blk i hi with ⟨b', _, h4, h5, _⟩ | ⟨h4, _⟩
      · rw [h4] at e; cases e; omega
      · rw [h4] at e; cases e) hold
    refine ⟨ρ', ⟨h1.toH h4, fun v x hr => ?_, he.mono fun _ h => h.elim, fun i b i1 i2 i3 => ?_, (Dead.freeze L h).trans (adoptL_dead xs _)⟩, h3.weaken h4⟩
    · refine hr.carry he (fun b hb hX => ⟨fun h' => ?_, id⟩) h2
      rcases h4 b h' with h' | h'
      · exact hX (XXm_XX h')
      · have := hN b h'; omega
    · rcases h5 i b i1 i2 i3 with h' | ⟨h6, h7, h8⟩
      · exact .inl h'
      · rw [freeze_live] at h6
        exact .inr ⟨i, h6, (freeze_wr L h i h7).1, h8⟩
  cases r with
  | tup xs =>
    obtain ⟨N, vs, rfl, hn, ho'⟩ := out_tup ho
    obtain ⟨ρ', h1, h2⟩ := main N vs xs hn ho'
    exact ⟨ρ', h1, h2.tup⟩
  | new m n sz cs =>
    obtain ⟨N, hn, ho'⟩ := out_one (by simp) ho
    obtain ⟨ρ', h1, h2⟩ := main N _ _ hn ho'
    refine ⟨ρ', h1, ?_⟩
    cases h2 with
    | cons h3 _ => exact h3
  | _ =>
    obtain ⟨N, hn, ho'⟩ := out_one (by simp) ho
    obtain ⟨ρ', h1, h2⟩ := main N _ _ hn ho'
    refine ⟨ρ', h1, ?_⟩
    cases h2 with
    | cons h3 _ => exact h3

/-- A new block, made here. -/
theorem new_step {c : Array Value} {t : TypeId} {cs : List AVal} (hh : HRel X ρ h w) (hold : ∀ b, X b → b < w.heap.size) (hr : RepL w (XX X ρ h) ρ c.toList cs) :
    Step X ρ h w (upd ρ h.length w.heap.size) (h ++ [⟨true, true, cs⟩]) (w.alloc (.cells c t)) ∧ (w.alloc (.cells c t)).there w.heap.size 0 c.size ∧ (w.alloc (.cells c t)).rangeAt w.heap.size 0 c.toList := by
  have hb : (w.alloc (.cells c t)).heap[w.heap.size]? = some (.cells c t) := by show (w.heap.push _)[w.heap.size]? = _; simp
  have hra : (w.alloc (.cells c t)).rangeAt w.heap.size 0 c.toList := by
    intro j v hj
    rw [Nat.zero_add]
    simp only [World.cell?, hb]
    simpa using hj
  have hth : (w.alloc (.cells c t)).there w.heap.size 0 c.size := by
    intro j hj
    rw [Nat.zero_add]
    refine ⟨by simp only [World.cell?, hb]; simp [hj], by simp only [World.frozen?, hb]; simp⟩
  have hd := hh.dom h.length (Nat.le_refl _)
  have he : Ext (fun _ => False) w (w.alloc (.cells c t)) := Ext.alloc _ w _
  have hz := hh.toZ he
  have hus : RepL (w.alloc (.cells c t)) (fun c => XX X ρ h c ∨ w.heap.size ≤ c) ρ c.toList cs := hr.carry he (fun b hb h' => ⟨fun h2 => by rcases h2 with h2 | h2; exact h' h2; omega, id⟩) (fun _ _ h => h)
  have hn := hz.new (b := w.heap.size) (us := c.toList) (cs := cs) (by simp) (fun h' => by have := hold _ h'; omega) (fun i hi e => by
    rcases hh.blk i hi with ⟨b', _, h4, h5, _⟩ | ⟨h4, _⟩
    · rw [h4] at e; cases e; omega
    · rw [h4] at e; cases e) hra (by simpa using hth) hus
  refine ⟨⟨hn.toH fun c hc => ?_, fun v x hr => ?_, he.mono fun _ h => h.elim, fun i b i1 i2 i3 => ?_, Dead.app h _⟩, hth, hra⟩
  · rcases XX_new hd hc with h' | rfl
    · exact .inl h'
    · exact .inr (Nat.le_refl _)
  · refine hr.carry he (fun b hb hX => ⟨fun h' => ?_, id⟩) (upd_le hd _)
    rcases XX_new hd h' with h' | rfl
    · exact hX h'
    · omega
  · rw [hget_app] at i1 i2
    by_cases ei : i = h.length
    · subst ei; simp [upd] at i3; subst i3; exact .inl (Nat.le_refl _)
    · rw [if_neg ei] at i1 i2
      unfold upd at i3
      rw [if_neg ei] at i3
      exact .inr ⟨i, i1, i2, i3⟩
end
end Eng
