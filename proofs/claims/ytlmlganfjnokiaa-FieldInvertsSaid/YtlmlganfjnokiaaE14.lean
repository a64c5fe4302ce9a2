/- The engine, part 14: operations that write or make memory of one's own. -/
import Derived.Test.YtlmlganfjnokiaaE13
set_option linter.unusedSimpArgs false
set_option linter.unusedVariables false
namespace Eng
open Go

section
variable {P : Program} {T : Ty} {w w' : World} {X Z : Nat → Prop} {ρ : Nat → Option Nat} {h : List Blk}

theorem mapV_length : ∀ l : List Value, (mapV l).length = l.length
  | [] => rfl
  | x :: l => by simp [mapV, mapV_length l]
theorem fillP_length {u : UT} : ∀ {parts : List (Nat × Option (List AVal))} {cs r : List AVal}, aopP.fillP T u parts cs = some r → r.length = cs.length
  | [], cs, r, h => by simp [aopP.fillP] at h; rw [h]
  | (i, none) :: ps, cs, r, h => by simp [aopP.fillP] at h
  | (i, some ys) :: ps, cs, r, h => by
    simp only [aopP.fillP] at h
    split at h
    · cases h
    · split at h
      · rename_i hp
        obtain ⟨h1, rfl⟩ := lput_spec _ _ _ _ hp
        have := fillP_length h
        rw [this]; simp; omega
      · cases h

theorem flatL_one : ∀ {ys : List AVal} {us : List Value}, flatL AVal.one ys = true → RepL w X ρ us ys → ∀ v ∈ us, v.oneCell' = true
  | [], _, _, hr, v, hv => by cases hr; cases hv
  | y :: ys, _, hf, hr, v, hv => by
    simp only [flatL, Bool.and_eq_true] at hf
    cases hr with
    | cons h1 h2 =>
      rcases List.mem_cons.1 hv with rfl | hv
      · have := h1.oneV hf.1
        cases v <;> simp [Eng.oneV] at this <;> rfl
      · exact flatL_one hf.2 h2 v hv

/-- What lies in a block behind a store. -/
theorem range_store {b o : Nat} {us vs : List Value} (hra : w.rangeAt b 0 us) (hth : w.there b 0 us.length) (hlen : o + vs.length ≤ us.length) :
    (w.setCells b o vs).rangeAt b 0 (us.take o ++ vs ++ us.drop (o + vs.length)) := by
  intro j v hj
  rw [Nat.zero_add]
  have hin : ∀ j, j < vs.length → (w.cell? ⟨b, o + j, none⟩).isSome = true := fun j hj => by
    have := (hth (o + j) (by omega)).1; simpa using this
  have hjl : j < us.length := by
    have : j < (us.take o ++ vs ++ us.drop (o + vs.length)).length := by
      rcases Nat.lt_or_ge j (us.take o ++ vs ++ us.drop (o + vs.length)).length with h' | h'
      · exact h'
      · rw [List.getElem?_eq_none h'] at hj; cases hj
    simp at this; omega
  by_cases h1 : j < o
  · rw [World.cell?_setCells_out b vs o w ⟨b, j, none⟩ (fun _ _ => .inl h1)]
    rw [List.append_assoc, List.getElem?_append_left (by simp; omega), List.getElem?_take_of_lt h1] at hj
    have := hra j v hj
    simpa using this
  · by_cases h2 : j < o + vs.length
    · have := World.cell?_setCells_in b vs o w hin (j - o) (by omega)
      rw [show o + (j - o) = j by omega] at this
      rw [this]
      rw [List.append_assoc, List.getElem?_append_right (by simp; omega), List.getElem?_append_left (by simp; omega)] at hj
      simp only [List.length_take, Nat.min_eq_left (show o ≤ us.length by omega)] at hj
      rw [List.getElem?_eq_getElem (by omega)] at hj
      exact hj
    · rw [World.cell?_setCells_out b vs o w ⟨b, j, none⟩ (fun _ _ => .inr (by show o + vs.length ≤ j; omega))]
      rw [List.getElem?_append_right (by simp; omega), List.getElem?_drop] at hj
      simp only [List.length_append, List.length_take, Nat.min_eq_left (show o ≤ us.length by omega)] at hj
      rw [show o + vs.length + (j - (o + vs.length)) = j by omega] at hj
      have := hra j v hj
      simpa using this

theorem setCells_step (hh : HRel X ρ h w) {id b o : Nat} {vs : List Value} {ys cs : List AVal} (hl : (hget h id).live = true) (hw : (hget h id).wr = true) (hρ : ρ id = some b)
    (hys : RepL w (XX X ρ h) ρ vs ys) (hput : lput (hget h id).cells o ys = some cs) : ∃ us : List Value, w.there b 0 us.length ∧ o + vs.length ≤ us.length ∧
      Step X ρ h w ρ (hset h id ⟨true, true, cs⟩) (w.setCells b o vs) := by
  obtain ⟨us, hb', hlt, hX, hra, hth, hus⟩ : ∃ us, ρ id = some b ∧ b < w.heap.size ∧ ¬ X b ∧ w.rangeAt b 0 us ∧ w.there b 0 us.length ∧ RepL w (XX X ρ h) ρ us (hget h id).cells := by
    rcases hh.blk id hl with ⟨b', us, hb', hlt, hX, hra, hth, hus⟩ | ⟨hn, _⟩
    · rw [hb'] at hρ; cases hρ; exact ⟨us, hb', hlt, hX, hra, hth, hus⟩
    · rw [hn] at hρ; cases hρ
  obtain ⟨hlen, hnew⟩ := hus.put hys hput
  have hidlt := live_lt hl
  have hB : XX X ρ h b := .inr ⟨id, hl, hw, hb'⟩
  have he := Ext.setCells w b o vs
  have hlive : ∀ i, (hget (hset h id ⟨true, true, cs⟩) i).live = (hget h i).live := fun i => by
    rw [hget_hset]; split
    · rename_i e; rw [← e.1, hl]
    · rfl
  have hwr : ∀ i, (hget (hset h id ⟨true, true, cs⟩) i).wr = (hget h i).wr := fun i => by
    rw [hget_hset]; split
    · rename_i e; rw [← e.1, hw]
    · rfl
  have hXX : ∀ c, XX X ρ (hset h id ⟨true, true, cs⟩) c ↔ XX X ρ h c := fun c => by
    unfold XX; constructor
    · rintro (h1 | ⟨i, h1, h2, h3⟩)
      · exact .inl h1
      · exact .inr ⟨i, by rwa [hlive] at h1, by rwa [hwr] at h2, h3⟩
    · rintro (h1 | ⟨i, h1, h2, h3⟩)
      · exact .inl h1
      · exact .inr ⟨i, by rwa [hlive], by rwa [hwr], h3⟩
  have car : ∀ v x, Rep w (XX X ρ h) ρ v x → Rep (w.setCells b o vs) (XX X ρ (hset h id ⟨true, true, cs⟩)) ρ v x := fun v x hr =>
    hr.carry he (fun c _ hc => ⟨fun h' => hc ((hXX c).1 h'), fun e => hc (e ▸ hB)⟩) (fun _ _ h => h)
  have carL : ∀ vs' xs, RepL w (XX X ρ h) ρ vs' xs → RepL (w.setCells b o vs) (XX X ρ (hset h id ⟨true, true, cs⟩)) ρ vs' xs := fun v x hr =>
    hr.carry he (fun c _ hc => ⟨fun h' => hc ((hXX c).1 h'), fun e => hc (e ▸ hB)⟩) (fun _ _ h => h)
  refine ⟨us, hth, hlen, ⟨⟨fun i j c h1 h2 => hh.inj i j c (by rwa [hlive] at h1) (by rwa [hlive] at h2), fun i hi => ?_, fun i hi => hh.dom i (by rwa [hset_length] at hi), fun i d hm => hh.res i d (by
    rw [hget_hset] at hm
    split at hm
    · cases hm
    · exact hm)⟩, car, he.mono fun k hk => by subst hk; exact ⟨id, hl, hw, hb'⟩, fun i c h1 h2 h3 => .inr ⟨i, by rwa [hlive] at h1, by rwa [hwr] at h2, h3⟩, Dead.hset (.inl hl)⟩⟩
  rw [hlive] at hi
  rw [hget_hset]
  by_cases e : id = i
  · subst e
    rw [if_pos ⟨rfl, hidlt⟩]
    refine .inl ⟨b, _, hb', by rw [size_setCells]; exact hlt, hX, range_store hra hth hlen, ?_, carL _ _ hnew⟩
    have : (us.take o ++ vs ++ us.drop (o + vs.length)).length = us.length := by simp; omega
    rw [this]
    exact World.there_setCells hth b o vs
  · rw [if_neg (by simp [e])]
    rcases hh.blk i hi with ⟨c, ws, h1, h2, h3, h4, h5, h6⟩ | h'
    · have hcb : c ≠ b := by rintro rfl; exact e (hh.inj id i c hl hi hb' h1)
      exact .inl ⟨c, ws, h1, by rw [size_setCells]; exact h2, h3, rangeAt_ext he h2 hcb h4, World.there_setCells h5 b o vs, carL _ _ h6⟩
    · exact .inr h'

theorem Step.trans {w1 w2 : World} {ρ1 ρ2 : Nat → Option Nat} {h1 h2 : List Blk} (s : Step X ρ h w ρ1 h1 w1) (t : Step X ρ1 h1 w1 ρ2 h2 w2) : Step X ρ h w ρ2 h2 w2 := by
  refine ⟨t.heap, fun v x hr => t.carry v x (s.carry v x hr), s.ext.trans' t.ext fun b hb hlt => ?_, fun i b h1 h2 h3 => ?_, s.dead.trans t.dead⟩
  · obtain ⟨i, i1, i2, i3⟩ := hb
    rcases s.new i b i1 i2 i3 with h' | h'
    · omega
    · exact h'
  · rcases t.new i b h1 h2 h3 with h' | ⟨j, j1, j2, j3⟩
    · exact .inl (Nat.le_trans s.ext.size h')
    · exact s.new j b j1 j2 j3

theorem Step.carryL {w1 : World} {ρ1 : Nat → Option Nat} {h1 : List Blk} (s : Step X ρ h w ρ1 h1 w1) {vs : List Value} {xs : List AVal} (hr : RepL w (XX X ρ h) ρ vs xs) : RepL w1 (XX X ρ1 h1) ρ1 vs xs := by
  induction hr with
  | nil => exact .nil
  | cons h1 _ ih => exact .cons (s.carry _ _ h1) ih

theorem kill_dead (h : List Blk) (id : Nat) (hl : (hget h id).live = true) : Dead h (hset h id ⟨false, true, []⟩) := Dead.hset (.inl hl)

/-- A row is given up. -/
theorem kill_step (hh : HRel X ρ h w) (id : Nat) (hl : (hget h id).live = true) : Step X ρ h w ρ (hset h id ⟨false, true, []⟩) w := by
  have hlive : ∀ i, (hget (hset h id ⟨false, true, []⟩) i).live = true → (hget h i).live = true ∧ i ≠ id ∧ hget (hset h id ⟨false, true, []⟩) i = hget h i := by
    intro i hi
    rw [hget_hset] at hi ⊢
    split at hi
    · cases hi
    · rename_i hne
      rw [if_neg hne]
      exact ⟨hi, fun e => hne ⟨e.symm, e ▸ live_lt hi⟩, rfl⟩
  have hXX : ∀ c, XX X ρ (hset h id ⟨false, true, []⟩) c → XX X ρ h c := by
    rintro c (h1 | ⟨i, h1, h2, h3⟩)
    · exact .inl h1
    · obtain ⟨h4, h5, h6⟩ := hlive i h1
      rw [h6] at h2
      exact .inr ⟨i, h4, h2, h3⟩
  refine ⟨⟨fun i j c h1 h2 => hh.inj i j c (hlive i h1).1 (hlive j h2).1, fun i hi => ?_, fun i hi => hh.dom i (by rwa [hset_length] at hi), fun i d hm => hh.res i d (by
    rw [hget_hset] at hm
    split at hm
    · cases hm
    · exact hm)⟩, fun v x hr => hr.weaken hXX, Ext.refl _ w, fun i c h1 h2 h3 => ?_, kill_dead h id hl⟩
  · obtain ⟨h4, h5, h6⟩ := hlive i hi
    rw [h6]
    rcases hh.blk i h4 with ⟨c, ws, h1, h2, h3, h4, h5, h6⟩ | h'
    · exact .inl ⟨c, ws, h1, h2, h3, h4, h5, h6.weaken hXX⟩
    · exact .inr h'
  · obtain ⟨h4, h5, h6⟩ := hlive i h1
    rw [h6] at h2
    exact .inr ⟨i, h4, h2, h3⟩

/-- A new block, of which the first cells are known. -/
theorem new_step' {us rest : List Value} {t : TypeId} {cs : List AVal} {w1 : World} (hh : HRel X ρ h w) (hold : ∀ b, X b → b < w.heap.size) (h1 : Ext (fun _ => False) w w1) (hs1 : w1.heap.size = w.heap.size) (hr : RepL w (XX X ρ h) ρ us cs) :
    Step X ρ h w (upd ρ h.length w.heap.size) (h ++ [⟨true, true, cs⟩]) (w1.alloc (.cells (us ++ rest).toArray t)) ∧ (w1.alloc (.cells (us ++ rest).toArray t)).there w.heap.size 0 (us.length + rest.length) := by
  have hb : (w1.alloc (.cells (us ++ rest).toArray t)).heap[w.heap.size]? = some (.cells (us ++ rest).toArray t) := by show (w1.heap.push _)[w.heap.size]? = _; rw [← hs1]; simp
  have hra : (w1.alloc (.cells (us ++ rest).toArray t)).rangeAt w.heap.size 0 us := by
    intro j v hj
    rw [Nat.zero_add]
    simp only [World.cell?, hb]
    have : j < us.length := by rcases Nat.lt_or_ge j us.length with h' | h'; exact h'; rw [List.getElem?_eq_none h'] at hj; cases hj
    simp [List.getElem?_append_left this, hj]
  have hth : (w1.alloc (.cells (us ++ rest).toArray t)).there w.heap.size 0 (us.length + rest.length) := by
    intro j hj
    rw [Nat.zero_add]
    refine ⟨by simp only [World.cell?, hb]; simp [hj], by simp only [World.frozen?, hb]; simp⟩
  have hth' : (w1.alloc (.cells (us ++ rest).toArray t)).there w.heap.size 0 us.length := fun j hj => hth j (by omega)
  have hd := hh.dom h.length (Nat.le_refl _)
  have he : Ext (fun _ => False) w (w1.alloc (.cells (us ++ rest).toArray t)) := h1.trans (Ext.alloc _ _ _)
  have hz := hh.toZ he
  have hus : RepL (w1.alloc (.cells (us ++ rest).toArray t)) (fun c => XX X ρ h c ∨ w.heap.size ≤ c) ρ us cs := hr.carry he (fun b hb h' => ⟨fun h2 => by rcases h2 with h2 | h2; exact h' h2; omega, id⟩) (fun _ _ h => h)
  have hn := hz.new (b := w.heap.size) (us := us) (cs := cs) (by show w.heap.size < (w1.heap.push _).size; simp [hs1]) (fun h' => by have := hold _ h'; omega) (fun i hi e => by
    rcases hh.blk i hi with ⟨b', _, h4, h5, _⟩ | ⟨h4, _⟩
    · rw [h4] at e; cases e; omega
    · rw [h4] at e; cases e) hra hth' hus
  refine ⟨⟨hn.toH fun c hc => ?_, fun v x hr => ?_, he.mono fun _ h => h.elim, fun i b i1 i2 i3 => ?_, Dead.app h _⟩, hth⟩
  · rcases XX_new hd hc with h' | rfl
    · exact .inl h'
    · exact .inr (Nat.le_refl _)
  · refine hr.carry he (fun b hb hX => ⟨fun h' => ?_, id⟩) (upd_le hd _)
    rcases XX_new hd h' with h' | rfl
    · exact hX h'
    · omega
  · rw [hget_app] at i1 i2
    by_cases ei : i = h.length
    · subst ei; simp [upd] at i3; subst i3; exact .inl (Nat.le_refl _)
    · rw [if_neg ei] at i1 i2
      unfold upd at i3
      rw [if_neg ei] at i3
      exact .inr ⟨i, i1, i2, i3⟩

theorem isMark_eq {b : Blk} {d : Nat} (h : isMark b d = true) : b = mark d := by
  obtain ⟨l, r, cs⟩ := b
  unfold isMark at h
  split at h
  · rename_i h1 h2 h3
    simp at h h1 h2 h3
    subst h1; subst h2; subst h3; subst h; rfl
  · cases h
theorem findRes_spec : ∀ (h : List Blk) (d i id : Nat), findRes h d i = some id → i ≤ id ∧ id - i < h.length ∧ hget h (id - i) = mark d
  | [], _, _, _, hf => by cases hf
  | b :: h, d, i, id, hf => by
    unfold findRes at hf
    split at hf
    · rename_i hm
      cases hf
      rw [Nat.sub_self]
      exact ⟨Nat.le_refl _, by simp, isMark_eq hm⟩
    · obtain ⟨h1, h2, h3⟩ := findRes_spec h d (i + 1) id hf
      obtain ⟨j, hj⟩ : ∃ j, id - i = j + 1 := ⟨id - i - 1, by omega⟩
      rw [hj]
      have e : id - (i + 1) = j := by omega
      rw [e] at h2 h3
      exact ⟨by omega, by simp; omega, h3⟩
theorem findRes_at {h : List Blk} {d id : Nat} (hf : findRes h d 0 = some id) : id < h.length ∧ hget h id = mark d := by
  obtain ⟨_, h2, h3⟩ := findRes_spec h d 0 id hf
  exact ⟨by simpa using h2, by simpa using h3⟩

/-- A new block at the place that is kept for it. -/
theorem fill_step {c : Array Value} {t : TypeId} {cs : List AVal} {id d : Nat} (hh : HRel X ρ h w) (hold : ∀ b, X b → b < w.heap.size) (hid : id < h.length) (hm : hget h id = mark d) (hr : RepL w (XX X ρ h) ρ c.toList cs) :
    Step X ρ h w (upd ρ id w.heap.size) (hset h id ⟨true, true, cs⟩) (w.alloc (.cells c t)) := by
  have hb : (w.alloc (.cells c t)).heap[w.heap.size]? = some (.cells c t) := by show (w.heap.push _)[w.heap.size]? = _; simp
  have hra : (w.alloc (.cells c t)).rangeAt w.heap.size 0 c.toList := by
    intro j v hj
    rw [Nat.zero_add]
    simp only [World.cell?, hb]
    simpa using hj
  have hth : (w.alloc (.cells c t)).there w.heap.size 0 c.size := by
    intro j hj
    rw [Nat.zero_add]
    refine ⟨by simp only [World.cell?, hb]; simp [hj], by simp only [World.frozen?, hb]; simp⟩
  have hd := hh.res id d hm
  have he : Ext (fun _ => False) w (w.alloc (.cells c t)) := Ext.alloc _ w _
  have hget' : ∀ i, hget (hset h id ⟨true, true, cs⟩) i = if i = id then ⟨true, true, cs⟩ else hget h i := by
    intro i
    rw [hget_hset]
    by_cases e : id = i
    · rw [if_pos ⟨e, hid⟩, if_pos e.symm]
    · rw [if_neg (by simp [e]), if_neg (fun e' => e e'.symm)]
  have old : ∀ i, i ≠ id → upd ρ id w.heap.size i = ρ i := fun i hi => by unfold upd; rw [if_neg hi]
  have hlt : ∀ i b, (hget h i).live = true → ρ i = some b → b < w.heap.size := by
    intro i b hi e
    rcases hh.blk i hi with ⟨b', _, h4, h5, _⟩ | ⟨h4, _⟩
    · rw [h4] at e; cases e; exact h5
    · rw [h4] at e; cases e
  have hup : ∀ i b, ρ i = some b → upd ρ id w.heap.size i = some b := by
    intro i b hi
    unfold upd
    split
    · rename_i e; subst e; rw [hd] at hi; cases hi
    · exact hi
  have hXX : ∀ c', XX X (upd ρ id w.heap.size) (hset h id ⟨true, true, cs⟩) c' → XX X ρ h c' ∨ c' = w.heap.size := by
    rintro c' (hc | ⟨i, h1, h2, h3⟩)
    · exact .inl (.inl hc)
    · rw [hget'] at h1 h2
      by_cases ei : i = id
      · subst ei; simp [upd] at h3; exact .inr h3.symm
      · rw [if_neg ei] at h1 h2; rw [old i ei] at h3; exact .inl (.inr ⟨i, h1, h2, h3⟩)
  have car : ∀ v x, Rep w (XX X ρ h) ρ v x → Rep (w.alloc (.cells c t)) (XX X (upd ρ id w.heap.size) (hset h id ⟨true, true, cs⟩)) (upd ρ id w.heap.size) v x := fun v x hr =>
    hr.carry he (fun b hb hX => ⟨fun h' => by rcases hXX b h' with h' | rfl; exact hX h'; omega, fun h => h⟩) hup
  have carL : ∀ {vs : List Value} {xs : List AVal}, RepL w (XX X ρ h) ρ vs xs → RepL (w.alloc (.cells c t)) (XX X (upd ρ id w.heap.size) (hset h id ⟨true, true, cs⟩)) (upd ρ id w.heap.size) vs xs := by
    intro vs xs hr
    induction hr with
    | nil => exact .nil
    | cons h1 _ ih => exact .cons (car _ _ h1) ih
  refine ⟨⟨fun i j b hi hj h1 h2 => ?_, fun i hi => ?_, fun i hi => ?_, fun i e hm' => ?_⟩, car, he.mono fun _ h => h.elim, fun i b i1 i2 i3 => ?_, Dead.hset (.inr (.inl (by rw [hm]; rfl)))⟩
  · rw [hget'] at hi hj
    by_cases ei : i = id <;> by_cases ej : j = id
    · rw [ei, ej]
    · rw [if_neg ej] at hj
      rw [old j ej] at h2
      subst ei
      simp [upd] at h1
      have := hlt j b hj h2
      omega
    · rw [if_neg ei] at hi
      rw [old i ei] at h1
      subst ej
      simp [upd] at h2
      have := hlt i b hi h1
      omega
    · rw [if_neg ei] at hi; rw [if_neg ej] at hj
      rw [old i ei] at h1; rw [old j ej] at h2
      exact hh.inj i j b hi hj h1 h2
  · rw [hget'] at hi ⊢
    by_cases ei : i = id
    · rw [if_pos ei]
      subst ei
      exact .inl ⟨w.heap.size, c.toList, by simp [upd], by simp, fun h' => by have := hold _ h'; omega, hra, by simpa using hth, carL hr⟩
    · rw [if_neg ei] at hi ⊢
      rw [old i ei]
      rcases hh.blk i hi with ⟨b, vs, h1, h2, h3, h4, h5, h6⟩ | h'
      · exact .inl ⟨b, vs, h1, Nat.lt_of_lt_of_le h2 he.size, h3, rangeAt_ext he h2 (fun h => h) h4, he.there _ _ _ h5, carL h6⟩
      · exact .inr h'
  · rw [hset_length] at hi
    rw [old i (by omega)]
    exact hh.dom i hi
  · rw [hget'] at hm'
    by_cases ei : i = id
    · rw [if_pos ei] at hm'; cases hm'
    · rw [if_neg ei] at hm'; rw [old i ei]; exact hh.res i e hm'
  · rw [hget'] at i1 i2
    by_cases ei : i = id
    · subst ei; simp [upd] at i3; exact .inl (by omega)
    · rw [if_neg ei] at i1 i2; rw [old i ei] at i3; exact .inr ⟨i, i1, i2, i3⟩

theorem aopR_sound (hT : TyOk P T) (o : Oper) (a : Act) {K : AVal → List Blk → Prop} (hh : HRel X ρ h w) (hold : ∀ b, X b → b < w.heap.size) (hq : aopR T o h K) {next : Act → World → Prop} {Q : Exit → Act → World → Prop}
    (hn : ∀ v y h' ρ' w', K y h' → Step X ρ h w ρ' h' w' → Rep w' (XX X ρ' h') ρ' v y → next (a.put o.dst v) w') : o.wp P a w next Q := by
  obtain ⟨dst, op, ty, pos, after, guard⟩ := o
  unfold aopR at hq
  split at hq <;> try (exact hq.elim)
  rename_i t d hop hdst
  simp only at hop hdst
  subst hop; subst hdst
  obtain ⟨hc, hq⟩ := onlyIf_inv hq
  obtain ⟨id, hid, hk⟩ := optK_inv hq
  obtain ⟨h1, h2⟩ := findRes_at hid
  obtain ⟨z, hz, hzc, hza⟩ := hT.zero (P := P) (w := w) (notOther_iff hc)
  have hr : RepL w (XX X ρ h) ρ z.cells.toList (mapV (T.zero t)) := by rw [hzc]; exact RepL.mapV _
  have st := fill_step (t := t) hh hold h1 h2 hr
  exact value_wp (v := .pointer (some ⟨w.heap.size, 0, none⟩)) (w' := w.alloc (.cells z.cells t)) (by simp [execOp, Instr.alloc, hz, newVar, run_newRow]) (hn _ _ _ _ _ hk st (.own _ _ _ (by simp [upd])))

/-- Places are kept. -/
theorem hget_marks : ∀ (ops : List Oper) (i : Nat), hget (marksOf ops) i = default ∨ ∃ d, hget (marksOf ops) i = mark d
  | [], _ => .inl rfl
  | o :: l, i => by
    unfold marksOf
    split
    · cases i with
      | zero => exact .inr ⟨_, rfl⟩
      | succ i => exact hget_marks l i
    · exact hget_marks l i
theorem hget_append (h k : List Blk) (i : Nat) : hget (h ++ k) i = if i < h.length then hget h i else hget k (i - h.length) := by
  induction h generalizing i with
  | nil => simp
  | cons x h ih => cases i with
    | zero => simp [hget]
    | succ i => simp only [List.cons_append, hget, ih, List.length_cons]; by_cases e : i < h.length <;> simp [e]
theorem reserve_step (hh : HRel X ρ h w) (ops : List Oper) : Step X ρ h w ρ (h ++ marksOf ops) w := by
  have hg : ∀ i, hget (h ++ marksOf ops) i = hget h i ∨ (h.length ≤ i ∧ (hget (h ++ marksOf ops) i).live = false) := by
    intro i
    rw [hget_append]
    by_cases e : i < h.length
    · rw [if_pos e]; exact .inl rfl
    · rw [if_neg e]
      rcases hget_marks ops (i - h.length) with e1 | ⟨d, e1⟩ <;> (rw [e1]; exact .inr ⟨by omega, rfl⟩)
  have hl : ∀ i, (hget (h ++ marksOf ops) i).live = true → hget (h ++ marksOf ops) i = hget h i := by
    intro i hi
    rcases hg i with e | ⟨_, e⟩
    · exact e
    · rw [e] at hi; cases hi
  have hXX : ∀ c, XX X ρ (h ++ marksOf ops) c → XX X ρ h c := by
    rintro c (hc | ⟨i, h1, h2, h3⟩)
    · exact .inl hc
    · have e := hl i h1
      rw [e] at h1 h2
      exact .inr ⟨i, h1, h2, h3⟩
  refine ⟨⟨fun i j b h1 h2 => ?_, fun i h1 => ?_, fun i hi => hh.dom i (by simp at hi; omega), fun i d hm => ?_⟩, fun v x hr => hr.weaken hXX, Ext.refl _ w, fun i b h1 h2 h3 => ?_, ⟨by simp, fun i hi _ _ => hget_appl _ _ _ hi⟩⟩
  · rw [hl i h1] at h1; rw [hl j h2] at h2; exact hh.inj i j b h1 h2
  · have e := hl i h1
    rw [e] at h1 ⊢
    rcases hh.blk i h1 with ⟨b, vs, h1, h2, h3, h4, h5, h6⟩ | h'
    · exact .inl ⟨b, vs, h1, h2, h3, h4, h5, h6.weaken hXX⟩
    · exact .inr h'
  · by_cases e : i < h.length
    · rw [hget_appl _ _ _ e] at hm; exact hh.res i d hm
    · exact hh.dom i (by omega)
  · have e := hl i h1
    rw [e] at h1 h2
    exact .inr ⟨i, h1, h2, h3⟩

theorem new0_step (hh : HRel X ρ h w) : Step X ρ h w ρ (h ++ [⟨true, true, []⟩]) w := by
  have hd := hh.dom h.length (Nat.le_refl _)
  have hz := (hh.toZ (Ext.refl _ w)).new0
  refine ⟨hz.toH fun c hc => .inl (XX_new0 hd hc), fun v x hr => hr.weaken fun c hc => XX_new0 hd hc, Ext.refl _ w, fun i b i1 i2 i3 => ?_, Dead.app h _⟩
  rw [hget_app] at i1 i2
  by_cases ei : i = h.length
  · subst ei; rw [hd] at i3; cases i3
  · rw [if_neg ei] at i1 i2
    exact .inr ⟨i, i1, i2, i3⟩

/-- An append within the room that there is. -/
theorem grow_step (hh : HRel X ρ h w) {id b k : Nat} {vs : List Value} {ys : List AVal} (hl : (hget h id).live = true) (hw : (hget h id).wr = true) (hρ : ρ id = some b)
    (hys : RepL w (XX X ρ h) ρ vs ys) (hlen : (hget h id).cells.length = k) (hth : w.there b 0 (k + vs.length)) :
    Step X ρ h w (upd ρ h.length b) (hset h id ⟨false, true, []⟩ ++ [⟨true, true, app (hget h id).cells ys⟩]) (w.setCells b k vs) := by
  obtain ⟨us, hb', hlt, hX, hra, _, hus⟩ : ∃ us, ρ id = some b ∧ b < w.heap.size ∧ ¬ X b ∧ w.rangeAt b 0 us ∧ w.there b 0 us.length ∧ RepL w (XX X ρ h) ρ us (hget h id).cells := by
    rcases hh.blk id hl with ⟨b', us, hb', hlt, hX, hra, hth, hus⟩ | ⟨hn, _⟩
    · rw [hb'] at hρ; cases hρ; exact ⟨us, hb', hlt, hX, hra, hth, hus⟩
    · rw [hn] at hρ; cases hρ
  have hul : us.length = k := by rw [hus.length, hlen]
  have hidlt := live_lt hl
  have hB : XX X ρ h b := .inr ⟨id, hl, hw, hb'⟩
  have he := Ext.setCells w b k vs
  have hd := hh.dom h.length (Nat.le_refl _)
  have hlen' : (hset h id ⟨false, true, []⟩).length = h.length := hset_length _ _ _
  have hget' : ∀ i, hget (hset h id ⟨false, true, []⟩ ++ [⟨true, true, app (hget h id).cells ys⟩]) i = if i = h.length then ⟨true, true, app (hget h id).cells ys⟩ else if i = id then ⟨false, true, []⟩ else hget h i := by
    intro i
    rw [hget_app, hlen']
    split
    · rfl
    · rw [hget_hset]
      by_cases e : id = i
      · rw [if_pos ⟨e, hidlt⟩, if_pos e.symm]
      · rw [if_neg (by simp [e]), if_neg (fun e' => e e'.symm)]
  have old : ∀ i, i ≠ h.length → upd ρ h.length b i = ρ i := fun i hi => by unfold upd; rw [if_neg hi]
  have hXX : ∀ c, XX X (upd ρ h.length b) (hset h id ⟨false, true, []⟩ ++ [⟨true, true, app (hget h id).cells ys⟩]) c → XX X ρ h c := by
    rintro c (h1 | ⟨i, h1, h2, h3⟩)
    · exact .inl h1
    · rw [hget'] at h1 h2
      by_cases e1 : i = h.length
      · subst e1; simp [upd] at h3; subst h3; exact hB
      · rw [if_neg e1] at h1 h2
        by_cases e2 : i = id
        · rw [if_pos e2] at h1; cases h1
        · rw [if_neg e2] at h1 h2; rw [old i e1] at h3; exact .inr ⟨i, h1, h2, h3⟩
  have car : ∀ v x, Rep w (XX X ρ h) ρ v x → Rep (w.setCells b k vs) (XX X (upd ρ h.length b) (hset h id ⟨false, true, []⟩ ++ [⟨true, true, app (hget h id).cells ys⟩])) (upd ρ h.length b) v x := fun v x hr =>
    hr.carry he (fun c _ hc => ⟨fun h' => hc (hXX c h'), fun e => hc (e ▸ hB)⟩) (upd_le hd b)
  have carL : ∀ vs' xs, RepL w (XX X ρ h) ρ vs' xs → RepL (w.setCells b k vs) (XX X (upd ρ h.length b) (hset h id ⟨false, true, []⟩ ++ [⟨true, true, app (hget h id).cells ys⟩])) (upd ρ h.length b) vs' xs := fun v x hr =>
    hr.carry he (fun c _ hc => ⟨fun h' => hc (hXX c h'), fun e => hc (e ▸ hB)⟩) (upd_le hd b)
  refine ⟨⟨fun i j c h1 h2 h3 h4 => ?_, fun i hi => ?_, fun i hi => ?_, fun i d hm => by
    rw [hget'] at hm
    by_cases e1 : i = h.length
    · rw [if_pos e1] at hm; cases hm
    · rw [if_neg e1] at hm
      by_cases e2 : i = id
      · rw [if_pos e2] at hm; cases hm
      · rw [if_neg e2] at hm; rw [old i e1]; exact hh.res i d hm⟩, car, he.mono fun k hk => by subst hk; exact ⟨id, hl, hw, hb'⟩, fun i c h1 h2 h3 => ?_, (kill_dead h id hl).trans (Dead.app _ _)⟩
  · rw [hget'] at h1 h2
    by_cases e1 : i = h.length <;> by_cases e2 : j = h.length
    · omega
    · rw [if_neg e2] at h2
      by_cases e3 : j = id
      · rw [if_pos e3] at h2; cases h2
      · rw [if_neg e3] at h2
        rw [old j e2] at h4
        subst e1; simp [upd] at h3; subst h3
        exact absurd (hh.inj j id b h2 hl h4 hb') e3
    · rw [if_neg e1] at h1
      by_cases e3 : i = id
      · rw [if_pos e3] at h1; cases h1
      · rw [if_neg e3] at h1
        rw [old i e1] at h3
        subst e2; simp [upd] at h4; subst h4
        exact absurd (hh.inj i id b h1 hl h3 hb') e3
    · rw [if_neg e1] at h1; rw [if_neg e2] at h2
      rw [old i e1] at h3; rw [old j e2] at h4
      by_cases e3 : i = id
      · rw [if_pos e3] at h1; cases h1
      · rw [if_neg e3] at h1
        by_cases e4 : j = id
        · rw [if_pos e4] at h2; cases h2
        · rw [if_neg e4] at h2
          exact hh.inj i j c h1 h2 h3 h4
  · rw [hget'] at hi ⊢
    by_cases e1 : i = h.length
    · rw [if_pos e1]
      subst e1
      refine .inl ⟨b, us ++ vs, by simp [upd], by rw [size_setCells]; exact hlt, hX, ?_, ?_, ?_⟩
      · intro j v hj
        rw [Nat.zero_add]
        by_cases hj1 : j < k
        · rw [World.cell?_setCells_out b vs k w ⟨b, j, none⟩ (fun _ _ => .inl hj1)]
          rw [List.getElem?_append_left (by omega)] at hj
          have := hra j v hj
          simpa using this
        · rw [List.getElem?_append_right (by omega), hul] at hj
          have hjv : j - k < vs.length := by rcases Nat.lt_or_ge (j - k) vs.length with h' | h'; exact h'; rw [List.getElem?_eq_none h'] at hj; cases hj
          have := World.cell?_setCells_in b vs k w (fun q hq => by have := (hth (k + q) (by omega)).1; simpa using this) (j - k) hjv
          rw [show k + (j - k) = j by omega] at this
          rw [this]
          rw [List.getElem?_eq_getElem hjv] at hj
          exact hj
      · have : (us ++ vs).length = k + vs.length := by simp [hul]
        rw [this]
        exact World.there_setCells hth b k vs
      · have e := (carL _ _ hus).append (carL _ _ hys)
        rw [← app_eq] at e
        exact e
    · rw [if_neg e1] at hi ⊢
      by_cases e2 : i = id
      · rw [if_pos e2] at hi; cases hi
      · rw [if_neg e2] at hi ⊢
        rw [old i e1]
        rcases hh.blk i hi with ⟨c, ws, h1, h2, h3, h4, h5, h6⟩ | h'
        · have hcb : c ≠ b := by rintro rfl; exact e2 (hh.inj i id c hi hl h1 hb')
          exact .inl ⟨c, ws, h1, by rw [size_setCells]; exact h2, h3, rangeAt_ext he h2 hcb h4, World.there_setCells h5 b k vs, carL _ _ h6⟩
        · exact .inr h'
  · simp [hlen'] at hi
    rw [old i (by omega)]
    exact hh.dom i (by omega)
  · rw [hget'] at h1 h2
    by_cases e1 : i = h.length
    · subst e1; simp [upd] at h3; subst h3; exact .inr ⟨id, hl, hw, hb'⟩
    · rw [if_neg e1] at h1 h2
      by_cases e2 : i = id
      · rw [if_pos e2] at h1; cases h1
      · rw [if_neg e2] at h1 h2
        rw [old i e1] at h3
        exact .inr ⟨i, h1, h2, h3⟩

theorem growBy_le (n : Nat) : ∀ r c, c ≤ 2 * n + 200 → Builtin.growBy n r c ≤ 2 * n + 200
  | 0, c, h => by simpa [Builtin.growBy] using h
  | r + 1, c, h => by
    simp only [Builtin.growBy]
    split
    · exact h
    · exact growBy_le n r _ (by omega)
theorem nextcap_le (n c : Nat) (h : c < n) : Builtin.nextslicecap n c ≤ 2 * n + 200 := by
  unfold Builtin.nextslicecap
  split
  · omega
  · split
    · omega
    · exact growBy_le n 4 c (by omega)

theorem isCpy_eq {c : Callee} (h : isCpy c = true) : c = .builtin .copy := by
  cases c <;> simp [isCpy] at h
  rename_i b; cases b <;> simp at h; rfl

theorem aopE_sound (hT : TyOk P T) {Sp : SpecT} (hS : SpOK P Sp) (o : Oper) (a : Act) {e : Operand → AVal} {K : AVal → List Blk → Prop} (hh : HRel X ρ h w) (hold : ∀ b, X b → b < w.heap.size) (he : ∀ x, Rep w (XX X ρ h) ρ (a.eval x) (e x))
    (hq : aopE Ar.real T Sp o e h K) {next : Act → World → Prop} {Q : Exit → Act → World → Prop}
    (hn : ∀ v y h' ρ' w', K y h' → Step X ρ h w ρ' h' w' → Rep w' (XX X ρ' h') ρ' v y → next (a.put o.dst v) w') : o.wp P a w next Q := by
  obtain ⟨dst, op, ty, pos, after, guard⟩ := o
  unfold aopE at hq
  cases op <;> simp only at hq <;> try (exact hq.elim)
  case store t x y =>
    have hx := he x
    generalize e x = z at hq hx
    cases z <;> try (exact hq.elim)
    rename_i id off
    obtain ⟨ys, hys, hq⟩ := optK_inv hq
    obtain ⟨hc, hq⟩ := onlyIf_inv hq
    simp at hc
    obtain ⟨cs, hcs, hk⟩ := optK_inv hq
    obtain ⟨blk, hv, hρ⟩ := hx.own_inv
    have hy := (he y).cells hys
    obtain ⟨us, hth, hlen, hst⟩ := setCells_step hh hc.1.1.1.1 hc.1.1.1.2 hρ hy hcs
    have h1 := flatL_one hc.1.2 hy
    have hrun := run_storeCells_cells (P := P) blk off (a.eval y).cells.toList 0 w (fun j hj => by have := (hth (off + j) (by omega)).1; simpa using this) (fun j hj => by have := (hth (off + j) (by omega)).2; simpa using this) h1
    rw [Nat.add_zero] at hrun
    have hsz := hT.size (P := P) (w := w) (notOther_iff hc.2)
    have hcl : (a.eval y).cells.size = T.size t := by have := hy.length; simp at this; omega
    unfold Oper.wp
    have : (execOp a.eval { dst := dst, op := .store t x y, type := ty, pos := pos, after := after, guard := guard }).run P w = .ok .skip (w.setCells blk off (a.eval y).cells.toList) := by
      simp only [execOp, hv, Instr.storeAt, Instr.sureAddr, storeVar, Sem.run_bind, Sem.run_pure, Result.andThen_ok, hsz, hcl, ne_eq, not_true_eq_false, if_false, hrun]
    rw [this]
    exact hn undef _ _ ρ _ hk hst Rep.undef
  case alloc t =>
    obtain ⟨hc, hk⟩ := onlyIf_inv hq
    obtain ⟨z, hz, hzc, hza⟩ := hT.zero (P := P) (w := w) (notOther_iff hc)
    have hr : RepL w (XX X ρ h) ρ z.cells.toList (mapV (T.zero t)) := by rw [hzc]; exact RepL.mapV _
    obtain ⟨h1, h2, h3⟩ := new_step (t := t) hh hold hr
    exact value_wp (v := .pointer (some ⟨w.heap.size, 0, none⟩)) (w' := w.alloc (.cells z.cells t)) (by simp [execOp, Instr.alloc, hz, newVar, run_newRow]) (hn _ _ _ _ _ hk h1 (.own _ _ _ (by simp [upd])))
  case box t x =>
    obtain ⟨cs, hcs, hk⟩ := optK_inv hq
    obtain ⟨h1, h2, h3⟩ := new_step (t := t) hh hold ((he x).cells hcs)
    exact value_wp (v := .pointer (some ⟨w.heap.size, 0, none⟩)) (w' := w.alloc (.cells (a.eval x).cells t)) (by simp [execOp, Instr.box, newVar, run_newRow]) (hn _ _ _ _ _ hk h1 (.own _ _ _ (by simp [upd])))
  case buildSlice t n parts =>
    split at hq <;> try (exact hq.elim)
    rename_i el ht
    obtain ⟨hc, hq⟩ := onlyIf_inv hq
    simp at hc
    obtain ⟨cs, hcs, hk⟩ := optK_inv hq
    obtain ⟨c, h1, h2⟩ := run_buildSlice (P := P) (w := w) hT ht (notOther_iff hc.1) hc.2 he hcs
    obtain ⟨h3, h4, h5⟩ := new_step (t := el) hh hold h2
    have hlen : c.size = n * T.size el := by
      have := h2.length
      have h6 := fillP_length hcs
      rw [reps_length, mapV_length, hT.zlen] at h6
      simp at this; omega
    exact value_wp (v := .slice (some ⟨w.heap.size, 0, none⟩) n n) (w' := w.alloc (.cells c el)) (by simp [execOp, h1]) (hn _ _ _ _ _ hk h3 (.osl _ _ _ _ _ _ n (by simp [upd]) (Nat.le_refl _) (by rw [← hlen]; exact h4)))
  case makeSlice t l c =>
    split at hq <;> try (exact hq.elim)
    rename_i el k n k' m ht hl hc
    obtain ⟨h1, hk⟩ := onlyIf_inv hq
    simp at h1
    obtain ⟨⟨⟨⟨h2, h3⟩, h4⟩, h5⟩, h6⟩ := h1
    subst h3
    have hlv := he l
    have hcv := he c
    rw [hl] at hlv
    rw [hc] at hcv
    obtain ⟨cc, h7, h8⟩ := run_makeSlice (P := P) (w := w) (X := XX X ρ h) (ρ := ρ) (k := k) (k' := k') hT ht (notOther_iff h5) h2 (by omega) (by omega)
    obtain ⟨i3, i4, i5⟩ := new_step (t := el) hh hold h8
    have hlen : cc.size = n.toNat * T.size el := by
      have := h8.length
      rw [reps_length, mapV_length, hT.zlen] at this
      simpa using this
    exact value_wp (v := .slice (some ⟨w.heap.size, 0, none⟩) n.toNat n.toNat) (w' := w.alloc (.cells cc el)) (by simp [execOp, hlv.i_inv, hcv.i_inv, h7]) (hn _ _ _ _ _ hk i3 (.osl _ _ _ _ _ _ n.toNat (by simp [upd]) (Nat.le_refl _) (by rw [← hlen]; exact i4)))
  case call c =>
    split at hq
    · rename_i happ
      obtain ⟨cal, cargs, cty⟩ := c
      obtain rfl : cal = .builtin .append := by
        cases cal <;> simp [isApp] at happ
        rename_i b; cases b <;> simp [isApp] at happ; rfl
      unfold appE at hq
      split at hq <;> try (exact hq.elim)
      rename_i t u tl s x hty hargs
      split at hq <;> try (exact hq.elim)
      rename_i el ht
      obtain ⟨hc, hq⟩ := onlyIf_inv hq
      simp at hc
      obtain ⟨m, n, ys, us, xa, xc, hk, hus, hul, hxv, hxb, hxn⟩ := rowK_inv hh (he x) hq
      obtain ⟨cargs⟩ := cargs
      simp at hargs
      subst hargs
      have hsv := he s
      have hex : ∀ (v : Value) (w' : World), (Builtin.append_ cty ty #[a.eval s, a.eval x]).run P w = .ok v w' →
          (execOp a.eval { dst := dst, op := .call { callee := .builtin .append, args := #[s, x], argTypes := cty }, type := ty, pos := pos, after := after, guard := guard }).run P w = .ok (.value v) w' := by
        intro v w' h1
        simp only [execOp, resolve, invoke, builtin, Sem.run_bind, Sem.run_pure, Result.andThen_ok, List.map_toArray, List.map_cons, List.map_nil, h1]
      have h0 : cty.toList.head? = some t := by rw [hty]; rfl
      have hel := notOther_iff hc.1.1
      split at hk
      · rename_i hs
        rw [hs] at hsv
        have hsv := hsv.v_inv
        obtain ⟨hroom, hk⟩ := roomK_inv hk
        rw [hsv, hxv] at hex
        rcases Nat.eq_zero_or_pos n with rfl | hpos
        · have hue : us = [] := by simpa using hul
          subst hue
          cases hus
          have hrun := run_append_in (P := P) (w := w) (w' := w) (ty := ty) (sb := none) (sn := 0) (sc := 0) (xn := 0) (xc := xc) (xb := xa) (news := []) (argTypes := cty) hT h0 ht hel hc.1.2 (by simp) (fun b _ => .inl rfl) (fun _ => rfl) (Nat.le_refl _) rfl
          exact value_wp (v := .slice none 0 0) (w' := w) (hex _ _ hrun) (hn _ _ _ _ _ hk (new0_step hh) (.osl0 _ _ _ _ _))
        · have hn1 : n ≤ 140737488355328 := Nat.le_trans (Nat.le_mul_of_pos_right n hc.2) hroom
          obtain ⟨cap, rest, h3, h4, hrun⟩ := run_append_new (P := P) (w := w) (ty := ty) (sb := none) (sn := 0) (sc := 0) (xn := n) (xc := xc) (xb := xa) (olds := []) (news := us) (argTypes := cty) hT h0 ht hel hc.1.2 hc.2
            (by simp) (fun b hb => .inl rfl) (fun _ => rfl) hul hxb hxn (by omega) (by simp [Builtin.nextslicecap, hpos]; omega) (by omega)
          simp only [Nat.zero_add, List.nil_append] at h3 h4 hrun
          obtain ⟨h5, h6⟩ := new_step' (rest := rest) (t := el) (w1 := w.drew) hh hold (Ext.drew _ w) rfl hus
          have hcap : us.length + rest.length = cap * T.size el := by rw [hul, h4, ← Nat.add_mul]; congr 1; omega
          exact value_wp (hex _ _ hrun) (hn _ _ _ _ _ hk h5 (.osl _ _ _ _ _ _ cap (by simp [upd]) h3 (by rw [← hcap]; exact h6)))
      · rename_i id sn sz hs
        rw [hs] at hsv
        obtain ⟨hc2, hk2⟩ := onlyIf_inv hk
        clear hk hq
        simp at hc2
        obtain ⟨⟨⟨⟨⟨hl, hw⟩, hsz⟩, hlen⟩, hm⟩, hone⟩ := hc2
        subst hsz
        obtain ⟨hroom, hk⟩ := roomK_inv hk2
        clear hk2
        have hbig : 4 * (sn + n) + 1000 ≤ 140737488355328 := Nat.le_trans (Nat.le_mul_of_pos_right _ hc.2) hroom
        rcases hsv.osl_inv with ⟨blk, cap, hv, hρ, h1, h2⟩ | ⟨rfl, b, hv⟩
        · rw [hv, hxv] at hex
          obtain ⟨us0, hlt, hra, hth, hus0⟩ := hh.read hl hρ
          have hl0 : us0.length = sn * T.size el := by rw [hus0.length, hlen]
          by_cases hfit : sn + n ≤ cap
          · have hroomy : w.there blk 0 (sn * T.size el + us.length) := fun j hj => by
              have := h2 j (by
                have : sn * T.size el + n * T.size el ≤ cap * T.size el := by rw [← Nat.add_mul]; exact Nat.mul_le_mul_right _ hfit
                omega)
              simpa using this
            have hstore := run_storeCells_cells (P := P) blk (sn * T.size el) us 0 w (fun j hj => by have := (hroomy (sn * T.size el + j) (by omega)).1; simpa using this) (fun j hj => by have := (hroomy (sn * T.size el + j) (by omega)).2; simpa using this) (flatL_one hone hus)
            rw [Nat.add_zero] at hstore
            have hrun := run_append_in (P := P) (w := w) (w' := w.setCells blk (sn * T.size el) us) (ty := ty) (sb := some ⟨blk, 0, none⟩) (sn := sn) (sc := cap) (xn := n) (xc := xc) (xb := xa) (news := us) (argTypes := cty) hT h0 ht hel hc.1.2 hul hxb hxn hfit
              (by show (storeCells (Addr.add ⟨blk, 0, none⟩ (sn * T.size el)) us).run P w = _; rw [add_mid, Nat.zero_add]; exact hstore)
            have hst := grow_step hh hl hw hρ hus hlen hroomy
            exact value_wp (hex _ _ hrun) (hn _ _ _ _ _ hk hst (.osl _ _ _ _ _ blk cap (by simp [upd]) hfit (World.there_setCells h2 _ _ _)))
          · obtain ⟨cap', rest, h3, h4, hrun⟩ := run_append_new (P := P) (w := w) (ty := ty) (sb := some ⟨blk, 0, none⟩) (sn := sn) (sc := cap) (xn := n) (xc := xc) (xb := xa) (olds := us0) (news := us) (argTypes := cty) hT h0 ht hel hc.1.2 hc.2
              hl0 (fun b hb => by cases hb; exact .inr ⟨blk, 0, rfl, hra⟩) (fun h => by cases h) hul hxb hxn (by omega)
              (by
                have h5 := nextcap_le (sn + n) cap (by omega)
                have h6 : Builtin.nextslicecap (sn + n) cap * T.bytes el ≤ (4 * (sn + n) + 1000) * T.bytes el := Nat.mul_le_mul_right _ (by omega)
                omega) (by omega)
            have hk1 := kill_step hh id hl
            have hus' : RepL w (XX X ρ (hset h id ⟨false, true, []⟩)) ρ (us0 ++ us) (app (hget h id).cells ys) := by
              have := (hus0.append hus)
              rw [← app_eq] at this
              exact hk1.carryL this
            obtain ⟨h5, h6⟩ := new_step' (rest := rest) (t := el) (w1 := w.drew) hk1.heap hold (Ext.drew _ w) rfl hus'
            have hcap : (us0 ++ us).length + rest.length = cap' * T.size el := by rw [List.length_append, hl0, hul, h4, ← Nat.add_mul, ← Nat.add_mul]; congr 1; omega
            rw [hset_length] at h5
            exact value_wp (hex _ _ hrun) (hn _ _ _ _ _ hk (hk1.trans h5) (.osl _ _ _ _ _ _ cap' (by simp [upd]) h3 (by rw [← hcap]; exact h6)))
        · rw [hv, hxv] at hex
          have hcells : (hget h id).cells = [] := by simpa using hlen
          rcases Nat.eq_zero_or_pos n with rfl | hpos
          · have hue : us = [] := by simpa using hul
            subst hue
            cases hus
            have hrun := run_append_in (P := P) (w := w) (w' := w) (ty := ty) (sb := b) (sn := 0) (sc := 0) (xn := 0) (xc := xc) (xb := xa) (news := []) (argTypes := cty) hT h0 ht hel hc.1.2 (by simp) (fun b _ => .inl rfl) (fun _ => rfl) (Nat.le_refl _) (by cases b <;> rfl)
            have hk1 := kill_step hh id hl
            have h5 := new0_step hk1.heap
            have happ0 : app (hget h id).cells ([] : List AVal) = [] := by rw [hcells]; rfl
            rw [happ0] at hk
            exact value_wp (hex _ _ hrun) (hn _ _ _ ρ _ hk (hk1.trans h5) (.osl0 _ _ _ _ _))
          · have hn1 : n ≤ 140737488355328 := by omega
            obtain ⟨cap, rest, h3, h4, hrun⟩ := run_append_new (P := P) (w := w) (ty := ty) (sb := b) (sn := 0) (sc := 0) (xn := n) (xc := xc) (xb := xa) (olds := []) (news := us) (argTypes := cty) hT h0 ht hel hc.1.2 hc.2
              (by simp) (fun b hb => .inl rfl) (fun _ => rfl) hul hxb hxn (by omega)
              (by
                have h5 := nextcap_le (0 + n) 0 (by omega)
                have h6 : Builtin.nextslicecap (0 + n) 0 * T.bytes el ≤ (4 * (0 + n) + 1000) * T.bytes el := Nat.mul_le_mul_right _ (by omega)
                omega) (by omega)
            simp only [Nat.zero_add, List.nil_append] at h3 h4 hrun
            have hk1 := kill_step hh id hl
            have hus' : RepL w (XX X ρ (hset h id ⟨false, true, []⟩)) ρ us ys := hk1.carryL hus
            obtain ⟨h5, h6⟩ := new_step' (rest := rest) (t := el) (w1 := w.drew) hk1.heap hold (Ext.drew _ w) rfl hus'
            have hcap : us.length + rest.length = cap * T.size el := by rw [hul, h4, ← Nat.add_mul]; congr 1; omega
            rw [hset_length] at h5
            have happ0 : app (hget h id).cells ys = ys := by rw [hcells]; rfl
            rw [happ0, Nat.zero_add] at hk
            exact value_wp (hex _ _ hrun) (hn _ _ _ _ _ hk (hk1.trans h5) (.osl _ _ _ _ _ _ cap (by simp [upd]) h3 (by rw [← hcap]; exact h6)))
      · exact hk.elim
    · split at hq
      · rename_i hcpy
        obtain ⟨cal, cargs, cty⟩ := c
        obtain rfl : cal = .builtin .copy := isCpy_eq hcpy
        unfold cpyE at hq
        split at hq <;> try (exact hq.elim)
        rename_i t u tl d x hty hargs
        split at hq <;> try (exact hq.elim)
        rename_i el id off n sz ht hd
        obtain ⟨hc, hq⟩ := onlyIf_inv hq
        simp at hc
        obtain ⟨⟨⟨⟨hl, hw⟩, hsz⟩, hno⟩, h1n⟩ := hc
        subst hsz
        obtain ⟨m, k, ys, us, xa, xc, hk, hus, hul, hxv, hxb, hxn⟩ := rowK_inv hh (he x) hq
        obtain ⟨_, hk⟩ := onlyIf_inv hk
        obtain ⟨zs, hzs, hk⟩ := optK_inv hk
        obtain ⟨hone, hk⟩ := onlyIf_inv hk
        obtain ⟨cs, hcs, hk⟩ := optK_inv hk
        obtain ⟨cargs⟩ := cargs
        simp at hargs
        subst hargs
        have hdv := he d
        rw [hd] at hdv
        rcases hdv.osl_inv with ⟨blk, cap, hv, hρ, h1, h2⟩ | ⟨h0, _⟩
        · obtain ⟨hzl, hzr⟩ := hus.sub hzs
          obtain ⟨us0, hth, hlen, hst⟩ := setCells_step hh hl hw hρ hzr hcs
          simp only [List.drop_zero] at hlen hst hzr
          obtain ⟨vs, hvs⟩ : ∃ vs, vs = us.take (Nat.min k n * T.size el) := ⟨_, rfl⟩
          rw [← hvs] at hlen hst hzr
          have hvl : vs.length = Nat.min k n * T.size el := by rw [hvs, List.length_take]; omega
          have hv1 := flatL_one hone hzr
          have hstore := run_storeCells_cells (P := P) blk off vs 0 w (fun j hj => by have := (hth (off + j) (by omega)).1; simpa using this) (fun j hj => by have := (hth (off + j) (by omega)).2; simpa using this) hv1
          rw [Nat.add_zero] at hstore
          have hfirst := first_cells (P := P) (w := w) (a := xa) (cap := xc) (n := Nat.min k n) (us := vs) hvl (fun b hb => by
            rcases hxb b hb with hu | ⟨bk, o, h3, h4⟩
            · left; rw [hvs, hu]; simp
            · right
              refine ⟨bk, o, h3, ?_⟩
              have := range_sub (k := 0) (n := Nat.min k n * T.size el) h4
              rw [hvs]
              simpa using this) (fun h => by have := hxn h; subst this; simp [Nat.min]) w (fun _ => rfl)
          have hfirst' : (Builtin.firstCells (T.size el) (Nat.min k n) (.slice xa k xc)).run P w = .ok vs.toArray w := by
            rw [← hfirst]
            cases xa <;> rfl
          have hsize := hT.size (P := P) (w := w) (notOther_iff hno)
          have hcty : cty = (t :: u :: tl).toArray := by rw [← hty]
          refine value_wp (v := goInt (Nat.min k n)) (w' := w.setCells blk off vs) ?_ (hn _ _ _ ρ _ hk hst (.i _ _))
          simp [execOp, resolve, invoke, builtin, Builtin.copy_, hcty, hv, hxv, run_underlying (hT.slice t el ht), Builtin.lenOf, hsize, hfirst', hstore]
        · omega
      split at hq <;> try (exact hq.elim)
      rename_i f args hc
      obtain ⟨vs, hv, hfin⟩ := callee_run (P := P) hT (o := { dst := dst, op := .call c, type := ty, pos := pos, after := after, guard := guard }) rfl he hc
      split at hq
      · cases hq with
        | mk r h' hsp hk =>
          refine hfin next Q ((hS.mu _ _ _ _ _ hsp X w ρ vs hold hh hv).mono ?_)
          rintro v w' ⟨ρ', h1, h2⟩
          exact hn v _ _ ρ' w' hk h1 h2
      obtain ⟨args', hs, hq⟩ := optK_inv hq
      cases hq with
      | mk r hsp hk =>
        refine hfin next Q (call_spec hh hold hv hs (hS.fn _ _ _ hsp) fun v w' hx ho => ?_)
        have ho' : OutR w w' (XXm X ρ h (heldBy h args r)) v r := by
          cases hf : r.flat with
          | true =>
            have h1 := out_trees (Z := fun _ => False) ho (fun _ h => h.elim) (fun _ h => h.elim)
            rw [noNew_flat hf] at h1
            exact .inr ⟨[], .nil, .tree v r (h1.flat hf) .nil⟩
          | false => simpa [heldBy, hf] using ho
        obtain ⟨ρ', h1, h2⟩ := adopt_step hh hold hx ho'
        exact hn v _ _ ρ' w' hk h1 h2
end
end Eng
