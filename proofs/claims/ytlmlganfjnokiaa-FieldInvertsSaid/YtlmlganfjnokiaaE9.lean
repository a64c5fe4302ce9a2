/- The engine, part 9: contracts; what is read off; operations that read. -/
import Derived.Test.YtlmlganfjnokiaaE8
import Derived.RangeFuncRecord
import Derived.RangeFuncSeq
set_option linter.unusedSimpArgs false
set_option linter.unusedVariables false
namespace Eng
open Go

/-- A call, by its function's number: a Go body is entered, a row of the library answers at once. -/
def CallsX (P : Program) (f : FuncId) (args : Array Value) (w : World) (R : Value → World → Prop) : Prop :=
  match (callFunc f args).run P w with
  | .ok (.value v) w' => R v w'
  | .ok (.enter g as) w' => Calls P g as w' (fun e w'' => ∃ v, e = .returned v ∧ R v w'')
  | _ => False

theorem CallsX.mono {P : Program} {f : FuncId} {args : Array Value} {w : World} {R R' : Value → World → Prop} (h : CallsX P f args w R) (hr : ∀ v w', R v w' → R' v w') : CallsX P f args w R' := by
  unfold CallsX at *
  split at h
  · exact hr _ _ h
  · exact h.mono fun e w'' ⟨v, he, hR⟩ => ⟨v, he, hr _ _ hR⟩
  · exact h.elim

/-- An answer: trees, and rows that are new and nobody else's. -/
inductive Outs (w0 w : World) (Y : Nat → Prop) : List Nat → List Value → List AVal → Prop where
  | nil : Outs w0 w Y [] [] []
  | tree {N : List Nat} {vs : List Value} {xs : List AVal} (v : Value) (x : AVal) (h : Rep w Y noρ v x) (hs : Outs w0 w Y N vs xs) : Outs w0 w Y N (v :: vs) (x :: xs)
  | new {N : List Nat} {vs : List Value} {xs : List AVal} (m : Bool) (n sz cap b : Nat) (us : List Value) (cs : List AVal) (hb : w0.heap.size ≤ b) (hb' : b < w.heap.size) (hn : n ≤ cap) (hr : w.rangeAt b 0 us) (ht : w.there b 0 us.length) (ht' : w.there b 0 (cap * sz))
      (hu : RepL w Y noρ us cs) (hs : Outs w0 w Y N vs xs) : Outs w0 w Y (b :: N) (.slice (some ⟨b, 0, none⟩) n cap :: vs) (.new m n sz cs :: xs)
  | new0 {N : List Nat} {vs : List Value} {xs : List AVal} (m : Bool) (sz : Nat) (a : Option Addr) (hs : Outs w0 w Y N vs xs) : Outs w0 w Y N (.slice a 0 0 :: vs) (.new m 0 sz [] :: xs)

def OutR (w0 w : World) (X : Nat → Prop) (v : Value) (r : AVal) : Prop :=
  (∃ N vs xs, v = .tuple vs.toArray ∧ r = .tup xs ∧ N.Nodup ∧ Outs w0 w (fun b => X b ∨ b ∈ N) N vs xs) ∨
  (∃ N, N.Nodup ∧ Outs w0 w (fun b => X b ∨ b ∈ N) N [v] [r])

/-- A function's contract: of these trees it makes that answer, writes nothing that was there, and hands on nothing that is forbidden. -/
def Spec (P : Program) (f : FuncId) (A : List AVal) (r : AVal) : Prop :=
  ∀ (X : Nat → Prop) (w : World) (vs : List Value), (∀ b, X b → b < w.heap.size) → RepL w X noρ vs A →
    CallsX P f vs.toArray w fun v w' => Ext (fun _ => False) w w' ∧ OutR w w' X v r

section
variable {P : Program} {T : Ty} {w : World} {X : Nat → Prop} {ρ : Nat → Option Nat} {h : List Blk}

theorem XXm_XX {L : List Nat} {b : Nat} (hb : XXm X ρ h L b) : XX X ρ h b := by
  rcases hb with hb | ⟨i, _, h1, h2, h3⟩
  · exact .inl hb
  · exact .inr ⟨i, h1, h2, h3⟩
theorem XXm_nil {b : Nat} (hb : XX X ρ h b) : XXm X ρ h [] b := by
  rcases hb with hb | ⟨i, h1, h2, h3⟩
  · exact .inl hb
  · exact .inr ⟨i, by simp, h1, h2, h3⟩

theorem snapL_sound {f : AVal → Option AVal} {g : AVal → List Nat} {Y : Nat → Prop} {ρ' : Nat → Option Nat} {L : List Nat} (hf : ∀ x y v, f x = some y → Rep w Y ρ v x → (∀ i, i ∈ g x → i ∈ L) → Rep w (XXm X ρ h L) ρ' v y) :
    ∀ (xs ys : List AVal) (vs : List Value), snapL f xs = some ys → RepL w Y ρ vs xs → (∀ i, i ∈ idsL g xs → i ∈ L) → RepL w (XXm X ρ h L) ρ' vs ys := by
  intro xs
  induction xs with
  | nil => intro ys vs hs hr _; simp [snapL] at hs; subst hs; cases hr; exact .nil
  | cons x xs ih =>
    intro ys vs hs hr hL
    simp only [snapL] at hs
    split at hs <;> try (cases hs; done)
    rename_i y ys' h1 h2
    cases hs
    cases hr with
    | cons hr1 hr2 => exact .cons (hf x y _ h1 hr1 fun i hi => hL i (by simp [idsL, hi])) (ih _ _ h2 hr2 fun i hi => hL i (by simp [idsL, hi]))

theorem XXm_not {i b : Nat} {L : List Nat} (hh : HRel X ρ h w) (hl : (hget h i).live = true) (hi : i ∈ L) (hρ : ρ i = some b) (hX : ¬ X b) : ¬ XXm X ρ h L b := by
  rintro (hb | ⟨j, hj, h1, h2, h3⟩)
  · exact hX hb
  · exact hj (hh.inj j i b h1 hl h3 hρ ▸ hi)

theorem idsL_sub {g : AVal → List Nat} : ∀ {xs : List AVal} {off n : Nat} {r : List AVal} {i : Nat}, lsub xs off n = some r → i ∈ idsL g r → i ∈ idsL g xs := by
  have mem : ∀ (xs : List AVal) (i : Nat), i ∈ idsL g xs ↔ ∃ x ∈ xs, i ∈ g x := by
    intro xs; induction xs with
    | nil => intro i; simp [idsL]
    | cons x xs ih => intro i; simp [idsL, ih]
  intro xs off n r i hs hi
  obtain ⟨_, rfl⟩ := lsub_spec _ _ _ _ hs
  rw [mem] at hi ⊢
  obtain ⟨x, hx, hg⟩ := hi
  exact ⟨x, List.mem_of_mem_drop (List.mem_of_mem_take hx), hg⟩

theorem snap_sound (hh : HRel X ρ h w) : ∀ (d : Nat) (x y : AVal) (v : Value) (L : List Nat), snap h d x = some y → Rep w (XX X ρ h) ρ v x → (∀ i, i ∈ ids h d x → i ∈ L) → Rep w (XXm X ρ h L) noρ v y := by
  intro d
  induction d with
  | zero => intro x y v L hs; simp [snap] at hs
  | succ d ih =>
    intro x y v L hs hr hL
    have hL' : ∀ xs ys vs, snapL (snap h d) xs = some ys → RepL w (XX X ρ h) ρ vs xs → (∀ i, i ∈ idsL (ids h d) xs → i ∈ L) → RepL w (XXm X ρ h L) noρ vs ys :=
      snapL_sound (X := X) (h := h) (fun x y v h1 h2 h3 => ih x y v L h1 h2 h3)
    cases x <;> simp only [snap] at hs <;> try (cases hs; done)
    case i k n => cases hs; rw [hr.i_inv]; exact .i _ _
    case s k n => cases hs; rw [hr.s_inv]; exact .s _ _
    case b t => cases hs; rw [hr.b_inv]; exact .b _
    case sb t => cases hs; rw [hr.sb_inv]; exact .sb _
    case v x => cases hs; cases hr; exact .v _ (by assumption)
    case agg cs =>
      cases hc : snapL (snap h d) cs <;> rw [hc] at hs <;> simp at hs
      subst hs
      obtain ⟨us, rfl, hus⟩ := hr.agg_inv
      exact (hL' _ _ _ hc hus fun i hi => hL i (by simpa [ids] using hi)).agg
    case tup cs =>
      cases hc : snapL (snap h d) cs <;> rw [hc] at hs <;> simp at hs
      subst hs
      obtain ⟨us, rfl, hus⟩ := hr.tup_inv
      exact (hL' _ _ _ hc hus fun i hi => hL i (by simpa [ids] using hi)).tup
    case lst m n cs =>
      cases hs
      rcases hr.lst_inv with ⟨blk, off, cap, us, rfl, h1, h2, h3, h4, h5⟩ | ⟨rfl, rfl, a, cap, rfl⟩
      · exact (h5.weaken fun b hb => XXm_XX hb).lst (fun hb => h1 (XXm_XX hb)) h2 h3 h4
      · exact .lst0 _ _ _
    case ref cs off =>
      cases hs
      obtain ⟨blk, base, us, rfl, h1, h2, h3, h4⟩ := hr.ref_inv
      exact (h4.weaken fun b hb => XXm_XX hb).ref (fun hb => h1 (XXm_XX hb)) h2 h3
    case own id off =>
      split at hs <;> try (cases hs; done)
      rename_i hlive
      cases hc : snapL (snap h d) (hget h id).cells <;> rw [hc] at hs <;> simp at hs
      subst hs
      obtain ⟨blk, rfl, hρ⟩ := hr.own_inv
      rcases hh.blk id hlive with ⟨b, us, hb, hlt, hX, hra, _, hus⟩ | ⟨hn, _⟩
      · rw [hb] at hρ; cases hρ
        have := hL' _ _ _ hc hus fun i hi => hL i (by simp [ids, hi])
        have h1 := this.ref (ρ := noρ) (off := off) (XXm_not hh hlive (hL id (by simp [ids])) hb hX) hlt hra
        simpa using h1
      · rw [hn] at hρ; cases hρ
    case osl m id off n sz =>
      split at hs <;> try (cases hs; done)
      rename_i hlive
      split at hs <;> try (cases hs; done)
      rename_i cs hcs
      cases hc : snapL (snap h d) cs <;> rw [hc] at hs <;> simp at hs
      subst hs
      rcases hr.osl_inv with ⟨blk, cap, rfl, hρ, hn, ht⟩ | ⟨rfl, a, rfl⟩
      · rcases hh.blk id hlive with ⟨b, us, hb, hlt, hX, hra, _, hus⟩ | ⟨hn', _⟩
        · rw [hb] at hρ; cases hρ
          obtain ⟨hlen, hsub⟩ := hus.sub hcs
          have := hL' _ _ _ hc hsub fun i hi => hL i (by simp [ids, hcs]; exact .inr hi)
          have hra' := range_sub (k := off) (n := n * sz) hra
          rw [Nat.zero_add] at hra'
          exact this.lst (XXm_not hh hlive (hL id (by simp [ids])) hb hX) hlt hra' hn
        · rw [hn'] at hρ; cases hρ
      · obtain ⟨_, h2⟩ := lsub_spec _ _ _ _ hcs
        simp at h2
        subst h2
        simp [snapL] at hc
        subst hc
        exact .lst0 _ _ _
    case ifc t x =>
      cases hc : snap h d x <;> rw [hc] at hs <;> simp at hs
      subst hs
      obtain ⟨u, rfl, hu⟩ := hr.ifc_inv
      exact .ifc _ _ _ (ih _ _ _ L hc hu fun i hi => hL i (by simpa [ids] using hi))
    case fn f as cs =>
      split at hs <;> try (cases hs; done)
      rename_i a c h1 h2
      cases hs
      obtain ⟨us, ws, rfl, hu, hw⟩ := hr.fn_inv
      exact (hL' _ _ _ h1 hu fun i hi => hL i (by simp [ids, hi])).fn (hL' _ _ _ h2 hw fun i hi => hL i (by simp [ids, hi]))

/-- Nothing of memory in it: it stands whatever is forbidden. -/
theorem Rep.plain {v : Value} {x : AVal} {Y : Nat → Prop} {w' : World} {ρ' : Nat → Option Nat} (hp : x.plain = true) (hr : Rep w X ρ v x) : Rep w' Y ρ' v x := by
  cases hr <;> simp [AVal.plain] at hp
  · exact .i _ _
  · exact .s _ _
  · exact .b _
  · exact .sb _
  · exact .v _ (by assumption)
theorem RepL.plain {Y : Nat → Prop} {w' : World} {ρ' : Nat → Option Nat} : ∀ {xs : List AVal} {vs : List Value}, flatL AVal.plain xs = true → RepL w X ρ vs xs → RepL w' Y ρ' vs xs
  | [], _, _, hr => by cases hr; exact .nil
  | x :: xs, _, hp, hr => by
    simp [flatL] at hp
    cases hr with
    | cons h1 h2 => exact .cons (h1.plain hp.1) (RepL.plain hp.2 h2)
theorem Rep.flat {v : Value} {x : AVal} {Y : Nat → Prop} {w' : World} {ρ' : Nat → Option Nat} (hp : x.flat = true) (hr : Rep w X ρ v x) : Rep w' Y ρ' v x := by
  have key : ∀ (v : Value) (x : AVal), (match x with | .agg cs => flatL AVal.plain cs | x => x.plain) = true → Rep w X ρ v x → Rep w' Y ρ' v x := by
    intro v x hp hr
    cases x <;> try (exact hr.plain hp)
    obtain ⟨vs, rfl, h⟩ := hr.agg_inv
    exact (h.plain hp).agg
  cases x <;> try (exact hr.plain hp)
  · obtain ⟨vs, rfl, h⟩ := hr.agg_inv
    exact (h.plain hp).agg
  · obtain ⟨vs, rfl, h⟩ := hr.tup_inv
    refine RepL.tup ?_
    rename_i xs
    simp only [AVal.flat] at hp
    clear hr
    induction h with
    | nil => exact .nil
    | cons h1 h2 ih =>
      simp only [flatL, Bool.and_eq_true] at hp
      exact .cons (key _ _ hp.1 h1) (ih hp.2)

/-- Memory grew: what is known of it stands. -/
theorem HRel.ext {w' : World} (hh : HRel X ρ h w) (he : Ext (fun _ => False) w w') : HRel X ρ h w' := by
  refine ⟨hh.inj, fun i hi => ?_, hh.dom, hh.res⟩
  rcases hh.blk i hi with ⟨b, vs, h1, h2, h3, h4, h5, h6⟩ | h'
  · exact .inl ⟨b, vs, h1, Nat.lt_of_lt_of_le h2 he.size, h3, rangeAt_ext he h2 id h4, he.there _ _ _ h5, h6.carry he (fun _ _ h => ⟨h, id⟩) (fun _ _ h => h)⟩
  · exact .inr h'

theorem HRel.calm {w' : World} {B : Nat} (hh : HRel X ρ h w) (hc : Calm B w w') : HRel X ρ h w' := by
  refine ⟨hh.inj, fun i hi => ?_, hh.dom, hh.res⟩
  rcases hh.blk i hi with ⟨b, vs, h1, h2, h3, h4, h5, h6⟩ | h'
  · exact .inl ⟨b, vs, h1, Nat.lt_of_lt_of_le h2 hc.size, h3, hc.range h4, hc.there h5, h6.calm hc⟩
  · exact .inr h'

theorem freeze_live : ∀ (l : List Nat) (h : List Blk) (i : Nat), (hget (freeze h l) i).live = (hget h i).live
  | [], _, _ => rfl
  | j :: l, h, i => by
    rw [freeze, freeze_live l]
    rw [hget_hset]
    split
    · rename_i hj; rw [hj.1]
    · rfl
theorem freeze_cells : ∀ (l : List Nat) (h : List Blk) (i : Nat), (hget (freeze h l) i).cells = (hget h i).cells
  | [], _, _ => rfl
  | j :: l, h, i => by
    rw [freeze, freeze_cells l]
    rw [hget_hset]
    split
    · rename_i hj; rw [hj.1]
    · rfl
theorem freeze_wr : ∀ (l : List Nat) (h : List Blk) (i : Nat), (hget (freeze h l) i).wr = true → (hget h i).wr = true ∧ ((hget h i).live = true → i ∉ l)
  | [], _, _, hw => ⟨hw, fun _ => by simp⟩
  | j :: l, h, i, hw => by
    rw [freeze] at hw
    obtain ⟨h1, h2⟩ := freeze_wr l _ i hw
    rw [hget_hset] at h1 h2
    split at h1
    · cases h1
    · rename_i hj
      rw [if_neg hj] at h2
      refine ⟨h1, fun hl => ?_⟩
      have hlt := live_lt hl
      simp only [List.mem_cons, not_or]
      exact ⟨fun e => hj ⟨e.symm, e ▸ hlt⟩, h2 hl⟩
theorem freeze_length : ∀ (l : List Nat) (h : List Blk), (freeze h l).length = h.length
  | [], _ => rfl
  | j :: l, h => by rw [freeze, freeze_length l, hset_length]

theorem freeze_mark {l : List Nat} {h : List Blk} {i d : Nat} (hm : hget (freeze h l) i = mark d) : hget h i = mark d := by
  have h1 := freeze_live l h i
  have h2 := freeze_cells l h i
  have h3 := (freeze_wr l h i (by rw [hm]; rfl)).1
  rw [hm] at h1 h2
  generalize hget h i = b at h1 h2 h3
  cases b
  simp [mark] at h1 h2 h3 ⊢
  simp [← h1, ← h2, h3]

theorem XX_freeze {l : List Nat} {b : Nat} (hb : XX X ρ (freeze h l) b) : XXm X ρ h l b := by
  rcases hb with hb | ⟨i, h1, h2, h3⟩
  · exact .inl hb
  · rw [freeze_live] at h1
    obtain ⟨h4, h5⟩ := freeze_wr l h i h2
    exact .inr ⟨i, h5 h1, h1, h4, h3⟩

theorem HRel.freeze (hh : HRel X ρ h w) (l : List Nat) : HRel X ρ (freeze h l) w := by
  refine ⟨fun i j b h1 h2 => hh.inj i j b (by rwa [freeze_live] at h1) (by rwa [freeze_live] at h2), fun i hi => ?_, fun i hi => hh.dom i (by rwa [freeze_length] at hi), fun i d hm => hh.res i d (freeze_mark hm)⟩
  rw [freeze_live] at hi
  rw [freeze_cells]
  rcases hh.blk i hi with ⟨b, vs, h1, h2, h3, h4, h5, h6⟩ | h'
  · exact .inl ⟨b, vs, h1, h2, h3, h4, h5, h6.weaken fun b hb => XXm_XX (XX_freeze hb)⟩
  · exact .inr h'

/-- What is dead and nobody's lies as it lay. -/
structure Dead (h h' : List Blk) : Prop where
  len : h.length ≤ h'.length
  same : ∀ i, i < h.length → (hget h i).live = false → (hget h i).wr = false → hget h' i = hget h i
theorem Dead.refl (h : List Blk) : Dead h h := ⟨Nat.le_refl _, fun _ _ _ _ => rfl⟩
theorem Dead.trans {h k m : List Blk} (a : Dead h k) (b : Dead k m) : Dead h m :=
  ⟨Nat.le_trans a.len b.len, fun i hi h1 h2 => by
    have e := a.same i hi h1 h2
    rw [b.same i (Nat.lt_of_lt_of_le hi a.len) (by rw [e]; exact h1) (by rw [e]; exact h2), e]⟩
theorem hget_appl : ∀ (h k : List Blk) (i : Nat), i < h.length → hget (h ++ k) i = hget h i
  | [], _, _, hi => by simp at hi
  | x :: h, k, 0, _ => rfl
  | x :: h, k, i + 1, hi => by simp only [List.cons_append, hget]; exact hget_appl h k i (by simpa using hi)
theorem Dead.app (h k : List Blk) : Dead h (h ++ k) := ⟨by simp, fun i hi _ _ => hget_appl h k i hi⟩
theorem Dead.hset {h : List Blk} {id : Nat} {b : Blk} (hb : (hget h id).live = true ∨ (hget h id).wr = true ∨ b = hget h id) : Dead h (hset h id b) :=
  ⟨by rw [hset_length]; exact Nat.le_refl _, fun i hi h1 h2 => by
    rw [hget_hset]
    split
    · rename_i e
      obtain ⟨rfl, _⟩ := e
      rcases hb with hb | hb | hb
      · rw [h1] at hb; cases hb
      · rw [h2] at hb; cases hb
      · exact hb
    · rfl⟩
theorem Dead.freeze : ∀ (l : List Nat) (h : List Blk), Dead h (Eng.freeze h l)
  | [], h => Dead.refl h
  | i :: l, h => by
    rw [Eng.freeze]
    refine (Dead.hset (b := { hget h i with wr := false }) ?_).trans (Dead.freeze l _)
    cases hw : (hget h i).wr with
    | true => exact .inr (.inl rfl)
    | false => refine .inr (.inr ?_); rw [← hw]

/-- One step's worth. -/
structure Step (X : Nat → Prop) (ρ : Nat → Option Nat) (h : List Blk) (w : World) (ρ' : Nat → Option Nat) (h' : List Blk) (w' : World) : Prop where
  heap : HRel X ρ' h' w'
  carry : ∀ v x, Rep w (XX X ρ h) ρ v x → Rep w' (XX X ρ' h') ρ' v x
  ext : Ext (fun b => ∃ i, (hget h i).live = true ∧ (hget h i).wr = true ∧ ρ i = some b) w w'
  new : ∀ i b, (hget h' i).live = true → (hget h' i).wr = true → ρ' i = some b → w.heap.size ≤ b ∨ ∃ j, (hget h j).live = true ∧ (hget h j).wr = true ∧ ρ j = some b
  dead : Dead h h'

theorem Step.grow {w' : World} (hh : HRel X ρ h w) (he : Ext (fun _ => False) w w') (l : List Nat) : Step X ρ h w ρ (Eng.freeze h l) w' := by
  refine ⟨(hh.ext he).freeze l, fun v x hr => ?_, he.mono fun _ h => h.elim, fun i b h1 h2 h3 => .inr ?_, Dead.freeze l h⟩
  · exact hr.carry he (fun b _ hb => ⟨fun h' => hb (XXm_XX (XX_freeze h')), id⟩) (fun _ _ h => h)
  · rw [freeze_live] at h1
    exact ⟨i, h1, (freeze_wr l h i h2).1, h3⟩
theorem Step.refl (hh : HRel X ρ h w) : Step X ρ h w ρ h w := Step.grow (l := []) hh (Ext.refl _ w)
end

/-- A contract that speaks of memory: what is handed in may be written. -/
def SpecM (P : Program) (f : FuncId) (h : List Blk) (A : List AVal) (r : AVal) (h' : List Blk) : Prop :=
  ∀ (X : Nat → Prop) (w : World) (ρ : Nat → Option Nat) (vs : List Value), (∀ b, X b → b < w.heap.size) → HRel X ρ h w → RepL w (XX X ρ h) ρ vs A →
    CallsX P f vs.toArray w fun v w' => ∃ ρ', Step X ρ h w ρ' h' w' ∧ Rep w' (XX X ρ' h') ρ' v r

/-- The fence that lets in all, in a round or in none. -/
def fz (r : Option Nat) : Fence := { Fence.wide with round := r }

/-- An iterator's contract: it hands on so many, these, if each round goes on. -/
def SeqSp (P : Program) (gf : FuncId) (A : List AVal) (n : Nat) (xs : Nat → List AVal) : Prop :=
  (∀ args w, (callFunc gf args).run P w = .ok (.enter gf args) w) ∧
  ∀ (X : Nat → Prop) (w : World) (vs : List Value) (l : Nat) (J : Nat → (Nat → Prop) → World → Prop), (∀ b, X b → b < w.heap.size) → RepL w X noρ vs A →
    (∀ i Z W W', J i Z W → Ext (fun _ => False) W W' → J i Z W') →
    (∀ i Z W us, i < n → J i Z W → (∀ b, Z b → b < W.heap.size) → RepL W Z noρ us (xs i) → YieldAt (fz none) 1 P l us.toArray W fun e W' =>
      e = .returned (.bool true) ∧ ∃ Z', J (i + 1) Z' W' ∧ (∀ b, Z' b → b < W'.heap.size) ∧ W.heap.size ≤ W'.heap.size ∧ ∀ ρ v x, Rep W Z ρ v x → Rep W' Z' ρ v x) →
    J 0 X w → CallsIn (fz none) 1 P gf (#[.func (.yield l) #[] #[]] ++ vs.toArray) w fun e W' => (∃ v, e = .returned v) ∧ ∃ Z, J n Z W'

/-- The contracts that hold of a program. -/
def specs (P : Program) : SpecT := { fn := Spec P, mu := SpecM P, seq := SeqSp P, l := 0, n := 0, xs := fun _ => [], it := false }
structure SpOK (P : Program) (Sp : SpecT) : Prop where
  fn : ∀ f A r, Sp.fn f A r → Spec P f A r
  mu : ∀ f h A r h', Sp.mu f h A r h' → SpecM P f h A r h'
  seq : ∀ f A n xs, Sp.seq f A n xs → SeqSp P f A n xs
  it : Sp.it = false → Sp.n = 0
end Eng
