/- The engine, part 9: contracts; what is read off; operations that read. -/
import Derived.Test.YtkhipnhdbaahcaaQCE8
import Derived.RangeFuncRecord
import Derived.RangeFuncSeq
import Derived.Deep.Draws
import Derived.IntWalk
import Derived.OrdersIn
import Derived.RangeFuncIn
import Derived.RangeFuncOwn
set_option linter.unusedSimpArgs false
set_option linter.unusedVariables false
namespace Eng
open Go
def CallsX (P : Program) (f : FuncId) (args : Array Value) (w : World) (R : Value → World → Prop) : Prop :=
 match (callFunc f args).run P w with
 | .ok (.value v) w' => R v w'
 | .ok (.enter g as) w' => Calls P g as w' (fun e w'' => ∃ v, e = .returned v ∧ R v w'')
 | _ => False
theorem CallsX.mono {P : Program} {f : FuncId} {args : Array Value} {w : World} {R R' : Value → World → Prop} (h : CallsX P f args w R) (hr : ∀ v w', R v w' → R' v w') : CallsX P f args w R' := by
 unfold CallsX at *
 split at h
 . exact hr _ _ h
 . exact h.mono fun e w'' ⟨v, he, hR⟩ => ⟨v, he, hr _ _ hR⟩
 . exact h.elim
inductive Outs (w0 w : World) (Y : Nat → Prop) : List Nat → List Value → List AVal → Prop where
 | nil : Outs w0 w Y [] [] []
 | tree {N : List Nat} {vs : List Value} {xs : List AVal} (v : Value) (x : AVal) (h : Rep w Y noρ v x) (hs : Outs w0 w Y N vs xs) : Outs w0 w Y N (v :: vs) (x :: xs)
 | new {N : List Nat} {vs : List Value} {xs : List AVal} (m : Bool) (n sz cap b : Nat) (us : List Value) (cs : List AVal) (hb : w0.heap.size ≤ b) (hb' : b < w.heap.size) (hn : n ≤ cap) (hr : w.rangeAt b 0 us) (ht : w.there b 0 us.length) (ht' : w.there b 0 (cap * sz))
     (hu : RepL w Y noρ us cs) (hs : Outs w0 w Y N vs xs) : Outs w0 w Y (b :: N) (.slice (some ⟨b, 0, none⟩) n cap :: vs) (.new m n sz cs :: xs)
 | new0 {N : List Nat} {vs : List Value} {xs : List AVal} (m : Bool) (sz : Nat) (a : Option Addr) (hs : Outs w0 w Y N vs xs) : Outs w0 w Y N (.slice a 0 0 :: vs) (.new m 0 sz [] :: xs)
def OutR (w0 w : World) (X : Nat → Prop) (v : Value) (r : AVal) : Prop :=
 (∃ N vs xs, v = .tuple vs.toArray ∧ r = .tup xs ∧ N.Nodup ∧ Outs w0 w (fun b => X b ∨ b ∈ N) N vs xs) ∨
 (∃ N, N.Nodup ∧ Outs w0 w (fun b => X b ∨ b ∈ N) N [v] [r])
def Spec (P : Program) (f : FuncId) (A : List AVal) (r : AVal) : Prop :=
 ∀ (X : Nat → Prop) (w : World) (vs : List Value), (∀ b, X b → b < w.heap.size) → RepL w X noρ vs A →
   CallsX P f vs.toArray w fun v w' => Ext (fun _ => False) w w' ∧ OutR w w' X v r
section
variable {P : Program} {T : Ty} {w : World} {X : Nat → Prop} {ρ : Nat → Option Nat} {h : List Blk}
theorem XXm_XX {L : List Nat} {b : Nat} (hb : XXm X ρ h L b) : XX X ρ h b := by
 rcases hb with hb | ⟨i, _, h1, h2, h3⟩
 . exact .inl hb
 . exact .inr ⟨i, h1, h2, h3⟩
theorem snapL_sound {f : AVal → Option AVal} {g : AVal → List Nat} {Y : Nat → Prop} {ρ' : Nat → Option Nat} {L : List Nat} (hf : ∀ x y v, f x = some y → Rep w Y ρ v x → (∀ i, i ∈ g x → i ∈ L) → Rep w (XXm X ρ h L) ρ' v y) :
   ∀ (xs ys : List AVal) (vs : List Value), snapL f xs = some ys → RepL w Y ρ vs xs → (∀ i, i ∈ idsL g xs → i ∈ L) → RepL w (XXm X ρ h L) ρ' vs ys := by
 intro xs
 induction xs with
 | nil => intro ys vs hs hr _; simp [snapL] at hs; subst hs; cases hr; exact .nil
 | cons x xs ih =>
   intro ys vs hs hr hL
   simp only [snapL] at hs
   split at hs <;> try (cases hs; done)
   rename_i y ys' h1 h2
   cases hs
   cases hr with
   | cons hr1 hr2 => exact .cons (hf x y _ h1 hr1 fun i hi => hL i (by simp [idsL, hi])) (ih _ _ h2 hr2 fun i hi => hL i (by simp [idsL, hi]))
theorem XXm_not {i b : Nat} {L : List Nat} (hh : HRel X ρ h w) (hl : (hget h i).live = true) (hi : i ∈ L) (hρ : ρ i = some b) (hX : ¬ X b) : ¬ XXm X ρ h L b := by
 rintro (hb | ⟨j, hj, h1, h2, h3⟩)
 . exact hX hb
 . exact hj (hh.inj j i b h1 hl h3 hρ ▸ hi)
theorem snap_sound (hh : HRel X ρ h w) : ∀ (d : Nat) (x y : AVal) (v : Value) (L : List Nat), snap h d x = some y → Rep w (XX X ρ h) ρ v x → (∀ i, i ∈ ids h d x → i ∈ L) → Rep w (XXm X ρ h L) noρ v y := by
 intro d
 induction d with
 | zero => intro x y v L hs; simp [snap] at hs
 | succ d ih =>
   intro x y v L hs hr hL
   have hL' : ∀ xs ys vs, snapL (snap h d) xs = some ys → RepL w (XX X ρ h) ρ vs xs → (∀ i, i ∈ idsL (ids h d) xs → i ∈ L) → RepL w (XXm X ρ h L) noρ vs ys :=
     snapL_sound (X := X) (h := h) (fun x y v h1 h2 h3 => ih x y v L h1 h2 h3)
   cases x <;> simp only [snap] at hs <;> try (cases hs; done)
   case i k n => cases hs; rw [hr.i_inv]; exact .i _ _
   case s k n => cases hs; rw [hr.s_inv]; exact .s _ _
   case b t => cases hs; rw [hr.b_inv]; exact .b _
   case sb t => cases hs; rw [hr.sb_inv]; exact .sb _
   case v x => cases hs; cases hr; exact .v _ (by assumption)
   case cap0 => cases hs; obtain ⟨a, rfl⟩ := hr.cap0_inv; exact .cap0 a
   case agg cs =>
     cases hc : snapL (snap h d) cs <;> rw [hc] at hs <;> simp at hs
     subst hs
     obtain ⟨us, rfl, hus⟩ := hr.agg_inv
     exact (hL' _ _ _ hc hus fun i hi => hL i (by simpa [ids] using hi)).agg
   case tup cs =>
     cases hc : snapL (snap h d) cs <;> rw [hc] at hs <;> simp at hs
     subst hs
     obtain ⟨us, rfl, hus⟩ := hr.tup_inv
     exact (hL' _ _ _ hc hus fun i hi => hL i (by simpa [ids] using hi)).tup
   case lst m n cs =>
     cases hs
     rcases hr.lst_inv with ⟨blk, off, cap, us, rfl, h1, h2, h3, h4, h5⟩ | ⟨rfl, rfl, a, cap, rfl⟩
     . exact (h5.weaken fun b hb => XXm_XX hb).lst (fun hb => h1 (XXm_XX hb)) h2 h3 h4
     . exact .lst0 _ _ _
   case ref cs off =>
     cases hs
     obtain ⟨blk, base, us, rfl, h1, h2, h3, h4⟩ := hr.ref_inv
     exact (h4.weaken fun b hb => XXm_XX hb).ref (fun hb => h1 (XXm_XX hb)) h2 h3
   case own id off =>
     split at hs <;> try (cases hs; done)
     rename_i hlive
     cases hc : snapL (snap h d) (hget h id).cells <;> rw [hc] at hs <;> simp at hs
     subst hs
     obtain ⟨blk, rfl, hρ⟩ := hr.own_inv
     rcases hh.blk id hlive with ⟨b, us, hb, hlt, hX, hra, _, hus⟩ | ⟨hn, _⟩
     . rw [hb] at hρ; cases hρ
       have := hL' _ _ _ hc hus fun i hi => hL i (by simp [ids, hi])
       have h1 := this.ref (ρ := noρ) (off := off) (XXm_not hh hlive (hL id (by simp [ids])) hb hX) hlt hra
       simpa using h1
     . rw [hn] at hρ; cases hρ
   case osl m id off n sz =>
     split at hs <;> try (cases hs; done)
     rename_i hlive
     split at hs <;> try (cases hs; done)
     rename_i cs hcs
     cases hc : snapL (snap h d) cs <;> rw [hc] at hs <;> simp at hs
     subst hs
     rcases hr.osl_inv with ⟨blk, cap, rfl, hρ, hn, ht⟩ | ⟨rfl, a, rfl⟩
     . rcases hh.blk id hlive with ⟨b, us, hb, hlt, hX, hra, _, hus⟩ | ⟨hn', _⟩
       . rw [hb] at hρ; cases hρ
         obtain ⟨hlen, hsub⟩ := hus.sub hcs
         have := hL' _ _ _ hc hsub fun i hi => hL i (by simp [ids, hcs]; exact .inr hi)
         have hra' := range_sub (k := off) (n := n * sz) hra
         rw [Nat.zero_add] at hra'
         exact this.lst (XXm_not hh hlive (hL id (by simp [ids])) hb hX) hlt hra' hn
       . rw [hn'] at hρ; cases hρ
     . obtain ⟨_, h2⟩ := lsub_spec _ _ _ _ hcs
       simp at h2
       subst h2
       simp [snapL] at hc
       subst hc
       exact .lst0 _ _ _
   case ifc t x =>
     cases hc : snap h d x <;> rw [hc] at hs <;> simp at hs
     subst hs
     obtain ⟨u, rfl, hu⟩ := hr.ifc_inv
     exact .ifc _ _ _ (ih _ _ _ L hc hu fun i hi => hL i (by simpa [ids] using hi))
   case fn f as cs =>
     split at hs <;> try (cases hs; done)
     rename_i a c h1 h2
     cases hs
     obtain ⟨us, ws, rfl, hu, hw⟩ := hr.fn_inv
     exact (hL' _ _ _ h1 hu fun i hi => hL i (by simp [ids, hi])).fn (hL' _ _ _ h2 hw fun i hi => hL i (by simp [ids, hi]))
theorem Rep.plain {v : Value} {x : AVal} {Y : Nat → Prop} {w' : World} {ρ' : Nat → Option Nat} (hp : x.plain = true) (hr : Rep w X ρ v x) : Rep w' Y ρ' v x := by
 cases hr <;> simp [AVal.plain] at hp
 . exact .i _ _
 . exact .s _ _
 . exact .b _
 . exact .sb _
 . exact .v _ (by assumption)
theorem RepL.plain {Y : Nat → Prop} {w' : World} {ρ' : Nat → Option Nat} : ∀ {xs : List AVal} {vs : List Value}, flatL AVal.plain xs = true → RepL w X ρ vs xs → RepL w' Y ρ' vs xs
 | [], _, _, hr => by cases hr; exact .nil
 | x :: xs, _, hp, hr => by
   simp [flatL] at hp
   cases hr with
   | cons h1 h2 => exact .cons (h1.plain hp.1) (RepL.plain hp.2 h2)
theorem Rep.flat {v : Value} {x : AVal} {Y : Nat → Prop} {w' : World} {ρ' : Nat → Option Nat} (hp : x.flat = true) (hr : Rep w X ρ v x) : Rep w' Y ρ' v x := by
 have key : ∀ (v : Value) (x : AVal), (match x with | .agg cs => flatL AVal.plain cs | x => x.plain) = true → Rep w X ρ v x → Rep w' Y ρ' v x := by
   intro v x hp hr
   cases x <;> try (exact hr.plain hp)
   obtain ⟨vs, rfl, h⟩ := hr.agg_inv
   exact (h.plain hp).agg
 cases x <;> try (exact hr.plain hp)
 . obtain ⟨vs, rfl, h⟩ := hr.agg_inv
   exact (h.plain hp).agg
 . obtain ⟨vs, rfl, h⟩ := hr.tup_inv
   refine RepL.tup ?_
   rename_i xs
   simp only [AVal.flat] at hp
   clear hr
   induction h with
   | nil => exact .nil
   | cons h1 h2 ih =>
     simp only [flatL, Bool.and_eq_true] at hp
     exact .cons (key _ _ hp.1 h1) (ih hp.2)
theorem HRel.ext {w' : World} (hh : HRel X ρ h w) (he : Ext (fun _ => False) w w') : HRel X ρ h w' := by
 refine ⟨hh.inj, fun i hi => ?_, hh.dom, hh.res⟩
 rcases hh.blk i hi with ⟨b, vs, h1, h2, h3, h4, h5, h6⟩ | h'
 . exact .inl ⟨b, vs, h1, Nat.lt_of_lt_of_le h2 he.size, h3, rangeAt_ext he h2 id h4, he.there _ _ _ h5, h6.carry he (fun _ _ h => ⟨h, id⟩) (fun _ _ h => h)⟩
 . exact .inr h'
theorem HRel.calm {w' : World} {B : Nat} (hh : HRel X ρ h w) (hc : Calm B w w') : HRel X ρ h w' := by
 refine ⟨hh.inj, fun i hi => ?_, hh.dom, hh.res⟩
 rcases hh.blk i hi with ⟨b, vs, h1, h2, h3, h4, h5, h6⟩ | h'
 . exact .inl ⟨b, vs, h1, Nat.lt_of_lt_of_le h2 hc.size, h3, hc.range h4, hc.there h5, h6.calm hc⟩
 . exact .inr h'
theorem freeze_live : ∀ (l : List Nat) (h : List Blk) (i : Nat), (hget (freeze h l) i).live = (hget h i).live
 | [], _, _ => rfl
 | j :: l, h, i => by
   rw [freeze, freeze_live l]
   rw [hget_hset]
   split
   . rename_i hj; rw [hj.1]
   . rfl
theorem freeze_cells : ∀ (l : List Nat) (h : List Blk) (i : Nat), (hget (freeze h l) i).cells = (hget h i).cells
 | [], _, _ => rfl
 | j :: l, h, i => by
   rw [freeze, freeze_cells l]
   rw [hget_hset]
   split
   . rename_i hj; rw [hj.1]
   . rfl
theorem freeze_wr : ∀ (l : List Nat) (h : List Blk) (i : Nat), (hget (freeze h l) i).wr = true → (hget h i).wr = true ∧ ((hget h i).live = true → i ∉ l)
 | [], _, _, hw => ⟨hw, fun _ => by simp⟩
 | j :: l, h, i, hw => by
   rw [freeze] at hw
   obtain ⟨h1, h2⟩ := freeze_wr l _ i hw
   rw [hget_hset] at h1 h2
   split at h1
   . cases h1
   . rename_i hj
     rw [if_neg hj] at h2
     refine ⟨h1, fun hl => ?_⟩
     have hlt := live_lt hl
     simp only [List.mem_cons, not_or]
     exact ⟨fun e => hj ⟨e.symm, e ▸ hlt⟩, h2 hl⟩
theorem freeze_length : ∀ (l : List Nat) (h : List Blk), (freeze h l).length = h.length
 | [], _ => rfl
 | j :: l, h => by rw [freeze, freeze_length l, hset_length]
theorem freeze_mark {l : List Nat} {h : List Blk} {i d : Nat} (hm : hget (freeze h l) i = mark d) : hget h i = mark d := by
 have h1 := freeze_live l h i
 have h2 := freeze_cells l h i
 have h3 := (freeze_wr l h i (by rw [hm]; rfl)).1
 rw [hm] at h1 h2
 generalize hget h i = b at h1 h2 h3
 cases b
 simp [mark] at h1 h2 h3 ⊢
 simp [← h1, ← h2, h3]
theorem XX_freeze {l : List Nat} {b : Nat} (hb : XX X ρ (freeze h l) b) : XXm X ρ h l b := by
 rcases hb with hb | ⟨i, h1, h2, h3⟩
 . exact .inl hb
 . rw [freeze_live] at h1
   obtain ⟨h4, h5⟩ := freeze_wr l h i h2
   exact .inr ⟨i, h5 h1, h1, h4, h3⟩
theorem HRel.freeze (hh : HRel X ρ h w) (l : List Nat) : HRel X ρ (freeze h l) w := by
 refine ⟨fun i j b h1 h2 => hh.inj i j b (by rwa [freeze_live] at h1) (by rwa [freeze_live] at h2), fun i hi => ?_, fun i hi => hh.dom i (by rwa [freeze_length] at hi), fun i d hm => hh.res i d (freeze_mark hm)⟩
 rw [freeze_live] at hi
 rw [freeze_cells]
 rcases hh.blk i hi with ⟨b, vs, h1, h2, h3, h4, h5, h6⟩ | h'
 . exact .inl ⟨b, vs, h1, h2, h3, h4, h5, h6.weaken fun b hb => XXm_XX (XX_freeze hb)⟩
 . exact .inr h'
structure Dead (h h' : List Blk) : Prop where
 len : h.length ≤ h'.length
 same : ∀ i, i < h.length → (hget h i).live = false → (hget h i).wr = false → hget h' i = hget h i
theorem Dead.refl (h : List Blk) : Dead h h := ⟨Nat.le_refl _, fun _ _ _ _ => rfl⟩
theorem Dead.trans {h k m : List Blk} (a : Dead h k) (b : Dead k m) : Dead h m :=
 ⟨Nat.le_trans a.len b.len, fun i hi h1 h2 => by
   have e := a.same i hi h1 h2
   rw [b.same i (Nat.lt_of_lt_of_le hi a.len) (by rw [e]; exact h1) (by rw [e]; exact h2), e]⟩
theorem hget_appl : ∀ (h k : List Blk) (i : Nat), i < h.length → hget (h ++ k) i = hget h i
 | [], _, _, hi => by simp at hi
 | x :: h, k, 0, _ => rfl
 | x :: h, k, i + 1, hi => by simp only [List.cons_append, hget]; exact hget_appl h k i (by simpa using hi)
theorem Dead.app (h k : List Blk) : Dead h (h ++ k) := ⟨by simp, fun i hi _ _ => hget_appl h k i hi⟩
theorem Dead.hset {h : List Blk} {id : Nat} {b : Blk} (hb : (hget h id).live = true ∨ (hget h id).wr = true ∨ b = hget h id) : Dead h (hset h id b) :=
 ⟨by rw [hset_length]; exact Nat.le_refl _, fun i hi h1 h2 => by
   rw [hget_hset]
   split
   . rename_i e
     obtain ⟨rfl, _⟩ := e
     rcases hb with hb | hb | hb
     . rw [h1] at hb; cases hb
     . rw [h2] at hb; cases hb
     . exact hb
   . rfl⟩
theorem Dead.freeze : ∀ (l : List Nat) (h : List Blk), Dead h (Eng.freeze h l)
 | [], h => Dead.refl h
 | i :: l, h => by
   rw [Eng.freeze]
   refine (Dead.hset (b := { hget h i with wr := false }) ?_).trans (Dead.freeze l _)
   cases hw : (hget h i).wr with
   | true => exact .inr (.inl rfl)
   | false => refine .inr (.inr ?_); rw [← hw]
structure Step (X : Nat → Prop) (ρ : Nat → Option Nat) (h : List Blk) (w : World) (ρ' : Nat → Option Nat) (h' : List Blk) (w' : World) : Prop where
 heap : HRel X ρ' h' w'
 carry : ∀ v x, Rep w (XX X ρ h) ρ v x → Rep w' (XX X ρ' h') ρ' v x
 ext : Ext (fun b => ∃ i, (hget h i).live = true ∧ (hget h i).wr = true ∧ ρ i = some b) w w'
 new : ∀ i b, (hget h' i).live = true → (hget h' i).wr = true → ρ' i = some b → w.heap.size ≤ b ∨ ∃ j, (hget h j).live = true ∧ (hget h j).wr = true ∧ ρ j = some b
 dead : Dead h h'
theorem Step.grow {w' : World} (hh : HRel X ρ h w) (he : Ext (fun _ => False) w w') (l : List Nat) : Step X ρ h w ρ (Eng.freeze h l) w' := by
 refine ⟨(hh.ext he).freeze l, fun v x hr => ?_, he.mono fun _ h => h.elim, fun i b h1 h2 h3 => .inr ?_, Dead.freeze l h⟩
 . exact hr.carry he (fun b _ hb => ⟨fun h' => hb (XXm_XX (XX_freeze h')), id⟩) (fun _ _ h => h)
 . rw [freeze_live] at h1
   exact ⟨i, h1, (freeze_wr l h i h2).1, h3⟩
theorem Step.refl (hh : HRel X ρ h w) : Step X ρ h w ρ h w := Step.grow (l := []) hh (Ext.refl _ w)
end
def SpecM (P : Program) (f : FuncId) (h : List Blk) (A : List AVal) (r : AVal) (h' : List Blk) : Prop :=
 ∀ (X : Nat → Prop) (w : World) (ρ : Nat → Option Nat) (vs : List Value), (∀ b, X b → b < w.heap.size) → HRel X ρ h w → RepL w (XX X ρ h) ρ vs A →
   CallsX P f vs.toArray w fun v w' => ∃ ρ', Step X ρ h w ρ' h' w' ∧ Rep w' (XX X ρ' h') ρ' v r
def fz (r : Option Nat) : Fence := { Fence.wide with round := r }
def SeqSp (P : Program) (gf : FuncId) (A : List AVal) (n : Nat) (xs : Nat → List AVal) : Prop :=
 (∀ args w, (callFunc gf args).run P w = .ok (.enter gf args) w) ∧
 ∀ (X : Nat → Prop) (w : World) (vs : List Value) (l : Nat) (J : Nat → (Nat → Prop) → World → Prop), (∀ b, X b → b < w.heap.size) → RepL w X noρ vs A →
   (∀ i Z W W', J i Z W → Ext (fun _ => False) W W' → J i Z W') →
   (∀ i Z W us, i < n → J i Z W → (∀ b, Z b → b < W.heap.size) → RepL W Z noρ us (xs i) → YieldAt (fz none) 1 P l us.toArray W fun e W' =>
     e = .returned (.bool true) ∧ ∃ Z', J (i + 1) Z' W' ∧ (∀ b, Z' b → b < W'.heap.size) ∧ W.heap.size ≤ W'.heap.size ∧ ∀ ρ v x, Rep W Z ρ v x → Rep W' Z' ρ v x) →
   J 0 X w → CallsIn (fz none) 1 P gf (#[.func (.yield l) #[] #[]] ++ vs.toArray) w fun e W' => (∃ v, e = .returned v) ∧ ∃ Z, J n Z W'
def specs (P : Program) : SpecT := { fn := Spec P, mu := SpecM P, seq := SeqSp P, l := 0, n := 0, xs := fun _ => [], it := false, gc := true }
structure SpOK (P : Program) (Sp : SpecT) : Prop where
 fn : ∀ f A r, Sp.fn f A r → Spec P f A r
 mu : ∀ f h A r h', Sp.mu f h A r h' → SpecM P f h A r h'
 seq : ∀ f A n xs, Sp.seq f A n xs → SeqSp P f A n xs
 it : Sp.it = false → Sp.n = 0
end Eng
set_option linter.unusedSimpArgs false
set_option linter.unusedVariables false
namespace Eng
open Go
section
variable {P : Program} {T : Ty} {w w0 : World} {X : Nat → Prop} {ρ : Nat → Option Nat} {h : List Blk}
theorem outs_trees {Y Z : Nat → Prop} {N : List Nat} {vs : List Value} {xs : List AVal} (ho : Outs w0 w Y N vs xs) (hZ : ∀ b, Z b → b < w0.heap.size) (hZY : ∀ b, Z b → Y b) :
   RepL w Z noρ vs (noNewL xs) := by
 induction ho with
 | nil => exact .nil
 | tree v x h _ ih =>
   refine .cons ?_ ih
   cases x <;> first | exact h.weaken hZY | cases h
 | new m n sz cap b us cs hb hb' hn hr ht ht' hu _ ih =>
   exact .cons ((hu.weaken hZY).lst (fun h' => by have := hZ b h'; omega) hb' hr hn) ih
 | new0 m sz a _ ih => exact .cons (.lst0 _ _ _) ih
theorem out_trees {Xc Z : Nat → Prop} {v : Value} {r : AVal} (ho : OutR w0 w Xc v r) (hZ : ∀ b, Z b → b < w0.heap.size) (hZY : ∀ b, Z b → Xc b) : Rep w Z noρ v (noNew r) := by
 rcases ho with ⟨N, vs, xs, rfl, rfl, _, ho⟩ | ⟨N, _, ho⟩
 . exact (outs_trees ho hZ (fun b hb => .inl (hZY b hb))).tup
 . have := outs_trees ho hZ (fun b hb => .inl (hZY b hb))
   cases this with
   | cons h1 _ =>
     cases r <;> try (exact h1)
     rename_i xs
     cases ho with
     | tree _ _ h _ => 
       obtain ⟨us, rfl, hu⟩ := h.tup_inv
       refine RepL.tup ?_
       have : ∀ {us : List Value} {xs : List AVal}, RepL w (fun b => Xc b ∨ b ∈ N) noρ us xs → RepL w Z noρ us (noNewL xs) := by
         intro us xs hu
         induction hu with
         | nil => exact .nil
         | cons h _ ih =>
           refine .cons ?_ ih
           rename_i v x vs xs _
           cases x <;> first | exact h.weaken (fun b hb => .inl (hZY b hb)) | cases h
       exact this hu
theorem noNew_flat {r : AVal} (hr : r.flat = true) : noNew r = r := by
 have h1 : ∀ x : AVal, x.plain = true → noNew1 x = x := by intro x hx; cases x <;> first | rfl | (simp [AVal.plain] at hx)
 cases r <;> first
   | rfl
   | (simp [AVal.flat, AVal.plain] at hr; done)
   | skip
 rename_i vs
 simp only [noNew]
 congr 1
 simp only [AVal.flat] at hr
 induction vs with
 | nil => rfl
 | cons x vs ih =>
   simp only [flatL, Bool.and_eq_true] at hr
   simp only [noNewL]
   rw [ih hr.2]
   congr 1
   cases x <;> first | rfl | (simp [AVal.plain] at hr)
theorem HRel.lt (hh : HRel X ρ h w) (hold : ∀ b, X b → b < w.heap.size) {b : Nat} (hb : XX X ρ h b) : b < w.heap.size := by
 rcases hb with hb | ⟨i, h1, h2, h3⟩
 . exact hold b hb
 . rcases hh.blk i h1 with ⟨b', vs, h4, h5, _⟩ | ⟨h4, _⟩
   . rw [h4] at h3; cases h3; exact h5
   . rw [h4] at h3; cases h3
theorem callee_run (hT : TyOk P T) {o : Oper} {c : Call} (hop : o.op = .call c) {a : Act} {e : Operand → AVal} (he : ∀ x, Rep w X ρ (a.eval x) (e x)) {f : FuncId} {args : List AVal} (hc : callee T e c = some (f, args)) :
   ∃ vs, RepL w X ρ vs args ∧ ∀ (next : Act → World → Prop) (Q : Exit → Act → World → Prop), CallsX P f vs.toArray w (fun v w' => next (a.put o.dst v) w') → o.wp P a w next Q := by
 obtain ⟨dst, op, ty, pos, after, guard⟩ := o
 subst hop
 have fin : ∀ (vs : List Value) (next : Act → World → Prop) (Q : Exit → Act → World → Prop), (execOp a.eval { dst := dst, op := .call c, type := ty, pos := pos, after := after, guard := guard }).run P w = (callFunc f vs.toArray).run P w →
     CallsX P f vs.toArray w (fun v w' => next (a.put dst v) w') → ({ dst := dst, op := .call c, type := ty, pos := pos, after := after, guard := guard } : Oper).wp P a w next Q := by
   intro vs next Q h1 h2
   unfold Oper.wp
   rw [h1]
   unfold CallsX at h2
   split at h2
   . rename_i v w' hr; rw [hr]; exact h2
   . rename_i g as w' hr
     rw [hr]
     exact h2.mono fun e w'' ⟨v, he, hR⟩ => by subst he; exact hR
   . exact h2.elim
 obtain ⟨cal, cargs, cty⟩ := c
 unfold callee at hc
 cases cal with
 | value g =>
   simp only at hc
   have hg := he g
   generalize e g = y at hc hg
   split at hc <;> try (cases hc; done)
   rename_i f' first cap
   cases hc
   obtain ⟨us, ws, hv, hu, hw⟩ := hg.fn_inv
   refine ⟨us ++ cargs.toList.map a.eval ++ ws, ?_, ?_⟩
   . simp only [app_eq]
     rw [List.append_assoc]
     exact hu.append ((RepL.mapE he cargs.toList).append hw)
   . intro next Q hcx
     refine fin _ next Q ?_ hcx
     simp only [execOp, resolve, hv, Deferred.ofValue, Sem.run_bind, Sem.run_pure, Result.andThen_ok, invoke]
     congr 2
     apply Array.ext'; simp
 | invoke r name =>
   simp only at hc
   have hg := he r
   generalize e r = y at hc hg
   split at hc <;> try (cases hc; done)
   rename_i t x
   cases hm : T.meth t name with
   | none => rw [hm] at hc; simp at hc
   | some g =>
     rw [hm] at hc
     simp at hc
     obtain ⟨rfl, rfl⟩ := hc
     obtain ⟨u, hv, hu⟩ := hg.ifc_inv
     have hmr := (hT.meth t name g hm u w).1
     refine ⟨u :: cargs.toList.map a.eval, .cons hu (RepL.mapE he cargs.toList), ?_⟩
     intro next Q hcx
     refine fin _ next Q ?_ hcx
     simp only [execOp, resolve, hv, Sem.run_bind, Sem.run_pure, Result.andThen_ok, invoke]
     have h0 : (#[Value.iface t u] ++ Array.map a.eval cargs)[0]? = some (.iface t u) := by rw [Array.getElem?_append_left (by simp)]; rfl
     simp only [h0, Sem.run_bind, Sem.run_pure, Result.andThen_ok, callMethod, run_program, hmr]
     congr 2
     apply Array.ext'; simp
     exact List.take_of_length_le (by simp)
 | builtin b => simp at hc
theorem call_spec (hh : HRel X ρ h w) (hold : ∀ b, X b → b < w.heap.size) {f : FuncId} {args args' : List AVal} {vs : List Value} {r : AVal} {R : Value → World → Prop}
   (hv : RepL w (XX X ρ h) ρ vs args) (hs : snapL (snap h depth) args = some args') (hsp : Spec P f args' r)
   (hR : ∀ v w', Ext (fun _ => False) w w' → OutR w w' (XXm X ρ h (idsL (ids h depth) args)) v r → R v w') : CallsX P f vs.toArray w R := by
 have hv' : RepL w (XXm X ρ h (idsL (ids h depth) args)) noρ vs args' :=
   snapL_sound (f := snap h depth) (g := ids h depth) (fun x y v h1 h2 h3 => snap_sound hh depth x y v _ h1 h2 h3) args args' vs hs hv (fun _ h => h)
 exact (hsp _ w vs (fun b hb => hh.lt hold (XXm_XX hb)) hv').mono fun v w' ⟨h1, h2⟩ => hR v w' h1 h2
theorem value_wp {o : Oper} {a : Act} {v : Value} {w' : World} {next : Act → World → Prop} {Q : Exit → Act → World → Prop} (h1 : (execOp a.eval o).run P w = .ok (.value v) w') (h2 : next (a.put o.dst v) w') : o.wp P a w next Q := by
 unfold Oper.wp; rw [h1]; exact h2
theorem HRel.read (hh : HRel X ρ h w) {id blk : Nat} (hl : (hget h id).live = true) (hρ : ρ id = some blk) :
   ∃ vs, blk < w.heap.size ∧ w.rangeAt blk 0 vs ∧ w.there blk 0 vs.length ∧ RepL w (XX X ρ h) ρ vs (hget h id).cells := by
 rcases hh.blk id hl with ⟨b, us, hb, hlt, hX, hra, hth, hus⟩ | ⟨hn, _⟩
 . rw [hb] at hρ; cases hρ; exact ⟨us, hlt, hra, hth, hus⟩
 . rw [hn] at hρ; cases hρ
end
end Eng
set_option linter.unusedSimpArgs false
set_option linter.unusedVariables false
namespace Eng
open Go
structure HRelZ (X Z : Nat → Prop) (ρ : Nat → Option Nat) (h : List Blk) (w : World) : Prop where
 inj : ∀ i j b, (hget h i).live = true → (hget h j).live = true → ρ i = some b → ρ j = some b → i = j
 blk : ∀ i, (hget h i).live = true → (∃ b vs, ρ i = some b ∧ b < w.heap.size ∧ ¬ X b ∧ w.rangeAt b 0 vs ∧ w.there b 0 vs.length ∧ RepL w Z ρ vs (hget h i).cells) ∨ (ρ i = none ∧ (hget h i).cells = [])
 dom : ∀ i, h.length ≤ i → ρ i = none
 res : ∀ i d, hget h i = mark d → ρ i = none
section
variable {P : Program} {T : Ty} {w w' : World} {X Z : Nat → Prop} {ρ : Nat → Option Nat} {h : List Blk}
theorem HRel.toZ (hh : HRel X ρ h w) (he : Ext (fun _ => False) w w') : HRelZ X (fun c => XX X ρ h c ∨ w.heap.size ≤ c) ρ h w' := by
 refine ⟨hh.inj, fun i hi => ?_, hh.dom, hh.res⟩
 rcases hh.blk i hi with ⟨b, vs, h1, h2, h3, h4, h5, h6⟩ | h'
 . refine .inl ⟨b, vs, h1, Nat.lt_of_lt_of_le h2 he.size, h3, rangeAt_ext he h2 id h4, he.there _ _ _ h5, h6.carry he (fun c hc h => ⟨?_, id⟩) (fun _ _ h => h)⟩
   rintro (h' | h')
   . exact h h'
   . omega
 . exact .inr h'
theorem HRelZ.toH (hh : HRelZ X Z ρ h w) (hZ : ∀ c, XX X ρ h c → Z c) : HRel X ρ h w := by
 refine ⟨hh.inj, fun i hi => ?_, hh.dom, hh.res⟩
 rcases hh.blk i hi with ⟨b, vs, h1, h2, h3, h4, h5, h6⟩ | h'
 . exact .inl ⟨b, vs, h1, h2, h3, h4, h5, h6.weaken hZ⟩
 . exact .inr h'
def upd (ρ : Nat → Option Nat) (i b : Nat) : Nat → Option Nat := fun j => if j = i then some b else ρ j
theorem hget_app (h : List Blk) (B : Blk) (i : Nat) : hget (h ++ [B]) i = if i = h.length then B else hget h i := by
 split
 . rename_i e; subst e; exact hget_append_len h B
 . rename_i e
   rcases Nat.lt_or_ge i h.length with hi | hi
   . exact hget_append_lt h [B] i hi
   . rw [hget_of_ge _ _ (by simp; omega), hget_of_ge h i hi]
theorem HRelZ.new (hh : HRelZ X Z ρ h w) {b : Nat} {us : List Value} {cs : List AVal} (hb : b < w.heap.size) (hX : ¬ X b) (hf : ∀ i, (hget h i).live = true → ρ i ≠ some b) (hra : w.rangeAt b 0 us) (hth : w.there b 0 us.length)
   (hus : RepL w Z ρ us cs) : HRelZ X Z (upd ρ h.length b) (h ++ [⟨true, true, cs⟩]) w := by
 have hup : ∀ i c, ρ i = some c → upd ρ h.length b i = some c := by
   intro i c hi
   unfold upd
   split
   . rename_i e; subst e; rw [hh.dom _ (Nat.le_refl _)] at hi; cases hi
   . exact hi
 have old : ∀ i, i ≠ h.length → upd ρ h.length b i = ρ i := fun i hi => by unfold upd; rw [if_neg hi]
 refine ⟨fun i j c hi hj h1 h2 => ?_, fun i hi => ?_, fun i hi => ?_, fun i d hm => ?_⟩
 . rw [hget_app] at hi hj
   by_cases ei : i = h.length <;> by_cases ej : j = h.length
   . omega
   . rw [if_neg ej] at hj
     rw [old j ej] at h2
     subst ei
     simp [upd] at h1
     subst h1
     exact absurd h2 (hf j hj)
   . rw [if_neg ei] at hi
     rw [old i ei] at h1
     subst ej
     simp [upd] at h2
     subst h2
     exact absurd h1 (hf i hi)
   . rw [if_neg ei] at hi
     rw [if_neg ej] at hj
     rw [old i ei] at h1
     rw [old j ej] at h2
     exact hh.inj i j c hi hj h1 h2
 . rw [hget_app] at hi ⊢
   by_cases ei : i = h.length
   . rw [if_pos ei]
     subst ei
     exact .inl ⟨b, us, by simp [upd], hb, hX, hra, hth, hus.carry (Ext.refl (fun _ => False) w) (fun _ _ h => ⟨h, id⟩) hup⟩
   . rw [if_neg ei] at hi ⊢
     rw [old i ei]
     rcases hh.blk i hi with ⟨b', vs, h1, h2, h3, h4, h5, h6⟩ | h'
     . exact .inl ⟨b', vs, h1, h2, h3, h4, h5, h6.carry (Ext.refl (fun _ => False) w) (fun _ _ h => ⟨h, id⟩) hup⟩
     . exact .inr h'
 . simp at hi
   rw [old i (by omega)]
   exact hh.dom i (by omega)
 . rw [hget_app] at hm
   by_cases ei : i = h.length
   . rw [if_pos ei] at hm; cases hm
   . rw [if_neg ei] at hm; rw [old i ei]; exact hh.res i d hm
theorem HRelZ.new0 (hh : HRelZ X Z ρ h w) : HRelZ X Z ρ (h ++ [⟨true, true, []⟩]) w := by
 have hd := hh.dom h.length (Nat.le_refl _)
 refine ⟨fun i j c hi hj h1 h2 => ?_, fun i hi => ?_, fun i hi => hh.dom i (by simp at hi; omega), fun i d hm => by
   rw [hget_app] at hm
   by_cases ei : i = h.length
   . rw [if_pos ei] at hm; cases hm
   . rw [if_neg ei] at hm; exact hh.res i d hm⟩
 . rw [hget_app] at hi hj
   by_cases ei : i = h.length
   . subst ei; rw [hd] at h1; cases h1
   . by_cases ej : j = h.length
     . subst ej; rw [hd] at h2; cases h2
     . rw [if_neg ei] at hi; rw [if_neg ej] at hj
       exact hh.inj i j c hi hj h1 h2
 . rw [hget_app] at hi ⊢
   by_cases ei : i = h.length
   . rw [if_pos ei]; subst ei; exact .inr ⟨hd, rfl⟩
   . rw [if_neg ei] at hi ⊢; exact hh.blk i hi
theorem XX_new {b c : Nat} {cs : List AVal} (hd : ρ h.length = none) (hc : XX X (upd ρ h.length b) (h ++ [⟨true, true, cs⟩]) c) : XX X ρ h c ∨ c = b := by
 rcases hc with hc | ⟨i, h1, h2, h3⟩
 . exact .inl (.inl hc)
 . rw [hget_app] at h1 h2
   by_cases ei : i = h.length
   . subst ei; simp [upd] at h3; exact .inr h3.symm
   . rw [if_neg ei] at h1 h2
     unfold upd at h3
     rw [if_neg ei] at h3
     exact .inl (.inr ⟨i, h1, h2, h3⟩)
theorem XX_new0 {c : Nat} (hd : ρ h.length = none) (hc : XX X ρ (h ++ [⟨true, true, []⟩]) c) : XX X ρ h c := by
 rcases hc with hc | ⟨i, h1, h2, h3⟩
 . exact .inl hc
 . rw [hget_app] at h1 h2
   by_cases ei : i = h.length
   . subst ei; rw [hd] at h3; cases h3
   . rw [if_neg ei] at h1 h2; exact .inr ⟨i, h1, h2, h3⟩
theorem upd_le (hd : ρ h.length = none) (b : Nat) : ∀ i c, ρ i = some c → upd ρ h.length b i = some c := by
 intro i c hi
 unfold upd
 split
 . rename_i e; subst e; rw [hd] at hi; cases hi
 . exact hi
theorem adoptL_sound {w0 : World} : ∀ {N : List Nat} {vs : List Value} {xs : List AVal} {ρ : Nat → Option Nat} {h : List Blk}, Outs w0 w Z N vs xs → HRelZ X Z ρ h w → (∀ c, XX X ρ h c → Z c) → (∀ b, b ∈ N → Z b) → N.Nodup →
     (∀ b, b ∈ N → ∀ i, (hget h i).live = true → ρ i ≠ some b) → (∀ b, X b → b < w0.heap.size) →
   ∃ ρ', HRelZ X Z ρ' (adoptL h xs).2 w ∧ (∀ i c, ρ i = some c → ρ' i = some c) ∧ RepL w Z ρ' vs (adoptL h xs).1 ∧ (∀ c, XX X ρ' (adoptL h xs).2 c → Z c) ∧
     (∀ i b, (hget (adoptL h xs).2 i).live = true → (hget (adoptL h xs).2 i).wr = true → ρ' i = some b → w0.heap.size ≤ b ∨ ((hget h i).live = true ∧ (hget h i).wr = true ∧ ρ i = some b)) := by
 intro N vs xs ρ h ho
 induction ho generalizing ρ h with
 | nil => intro hh hXZ _ _ _ _; exact ⟨ρ, hh, fun _ _ h => h, .nil, hXZ, fun i b h1 h2 h3 => .inr ⟨h1, h2, h3⟩⟩
 | tree v x hx hs ih =>
   intro hh hXZ hN hnd hf hX
   obtain ⟨ρ', h1, h2, h3, h4, h5⟩ := ih hh hXZ hN hnd hf hX
   have hrx : Rep w Z ρ' v x := hx.up
   have e : ∀ xs', adoptL h (x :: xs') = (x :: (adoptL h xs').1, (adoptL h xs').2) := by
     intro xs'
     cases x <;> first | rfl | cases hx
   rw [e]
   exact ⟨ρ', h1, h2, .cons hrx h3, h4, h5⟩
 | new m n sz cap b us cs hb hb' hn hr ht ht' hu hs ih =>
   intro hh hXZ hN hnd hf hX
   have hd := hh.dom h.length (Nat.le_refl _)
   have hXb : ¬ X b := fun h' => by have := hX b h'; omega
   have hnew := hh.new hb' hXb (hf b (by simp)) hr ht (hu.up)
   obtain ⟨hbn, hnd'⟩ := List.nodup_cons.1 hnd
   obtain ⟨ρ', h1, h2, h3, h4, h5⟩ := ih hnew (fun c hc => by rcases XX_new hd hc with h' | rfl; exact hXZ c h'; exact hN _ (by simp)) (fun c hc => hN c (by simp [hc])) hnd' (fun c hc i hi => by
     rw [hget_app] at hi
     unfold upd
     split
     . intro e; cases e; exact hbn hc
     . rename_i ei; rw [if_neg ei] at hi; exact hf c (by simp [hc]) i hi) hX
   refine ⟨ρ', h1, fun i c hi => h2 i c (upd_le hd b i c hi), .cons (.osl m _ 0 n sz b cap (h2 _ _ (by simp [upd])) hn ht') h3, h4, fun i c hi1 hi2 hi3 => ?_⟩
   rcases h5 i c hi1 hi2 hi3 with h' | ⟨h6, h7, h8⟩
   . exact .inl h'
   . rw [hget_app] at h6 h7
     by_cases ei : i = h.length
     . subst ei; simp [upd] at h8; subst h8; exact .inl hb
     . rw [if_neg ei] at h6 h7
       unfold upd at h8
       rw [if_neg ei] at h8
       exact .inr ⟨h6, h7, h8⟩
 | new0 m sz a hs ih =>
   intro hh hXZ hN hnd hf hX
   have hd := hh.dom h.length (Nat.le_refl _)
   obtain ⟨ρ', h1, h2, h3, h4, h5⟩ := ih hh.new0 (fun c hc => hXZ c (XX_new0 hd hc)) hN hnd (fun c hc i hi => by
     rw [hget_app] at hi
     by_cases ei : i = h.length
     . subst ei; rw [hd]; simp
     . rw [if_neg ei] at hi; exact hf c hc i hi) hX
   refine ⟨ρ', h1, h2, .cons (.osl0 m _ 0 sz a) h3, h4, fun i c hi1 hi2 hi3 => ?_⟩
   rcases h5 i c hi1 hi2 hi3 with h' | ⟨h6, h7, h8⟩
   . exact .inl h'
   . rw [hget_app] at h6 h7
     by_cases ei : i = h.length
     . subst ei; rw [hd] at h8; cases h8
     . rw [if_neg ei] at h6 h7
       exact .inr ⟨h6, h7, h8⟩
theorem HRelZ.weaken {Z' : Nat → Prop} (hh : HRelZ X Z ρ h w) (hZ : ∀ c, Z' c → Z c) : HRelZ X Z' ρ h w := by
 refine ⟨hh.inj, fun i hi => ?_, hh.dom, hh.res⟩
 rcases hh.blk i hi with ⟨b, vs, h1, h2, h3, h4, h5, h6⟩ | h'
 . exact .inl ⟨b, vs, h1, h2, h3, h4, h5, h6.weaken hZ⟩
 . exact .inr h'
theorem HRelZ.freeze (hh : HRelZ X Z ρ h w) (l : List Nat) : HRelZ X Z ρ (Eng.freeze h l) w := by
 refine ⟨fun i j b h1 h2 => hh.inj i j b (by rwa [freeze_live] at h1) (by rwa [freeze_live] at h2), fun i hi => ?_, fun i hi => hh.dom i (by rwa [freeze_length] at hi), fun i d hm => hh.res i d (freeze_mark hm)⟩
 rw [freeze_live] at hi
 rw [freeze_cells]
 exact hh.blk i hi
theorem out_tup {w0 : World} {Xc : Nat → Prop} {v : Value} {xs : List AVal} (ho : OutR w0 w Xc v (.tup xs)) :
   ∃ N vs, v = .tuple vs.toArray ∧ N.Nodup ∧ Outs w0 w (fun b => Xc b ∨ b ∈ N) N vs xs := by
 rcases ho with ⟨N, vs, xs', rfl, he, hn, ho⟩ | ⟨N, hn, ho⟩
 . cases he; exact ⟨N, vs, rfl, hn, ho⟩
 . cases ho with
   | tree _ _ hr hs =>
     cases hs
     obtain ⟨us, rfl, hu⟩ := hr.tup_inv
     refine ⟨[], us, rfl, .nil, ?_⟩
     clear hr
     induction hu with
     | nil => exact .nil
     | cons h1 _ ih => exact .tree _ _ h1 ih
theorem out_one {w0 : World} {Xc : Nat → Prop} {v : Value} {r : AVal} (hr : ∀ xs, r ≠ .tup xs) (ho : OutR w0 w Xc v r) :
   ∃ N, N.Nodup ∧ Outs w0 w (fun b => Xc b ∨ b ∈ N) N [v] [r] := by
 rcases ho with ⟨N, vs, xs', rfl, he, hn, ho⟩ | ho
 . exact absurd he (hr _)
 . exact ho
theorem Outs.mem {w0 : World} {N : List Nat} {vs : List Value} {xs : List AVal} (ho : Outs w0 w Z N vs xs) : ∀ b, b ∈ N → w0.heap.size ≤ b := by
 induction ho with
 | nil => intro b hb; cases hb
 | tree v x hx hs ih => exact ih
 | new m n sz cap b us cs hb hb' hn hr ht ht' hu hs ih =>
   intro c hc
   rcases List.mem_cons.1 hc with rfl | hc
   . exact hb
   . exact ih c hc
 | new0 m sz a hs ih => exact ih
theorem adoptL_dead : ∀ (xs : List AVal) (h : List Blk), Dead h (adoptL h xs).2
 | [], h => Dead.refl h
 | x :: vs, h => by
   cases x <;> simp only [adoptL] <;> first
     | exact adoptL_dead vs h
     | exact (Dead.app h _).trans (adoptL_dead vs _)
theorem adopt_step {v : Value} {r : AVal} {L : List Nat} (hh : HRel X ρ h w) (hold : ∀ b, X b → b < w.heap.size) (he : Ext (fun _ => False) w w') (ho : OutR w w' (XXm X ρ h L) v r) :
   ∃ ρ', Step X ρ h w ρ' (adopt (freeze h L) r).2 w' ∧ Rep w' (XX X ρ' (adopt (freeze h L) r).2) ρ' v (adopt (freeze h L) r).1 := by
 have main : ∀ (N : List Nat) (vs : List Value) (xs : List AVal), N.Nodup → Outs w w' (fun b => XXm X ρ h L b ∨ b ∈ N) N vs xs →
     ∃ ρ', Step X ρ h w ρ' (adoptL (Eng.freeze h L) xs).2 w' ∧ RepL w' (XX X ρ' (adoptL (Eng.freeze h L) xs).2) ρ' vs (adoptL (Eng.freeze h L) xs).1 := by
   intro N vs xs hnd ho
   have hN := ho.mem
   have hz : HRelZ X (fun b => XXm X ρ h L b ∨ b ∈ N) ρ (Eng.freeze h L) w' := ((hh.toZ he).weaken fun c hc => by
     rcases hc with hc | hc
     . exact .inl (XXm_XX hc)
     . exact .inr (hN c hc)).freeze L
   obtain ⟨ρ', h1, h2, h3, h4, h5⟩ := adoptL_sound ho hz (fun c hc => .inl (XX_freeze hc)) (fun b hb => .inr hb) hnd (fun b hb i hi => by
     rw [freeze_live] at hi
     intro e
     have := hN b hb
     rcases hh.blk i hi with ⟨b', _, h4, h5, _⟩ | ⟨h4, _⟩
     . rw [h4] at e; cases e; omega
     . rw [h4] at e; cases e) hold
   refine ⟨ρ', ⟨h1.toH h4, fun v x hr => ?_, he.mono fun _ h => h.elim, fun i b i1 i2 i3 => ?_, (Dead.freeze L h).trans (adoptL_dead xs _)⟩, h3.weaken h4⟩
   . refine hr.carry he (fun b hb hX => ⟨fun h' => ?_, id⟩) h2
     rcases h4 b h' with h' | h'
     . exact hX (XXm_XX h')
     . have := hN b h'; omega
   . rcases h5 i b i1 i2 i3 with h' | ⟨h6, h7, h8⟩
     . exact .inl h'
     . rw [freeze_live] at h6
       exact .inr ⟨i, h6, (freeze_wr L h i h7).1, h8⟩
 cases r with
 | tup xs =>
   obtain ⟨N, vs, rfl, hn, ho'⟩ := out_tup ho
   obtain ⟨ρ', h1, h2⟩ := main N vs xs hn ho'
   exact ⟨ρ', h1, h2.tup⟩
 | new m n sz cs =>
   obtain ⟨N, hn, ho'⟩ := out_one (by simp) ho
   obtain ⟨ρ', h1, h2⟩ := main N _ _ hn ho'
   refine ⟨ρ', h1, ?_⟩
   cases h2 with
   | cons h3 _ => exact h3
 | _ =>
   obtain ⟨N, hn, ho'⟩ := out_one (by simp) ho
   obtain ⟨ρ', h1, h2⟩ := main N _ _ hn ho'
   refine ⟨ρ', h1, ?_⟩
   cases h2 with
   | cons h3 _ => exact h3
theorem new_step {c : Array Value} {t : TypeId} {cs : List AVal} (hh : HRel X ρ h w) (hold : ∀ b, X b → b < w.heap.size) (hr : RepL w (XX X ρ h) ρ c.toList cs) :
   Step X ρ h w (upd ρ h.length w.heap.size) (h ++ [⟨true, true, cs⟩]) (w.alloc (.cells c t)) ∧ (w.alloc (.cells c t)).there w.heap.size 0 c.size ∧ (w.alloc (.cells c t)).rangeAt w.heap.size 0 c.toList := by
 have hb : (w.alloc (.cells c t)).heap[w.heap.size]? = some (.cells c t) := by show (w.heap.push _)[w.heap.size]? = _; simp
 have hra : (w.alloc (.cells c t)).rangeAt w.heap.size 0 c.toList := by
   intro j v hj
   rw [Nat.zero_add]
   simp only [World.cell?, hb]
   simpa using hj
 have hth : (w.alloc (.cells c t)).there w.heap.size 0 c.size := by
   intro j hj
   rw [Nat.zero_add]
   refine ⟨by simp only [World.cell?, hb]; simp [hj], by simp only [World.frozen?, hb]; simp⟩
 have hd := hh.dom h.length (Nat.le_refl _)
 have he : Ext (fun _ => False) w (w.alloc (.cells c t)) := Ext.alloc _ w _
 have hz := hh.toZ he
 have hus : RepL (w.alloc (.cells c t)) (fun c => XX X ρ h c ∨ w.heap.size ≤ c) ρ c.toList cs := hr.carry he (fun b hb h' => ⟨fun h2 => by rcases h2 with h2 | h2; exact h' h2; omega, id⟩) (fun _ _ h => h)
 have hn := hz.new (b := w.heap.size) (us := c.toList) (cs := cs) (by simp) (fun h' => by have := hold _ h'; omega) (fun i hi e => by
   rcases hh.blk i hi with ⟨b', _, h4, h5, _⟩ | ⟨h4, _⟩
   . rw [h4] at e; cases e; omega
   . rw [h4] at e; cases e) hra (by simpa using hth) hus
 refine ⟨⟨hn.toH fun c hc => ?_, fun v x hr => ?_, he.mono fun _ h => h.elim, fun i b i1 i2 i3 => ?_, Dead.app h _⟩, hth, hra⟩
 . rcases XX_new hd hc with h' | rfl
   . exact .inl h'
   . exact .inr (Nat.le_refl _)
 . refine hr.carry he (fun b hb hX => ⟨fun h' => ?_, id⟩) (upd_le hd _)
   rcases XX_new hd h' with h' | rfl
   . exact hX h'
   . omega
 . rw [hget_app] at i1 i2
   by_cases ei : i = h.length
   . subst ei; simp [upd] at i3; subst i3; exact .inl (Nat.le_refl _)
   . rw [if_neg ei] at i1 i2
     unfold upd at i3
     rw [if_neg ei] at i3
     exact .inr ⟨i, i1, i2, i3⟩
end
end Eng
set_option linter.unusedSimpArgs false
set_option linter.unusedVariables false
namespace Eng
open Go
section
variable {P : Program} {T : Ty} {w w' : World} {X Z : Nat → Prop} {ρ : Nat → Option Nat} {h : List Blk}
theorem reps_length (z : List AVal) : ∀ n, (reps n z).length = n * z.length
 | 0 => by simp [reps]
 | n + 1 => by simp [reps, app_eq, reps_length z n, Nat.add_mul, Nat.add_comm]
theorem RepL.reps {z : List Value} {zs : List AVal} (hz : RepL w X ρ z zs) : ∀ n, RepL w X ρ (List.replicate n z).flatten (reps n zs)
 | 0 => .nil
 | n + 1 => by
   simp only [List.replicate_succ, List.flatten_cons, Eng.reps, app_eq]
   exact hz.append (RepL.reps hz n)
theorem zeros_eq (z : Array Value) (n : Nat) : ((Array.range (n * z.size)).map (fun i => z[i % z.size]!)).toList = (List.replicate n z.toList).flatten := by
 rcases Nat.eq_zero_or_pos z.size with h0 | h0
 . have : z.toList = [] := by simpa using h0
   simp [h0, this]
 . apply List.ext_getElem?
   intro i
   simp only [Array.toList_map, Array.toList_range, List.getElem?_map, List.getElem?_range]
   by_cases hi : i < n * z.size
   . have h1 : (List.range (n * z.size))[i]? = some i := by simp [hi]
     rw [h1]
     have h2 : ∀ (n i : Nat), i < n * z.size → ((List.replicate n z.toList).flatten)[i]? = some (z[i % z.size]'(Nat.mod_lt _ h0)) := by
       intro n
       induction n with
       | zero => intro i hi; simp at hi
       | succ n ih =>
         intro i hi
         simp only [List.replicate_succ, List.flatten_cons]
         by_cases hlt : i < z.size
         . rw [List.getElem?_append_left (by simpa using hlt)]
           simp [Nat.mod_eq_of_lt hlt, hlt]
         . rw [List.getElem?_append_right (by simp; omega)]
           have := ih (i - z.size) (by rw [Nat.add_mul] at hi; omega)
           simp only [Array.length_toList]
           rw [this]
           congr 2
           exact (Nat.mod_eq_sub_mod (by omega)).symm
     rw [h2 n i hi]
     simp [Nat.mod_lt _ h0]
   . rw [List.getElem?_eq_none (by simp; omega), List.getElem?_eq_none (by simp; omega)]
     rfl
theorem new_tree {c : Array Value} {t : TypeId} {cs : List AVal} (hh : HRel X ρ h w) (hold : ∀ b, X b → b < w.heap.size) (hr : RepL w (XX X ρ h) noρ c.toList cs) :
   ¬ XX X ρ h w.heap.size ∧ w.heap.size < (w.alloc (.cells c t)).heap.size ∧ (w.alloc (.cells c t)).rangeAt w.heap.size 0 c.toList ∧ RepL (w.alloc (.cells c t)) (XX X ρ h) noρ c.toList cs := by
 have hb : (w.alloc (.cells c t)).heap[w.heap.size]? = some (.cells c t) := by show (w.heap.push _)[w.heap.size]? = _; simp
 refine ⟨fun h' => by have := hh.lt hold h'; omega, by simp, fun j v hj => ?_, hr.carry (Ext.alloc (fun _ => False) w _) (fun b _ h => ⟨h, id⟩) (fun _ _ h => h)⟩
 rw [Nat.zero_add]
 simp only [World.cell?, hb]
 simpa using hj
theorem rowK_inv {sz : Nat} {x : AVal} {v : Value} {K : Bool → Nat → List AVal → Prop} (hh : HRel X ρ h w) (hv : Rep w (XX X ρ h) ρ v x) (hk : rowK Ar.real h sz x K) :
   ∃ m n ys us a cap, K m n ys ∧ RepL w (XX X ρ h) ρ us ys ∧ us.length = n * sz ∧ v = .slice a n cap ∧ (∀ b, a = some b → us = [] ∨ ∃ blk o, b = ⟨blk, o, none⟩ ∧ w.rangeAt blk o us) ∧ (a = none → n = 0) ∧ (∀ m' n' cs', x = .lst m' n' cs' → RepL w (XX X ρ h) noρ us ys) := by
 unfold rowK at hk
 split at hk
 . have := hv.v_inv
   subst this
   exact ⟨false, 0, [], [], none, 0, hk, .nil, by simp, rfl, (fun b hb => by cases hb), fun _ => rfl, fun _ _ _ e => by cases e⟩
 . rename_i m n cs
   have hlen : cs.length = n * sz ∧ K m n cs := by
     cases m
     . obtain ⟨h1, h2⟩ := onlyIf_inv hk
       exact ⟨by simpa using h1, h2⟩
     . cases hk with
       | mk h1 h2 => exact ⟨by simpa [Ar.real] using h1, h2⟩
   rcases hv.lst_inv with ⟨blk, off, cap, us, rfl, h1, h2, h3, h4, h5⟩ | ⟨rfl, rfl, a, cap, rfl⟩
   . exact ⟨m, n, cs, us, _, cap, hlen.2, h5.up, by rw [h5.length]; exact hlen.1, rfl, (fun b hb => by cases hb; exact .inr ⟨blk, off, rfl, h3⟩), (fun h => by cases h), fun _ _ _ _ => h5⟩
   . exact ⟨m, 0, [], [], a, cap, hlen.2, .nil, by simp, rfl, fun b hb => .inl rfl, fun _ => rfl, fun _ _ _ _ => .nil⟩
 . rename_i id off n sz'
   obtain ⟨hl, hk⟩ := onlyIf_inv hk
   obtain ⟨cs, hcs, hk⟩ := optK_inv hk
   rcases hv.osl_inv with ⟨blk, cap, rfl, hρ, hn, ht⟩ | ⟨rfl, a, rfl⟩
   . obtain ⟨us, hlt, hra, hth, hus⟩ := hh.read hl hρ
     obtain ⟨hlen, hsub⟩ := hus.sub hcs
     have hra' := range_sub (k := off) (n := n * sz) hra
     rw [Nat.zero_add] at hra'
     exact ⟨false, n, cs, _, _, cap, hk, hsub, by simp; omega, rfl, (fun b hb => by cases hb; exact .inr ⟨blk, off, rfl, hra'⟩), (fun h => by cases h), fun _ _ _ e => by cases e⟩
   . obtain ⟨_, h2⟩ := lsub_spec _ _ _ _ hcs
     simp at h2
     subst h2
     exact ⟨false, 0, [], [], a, 0, hk, .nil, by simp, rfl, fun b hb => .inl rfl, fun _ => rfl, fun _ _ _ e => by cases e⟩
 . exact hk.elim
theorem first_cells {a : Option Addr} {n cap sz : Nat} {us : List Value} (hl : us.length = n * sz) (ha : ∀ b, a = some b → us = [] ∨ ∃ blk o, b = ⟨blk, o, none⟩ ∧ w.rangeAt blk o us) (hn : a = none → n = 0) (w1 : World) (hw : ∀ p, w1.cell? p = w.cell? p) :
   (Builtin.firstCells sz n (.slice a n cap)).run P w1 = .ok us.toArray w1 := by
 cases a with
 | none => have := hn rfl; subst this; have : us = [] := by simpa using hl
           subst this; simp [Builtin.firstCells]
 | some b =>
   simp only [Builtin.firstCells]
   rw [← hl]
   refine run_loadCells_list (P := P) w1 b us fun j v hj => ?_
   rcases ha b rfl with rfl | ⟨blk, o, rfl, hr⟩
   . simp at hj
   . rw [hw, add_mid]; exact hr j v hj
theorem run_append_new (hT : TyOk P T) {argTypes : Array TypeId} {ty t el : TypeId} {sb xb : Option Addr} {sn sc xn xc : Nat} {olds news : List Value}
   (h0 : argTypes.toList.head? = some t) (ht : T.und t = .slice el) (hno : T.und el ≠ .other) (hok : appOk T argTypes = true) (hb1 : 1 ≤ T.bytes el)
   (hol : olds.length = sn * T.size el) (hob : ∀ b, sb = some b → olds = [] ∨ ∃ blk o, b = ⟨blk, o, none⟩ ∧ w.rangeAt blk o olds) (hon : sb = none → sn = 0)
   (hnl : news.length = xn * T.size el) (hnb : ∀ b, xb = some b → news = [] ∨ ∃ blk o, b = ⟨blk, o, none⟩ ∧ w.rangeAt blk o news) (hnn : xb = none → xn = 0)
   (hneed : sc < sn + xn) (hroom : Builtin.nextslicecap (sn + xn) sc * T.bytes el ≤ 2 ^ 48) (hsmall : sn + xn ≤ 2 ^ 62) :
   ∃ cap rest, sn + xn ≤ cap ∧ rest.length = (cap - (sn + xn)) * T.size el ∧
     (Builtin.append_ argTypes ty #[.slice sb sn sc, .slice xb xn xc]).run P w = .ok (.slice (some ⟨w.heap.size, 0, none⟩) (sn + xn) cap) (w.drew.alloc (.cells (olds ++ news ++ rest).toArray el)) := by
 obtain ⟨l⟩ := argTypes
 cases l with
 | nil => simp at h0
 | cons t' l =>
   simp at h0; subst h0
   cases l with
   | nil => simp [appOk] at hok
   | cons u l =>
     have hu : ∃ d, P.underlying u = some d ∧ ∀ k, d ≠ .int k := by
       simp [appOk] at hok
       cases hd : T.und u <;> rw [hd] at hok <;> simp at hok
       . exact ⟨_, hT.str _ hd, by simp⟩
       . exact ⟨_, hT.slice _ _ hd, by simp⟩
     obtain ⟨d, hud, hdn⟩ := hu
     have hz : (match d with | .int _ => true | _ => false) = false := by cases d <;> simp at hdn ⊢
     obtain ⟨i, hi, his, hib, z, hiz, hzc, _⟩ := hT.info el hno
     have hul := hT.slice t' el ht
     have hw1 : ∀ p, w.drew.cell? p = w.cell? p := fun p => rfl
     have f1 := first_cells (P := P) (cap := sc) hol hob hon w.drew hw1
     have f2 := first_cells (P := P) (cap := xc) hnl hnb hnn w.drew hw1
     refine ⟨(sn + xn) + (w.tape w.drawn (.appendCap (sn + xn) sc el)) % (2 ^ 63 - (sn + xn)), (Builtin.zeroCells z.cells ((w.tape w.drawn (.appendCap (sn + xn) sc el)) % (2 ^ 63 - (sn + xn)))).toList, by omega, ?_, ?_⟩
     . have hzl : z.cells.size = T.size el := by rw [← hT.zlen el, ← hzc]; simp
       simp [Builtin.zeroCells, hzl]
     . have e0 : ¬ (sn + xn ≤ sc) := by omega
       have e1 : ¬ (9223372036854775807 < (sn : Int) + xn ∧ T.bytes el = 0) := by omega
       have e2 : ¬ (281474976710656 < Builtin.nextslicecap (sn + xn) sc * T.bytes el) := by omega
       have e3 : (Question.appendCap (sn + xn) sc el).forced = false := rfl
       have e4 : (Question.appendCap (sn + xn) sc el).cut (w.tape w.drawn (.appendCap (sn + xn) sc el)) = (sn + xn) + (w.tape w.drawn (.appendCap (sn + xn) sc el)) % (2 ^ 63 - (sn + xn)) := rfl
       have hsz : ∀ w, (Go.sizeOf el).run P w = .ok (T.size el) w := fun w => hT.size hno
       have hti : ∀ w, (typeInfo el).run P w = .ok i w := fun w => by simp [typeInfo, hi]
       have hzv : ∀ w, (zeroValue el).run P w = .ok z w := fun w => by simp [zeroValue, typeInfo, hi, hiz]
       have g0 : (({ toList := t' :: u :: l } : Array TypeId))[0]? = some t' := rfl
       have g1 : (({ toList := t' :: u :: l } : Array TypeId))[1]? = some u := rfl
       have ar : ∀ n w, (askRoom n).run P w = .ok () w := by intro n w; unfold askRoom; split <;> rfl
       generalize (w.tape w.drawn (.appendCap (sn + xn) sc el)) % (2 ^ 63 - (sn + xn)) = q at *
       unfold Builtin.append_
       simp only [g0, g1, List.getElem?_toArray, List.getElem?_cons_zero, List.getElem?_cons_succ, Sem.run_bind, run_underlying hul, Result.andThen_ok, hsz, run_underlying hud, Sem.run_pure]
       cases d <;> first
         | (exact absurd rfl (hdn _))
         | (simp [Builtin.lenOf, e0, e1, e2, e3, e4, hsz, hti, hzv, ar, f1, f2, newRow, newObj, hib]
            have e : (olds ++ (news ++ (Builtin.zeroCells z.cells q).toList)).toArray = olds.toArray ++ (news.toArray ++ Builtin.zeroCells z.cells q) := by apply Array.ext'; simp
            rw [e]; rfl)
theorem run_append_in (hT : TyOk P T) {argTypes : Array TypeId} {ty t el : TypeId} {sb xb : Option Addr} {sn sc xn xc : Nat} {news : List Value}
   (h0 : argTypes.toList.head? = some t) (ht : T.und t = .slice el) (hno : T.und el ≠ .other) (hok : appOk T argTypes = true)
   (hnl : news.length = xn * T.size el) (hnb : ∀ b, xb = some b → news = [] ∨ ∃ blk o, b = ⟨blk, o, none⟩ ∧ w.rangeAt blk o news) (hnn : xb = none → xn = 0)
   (hneed : sn + xn ≤ sc) {w' : World} (hst : match sb with | none => w' = w | some a => (storeCells (a.add (sn * T.size el)) news).run P w = .ok () w') :
   (Builtin.append_ argTypes ty #[.slice sb sn sc, .slice xb xn xc]).run P w = .ok (.slice sb (sn + xn) sc) w' := by
 obtain ⟨l⟩ := argTypes
 cases l with
 | nil => simp at h0
 | cons t' l =>
   simp at h0; subst h0
   cases l with
   | nil => simp [appOk] at hok
   | cons u l =>
     have hu : ∃ d, P.underlying u = some d ∧ ∀ k, d ≠ .int k := by
       simp [appOk] at hok
       cases hd : T.und u <;> rw [hd] at hok <;> simp at hok
       . exact ⟨_, hT.str _ hd, by simp⟩
       . exact ⟨_, hT.slice _ _ hd, by simp⟩
     obtain ⟨d, hud, hdn⟩ := hu
     have hul := hT.slice t' el ht
     have f2 := first_cells (P := P) (cap := xc) hnl hnb hnn w (fun _ => rfl)
     have hsz : ∀ w, (Go.sizeOf el).run P w = .ok (T.size el) w := fun w => hT.size hno
     have g0 : (({ toList := t' :: u :: l } : Array TypeId))[0]? = some t' := rfl
     have g1 : (({ toList := t' :: u :: l } : Array TypeId))[1]? = some u := rfl
     unfold Builtin.append_
     simp only [g0, g1, List.getElem?_toArray, List.getElem?_cons_zero, List.getElem?_cons_succ, Sem.run_bind, run_underlying hul, Result.andThen_ok, hsz, run_underlying hud, Sem.run_pure]
     cases sb with
     | none =>
       subst hst
       cases d <;> first
         | (exact absurd rfl (hdn _))
         | simp [Builtin.lenOf, hneed, f2]
     | some a =>
       cases d <;> first
         | (exact absurd rfl (hdn _))
         | simp [Builtin.lenOf, hneed, f2, hst]
end
end Eng
set_option linter.unusedSimpArgs false
set_option linter.unusedVariables false
namespace Eng
open Go
section
variable {P : Program} {T : Ty} {w w' : World} {X Z : Nat → Prop} {ρ : Nat → Option Nat} {h : List Blk}
theorem roomK_inv {el : TypeId} {m : Bool} {n : Nat} {K : Unit → Prop} (hk : roomK Ar.real T el m n K) : n * T.bytes el ≤ 140737488355328 ∧ K () := by
 unfold roomK at hk
 split at hk
 . obtain ⟨h1, h2⟩ := onlyIf_inv hk
   exact ⟨by simpa using h1, h2⟩
 . cases hk with
   | mk h1 h2 => exact ⟨by simpa [Ar.real] using h1, h2⟩
theorem run_newRow (w : World) (t : TypeId) (c : Array Value) : (newRow t c).run P w = .ok ⟨w.heap.size, 0, none⟩ (w.alloc (.cells c t)) := by
 simp only [newRow, newObj, Sem.run_bind]; rfl
theorem tree_rep_ref {c : Array Value} {t : TypeId} {cs : List AVal} {L : List Nat} (hh : HRel X ρ h w) (hold : ∀ b, X b → b < w.heap.size) (hr : RepL w (XXm X ρ h L) noρ c.toList cs) :
   Rep (w.alloc (.cells c t)) (XX X ρ (freeze h L)) ρ (.pointer (some ⟨w.heap.size, 0, none⟩)) (.ref cs 0) := by
 obtain ⟨h1, h2, h3, h4⟩ := new_tree (t := t) (hh.freeze L) hold (hr.weaken fun _ h => XX_freeze h)
 have := h4.ref (ρ := ρ) (off := 0) h1 h2 h3
 simpa using this
theorem tree_rep_lst {c : Array Value} {t : TypeId} {cs : List AVal} {L : List Nat} {m : Bool} {n cap : Nat} (hh : HRel X ρ h w) (hold : ∀ b, X b → b < w.heap.size) (hr : RepL w (XXm X ρ h L) noρ c.toList cs) (hn : n ≤ cap) :
   Rep (w.alloc (.cells c t)) (XX X ρ (freeze h L)) ρ (.slice (some ⟨w.heap.size, 0, none⟩) n cap) (.lst m n cs) := by
 obtain ⟨h1, h2, h3, h4⟩ := new_tree (t := t) (hh.freeze L) hold (hr.weaken fun _ h => XX_freeze h)
 exact h4.lst h1 h2 h3 hn
theorem run_buildSlice (hT : TyOk P T) {t el : TypeId} {n : Nat} {parts : Array (Nat × Operand)} {e : Operand → AVal} {ρ' : Operand → Value} {cs : List AVal} (ht : T.und t = .slice el) (hno : T.und el ≠ .other) (hn : n * T.size el ≤ 16777216)
   (he : ∀ x, Rep w X ρ (ρ' x) (e x)) (hcs : aopP.fillP T (.arr n el) (aopP.partsOf e parts.toList) (reps n (mapV (T.zero el))) = some cs) :
   ∃ c : Array Value, (Instr.buildSlice t n (parts.map fun (i, x) => (i, ρ' x))).run P w = .ok (.slice (some ⟨w.heap.size, 0, none⟩) n n) (w.alloc (.cells c el)) ∧ RepL w X ρ c.toList cs := by
 obtain ⟨z, hz, hzc, hza⟩ := hT.zero (P := P) (w := w) hno
 have hzl : z.cells.size = T.size el := by rw [← hT.zlen el, ← hzc]; simp
 have hsz := hT.size (P := P) (w := w) hno
 have hr0 : RepL w X ρ (List.replicate n z.cells.toList).flatten (reps n (mapV (T.zero el))) := (by rw [hzc]; exact (RepL.mapV _).reps n)
 have hel : notOther (T.und el) = true := by cases hq : T.und el <;> first | rfl | exact absurd hq hno
 have hrow : ((Array.range (n * T.size el)).map (fun i => z.cells[i % z.cells.size]!)).toList = (List.replicate n z.cells.toList).flatten := by rw [← hzl]; exact zeros_eq z.cells n
 obtain ⟨a', h1, h2⟩ := fillP_run (T := T) (u := .arr n el) (place := fun i => some (i * T.size el, T.size el)) he (fun i off sz h => by
   simp [aopP.placeOf, hel] at h; obtain ⟨rfl, rfl⟩ := h; rfl) parts.toList _ _ ((Array.range (n * T.size el)).map (fun i => z.cells[i % z.cells.size]!)) hcs (by rw [hrow]; exact hr0)
 refine ⟨a', ?_, h2⟩
 have h3 : ¬ (n * T.size el > 2 ^ 24) := by omega
 have hp : (parts.map fun (i, x) => (i, ρ' x)).toList = parts.toList.map fun p => (p.1, ρ' p.2) := by simp
 unfold Instr.buildSlice
 simp only [Sem.run_bind, run_underlying (hT.slice t el ht), Result.andThen_ok, hsz]
 by_cases h0 : n * T.size el = 0
 . have hemp : (#[] : Array Value) = (Array.range (n * T.size el)).map (fun i => (#[] : Array Value)[i % 0]!) := by rw [h0]; simp
   have hemp' : (Array.range (n * T.size el)).map (fun i => z.cells[i % z.cells.size]!) = #[] := by rw [h0]; simp
   rw [hemp'] at h1
   simp [h0, hp, Array.range_zero', h1, run_newRow]
 . simp [h0, h3, hz, hp, h1, run_newRow]
theorem run_makeSlice (hT : TyOk P T) {t el : TypeId} {k k' : IntKind} {n : Int} (ht : T.und t = .slice el) (hno : T.und el ≠ .other) (h0 : 0 ≤ n) (h1 : n < 100000) (h2 : T.bytes el < 100000) :
   ∃ c : Array Value, (Instr.makeSlice t (.int k n) (.int k' n)).run P w = .ok (.slice (some ⟨w.heap.size, 0, none⟩) n.toNat n.toNat) (w.alloc (.cells c el)) ∧ RepL w X ρ c.toList (reps n.toNat (mapV (T.zero el))) := by
 obtain ⟨i, hi, his, hib, z, hiz, hzc, hza⟩ := hT.info el hno
 have hzl : z.cells.size = T.size el := by rw [← hT.zlen el, ← hzc]; simp
 have hsz := hT.size (P := P) (w := w) hno
 have hti : (typeInfo el).run P w = .ok i w := by simp [typeInfo, hi]
 have hzv : (zeroValue el).run P w = .ok z w := by simp [zeroValue, typeInfo, hi, hiz]
 have hw : IntKind.i64.wrap n = n := IntWalk.i64_in n (by omega)
 have ar : ∀ m, (askRoom m).run P w = .ok () w := by intro m; unfold askRoom; split <;> rfl
 have hb : ¬ ((i.bytes : Int) * n > 2 ^ 48) := by
   rw [hib]
   have h3 : (T.bytes el : Int) * n ≤ 100000 * 100000 := by
     have a1 : (T.bytes el : Int) ≤ 100000 := by omega
     have a2 : n ≤ 100000 := by omega
     exact Int.mul_le_mul a1 a2 h0 (by omega)
   omega
 have hrow : ((Array.range (n.toNat * T.size el)).map (fun i => z.cells[i % z.cells.size]!)).toList = (List.replicate n.toNat z.cells.toList).flatten := by rw [← hzl]; exact zeros_eq z.cells n.toNat
 have hr0 : RepL w X ρ (List.replicate n.toNat z.cells.toList).flatten (reps n.toNat (mapV (T.zero el))) := (by rw [hzc]; exact (RepL.mapV _).reps n.toNat)
 refine ⟨(Array.range (n.toNat * T.size el)).map (fun i => z.cells[i % z.cells.size]!), ?_, by rw [hrow]; exact hr0⟩
 have hneg : ¬ n < 0 := by omega
 unfold Instr.makeSlice
 simp only [Sem.run_bind, run_underlying (hT.slice t el ht), Result.andThen_ok, hsz, asInt, asIntOf, Sem.run_pure, hti, hw]
 have hb' : ¬ (281474976710656 < (i.bytes : Int) * n) := by omega
 by_cases hz0 : n.toNat * T.size el = 0
 . simp [hneg, hb', ar, hz0, run_newRow, Array.range_zero', hsz]
 . simp [hneg, hb', ar, hz0, run_newRow, hzv, hsz]
theorem run_makeCap (hT : TyOk P T) {t el : TypeId} {k k' : IntKind} {n m : Int} (ht : T.und t = .slice el) (hno : T.und el ≠ .other) (h0 : 0 ≤ n) (hnm : n ≤ m) (h1 : m < 1000000000) (h2 : T.bytes el < 100000) :
   ∃ us rest : List Value, (Instr.makeSlice t (.int k n) (.int k' m)).run P w = .ok (.slice (some ⟨w.heap.size, 0, none⟩) n.toNat m.toNat) (w.alloc (.cells (us ++ rest).toArray el)) ∧ RepL w X ρ us (reps n.toNat (mapV (T.zero el))) ∧ us.length + rest.length = m.toNat * T.size el := by
 obtain ⟨i, hi, his, hib, z, hiz, hzc, hza⟩ := hT.info el hno
 have hzl : z.cells.size = T.size el := by rw [← hT.zlen el, ← hzc]; simp
 have hsz := hT.size (P := P) (w := w) hno
 have hti : (typeInfo el).run P w = .ok i w := by simp [typeInfo, hi]
 have hzv : (zeroValue el).run P w = .ok z w := by simp [zeroValue, typeInfo, hi, hiz]
 have hw : IntKind.i64.wrap n = n := IntWalk.i64_in n (by omega)
 have hwm : IntKind.i64.wrap m = m := IntWalk.i64_in m (by omega)
 have ar : ∀ q, (askRoom q).run P w = .ok () w := by intro q; unfold askRoom; split <;> rfl
 have bound : ∀ q : Int, 0 ≤ q → q ≤ m → ¬ (281474976710656 < (i.bytes : Int) * q) := by
   intro q hq0 hqm
   rw [hib]
   have h3 : (T.bytes el : Int) * q ≤ 100000 * 1000000000 := Int.mul_le_mul (by omega) (by omega) hq0 (by omega)
   omega
 have hrow : ((Array.range (m.toNat * T.size el)).map (fun i => z.cells[i % z.cells.size]!)).toList = (List.replicate m.toNat z.cells.toList).flatten := by rw [← hzl]; exact zeros_eq z.cells m.toNat
 have hsplit : (List.replicate m.toNat z.cells.toList).flatten = (List.replicate n.toNat z.cells.toList).flatten ++ (List.replicate (m.toNat - n.toNat) z.cells.toList).flatten := by
   rw [← List.flatten_append, List.replicate_append_replicate]
   congr 2
   omega
 have hr0 : RepL w X ρ (List.replicate n.toNat z.cells.toList).flatten (reps n.toNat (mapV (T.zero el))) := (by rw [hzc]; exact (RepL.mapV _).reps n.toNat)
 have hca : (Array.range (m.toNat * T.size el)).map (fun i => z.cells[i % z.cells.size]!) = ((List.replicate n.toNat z.cells.toList).flatten ++ (List.replicate (m.toNat - n.toNat) z.cells.toList).flatten).toArray := by
   apply Array.ext'
   rw [hrow, hsplit]
 refine ⟨(List.replicate n.toNat z.cells.toList).flatten, (List.replicate (m.toNat - n.toNat) z.cells.toList).flatten, ?_, hr0, ?_⟩
 . rw [← hca]
   have hneg : ¬ n < 0 := by omega
   have hneg2 : ¬ m < 0 := by omega
   have hgt : ¬ n > m := by omega
   unfold Instr.makeSlice
   simp only [Sem.run_bind, run_underlying (hT.slice t el ht), Result.andThen_ok, hsz, asInt, asIntOf, Sem.run_pure, hti, hw, hwm]
   have hb' := bound m (by omega) (Int.le_refl _)
   by_cases hz0 : m.toNat * T.size el = 0
   . simp [hneg, hneg2, hgt, hb', ar, hz0, run_newRow, Array.range_zero', hsz, hnm]
   . simp [hneg, hneg2, hgt, hb', ar, hz0, run_newRow, hzv, hsz, hnm]
 . have e1 : ∀ q : Nat, (List.replicate q z.cells.toList).flatten.length = q * T.size el := by
     intro q
     rw [← hzl]
     simp
   rw [e1, e1, ← Nat.add_mul]
   congr 1
   omega
theorem aopQ_sound (hT : TyOk P T) {Sp : SpecT} (hS : SpOK P Sp) (o : Oper) (a : Act) {e : Operand → AVal} {K : AVal → List Nat → Prop} (hh : HRel X ρ h w) (hold : ∀ b, X b → b < w.heap.size) (he : ∀ x, Rep w (XX X ρ h) ρ (a.eval x) (e x))
   (hq : aopQ Ar.real T Sp o e h K) {next : Act → World → Prop} {Q : Exit → Act → World → Prop}
   (hn : ∀ v y l w', K y l → Step X ρ h w ρ (freeze h l) w' → Rep w' (XX X ρ (freeze h l)) ρ v y → next (a.put o.dst v) w') : o.wp P a w next Q := by
 have stay : ∀ v y, K y [] → Rep w (XX X ρ h) ρ v y → (execOp a.eval o).run P w = .ok (.value v) w → o.wp P a w next Q := fun v y hk hr h1 =>
   value_wp h1 (hn v y [] w hk (Step.refl hh) hr)
 have grew : ∀ v y w', K y [] → Ext (fun _ => False) w w' → Rep w' (XX X ρ h) ρ v y → (execOp a.eval o).run P w = .ok (.value v) w' → o.wp P a w next Q := fun v y w' hk hx hr h1 =>
   value_wp h1 (hn v y [] w' hk (Step.grow hh hx []) hr)
 obtain ⟨dst, op, ty, pos, after, guard⟩ := o
 unfold aopQ at hq
 cases op <;> simp only at hq <;> try (exact hq.elim)
 case load t x =>
   have hx := he x
   generalize hex : e x = y at hq hx
   cases y <;> try (exact hq.elim)
   . rename_i cs off
     obtain ⟨z, hz, hk⟩ := optK_inv hq
     obtain ⟨blk, base, vs, hv, h1, h2, h3, h4⟩ := hx.ref_inv
     obtain ⟨v, hv', hr⟩ := part_load (P := P) hT h4 h3 hz
     exact stay v z hk hr.up (by simp [execOp, hv, Instr.loadAt, Instr.sureAddr, hv'])
   . rename_i id off
     obtain ⟨hl, hq⟩ := onlyIf_inv hq
     obtain ⟨z, hz, hk⟩ := optK_inv hq
     obtain ⟨blk, hv, hρ⟩ := hx.own_inv
     obtain ⟨us, hlt, hra, hth, hus⟩ := hh.read hl hρ
     obtain ⟨v, hv', hr⟩ := part_load (P := P) hT hus hra hz
     rw [Nat.zero_add] at hv'
     exact stay v z hk hr (by simp [execOp, hv, Instr.loadAt, Instr.sureAddr, hv'])
   . rename_i id off
     obtain ⟨hl, hq⟩ := onlyIf_inv hq
     cases hq with
     | mk ys e1 hq =>
       obtain ⟨z, hz, hk⟩ := optK_inv hq
       obtain ⟨blk, hv, hρ⟩ := hx.el_inv
       obtain ⟨us, hlt, hra, hth, hus⟩ := hh.read hl hρ
       obtain ⟨_, e3⟩ := hus.sub e1
       obtain ⟨v, hv', hr⟩ := part_load (P := P) hT e3 (range_sub hra) hz
       rw [Nat.zero_add, Nat.add_zero] at hv'
       exact stay v z hk hr (by simp [execOp, hv, Instr.loadAt, Instr.sureAddr, hv'])
 case slice t x lo hi mx =>
   have hx := he x
   have hlo : ∀ z, lo.map e = some z → ∃ v, lo.map a.eval = some v ∧ Rep w (XX X ρ h) ρ v z := by
     intro z hz; cases lo <;> simp at hz ⊢; subst hz; exact he _
   have hlo0 : lo.map e = none → lo.map a.eval = none := by intro hz; cases lo <;> simp at hz ⊢
   have hhi : ∀ z, hi.map e = some z → ∃ v, hi.map a.eval = some v ∧ Rep w (XX X ρ h) ρ v z := by
     intro z hz; cases hi <;> simp at hz ⊢; subst hz; exact he _
   have hhi0 : hi.map e = none → hi.map a.eval = none := by intro hz; cases hi <;> simp at hz ⊢
   have zI : ∀ (o : Option Operand) (t : Bool), zeroI (o.map e) t = true → (o = none ∧ t = true) ∨ ∃ x k, o = some x ∧ a.eval x = .int k 0 := by
     intro o t hz
     cases o with
     | none => exact .inl ⟨rfl, hz⟩
     | some x =>
       refine .inr ⟨x, ?_⟩
       have hx := he x
       simp only [Option.map_some] at hz
       generalize e x = y at hz hx
       cases y <;> simp only [zeroI, beq_iff_eq, Bool.false_eq_true] at hz
       subst hz
       exact ⟨_, rfl, hx.i_inv⟩
   have full : ∀ (m : Operand) (el : TypeId) (sa : Option Addr) (n cap : Nat), T.und t = .slice el → a.eval x = .slice sa n cap → mx = some m → (onlyIf (notOther (T.und el) && zeroI (lo.map e) true && zeroI (hi.map e) false && zeroI (some (e m)) false) fun _ => K .cap0 []) →
       ({ dst := dst, op := .slice t x lo hi mx, type := ty, pos := pos, after := after, guard := guard } : Oper).wp P a w next Q := by
     intro m el sa n cap ht hv hm hq1
     subst hm
     obtain ⟨hc, hk⟩ := onlyIf_inv hq1
     simp only [Bool.and_eq_true] at hc
     obtain ⟨⟨⟨h0, h1⟩, h2⟩, h3⟩ := hc
     have hun := hT.slice t el ht
     have hsz := hT.size (P := P) (w := w) (notOther_iff h0)
     rcases zI (some m) false h3 with ⟨h, _⟩ | ⟨_, km, h, hmv⟩
     . cases h
     . cases h
       rcases zI hi false h2 with ⟨_, h⟩ | ⟨hx', kh, rfl, hhv⟩
       . cases h
       . have fin : ∀ l : Option Value, (l = none ∨ ∃ k, l = some (.int k 0)) → (Instr.sliceAt t (.slice sa n cap) l (some (.int kh 0)) (some (.int km 0))).run P w = .ok (.slice sa 0 0) w := by
           intro l hl
           rcases hl with rfl | ⟨kl, rfl⟩ <;> simp [Instr.sliceAt, Instr.slice, Instr.sliceBounds, Instr.sliceBound, run_underlying hun, hsz, asInt, asIntOf]
         refine stay (.slice sa 0 0) _ hk (.cap0 _) ?_
         rcases zI lo true h1 with ⟨rfl, _⟩ | ⟨lx, kl, rfl, hlv⟩
         . simp only [execOp, Sem.run_bind, hv, Option.map_none, Option.map_some, hhv, hmv, fin none (.inl rfl), Result.andThen_ok, Sem.run_pure]
         . simp only [execOp, Sem.run_bind, hv, Option.map_some, hlv, hhv, hmv, fin (some (.int kl 0)) (.inr ⟨kl, rfl⟩), Result.andThen_ok, Sem.run_pure]
   generalize hye : e x = y at hq hx
   split at hq <;> try (exact hq.elim)
   . rename_i n el id off ht
     obtain ⟨hc, hq⟩ := onlyIf_inv hq
     simp at hc
     obtain ⟨l, r, hb, h1, h2, hk⟩ := asub_inv (P := P) (w := w) hq hlo hlo0 hhi hhi0 false n (Nat.le_refl _)
     obtain ⟨blk, hv, hρ⟩ := hx.own_inv
     obtain ⟨us, hlt, hra, hth, hus⟩ := hh.read hc.1.2 hρ
     have hsz := hT.size (P := P) (w := w) (notOther_iff hc.1.1)
     have hlen := hus.length
     refine stay (.slice (if n = l then (some ⟨blk, off, none⟩ : Option Addr) else some ((⟨blk, off, none⟩ : Addr).add (l * T.size el))) (r - l) (n - l)) _ hk ?_ ?_
     . by_cases hc' : n = l
       . have : r - l = 0 := by omega
         rw [if_pos hc', this, show n - l = 0 by omega]; exact .osl0 _ _ _ _ _
       . rw [if_neg hc', add_mid]
         refine .osl _ _ _ _ _ blk (n - l) hρ (by omega) fun j hj => ?_
         have := hth (off + l * T.size el + j) (by
           have : l * T.size el + (n - l) * T.size el = n * T.size el := by rw [← Nat.add_mul]; congr 1; omega
           omega)
         simpa using this
     . simp only [execOp, Sem.run_bind, hv, Instr.sliceAt, run_underlying (hT.arr t n el ht), Result.andThen_ok, Instr.sureAddr, Sem.run_pure, Option.map_none, hb, hsz]
       by_cases hc' : n = l <;> simp [hc']
   . rename_i n el cs off ht
     obtain ⟨hc, hq⟩ := onlyIf_inv hq
     obtain ⟨l, r, hb, h1, h2, hk⟩ := asub_inv (P := P) (w := w) hq hlo hlo0 hhi hhi0 false n (Nat.le_refl _)
     obtain ⟨cs', hcs, hk⟩ := optK_inv hk
     obtain ⟨blk, base, vs, hv, h3, h4, h5, h6⟩ := hx.ref_inv
     have hsz := hT.size (P := P) (w := w) (notOther_iff hc)
     obtain ⟨hlen, hsub⟩ := h6.sub hcs
     have hra := range_sub (k := off + l * T.size el) (n := (r - l) * T.size el) h5
     refine stay (.slice (if n = l then (some ⟨blk, base + off, none⟩ : Option Addr) else some ((⟨blk, base + off, none⟩ : Addr).add (l * T.size el))) (r - l) (n - l)) _ hk ?_ ?_
     . refine sliced_rep_lst h3 h4 (by rw [Nat.add_assoc]; exact hra) hsub h1 h2 ?_
       rw [← hsub.length]; simp; omega
     . simp only [execOp, Sem.run_bind, hv, Instr.sliceAt, run_underlying (hT.arr t n el ht), Result.andThen_ok, Instr.sureAddr, Sem.run_pure, Option.map_none, hb, hsz]
       by_cases hc' : n = l <;> simp [hc']
   . rename_i el id off n sz ht
     obtain ⟨hc, hq⟩ := onlyIf_inv hq
     simp at hc
     have hun := hT.slice t el ht
     have hsz := hT.size (P := P) (w := w) (notOther_iff hc.1)
     rcases hx.osl_inv with ⟨blk, cap, hv, hρ, h3, h4⟩ | ⟨rfl, b, hv⟩
     . obtain ⟨l, r, hb, h1, h2, hk⟩ := asub_inv (P := P) (w := w) hq hlo hlo0 hhi hhi0 true cap h3
       refine stay (.slice (if cap = l then (some ⟨blk, off, none⟩ : Option Addr) else some ((⟨blk, off, none⟩ : Addr).add (l * T.size el))) (r - l) (cap - l)) _ hk ?_ ?_
       . by_cases hc' : cap = l
         . have : r - l = 0 := by omega
           rw [if_pos hc', this, show cap - l = 0 by omega]; exact .osl0 _ _ _ _ _
         . rw [if_neg hc', add_mid, hc.2]
           refine .osl _ _ _ _ _ blk (cap - l) hρ (by omega) fun j hj => ?_
           have := h4 (l * sz + j) (by
             have : l * sz + (cap - l) * sz = cap * sz := by rw [← Nat.add_mul]; congr 1; omega
             omega)
           simpa [Nat.add_assoc] using this
       . simp only [execOp, Sem.run_bind, hv, Instr.sliceAt, Instr.slice, run_underlying hun, Result.andThen_ok, Sem.run_pure, Option.map_none, hb, hsz]
         by_cases hc' : cap = l <;> simp [hc']
     . obtain ⟨l, r, hb, h1, h2, hk⟩ := asub_inv (P := P) (w := w) hq hlo hlo0 hhi hhi0 true 0 (Nat.le_refl _)
       obtain rfl : r = 0 := by omega
       obtain rfl : l = 0 := by omega
       refine stay (.slice b 0 0) _ hk (.osl0 _ _ _ _ _) ?_
       simp only [execOp, Sem.run_bind, hv, Instr.sliceAt, Instr.slice, run_underlying hun, Result.andThen_ok, Sem.run_pure, Option.map_none, hb, hsz]
       simp
   . rename_i el n cs ht
     obtain ⟨hc, hq⟩ := onlyIf_inv hq
     have hun := hT.slice t el ht
     have hsz := hT.size (P := P) (w := w) (notOther_iff hc)
     rcases hx.lst_inv with ⟨blk, off, cap, vs, hv, h3, h4, h5, h6, h7⟩ | ⟨rfl, rfl, b, cap, hv⟩
     . obtain ⟨l, r, hb, h1, h2, hk⟩ := asub_inv (P := P) (w := w) hq hlo hlo0 hhi hhi0 true cap h6
       obtain ⟨cs', hcs, hk⟩ := optK_inv hk
       obtain ⟨hlen, hsub⟩ := h7.sub hcs
       have hra := range_sub (k := l * T.size el) (n := (r - l) * T.size el) h5
       refine stay (.slice (if cap = l then (some ⟨blk, off, none⟩ : Option Addr) else some ((⟨blk, off, none⟩ : Addr).add (l * T.size el))) (r - l) (cap - l)) _ hk ?_ ?_
       . refine sliced_rep_lst h3 h4 hra hsub h1 (by omega) ?_
         rw [← hsub.length]; simp; omega
       . simp only [execOp, Sem.run_bind, hv, Instr.sliceAt, Instr.slice, run_underlying hun, Result.andThen_ok, Sem.run_pure, Option.map_none, hb, hsz]
         by_cases hc' : cap = l <;> simp [hc']
     . obtain ⟨l, r, hb, h1, h2, hk⟩ := asub_inv (P := P) (w := w) hq hlo hlo0 hhi hhi0 true cap (Nat.zero_le _)
       obtain rfl : r = 0 := by omega
       obtain rfl : l = 0 := by omega
       obtain ⟨cs', hcs, hk⟩ := optK_inv hk
       obtain ⟨_, h2⟩ := lsub_spec _ _ _ _ hcs
       simp at h2
       subst h2
       refine stay (.slice (if cap = 0 then b else b.map (·.add (0 * T.size el))) 0 cap) _ hk (.lst0 _ _ _) ?_
       simp only [execOp, Sem.run_bind, hv, Instr.sliceAt, Instr.slice, run_underlying hun, Result.andThen_ok, Sem.run_pure, Option.map_none, hb, hsz]
       simp
   . rename_i m el sy n cs ht
     rcases hx.lst_inv with ⟨blk, off, cap, us, hv, _⟩ | ⟨_, _, b, cap, hv⟩
     . exact full _ _ _ _ _ ht hv rfl hq
     . exact full _ _ _ _ _ ht hv rfl hq
   . rename_i m el ht
     exact full _ _ _ _ _ ht hx.v_inv rfl hq
 case alloc t =>
   obtain ⟨hc, hk⟩ := onlyIf_inv hq
   obtain ⟨z, hz, hzc, hza⟩ := hT.zero (P := P) (w := w) (notOther_iff hc)
   have hr : RepL w (XX X ρ h) noρ z.cells.toList (mapV (T.zero t)) := by rw [hzc]; exact RepL.mapV _
   obtain ⟨h1, h2, h3, h4⟩ := new_tree (t := t) hh hold hr
   refine grew (.pointer (some ⟨w.heap.size, 0, none⟩)) _ (w.alloc (.cells z.cells t)) hk (Ext.alloc _ _ _) ?_ ?_
   . have := h4.ref (ρ := ρ) (off := 0) h1 h2 h3; simpa using this
   . simp [execOp, Instr.alloc, hz, newVar, run_newRow]
 case box t x =>
   obtain ⟨y, hy, hk⟩ := optK_inv hq
   obtain ⟨cs, hcs, hk⟩ := optK_inv hk
   have hr := (snap_sound hh depth (e x) y (a.eval x) _ hy (he x) (fun _ h => h)).cells hcs
   refine value_wp (v := .pointer (some ⟨w.heap.size, 0, none⟩)) (w' := w.alloc (.cells (a.eval x).cells t)) (by simp [execOp, Instr.box, newVar, run_newRow]) (hn _ _ _ _ hk (Step.grow hh (Ext.alloc _ _ _) _) ?_)
   exact tree_rep_ref hh hold hr
 case buildSlice t n parts =>
   split at hq <;> try (exact hq.elim)
   rename_i el ht
   obtain ⟨hc, hq⟩ := onlyIf_inv hq
   simp at hc
   obtain ⟨cs, hcs, hq⟩ := optK_inv hq
   obtain ⟨cs', hcs', hk⟩ := optK_inv hq
   obtain ⟨c, h1, h2⟩ := run_buildSlice (P := P) (w := w) hT ht (notOther_iff hc.1) hc.2 he hcs
   have hr : RepL w (XXm X ρ h (idsL (ids h depth) cs)) noρ c.toList cs' := snapL_sound (f := snap h depth) (g := ids h depth) (fun x y v h1 h2 h3 => snap_sound hh depth x y v _ h1 h2 h3) cs cs' _ hcs' h2 (fun _ h => h)
   refine value_wp (v := .slice (some ⟨w.heap.size, 0, none⟩) n n) (w' := w.alloc (.cells c el)) (by simp [execOp, h1]) (hn _ _ _ _ hk (Step.grow hh (Ext.alloc _ _ _) _) ?_)
   exact tree_rep_lst hh hold hr (Nat.le_refl _)
 case makeSlice t l c =>
   split at hq <;> try (exact hq.elim)
   rename_i el k n k' m ht hl hc
   obtain ⟨h1, hk⟩ := onlyIf_inv hq
   simp at h1
   obtain ⟨⟨⟨⟨h2, h3⟩, h4⟩, h5⟩, h6⟩ := h1
   subst h3
   have hlv := he l
   have hcv := he c
   rw [hl] at hlv
   rw [hc] at hcv
   obtain ⟨cc, h7, h8⟩ := run_makeSlice (P := P) (w := w) (X := XX X ρ h) (ρ := noρ) (k := k) (k' := k') hT ht (notOther_iff h5) h2 (by omega) (by omega)
   refine value_wp (v := .slice (some ⟨w.heap.size, 0, none⟩) n.toNat n.toNat) (w' := w.alloc (.cells cc el)) (by simp [execOp, hlv.i_inv, hcv.i_inv, h7]) (hn _ _ _ _ hk (Step.grow hh (Ext.alloc _ _ _) _) ?_)
   exact tree_rep_lst (L := []) hh hold (h8.weaken fun _ h => XXm_XX h) (Nat.le_refl _)
 case call c =>
   have gen : ∀ (c : Call) (f : FuncId) (args : List AVal), callee T e c = some (f, args) → (optK (snapL (snap h depth) args) fun args' => ACall Sp f args' fun r => K (noNew r) (heldBy h args r)) →
       ({ dst := dst, op := .call c, type := ty, pos := pos, after := after, guard := guard } : Oper) = { dst := dst, op := .call c, type := ty, pos := pos, after := after, guard := guard } → c = c → ∀ (hn' : ∀ v y l w', K y l → Step X ρ h w ρ (freeze h l) w' → Rep w' (XX X ρ (freeze h l)) ρ v y → next (a.put dst v) w'),
       ({ dst := dst, op := .call c, type := ty, pos := pos, after := after, guard := guard } : Oper).wp P a w next Q := by
     intro c f args hc hq _ _ hn'
     obtain ⟨args', hs, hq⟩ := optK_inv hq
     obtain ⟨vs, hv, hfin⟩ := callee_run (P := P) hT (o := { dst := dst, op := .call c, type := ty, pos := pos, after := after, guard := guard }) rfl he hc
     cases hq with
     | mk r hsp hk =>
       refine hfin next Q (call_spec hh hold hv hs (hS.fn _ _ _ hsp) fun v w' hx ho => ?_)
       refine hn' v _ _ w' hk (Step.grow hh hx _) ?_
       cases hf : r.flat with
       | true =>
         have h1 := out_trees (Z := fun _ => False) ho (fun _ h => h.elim) (fun _ h => h.elim)
         rw [noNew_flat hf] at h1 ⊢
         exact h1.flat hf
       | false =>
         have : heldBy h args r = idsL (ids h depth) args := by simp [heldBy, hf]
         rw [this]
         exact (out_trees ho (fun b hb => hh.lt hold (XXm_XX (XX_freeze hb))) (fun b hb => XX_freeze hb)).up
   split at hq
   . rename_i happ
     obtain ⟨cal, cargs, cty⟩ := c
     obtain rfl : cal = .builtin .append := by
       cases cal <;> simp [isApp] at happ
       rename_i b; cases b <;> simp [isApp] at happ; rfl
     unfold appQ at hq
     split at hq <;> try (exact hq.elim)
     rename_i t u tl s x hty hargs
     have main : ∀ (el : TypeId) (sa : Option Addr), T.und t = .slice el → a.eval s = .slice sa 0 0 → (onlyIf (notOther (T.und el) && appOk T cty && decide (1 ≤ T.bytes el)) fun _ => rowK Ar.real h (T.size el) (e x) fun m n ys => roomK Ar.real T el m n fun _ =>
       optK (snapRow h (e x) ys) fun cs => K (.lst m n cs) (idsRow h (e x) ys)) → ({ dst := dst, op := .call { callee := .builtin .append, args := cargs, argTypes := cty }, type := ty, pos := pos, after := after, guard := guard } : Oper).wp P a w next Q := by
       intro el sa ht hsv hq
       obtain ⟨hc, hq⟩ := onlyIf_inv hq
       simp at hc
       obtain ⟨m, n, ys, us, xa, xc, hk, hus, hul, hxv, hxb, hxn, hlst⟩ := rowK_inv hh (he x) hq
       obtain ⟨hroom, hk⟩ := roomK_inv hk
       obtain ⟨cs, hcs, hk⟩ := optK_inv hk
       obtain ⟨cargs⟩ := cargs
       simp at hargs
       subst hargs
       have hr : RepL w (XXm X ρ h (idsRow h (e x) ys)) noρ us cs := by
         generalize e x = y at hcs hlst ⊢
         unfold snapRow at hcs
         unfold idsRow
         cases y <;> first
           | exact snapL_sound (f := snap h depth) (g := ids h depth) (fun x y v h1 h2 h3 => snap_sound hh depth x y v _ h1 h2 h3) ys cs _ hcs hus (fun _ h => h)
           | (cases hcs; exact (hlst _ _ _ rfl).weaken fun b hb => XXm_XX hb)
       have hex : ∀ (v : Value) (w' : World), (Builtin.append_ cty ty #[a.eval s, a.eval x]).run P w = .ok v w' →
           (execOp a.eval { dst := dst, op := .call { callee := .builtin .append, args := #[s, x], argTypes := cty }, type := ty, pos := pos, after := after, guard := guard }).run P w = .ok (.value v) w' := by
         intro v w' h1
         simp only [execOp, resolve, invoke, builtin, Sem.run_bind, Sem.run_pure, Result.andThen_ok, List.map_toArray, List.map_cons, List.map_nil, h1]
       rw [hsv, hxv] at hex
       have h0 : cty.toList.head? = some t := by rw [hty]; rfl
       rcases Nat.eq_zero_or_pos n with rfl | hpos
       . have hue : us = [] := by simpa using hul
         subst hue
         cases hr
         have hrun := run_append_in (P := P) (w := w) (w' := w) (ty := ty) (sb := sa) (sn := 0) (sc := 0) (xn := 0) (xc := xc) (xb := xa) (news := []) (argTypes := cty) hT h0 ht (notOther_iff hc.1.1) hc.1.2 (by simp) (fun b _ => .inl rfl) (fun _ => rfl) (Nat.le_refl _) (by cases sa <;> rfl)
         exact value_wp (v := .slice sa 0 0) (w' := w) (hex _ _ hrun) (hn _ _ _ _ hk (Step.grow hh (Ext.refl _ _) _) (.lst0 _ _ _))
       . have hn1 : n ≤ 140737488355328 := Nat.le_trans (Nat.le_mul_of_pos_right n hc.2) hroom
         obtain ⟨cap, rest, h3, h4, hrun⟩ := run_append_new (P := P) (w := w) (ty := ty) (sb := sa) (sn := 0) (sc := 0) (xn := n) (xc := xc) (xb := xa) (olds := []) (news := us) (argTypes := cty) hT h0 ht (notOther_iff hc.1.1) hc.1.2 hc.2
           (by simp) (fun b hb => .inl rfl) (fun _ => rfl) hul hxb hxn (by omega) (by simp [Builtin.nextslicecap, hpos]; omega) (by omega)
         simp only [Nat.zero_add, List.nil_append] at h3 h4 hrun
         have hdr : w.drew.heap = w.heap := rfl
         have hxt : Ext (fun _ => False) w (w.drew.alloc (.cells (us ++ rest).toArray el)) := (Ext.drew _ w).trans (Ext.alloc _ _ _)
         refine value_wp (hex _ _ hrun) (hn _ _ _ _ hk (Step.grow hh hxt _) ?_)
         have hb : (w.drew.alloc (.cells (us ++ rest).toArray el)).heap[w.heap.size]? = some (.cells (us ++ rest).toArray el) := by show (w.heap.push _)[w.heap.size]? = _; simp
         have hra : (w.drew.alloc (.cells (us ++ rest).toArray el)).rangeAt w.heap.size 0 us := by
           intro j v hj
           rw [Nat.zero_add]
           simp only [World.cell?, hb]
           have : j < us.length := by rcases Nat.lt_or_ge j us.length with h' | h'; exact h'; rw [List.getElem?_eq_none h'] at hj; cases hj
           simp [List.getElem?_append_left this, hj]
         exact (hr.carry hxt (fun b hb h' => ⟨fun h2 => h' (XX_freeze h2), id⟩) (fun _ _ h => h)).lst (fun h' => by have := hh.lt hold (XXm_XX (XX_freeze h')); omega) (by show w.heap.size < (w.heap.push _).size; simp) hra h3
     split at hq <;> try (exact hq.elim)
     . rename_i el ht hs
       have hsv := he s
       rw [hs] at hsv
       exact main el none ht hsv.v_inv hq
     . rename_i el ht hs
       have hsv := he s
       rw [hs] at hsv
       obtain ⟨sa, hsv⟩ := hsv.cap0_inv
       exact main el sa ht hsv hq
   . split at hq
     . rename_i f args hc
       exact gen c f args hc hq rfl rfl hn
     . exact hq.elim
end
end Eng
set_option linter.unusedSimpArgs false
set_option linter.unusedVariables false
namespace Eng
open Go
section
variable {P : Program} {T : Ty} {w w' : World} {X Z : Nat → Prop} {ρ : Nat → Option Nat} {h : List Blk}
theorem mapV_length : ∀ l : List Value, (mapV l).length = l.length
 | [] => rfl
 | x :: l => by simp [mapV, mapV_length l]
theorem fillP_length {u : UT} : ∀ {parts : List (Nat × Option (List AVal))} {cs r : List AVal}, aopP.fillP T u parts cs = some r → r.length = cs.length
 | [], cs, r, h => by simp [aopP.fillP] at h; rw [h]
 | (i, none) :: ps, cs, r, h => by simp [aopP.fillP] at h
 | (i, some ys) :: ps, cs, r, h => by
   simp only [aopP.fillP] at h
   split at h
   . cases h
   . split at h
     . rename_i hp
       obtain ⟨h1, rfl⟩ := lput_spec _ _ _ _ hp
       have := fillP_length h
       rw [this]; simp; omega
     . cases h
theorem flatL_one : ∀ {ys : List AVal} {us : List Value}, flatL AVal.one ys = true → RepL w X ρ us ys → ∀ v ∈ us, v.oneCell' = true
 | [], _, _, hr, v, hv => by cases hr; cases hv
 | y :: ys, _, hf, hr, v, hv => by
   simp only [flatL, Bool.and_eq_true] at hf
   cases hr with
   | cons h1 h2 =>
     rcases List.mem_cons.1 hv with rfl | hv
     . have := h1.oneV hf.1
       cases v <;> simp [Eng.oneV] at this <;> rfl
     . exact flatL_one hf.2 h2 v hv
theorem range_store {b o : Nat} {us vs : List Value} (hra : w.rangeAt b 0 us) (hth : w.there b 0 us.length) (hlen : o + vs.length ≤ us.length) :
   (w.setCells b o vs).rangeAt b 0 (us.take o ++ vs ++ us.drop (o + vs.length)) := by
 intro j v hj
 rw [Nat.zero_add]
 have hin : ∀ j, j < vs.length → (w.cell? ⟨b, o + j, none⟩).isSome = true := fun j hj => by
   have := (hth (o + j) (by omega)).1; simpa using this
 have hjl : j < us.length := by
   have : j < (us.take o ++ vs ++ us.drop (o + vs.length)).length := by
     rcases Nat.lt_or_ge j (us.take o ++ vs ++ us.drop (o + vs.length)).length with h' | h'
     . exact h'
     . rw [List.getElem?_eq_none h'] at hj; cases hj
   simp at this; omega
 by_cases h1 : j < o
 . rw [World.cell?_setCells_out b vs o w ⟨b, j, none⟩ (fun _ _ => .inl h1)]
   rw [List.append_assoc, List.getElem?_append_left (by simp; omega), List.getElem?_take_of_lt h1] at hj
   have := hra j v hj
   simpa using this
 . by_cases h2 : j < o + vs.length
   . have := World.cell?_setCells_in b vs o w hin (j - o) (by omega)
     rw [show o + (j - o) = j by omega] at this
     rw [this]
     rw [List.append_assoc, List.getElem?_append_right (by simp; omega), List.getElem?_append_left (by simp; omega)] at hj
     simp only [List.length_take, Nat.min_eq_left (show o ≤ us.length by omega)] at hj
     rw [List.getElem?_eq_getElem (by omega)] at hj
     exact hj
   . rw [World.cell?_setCells_out b vs o w ⟨b, j, none⟩ (fun _ _ => .inr (by show o + vs.length ≤ j; omega))]
     rw [List.getElem?_append_right (by simp; omega), List.getElem?_drop] at hj
     simp only [List.length_append, List.length_take, Nat.min_eq_left (show o ≤ us.length by omega)] at hj
     rw [show o + vs.length + (j - (o + vs.length)) = j by omega] at hj
     have := hra j v hj
     simpa using this
theorem setCells_step (hh : HRel X ρ h w) {id b o : Nat} {vs : List Value} {ys cs : List AVal} (hl : (hget h id).live = true) (hw : (hget h id).wr = true) (hρ : ρ id = some b)
   (hys : RepL w (XX X ρ h) ρ vs ys) (hput : lput (hget h id).cells o ys = some cs) : ∃ us : List Value, w.there b 0 us.length ∧ o + vs.length ≤ us.length ∧
     Step X ρ h w ρ (hset h id ⟨true, true, cs⟩) (w.setCells b o vs) := by
 obtain ⟨us, hb', hlt, hX, hra, hth, hus⟩ : ∃ us, ρ id = some b ∧ b < w.heap.size ∧ ¬ X b ∧ w.rangeAt b 0 us ∧ w.there b 0 us.length ∧ RepL w (XX X ρ h) ρ us (hget h id).cells := by
   rcases hh.blk id hl with ⟨b', us, hb', hlt, hX, hra, hth, hus⟩ | ⟨hn, _⟩
   . rw [hb'] at hρ; cases hρ; exact ⟨us, hb', hlt, hX, hra, hth, hus⟩
   . rw [hn] at hρ; cases hρ
 obtain ⟨hlen, hnew⟩ := hus.put hys hput
 have hidlt := live_lt hl
 have hB : XX X ρ h b := .inr ⟨id, hl, hw, hb'⟩
 have he := Ext.setCells w b o vs
 have hlive : ∀ i, (hget (hset h id ⟨true, true, cs⟩) i).live = (hget h i).live := fun i => by
   rw [hget_hset]; split
   . rename_i e; rw [← e.1, hl]
   . rfl
 have hwr : ∀ i, (hget (hset h id ⟨true, true, cs⟩) i).wr = (hget h i).wr := fun i => by
   rw [hget_hset]; split
   . rename_i e; rw [← e.1, hw]
   . rfl
 have hXX : ∀ c, XX X ρ (hset h id ⟨true, true, cs⟩) c ↔ XX X ρ h c := fun c => by
   unfold XX; constructor
   . rintro (h1 | ⟨i, h1, h2, h3⟩)
     . exact .inl h1
     . exact .inr ⟨i, by rwa [hlive] at h1, by rwa [hwr] at h2, h3⟩
   . rintro (h1 | ⟨i, h1, h2, h3⟩)
     . exact .inl h1
     . exact .inr ⟨i, by rwa [hlive], by rwa [hwr], h3⟩
 have car : ∀ v x, Rep w (XX X ρ h) ρ v x → Rep (w.setCells b o vs) (XX X ρ (hset h id ⟨true, true, cs⟩)) ρ v x := fun v x hr =>
   hr.carry he (fun c _ hc => ⟨fun h' => hc ((hXX c).1 h'), fun e => hc (e ▸ hB)⟩) (fun _ _ h => h)
 have carL : ∀ vs' xs, RepL w (XX X ρ h) ρ vs' xs → RepL (w.setCells b o vs) (XX X ρ (hset h id ⟨true, true, cs⟩)) ρ vs' xs := fun v x hr =>
   hr.carry he (fun c _ hc => ⟨fun h' => hc ((hXX c).1 h'), fun e => hc (e ▸ hB)⟩) (fun _ _ h => h)
 refine ⟨us, hth, hlen, ⟨⟨fun i j c h1 h2 => hh.inj i j c (by rwa [hlive] at h1) (by rwa [hlive] at h2), fun i hi => ?_, fun i hi => hh.dom i (by rwa [hset_length] at hi), fun i d hm => hh.res i d (by
   rw [hget_hset] at hm
   split at hm
   . cases hm
   . exact hm)⟩, car, he.mono fun k hk => by subst hk; exact ⟨id, hl, hw, hb'⟩, fun i c h1 h2 h3 => .inr ⟨i, by rwa [hlive] at h1, by rwa [hwr] at h2, h3⟩, Dead.hset (.inl hl)⟩⟩
 rw [hlive] at hi
 rw [hget_hset]
 by_cases e : id = i
 . subst e
   rw [if_pos ⟨rfl, hidlt⟩]
   refine .inl ⟨b, _, hb', by rw [size_setCells]; exact hlt, hX, range_store hra hth hlen, ?_, carL _ _ hnew⟩
   have : (us.take o ++ vs ++ us.drop (o + vs.length)).length = us.length := by simp; omega
   rw [this]
   exact World.there_setCells hth b o vs
 . rw [if_neg (by simp [e])]
   rcases hh.blk i hi with ⟨c, ws, h1, h2, h3, h4, h5, h6⟩ | h'
   . have hcb : c ≠ b := by rintro rfl; exact e (hh.inj id i c hl hi hb' h1)
     exact .inl ⟨c, ws, h1, by rw [size_setCells]; exact h2, h3, rangeAt_ext he h2 hcb h4, World.there_setCells h5 b o vs, carL _ _ h6⟩
   . exact .inr h'
theorem Step.trans {w1 w2 : World} {ρ1 ρ2 : Nat → Option Nat} {h1 h2 : List Blk} (s : Step X ρ h w ρ1 h1 w1) (t : Step X ρ1 h1 w1 ρ2 h2 w2) : Step X ρ h w ρ2 h2 w2 := by
 refine ⟨t.heap, fun v x hr => t.carry v x (s.carry v x hr), s.ext.trans' t.ext fun b hb hlt => ?_, fun i b h1 h2 h3 => ?_, s.dead.trans t.dead⟩
 . obtain ⟨i, i1, i2, i3⟩ := hb
   rcases s.new i b i1 i2 i3 with h' | h'
   . omega
   . exact h'
 . rcases t.new i b h1 h2 h3 with h' | ⟨j, j1, j2, j3⟩
   . exact .inl (Nat.le_trans s.ext.size h')
   . exact s.new j b j1 j2 j3
theorem Step.carryL {w1 : World} {ρ1 : Nat → Option Nat} {h1 : List Blk} (s : Step X ρ h w ρ1 h1 w1) {vs : List Value} {xs : List AVal} (hr : RepL w (XX X ρ h) ρ vs xs) : RepL w1 (XX X ρ1 h1) ρ1 vs xs := by
 induction hr with
 | nil => exact .nil
 | cons h1 _ ih => exact .cons (s.carry _ _ h1) ih
theorem kill_dead (h : List Blk) (id : Nat) (hl : (hget h id).live = true) : Dead h (hset h id ⟨false, true, []⟩) := Dead.hset (.inl hl)
theorem kill_step (hh : HRel X ρ h w) (id : Nat) (hl : (hget h id).live = true) : Step X ρ h w ρ (hset h id ⟨false, true, []⟩) w := by
 have hlive : ∀ i, (hget (hset h id ⟨false, true, []⟩) i).live = true → (hget h i).live = true ∧ i ≠ id ∧ hget (hset h id ⟨false, true, []⟩) i = hget h i := by
   intro i hi
   rw [hget_hset] at hi ⊢
   split at hi
   . cases hi
   . rename_i hne
     rw [if_neg hne]
     exact ⟨hi, fun e => hne ⟨e.symm, e ▸ live_lt hi⟩, rfl⟩
 have hXX : ∀ c, XX X ρ (hset h id ⟨false, true, []⟩) c → XX X ρ h c := by
   rintro c (h1 | ⟨i, h1, h2, h3⟩)
   . exact .inl h1
   . obtain ⟨h4, h5, h6⟩ := hlive i h1
     rw [h6] at h2
     exact .inr ⟨i, h4, h2, h3⟩
 refine ⟨⟨fun i j c h1 h2 => hh.inj i j c (hlive i h1).1 (hlive j h2).1, fun i hi => ?_, fun i hi => hh.dom i (by rwa [hset_length] at hi), fun i d hm => hh.res i d (by
   rw [hget_hset] at hm
   split at hm
   . cases hm
   . exact hm)⟩, fun v x hr => hr.weaken hXX, Ext.refl _ w, fun i c h1 h2 h3 => ?_, kill_dead h id hl⟩
 . obtain ⟨h4, h5, h6⟩ := hlive i hi
   rw [h6]
   rcases hh.blk i h4 with ⟨c, ws, h1, h2, h3, h4, h5, h6⟩ | h'
   . exact .inl ⟨c, ws, h1, h2, h3, h4, h5, h6.weaken hXX⟩
   . exact .inr h'
 . obtain ⟨h4, h5, h6⟩ := hlive i h1
   rw [h6] at h2
   exact .inr ⟨i, h4, h2, h3⟩
theorem new_step' {us rest : List Value} {t : TypeId} {cs : List AVal} {w1 : World} (hh : HRel X ρ h w) (hold : ∀ b, X b → b < w.heap.size) (h1 : Ext (fun _ => False) w w1) (hs1 : w1.heap.size = w.heap.size) (hr : RepL w (XX X ρ h) ρ us cs) :
   Step X ρ h w (upd ρ h.length w.heap.size) (h ++ [⟨true, true, cs⟩]) (w1.alloc (.cells (us ++ rest).toArray t)) ∧ (w1.alloc (.cells (us ++ rest).toArray t)).there w.heap.size 0 (us.length + rest.length) := by
 have hb : (w1.alloc (.cells (us ++ rest).toArray t)).heap[w.heap.size]? = some (.cells (us ++ rest).toArray t) := by show (w1.heap.push _)[w.heap.size]? = _; rw [← hs1]; simp
 have hra : (w1.alloc (.cells (us ++ rest).toArray t)).rangeAt w.heap.size 0 us := by
   intro j v hj
   rw [Nat.zero_add]
   simp only [World.cell?, hb]
   have : j < us.length := by rcases Nat.lt_or_ge j us.length with h' | h'; exact h'; rw [List.getElem?_eq_none h'] at hj; cases hj
   simp [List.getElem?_append_left this, hj]
 have hth : (w1.alloc (.cells (us ++ rest).toArray t)).there w.heap.size 0 (us.length + rest.length) := by
   intro j hj
   rw [Nat.zero_add]
   refine ⟨by simp only [World.cell?, hb]; simp [hj], by simp only [World.frozen?, hb]; simp⟩
 have hth' : (w1.alloc (.cells (us ++ rest).toArray t)).there w.heap.size 0 us.length := fun j hj => hth j (by omega)
 have hd := hh.dom h.length (Nat.le_refl _)
 have he : Ext (fun _ => False) w (w1.alloc (.cells (us ++ rest).toArray t)) := h1.trans (Ext.alloc _ _ _)
 have hz := hh.toZ he
 have hus : RepL (w1.alloc (.cells (us ++ rest).toArray t)) (fun c => XX X ρ h c ∨ w.heap.size ≤ c) ρ us cs := hr.carry he (fun b hb h' => ⟨fun h2 => by rcases h2 with h2 | h2; exact h' h2; omega, id⟩) (fun _ _ h => h)
 have hn := hz.new (b := w.heap.size) (us := us) (cs := cs) (by show w.heap.size < (w1.heap.push _).size; simp [hs1]) (fun h' => by have := hold _ h'; omega) (fun i hi e => by
   rcases hh.blk i hi with ⟨b', _, h4, h5, _⟩ | ⟨h4, _⟩
   . rw [h4] at e; cases e; omega
   . rw [h4] at e; cases e) hra hth' hus
 refine ⟨⟨hn.toH fun c hc => ?_, fun v x hr => ?_, he.mono fun _ h => h.elim, fun i b i1 i2 i3 => ?_, Dead.app h _⟩, hth⟩
 . rcases XX_new hd hc with h' | rfl
   . exact .inl h'
   . exact .inr (Nat.le_refl _)
 . refine hr.carry he (fun b hb hX => ⟨fun h' => ?_, id⟩) (upd_le hd _)
   rcases XX_new hd h' with h' | rfl
   . exact hX h'
   . omega
 . rw [hget_app] at i1 i2
   by_cases ei : i = h.length
   . subst ei; simp [upd] at i3; subst i3; exact .inl (Nat.le_refl _)
   . rw [if_neg ei] at i1 i2
     unfold upd at i3
     rw [if_neg ei] at i3
     exact .inr ⟨i, i1, i2, i3⟩
theorem isMark_eq {b : Blk} {d : Nat} (h : isMark b d = true) : b = mark d := by
 obtain ⟨l, r, cs⟩ := b
 unfold isMark at h
 split at h
 . rename_i h1 h2 h3
   simp at h h1 h2 h3
   subst h1; subst h2; subst h3; subst h; rfl
 . cases h
theorem findRes_spec : ∀ (h : List Blk) (d i id : Nat), findRes h d i = some id → i ≤ id ∧ id - i < h.length ∧ hget h (id - i) = mark d
 | [], _, _, _, hf => by cases hf
 | b :: h, d, i, id, hf => by
   unfold findRes at hf
   split at hf
   . rename_i hm
     cases hf
     rw [Nat.sub_self]
     exact ⟨Nat.le_refl _, by simp, isMark_eq hm⟩
   . obtain ⟨h1, h2, h3⟩ := findRes_spec h d (i + 1) id hf
     obtain ⟨j, hj⟩ : ∃ j, id - i = j + 1 := ⟨id - i - 1, by omega⟩
     rw [hj]
     have e : id - (i + 1) = j := by omega
     rw [e] at h2 h3
     exact ⟨by omega, by simp; omega, h3⟩
theorem findRes_at {h : List Blk} {d id : Nat} (hf : findRes h d 0 = some id) : id < h.length ∧ hget h id = mark d := by
 obtain ⟨_, h2, h3⟩ := findRes_spec h d 0 id hf
 exact ⟨by simpa using h2, by simpa using h3⟩
theorem fill_step {c : Array Value} {t : TypeId} {cs : List AVal} {id d : Nat} (hh : HRel X ρ h w) (hold : ∀ b, X b → b < w.heap.size) (hid : id < h.length) (hm : hget h id = mark d) (hr : RepL w (XX X ρ h) ρ c.toList cs) :
   Step X ρ h w (upd ρ id w.heap.size) (hset h id ⟨true, true, cs⟩) (w.alloc (.cells c t)) := by
 have hb : (w.alloc (.cells c t)).heap[w.heap.size]? = some (.cells c t) := by show (w.heap.push _)[w.heap.size]? = _; simp
 have hra : (w.alloc (.cells c t)).rangeAt w.heap.size 0 c.toList := by
   intro j v hj
   rw [Nat.zero_add]
   simp only [World.cell?, hb]
   simpa using hj
 have hth : (w.alloc (.cells c t)).there w.heap.size 0 c.size := by
   intro j hj
   rw [Nat.zero_add]
   refine ⟨by simp only [World.cell?, hb]; simp [hj], by simp only [World.frozen?, hb]; simp⟩
 have hd := hh.res id d hm
 have he : Ext (fun _ => False) w (w.alloc (.cells c t)) := Ext.alloc _ w _
 have hget' : ∀ i, hget (hset h id ⟨true, true, cs⟩) i = if i = id then ⟨true, true, cs⟩ else hget h i := by
   intro i
   rw [hget_hset]
   by_cases e : id = i
   . rw [if_pos ⟨e, hid⟩, if_pos e.symm]
   . rw [if_neg (by simp [e]), if_neg (fun e' => e e'.symm)]
 have old : ∀ i, i ≠ id → upd ρ id w.heap.size i = ρ i := fun i hi => by unfold upd; rw [if_neg hi]
 have hlt : ∀ i b, (hget h i).live = true → ρ i = some b → b < w.heap.size := by
   intro i b hi e
   rcases hh.blk i hi with ⟨b', _, h4, h5, _⟩ | ⟨h4, _⟩
   . rw [h4] at e; cases e; exact h5
   . rw [h4] at e; cases e
 have hup : ∀ i b, ρ i = some b → upd ρ id w.heap.size i = some b := by
   intro i b hi
   unfold upd
   split
   . rename_i e; subst e; rw [hd] at hi; cases hi
   . exact hi
 have hXX : ∀ c', XX X (upd ρ id w.heap.size) (hset h id ⟨true, true, cs⟩) c' → XX X ρ h c' ∨ c' = w.heap.size := by
   rintro c' (hc | ⟨i, h1, h2, h3⟩)
   . exact .inl (.inl hc)
   . rw [hget'] at h1 h2
     by_cases ei : i = id
     . subst ei; simp [upd] at h3; exact .inr h3.symm
     . rw [if_neg ei] at h1 h2; rw [old i ei] at h3; exact .inl (.inr ⟨i, h1, h2, h3⟩)
 have car : ∀ v x, Rep w (XX X ρ h) ρ v x → Rep (w.alloc (.cells c t)) (XX X (upd ρ id w.heap.size) (hset h id ⟨true, true, cs⟩)) (upd ρ id w.heap.size) v x := fun v x hr =>
   hr.carry he (fun b hb hX => ⟨fun h' => by rcases hXX b h' with h' | rfl; exact hX h'; omega, fun h => h⟩) hup
 have carL : ∀ {vs : List Value} {xs : List AVal}, RepL w (XX X ρ h) ρ vs xs → RepL (w.alloc (.cells c t)) (XX X (upd ρ id w.heap.size) (hset h id ⟨true, true, cs⟩)) (upd ρ id w.heap.size) vs xs := by
   intro vs xs hr
   induction hr with
   | nil => exact .nil
   | cons h1 _ ih => exact .cons (car _ _ h1) ih
 refine ⟨⟨fun i j b hi hj h1 h2 => ?_, fun i hi => ?_, fun i hi => ?_, fun i e hm' => ?_⟩, car, he.mono fun _ h => h.elim, fun i b i1 i2 i3 => ?_, Dead.hset (.inr (.inl (by rw [hm]; rfl)))⟩
 . rw [hget'] at hi hj
   by_cases ei : i = id <;> by_cases ej : j = id
   . rw [ei, ej]
   . rw [if_neg ej] at hj
     rw [old j ej] at h2
     subst ei
     simp [upd] at h1
     have := hlt j b hj h2
     omega
   . rw [if_neg ei] at hi
     rw [old i ei] at h1
     subst ej
     simp [upd] at h2
     have := hlt i b hi h1
     omega
   . rw [if_neg ei] at hi; rw [if_neg ej] at hj
     rw [old i ei] at h1; rw [old j ej] at h2
     exact hh.inj i j b hi hj h1 h2
 . rw [hget'] at hi ⊢
   by_cases ei : i = id
   . rw [if_pos ei]
     subst ei
     exact .inl ⟨w.heap.size, c.toList, by simp [upd], by simp, fun h' => by have := hold _ h'; omega, hra, by simpa using hth, carL hr⟩
   . rw [if_neg ei] at hi ⊢
     rw [old i ei]
     rcases hh.blk i hi with ⟨b, vs, h1, h2, h3, h4, h5, h6⟩ | h'
     . exact .inl ⟨b, vs, h1, Nat.lt_of_lt_of_le h2 he.size, h3, rangeAt_ext he h2 (fun h => h) h4, he.there _ _ _ h5, carL h6⟩
     . exact .inr h'
 . rw [hset_length] at hi
   rw [old i (by omega)]
   exact hh.dom i hi
 . rw [hget'] at hm'
   by_cases ei : i = id
   . rw [if_pos ei] at hm'; cases hm'
   . rw [if_neg ei] at hm'; rw [old i ei]; exact hh.res i e hm'
 . rw [hget'] at i1 i2
   by_cases ei : i = id
   . subst ei; simp [upd] at i3; exact .inl (by omega)
   . rw [if_neg ei] at i1 i2; rw [old i ei] at i3; exact .inr ⟨i, i1, i2, i3⟩
theorem aopR_sound (hT : TyOk P T) (o : Oper) (a : Act) {K : AVal → List Blk → Prop} (hh : HRel X ρ h w) (hold : ∀ b, X b → b < w.heap.size) (hq : aopR T o h K) {next : Act → World → Prop} {Q : Exit → Act → World → Prop}
   (hn : ∀ v y h' ρ' w', K y h' → Step X ρ h w ρ' h' w' → Rep w' (XX X ρ' h') ρ' v y → next (a.put o.dst v) w') : o.wp P a w next Q := by
 obtain ⟨dst, op, ty, pos, after, guard⟩ := o
 unfold aopR at hq
 split at hq <;> try (exact hq.elim)
 rename_i t d hop hdst
 simp only at hop hdst
 subst hop; subst hdst
 obtain ⟨hc, hq⟩ := onlyIf_inv hq
 obtain ⟨id, hid, hk⟩ := optK_inv hq
 obtain ⟨h1, h2⟩ := findRes_at hid
 obtain ⟨z, hz, hzc, hza⟩ := hT.zero (P := P) (w := w) (notOther_iff hc)
 have hr : RepL w (XX X ρ h) ρ z.cells.toList (mapV (T.zero t)) := by rw [hzc]; exact RepL.mapV _
 have st := fill_step (t := t) hh hold h1 h2 hr
 exact value_wp (v := .pointer (some ⟨w.heap.size, 0, none⟩)) (w' := w.alloc (.cells z.cells t)) (by simp [execOp, Instr.alloc, hz, newVar, run_newRow]) (hn _ _ _ _ _ hk st (.own _ _ _ (by simp [upd])))
theorem hget_marks : ∀ (ops : List Oper) (i : Nat), hget (marksOf ops) i = default ∨ ∃ d, hget (marksOf ops) i = mark d
 | [], _ => .inl rfl
 | o :: l, i => by
   unfold marksOf
   split
   . cases i with
     | zero => exact .inr ⟨_, rfl⟩
     | succ i => exact hget_marks l i
   . exact hget_marks l i
theorem hget_append (h k : List Blk) (i : Nat) : hget (h ++ k) i = if i < h.length then hget h i else hget k (i - h.length) := by
 induction h generalizing i with
 | nil => simp
 | cons x h ih => cases i with
   | zero => simp [hget]
   | succ i => simp only [List.cons_append, hget, ih, List.length_cons]; by_cases e : i < h.length <;> simp [e]
theorem reserve_step (hh : HRel X ρ h w) (ops : List Oper) : Step X ρ h w ρ (h ++ marksOf ops) w := by
 have hg : ∀ i, hget (h ++ marksOf ops) i = hget h i ∨ (h.length ≤ i ∧ (hget (h ++ marksOf ops) i).live = false) := by
   intro i
   rw [hget_append]
   by_cases e : i < h.length
   . rw [if_pos e]; exact .inl rfl
   . rw [if_neg e]
     rcases hget_marks ops (i - h.length) with e1 | ⟨d, e1⟩ <;> (rw [e1]; exact .inr ⟨by omega, rfl⟩)
 have hl : ∀ i, (hget (h ++ marksOf ops) i).live = true → hget (h ++ marksOf ops) i = hget h i := by
   intro i hi
   rcases hg i with e | ⟨_, e⟩
   . exact e
   . rw [e] at hi; cases hi
 have hXX : ∀ c, XX X ρ (h ++ marksOf ops) c → XX X ρ h c := by
   rintro c (hc | ⟨i, h1, h2, h3⟩)
   . exact .inl hc
   . have e := hl i h1
     rw [e] at h1 h2
     exact .inr ⟨i, h1, h2, h3⟩
 refine ⟨⟨fun i j b h1 h2 => ?_, fun i h1 => ?_, fun i hi => hh.dom i (by simp at hi; omega), fun i d hm => ?_⟩, fun v x hr => hr.weaken hXX, Ext.refl _ w, fun i b h1 h2 h3 => ?_, ⟨by simp, fun i hi _ _ => hget_appl _ _ _ hi⟩⟩
 . rw [hl i h1] at h1; rw [hl j h2] at h2; exact hh.inj i j b h1 h2
 . have e := hl i h1
   rw [e] at h1 ⊢
   rcases hh.blk i h1 with ⟨b, vs, h1, h2, h3, h4, h5, h6⟩ | h'
   . exact .inl ⟨b, vs, h1, h2, h3, h4, h5, h6.weaken hXX⟩
   . exact .inr h'
 . by_cases e : i < h.length
   . rw [hget_appl _ _ _ e] at hm; exact hh.res i d hm
   . exact hh.dom i (by omega)
 . have e := hl i h1
   rw [e] at h1 h2
   exact .inr ⟨i, h1, h2, h3⟩
theorem new0_step (hh : HRel X ρ h w) : Step X ρ h w ρ (h ++ [⟨true, true, []⟩]) w := by
 have hd := hh.dom h.length (Nat.le_refl _)
 have hz := (hh.toZ (Ext.refl _ w)).new0
 refine ⟨hz.toH fun c hc => .inl (XX_new0 hd hc), fun v x hr => hr.weaken fun c hc => XX_new0 hd hc, Ext.refl _ w, fun i b i1 i2 i3 => ?_, Dead.app h _⟩
 rw [hget_app] at i1 i2
 by_cases ei : i = h.length
 . subst ei; rw [hd] at i3; cases i3
 . rw [if_neg ei] at i1 i2
   exact .inr ⟨i, i1, i2, i3⟩
theorem grow_step (hh : HRel X ρ h w) {id b k : Nat} {vs : List Value} {ys : List AVal} (hl : (hget h id).live = true) (hw : (hget h id).wr = true) (hρ : ρ id = some b)
   (hys : RepL w (XX X ρ h) ρ vs ys) (hlen : (hget h id).cells.length = k) (hth : w.there b 0 (k + vs.length)) :
   Step X ρ h w (upd ρ h.length b) (hset h id ⟨false, true, []⟩ ++ [⟨true, true, app (hget h id).cells ys⟩]) (w.setCells b k vs) := by
 obtain ⟨us, hb', hlt, hX, hra, _, hus⟩ : ∃ us, ρ id = some b ∧ b < w.heap.size ∧ ¬ X b ∧ w.rangeAt b 0 us ∧ w.there b 0 us.length ∧ RepL w (XX X ρ h) ρ us (hget h id).cells := by
   rcases hh.blk id hl with ⟨b', us, hb', hlt, hX, hra, hth, hus⟩ | ⟨hn, _⟩
   . rw [hb'] at hρ; cases hρ; exact ⟨us, hb', hlt, hX, hra, hth, hus⟩
   . rw [hn] at hρ; cases hρ
 have hul : us.length = k := by rw [hus.length, hlen]
 have hidlt := live_lt hl
 have hB : XX X ρ h b := .inr ⟨id, hl, hw, hb'⟩
 have he := Ext.setCells w b k vs
 have hd := hh.dom h.length (Nat.le_refl _)
 have hlen' : (hset h id ⟨false, true, []⟩).length = h.length := hset_length _ _ _
 have hget' : ∀ i, hget (hset h id ⟨false, true, []⟩ ++ [⟨true, true, app (hget h id).cells ys⟩]) i = if i = h.length then ⟨true, true, app (hget h id).cells ys⟩ else if i = id then ⟨false, true, []⟩ else hget h i := by
   intro i
   rw [hget_app, hlen']
   split
   . rfl
   . rw [hget_hset]
     by_cases e : id = i
     . rw [if_pos ⟨e, hidlt⟩, if_pos e.symm]
     . rw [if_neg (by simp [e]), if_neg (fun e' => e e'.symm)]
 have old : ∀ i, i ≠ h.length → upd ρ h.length b i = ρ i := fun i hi => by unfold upd; rw [if_neg hi]
 have hXX : ∀ c, XX X (upd ρ h.length b) (hset h id ⟨false, true, []⟩ ++ [⟨true, true, app (hget h id).cells ys⟩]) c → XX X ρ h c := by
   rintro c (h1 | ⟨i, h1, h2, h3⟩)
   . exact .inl h1
   . rw [hget'] at h1 h2
     by_cases e1 : i = h.length
     . subst e1; simp [upd] at h3; subst h3; exact hB
     . rw [if_neg e1] at h1 h2
       by_cases e2 : i = id
       . rw [if_pos e2] at h1; cases h1
       . rw [if_neg e2] at h1 h2; rw [old i e1] at h3; exact .inr ⟨i, h1, h2, h3⟩
 have car : ∀ v x, Rep w (XX X ρ h) ρ v x → Rep (w.setCells b k vs) (XX X (upd ρ h.length b) (hset h id ⟨false, true, []⟩ ++ [⟨true, true, app (hget h id).cells ys⟩])) (upd ρ h.length b) v x := fun v x hr =>
   hr.carry he (fun c _ hc => ⟨fun h' => hc (hXX c h'), fun e => hc (e ▸ hB)⟩) (upd_le hd b)
 have carL : ∀ vs' xs, RepL w (XX X ρ h) ρ vs' xs → RepL (w.setCells b k vs) (XX X (upd ρ h.length b) (hset h id ⟨false, true, []⟩ ++ [⟨true, true, app (hget h id).cells ys⟩])) (upd ρ h.length b) vs' xs := fun v x hr =>
   hr.carry he (fun c _ hc => ⟨fun h' => hc (hXX c h'), fun e => hc (e ▸ hB)⟩) (upd_le hd b)
 refine ⟨⟨fun i j c h1 h2 h3 h4 => ?_, fun i hi => ?_, fun i hi => ?_, fun i d hm => by
   rw [hget'] at hm
   by_cases e1 : i = h.length
   . rw [if_pos e1] at hm; cases hm
   . rw [if_neg e1] at hm
     by_cases e2 : i = id
     . rw [if_pos e2] at hm; cases hm
     . rw [if_neg e2] at hm; rw [old i e1]; exact hh.res i d hm⟩, car, he.mono fun k hk => by subst hk; exact ⟨id, hl, hw, hb'⟩, fun i c h1 h2 h3 => ?_, (kill_dead h id hl).trans (Dead.app _ _)⟩
 . rw [hget'] at h1 h2
   by_cases e1 : i = h.length <;> by_cases e2 : j = h.length
   . omega
   . rw [if_neg e2] at h2
     by_cases e3 : j = id
     . rw [if_pos e3] at h2; cases h2
     . rw [if_neg e3] at h2
       rw [old j e2] at h4
       subst e1; simp [upd] at h3; subst h3
       exact absurd (hh.inj j id b h2 hl h4 hb') e3
   . rw [if_neg e1] at h1
     by_cases e3 : i = id
     . rw [if_pos e3] at h1; cases h1
     . rw [if_neg e3] at h1
       rw [old i e1] at h3
       subst e2; simp [upd] at h4; subst h4
       exact absurd (hh.inj i id b h1 hl h3 hb') e3
   . rw [if_neg e1] at h1; rw [if_neg e2] at h2
     rw [old i e1] at h3; rw [old j e2] at h4
     by_cases e3 : i = id
     . rw [if_pos e3] at h1; cases h1
     . rw [if_neg e3] at h1
       by_cases e4 : j = id
       . rw [if_pos e4] at h2; cases h2
       . rw [if_neg e4] at h2
         exact hh.inj i j c h1 h2 h3 h4
 . rw [hget'] at hi ⊢
   by_cases e1 : i = h.length
   . rw [if_pos e1]
     subst e1
     refine .inl ⟨b, us ++ vs, by simp [upd], by rw [size_setCells]; exact hlt, hX, ?_, ?_, ?_⟩
     . intro j v hj
       rw [Nat.zero_add]
       by_cases hj1 : j < k
       . rw [World.cell?_setCells_out b vs k w ⟨b, j, none⟩ (fun _ _ => .inl hj1)]
         rw [List.getElem?_append_left (by omega)] at hj
         have := hra j v hj
         simpa using this
       . rw [List.getElem?_append_right (by omega), hul] at hj
         have hjv : j - k < vs.length := by rcases Nat.lt_or_ge (j - k) vs.length with h' | h'; exact h'; rw [List.getElem?_eq_none h'] at hj; cases hj
         have := World.cell?_setCells_in b vs k w (fun q hq => by have := (hth (k + q) (by omega)).1; simpa using this) (j - k) hjv
         rw [show k + (j - k) = j by omega] at this
         rw [this]
         rw [List.getElem?_eq_getElem hjv] at hj
         exact hj
     . have : (us ++ vs).length = k + vs.length := by simp [hul]
       rw [this]
       exact World.there_setCells hth b k vs
     . have e := (carL _ _ hus).append (carL _ _ hys)
       rw [← app_eq] at e
       exact e
   . rw [if_neg e1] at hi ⊢
     by_cases e2 : i = id
     . rw [if_pos e2] at hi; cases hi
     . rw [if_neg e2] at hi ⊢
       rw [old i e1]
       rcases hh.blk i hi with ⟨c, ws, h1, h2, h3, h4, h5, h6⟩ | h'
       . have hcb : c ≠ b := by rintro rfl; exact e2 (hh.inj i id c hi hl h1 hb')
         exact .inl ⟨c, ws, h1, by rw [size_setCells]; exact h2, h3, rangeAt_ext he h2 hcb h4, World.there_setCells h5 b k vs, carL _ _ h6⟩
       . exact .inr h'
 . simp [hlen'] at hi
   rw [old i (by omega)]
   exact hh.dom i (by omega)
 . rw [hget'] at h1 h2
   by_cases e1 : i = h.length
   . subst e1; simp [upd] at h3; subst h3; exact .inr ⟨id, hl, hw, hb'⟩
   . rw [if_neg e1] at h1 h2
     by_cases e2 : i = id
     . rw [if_pos e2] at h1; cases h1
     . rw [if_neg e2] at h1 h2
       rw [old i e1] at h3
       exact .inr ⟨i, h1, h2, h3⟩
theorem growBy_le (n : Nat) : ∀ r c, c ≤ 2 * n + 200 → Builtin.growBy n r c ≤ 2 * n + 200
 | 0, c, h => by simpa [Builtin.growBy] using h
 | r + 1, c, h => by
   simp only [Builtin.growBy]
   split
   . exact h
   . exact growBy_le n r _ (by omega)
theorem nextcap_le (n c : Nat) (h : c < n) : Builtin.nextslicecap n c ≤ 2 * n + 200 := by
 unfold Builtin.nextslicecap
 split
 . omega
 . split
   . omega
   . exact growBy_le n 4 c (by omega)
theorem isCpy_eq {c : Callee} (h : isCpy c = true) : c = .builtin .copy := by
 cases c <;> simp [isCpy] at h
 rename_i b; cases b <;> simp at h; rfl
theorem aopE_sound (hT : TyOk P T) {Sp : SpecT} (hS : SpOK P Sp) (o : Oper) (a : Act) {e : Operand → AVal} {K : AVal → List Blk → Prop} (hh : HRel X ρ h w) (hold : ∀ b, X b → b < w.heap.size) (he : ∀ x, Rep w (XX X ρ h) ρ (a.eval x) (e x))
   (hq : aopE Ar.real T Sp o e h K) {next : Act → World → Prop} {Q : Exit → Act → World → Prop}
   (hn : ∀ v y h' ρ' w', K y h' → Step X ρ h w ρ' h' w' → Rep w' (XX X ρ' h') ρ' v y → next (a.put o.dst v) w') : o.wp P a w next Q := by
 obtain ⟨dst, op, ty, pos, after, guard⟩ := o
 unfold aopE at hq
 cases op <;> simp only at hq <;> try (exact hq.elim)
 case store t x y =>
   have hx := he x
   generalize e x = z at hq hx
   have fin : ∀ (id off blk : Nat) (ys cs : List AVal), (e y).cells = some ys → ((hget h id).live && (hget h id).wr && (ys.length == T.size t) && flatL AVal.one ys && notOther (T.und t)) = true → lput (hget h id).cells off ys = some cs →
       K (.tup []) (hset h id ⟨true, true, cs⟩) → a.eval x = .pointer (some ⟨blk, off, none⟩) → ρ id = some blk → ({ dst := dst, op := .store t x y, type := ty, pos := pos, after := after, guard := guard } : Oper).wp P a w next Q := by
     intro id off blk ys cs hys hc hcs hk hv hρ
     simp at hc
     have hy := (he y).cells hys
     obtain ⟨us, hth, hlen, hst⟩ := setCells_step hh hc.1.1.1.1 hc.1.1.1.2 hρ hy hcs
     have h1 := flatL_one hc.1.2 hy
     have hrun := run_storeCells_cells (P := P) blk off (a.eval y).cells.toList 0 w (fun j hj => by have := (hth (off + j) (by omega)).1; simpa using this) (fun j hj => by have := (hth (off + j) (by omega)).2; simpa using this) h1
     rw [Nat.add_zero] at hrun
     have hsz := hT.size (P := P) (w := w) (notOther_iff hc.2)
     have hcl : (a.eval y).cells.size = T.size t := by have := hy.length; simp at this; omega
     unfold Oper.wp
     have : (execOp a.eval { dst := dst, op := .store t x y, type := ty, pos := pos, after := after, guard := guard }).run P w = .ok .skip (w.setCells blk off (a.eval y).cells.toList) := by
       simp only [execOp, hv, Instr.storeAt, Instr.sureAddr, storeVar, Sem.run_bind, Sem.run_pure, Result.andThen_ok, hsz, hcl, ne_eq, not_true_eq_false, if_false, hrun]
     rw [this]
     exact hn undef _ _ ρ _ hk hst Rep.undef
   cases z <;> try (exact hq.elim)
   . rename_i id off
     obtain ⟨ys, hys, hq⟩ := optK_inv hq
     obtain ⟨hc, hq⟩ := onlyIf_inv hq
     obtain ⟨cs, hcs, hk⟩ := optK_inv hq
     obtain ⟨blk, hv, hρ⟩ := hx.own_inv
     exact fin id off blk ys cs hys hc hcs hk hv hρ
   . rename_i id off
     obtain ⟨ys, hys, hq⟩ := optK_inv hq
     obtain ⟨hc, hq⟩ := onlyIf_inv hq
     obtain ⟨blk, hv, hρ⟩ := hx.el_inv
     cases hq with
     | mk cs hcs hk => exact fin id off blk ys cs hys hc hcs hk hv hρ
 case alloc t =>
   obtain ⟨hc, hk⟩ := onlyIf_inv hq
   obtain ⟨z, hz, hzc, hza⟩ := hT.zero (P := P) (w := w) (notOther_iff hc)
   have hr : RepL w (XX X ρ h) ρ z.cells.toList (mapV (T.zero t)) := by rw [hzc]; exact RepL.mapV _
   obtain ⟨h1, h2, h3⟩ := new_step (t := t) hh hold hr
   exact value_wp (v := .pointer (some ⟨w.heap.size, 0, none⟩)) (w' := w.alloc (.cells z.cells t)) (by simp [execOp, Instr.alloc, hz, newVar, run_newRow]) (hn _ _ _ _ _ hk h1 (.own _ _ _ (by simp [upd])))
 case box t x =>
   obtain ⟨cs, hcs, hk⟩ := optK_inv hq
   obtain ⟨h1, h2, h3⟩ := new_step (t := t) hh hold ((he x).cells hcs)
   exact value_wp (v := .pointer (some ⟨w.heap.size, 0, none⟩)) (w' := w.alloc (.cells (a.eval x).cells t)) (by simp [execOp, Instr.box, newVar, run_newRow]) (hn _ _ _ _ _ hk h1 (.own _ _ _ (by simp [upd])))
 case buildSlice t n parts =>
   split at hq <;> try (exact hq.elim)
   rename_i el ht
   obtain ⟨hc, hq⟩ := onlyIf_inv hq
   simp at hc
   obtain ⟨cs, hcs, hk⟩ := optK_inv hq
   obtain ⟨c, h1, h2⟩ := run_buildSlice (P := P) (w := w) hT ht (notOther_iff hc.1) hc.2 he hcs
   obtain ⟨h3, h4, h5⟩ := new_step (t := el) hh hold h2
   have hlen : c.size = n * T.size el := by
     have := h2.length
     have h6 := fillP_length hcs
     rw [reps_length, mapV_length, hT.zlen] at h6
     simp at this; omega
   exact value_wp (v := .slice (some ⟨w.heap.size, 0, none⟩) n n) (w' := w.alloc (.cells c el)) (by simp [execOp, h1]) (hn _ _ _ _ _ hk h3 (.osl _ _ _ _ _ _ n (by simp [upd]) (Nat.le_refl _) (by rw [← hlen]; exact h4)))
 case makeSlice t l c =>
   split at hq <;> try (exact hq.elim)
   . rename_i el k n k' m ht hl hc
     obtain ⟨h1, hk⟩ := onlyIf_inv hq
     simp at h1
     obtain ⟨⟨⟨⟨h2, h3⟩, h4⟩, h5⟩, h6⟩ := h1
     have hlv := he l
     have hcv := he c
     rw [hl] at hlv
     rw [hc] at hcv
     obtain ⟨us, rest, h7, h8, h9⟩ := run_makeCap (P := P) (w := w) (X := XX X ρ h) (ρ := ρ) (k := k) (k' := k') hT ht (notOther_iff h5) h2 h3 (by omega) (by omega)
     obtain ⟨i3, i4⟩ := new_step' (rest := rest) (t := el) (w1 := w) hh hold (Ext.refl _ w) rfl h8
     exact value_wp (v := .slice (some ⟨w.heap.size, 0, none⟩) n.toNat m.toNat) (w' := w.alloc (.cells (us ++ rest).toArray el)) (by simp [execOp, hlv.i_inv, hcv.i_inv, h7]) (hn _ _ _ _ _ hk i3 (.osl _ _ _ _ _ _ m.toNat (by simp [upd]) (by omega) (by rw [← h9]; exact i4)))
   . rename_i el k n k' m ht hl hc
     obtain ⟨h1, hk⟩ := onlyIf_inv hq
     simp at h1
     obtain ⟨⟨h2, h5⟩, h6⟩ := h1
     subst h2
     have hk' : (0 ≤ m ∧ m < 1000000000) ∧ K (.osl false h.length 0 0 (T.size el)) (h ++ [⟨true, true, []⟩]) := by
       cases hk with
       | mk h1 h2 => exact ⟨by simpa [Ar.real] using h1, h2⟩
     obtain ⟨⟨h3, h4⟩, hk⟩ := hk'
     have hlv := he l
     have hcv := he c
     rw [hl] at hlv
     rw [hc] at hcv
     obtain ⟨us, rest, h7, h8, h9⟩ := run_makeCap (P := P) (w := w) (X := XX X ρ h) (ρ := ρ) (k := k) (k' := k') (n := 0) hT ht (notOther_iff h5) (Int.le_refl _) h3 h4 (by omega)
     obtain ⟨i3, i4⟩ := new_step' (rest := rest) (t := el) (w1 := w) hh hold (Ext.refl _ w) rfl h8
     exact value_wp (v := .slice (some ⟨w.heap.size, 0, none⟩) 0 m.toNat) (w' := w.alloc (.cells (us ++ rest).toArray el)) (by simp [execOp, hlv.i_inv, hcv.s_inv, h7]) (hn _ _ _ _ _ hk i3 (.osl _ _ _ _ _ _ m.toNat (by simp [upd]) (Nat.zero_le _) (by rw [← h9]; exact i4)))
 case call c =>
   split at hq
   . rename_i happ
     obtain ⟨cal, cargs, cty⟩ := c
     obtain rfl : cal = .builtin .append := by
       cases cal <;> simp [isApp] at happ
       rename_i b; cases b <;> simp [isApp] at happ; rfl
     unfold appE at hq
     split at hq <;> try (exact hq.elim)
     rename_i t u tl s x hty hargs
     split at hq <;> try (exact hq.elim)
     rename_i el ht
     obtain ⟨hc, hq⟩ := onlyIf_inv hq
     simp at hc
     obtain ⟨m, n, ys, us, xa, xc, hk, hus, hul, hxv, hxb, hxn, _⟩ := rowK_inv hh (he x) hq
     obtain ⟨cargs⟩ := cargs
     simp at hargs
     subst hargs
     have hsv := he s
     have hex : ∀ (v : Value) (w' : World), (Builtin.append_ cty ty #[a.eval s, a.eval x]).run P w = .ok v w' →
         (execOp a.eval { dst := dst, op := .call { callee := .builtin .append, args := #[s, x], argTypes := cty }, type := ty, pos := pos, after := after, guard := guard }).run P w = .ok (.value v) w' := by
       intro v w' h1
       simp only [execOp, resolve, invoke, builtin, Sem.run_bind, Sem.run_pure, Result.andThen_ok, List.map_toArray, List.map_cons, List.map_nil, h1]
     have h0 : cty.toList.head? = some t := by rw [hty]; rfl
     have hel := notOther_iff hc.1.1
     split at hk
     . rename_i hs
       rw [hs] at hsv
       have hsv := hsv.v_inv
       obtain ⟨hroom, hk⟩ := roomK_inv hk
       rw [hsv, hxv] at hex
       rcases Nat.eq_zero_or_pos n with rfl | hpos
       . have hue : us = [] := by simpa using hul
         subst hue
         cases hus
         have hrun := run_append_in (P := P) (w := w) (w' := w) (ty := ty) (sb := none) (sn := 0) (sc := 0) (xn := 0) (xc := xc) (xb := xa) (news := []) (argTypes := cty) hT h0 ht hel hc.1.2 (by simp) (fun b _ => .inl rfl) (fun _ => rfl) (Nat.le_refl _) rfl
         exact value_wp (v := .slice none 0 0) (w' := w) (hex _ _ hrun) (hn _ _ _ _ _ hk (new0_step hh) (.osl0 _ _ _ _ _))
       . have hn1 : n ≤ 140737488355328 := Nat.le_trans (Nat.le_mul_of_pos_right n hc.2) hroom
         obtain ⟨cap, rest, h3, h4, hrun⟩ := run_append_new (P := P) (w := w) (ty := ty) (sb := none) (sn := 0) (sc := 0) (xn := n) (xc := xc) (xb := xa) (olds := []) (news := us) (argTypes := cty) hT h0 ht hel hc.1.2 hc.2
           (by simp) (fun b hb => .inl rfl) (fun _ => rfl) hul hxb hxn (by omega) (by simp [Builtin.nextslicecap, hpos]; omega) (by omega)
         simp only [Nat.zero_add, List.nil_append] at h3 h4 hrun
         obtain ⟨h5, h6⟩ := new_step' (rest := rest) (t := el) (w1 := w.drew) hh hold (Ext.drew _ w) rfl hus
         have hcap : us.length + rest.length = cap * T.size el := by rw [hul, h4, ← Nat.add_mul]; congr 1; omega
         exact value_wp (hex _ _ hrun) (hn _ _ _ _ _ hk h5 (.osl _ _ _ _ _ _ cap (by simp [upd]) h3 (by rw [← hcap]; exact h6)))
     . rename_i hs
       rw [hs] at hsv
       obtain ⟨sa, hsv⟩ := hsv.cap0_inv
       obtain ⟨hroom, hk⟩ := roomK_inv hk
       rw [hsv, hxv] at hex
       rcases Nat.eq_zero_or_pos n with rfl | hpos
       . have hue : us = [] := by simpa using hul
         subst hue
         cases hus
         have hrun := run_append_in (P := P) (w := w) (w' := w) (ty := ty) (sb := sa) (sn := 0) (sc := 0) (xn := 0) (xc := xc) (xb := xa) (news := []) (argTypes := cty) hT h0 ht hel hc.1.2 (by simp) (fun b _ => .inl rfl) (fun _ => rfl) (Nat.le_refl _) (by cases sa <;> rfl)
         exact value_wp (v := .slice sa 0 0) (w' := w) (hex _ _ hrun) (hn _ _ _ _ _ hk (new0_step hh) (.osl0 _ _ _ _ _))
       . have hn1 : n ≤ 140737488355328 := Nat.le_trans (Nat.le_mul_of_pos_right n hc.2) hroom
         obtain ⟨cap, rest, h3, h4, hrun⟩ := run_append_new (P := P) (w := w) (ty := ty) (sb := sa) (sn := 0) (sc := 0) (xn := n) (xc := xc) (xb := xa) (olds := []) (news := us) (argTypes := cty) hT h0 ht hel hc.1.2 hc.2
           (by simp) (fun b hb => .inl rfl) (fun _ => rfl) hul hxb hxn (by omega) (by simp [Builtin.nextslicecap, hpos]; omega) (by omega)
         simp only [Nat.zero_add, List.nil_append] at h3 h4 hrun
         obtain ⟨h5, h6⟩ := new_step' (rest := rest) (t := el) (w1 := w.drew) hh hold (Ext.drew _ w) rfl hus
         have hcap : us.length + rest.length = cap * T.size el := by rw [hul, h4, ← Nat.add_mul]; congr 1; omega
         exact value_wp (hex _ _ hrun) (hn _ _ _ _ _ hk h5 (.osl _ _ _ _ _ _ cap (by simp [upd]) h3 (by rw [← hcap]; exact h6)))
     . rename_i id sn sz hs
       rw [hs] at hsv
       obtain ⟨hc2, hk2⟩ := onlyIf_inv hk
       clear hk hq
       simp at hc2
       obtain ⟨⟨⟨⟨⟨hl, hw⟩, hsz⟩, hlen⟩, hm⟩, hone⟩ := hc2
       subst hsz
       obtain ⟨hroom, hk⟩ := roomK_inv hk2
       clear hk2
       have hbig : 4 * (sn + n) + 1000 ≤ 140737488355328 := Nat.le_trans (Nat.le_mul_of_pos_right _ hc.2) hroom
       rcases hsv.osl_inv with ⟨blk, cap, hv, hρ, h1, h2⟩ | ⟨rfl, b, hv⟩
       . rw [hv, hxv] at hex
         obtain ⟨us0, hlt, hra, hth, hus0⟩ := hh.read hl hρ
         have hl0 : us0.length = sn * T.size el := by rw [hus0.length, hlen]
         by_cases hfit : sn + n ≤ cap
         . have hroomy : w.there blk 0 (sn * T.size el + us.length) := fun j hj => by
             have := h2 j (by
               have : sn * T.size el + n * T.size el ≤ cap * T.size el := by rw [← Nat.add_mul]; exact Nat.mul_le_mul_right _ hfit
               omega)
             simpa using this
           have hstore := run_storeCells_cells (P := P) blk (sn * T.size el) us 0 w (fun j hj => by have := (hroomy (sn * T.size el + j) (by omega)).1; simpa using this) (fun j hj => by have := (hroomy (sn * T.size el + j) (by omega)).2; simpa using this) (flatL_one hone hus)
           rw [Nat.add_zero] at hstore
           have hrun := run_append_in (P := P) (w := w) (w' := w.setCells blk (sn * T.size el) us) (ty := ty) (sb := some ⟨blk, 0, none⟩) (sn := sn) (sc := cap) (xn := n) (xc := xc) (xb := xa) (news := us) (argTypes := cty) hT h0 ht hel hc.1.2 hul hxb hxn hfit
             (by show (storeCells (Addr.add ⟨blk, 0, none⟩ (sn * T.size el)) us).run P w = _; rw [add_mid, Nat.zero_add]; exact hstore)
           have hst := grow_step hh hl hw hρ hus hlen hroomy
           exact value_wp (hex _ _ hrun) (hn _ _ _ _ _ hk hst (.osl _ _ _ _ _ blk cap (by simp [upd]) hfit (World.there_setCells h2 _ _ _)))
         . obtain ⟨cap', rest, h3, h4, hrun⟩ := run_append_new (P := P) (w := w) (ty := ty) (sb := some ⟨blk, 0, none⟩) (sn := sn) (sc := cap) (xn := n) (xc := xc) (xb := xa) (olds := us0) (news := us) (argTypes := cty) hT h0 ht hel hc.1.2 hc.2
             hl0 (fun b hb => by cases hb; exact .inr ⟨blk, 0, rfl, hra⟩) (fun h => by cases h) hul hxb hxn (by omega)
             (by
               have h5 := nextcap_le (sn + n) cap (by omega)
               have h6 : Builtin.nextslicecap (sn + n) cap * T.bytes el ≤ (4 * (sn + n) + 1000) * T.bytes el := Nat.mul_le_mul_right _ (by omega)
               omega) (by omega)
           have hk1 := kill_step hh id hl
           have hus' : RepL w (XX X ρ (hset h id ⟨false, true, []⟩)) ρ (us0 ++ us) (app (hget h id).cells ys) := by
             have := (hus0.append hus)
             rw [← app_eq] at this
             exact hk1.carryL this
           obtain ⟨h5, h6⟩ := new_step' (rest := rest) (t := el) (w1 := w.drew) hk1.heap hold (Ext.drew _ w) rfl hus'
           have hcap : (us0 ++ us).length + rest.length = cap' * T.size el := by rw [List.length_append, hl0, hul, h4, ← Nat.add_mul, ← Nat.add_mul]; congr 1; omega
           rw [hset_length] at h5
           exact value_wp (hex _ _ hrun) (hn _ _ _ _ _ hk (hk1.trans h5) (.osl _ _ _ _ _ _ cap' (by simp [upd]) h3 (by rw [← hcap]; exact h6)))
       . rw [hv, hxv] at hex
         have hcells : (hget h id).cells = [] := by simpa using hlen
         rcases Nat.eq_zero_or_pos n with rfl | hpos
         . have hue : us = [] := by simpa using hul
           subst hue
           cases hus
           have hrun := run_append_in (P := P) (w := w) (w' := w) (ty := ty) (sb := b) (sn := 0) (sc := 0) (xn := 0) (xc := xc) (xb := xa) (news := []) (argTypes := cty) hT h0 ht hel hc.1.2 (by simp) (fun b _ => .inl rfl) (fun _ => rfl) (Nat.le_refl _) (by cases b <;> rfl)
           have hk1 := kill_step hh id hl
           have h5 := new0_step hk1.heap
           have happ0 : app (hget h id).cells ([] : List AVal) = [] := by rw [hcells]; rfl
           rw [happ0] at hk
           exact value_wp (hex _ _ hrun) (hn _ _ _ ρ _ hk (hk1.trans h5) (.osl0 _ _ _ _ _))
         . have hn1 : n ≤ 140737488355328 := by omega
           obtain ⟨cap, rest, h3, h4, hrun⟩ := run_append_new (P := P) (w := w) (ty := ty) (sb := b) (sn := 0) (sc := 0) (xn := n) (xc := xc) (xb := xa) (olds := []) (news := us) (argTypes := cty) hT h0 ht hel hc.1.2 hc.2
             (by simp) (fun b hb => .inl rfl) (fun _ => rfl) hul hxb hxn (by omega)
             (by
               have h5 := nextcap_le (0 + n) 0 (by omega)
               have h6 : Builtin.nextslicecap (0 + n) 0 * T.bytes el ≤ (4 * (0 + n) + 1000) * T.bytes el := Nat.mul_le_mul_right _ (by omega)
               omega) (by omega)
           simp only [Nat.zero_add, List.nil_append] at h3 h4 hrun
           have hk1 := kill_step hh id hl
           have hus' : RepL w (XX X ρ (hset h id ⟨false, true, []⟩)) ρ us ys := hk1.carryL hus
           obtain ⟨h5, h6⟩ := new_step' (rest := rest) (t := el) (w1 := w.drew) hk1.heap hold (Ext.drew _ w) rfl hus'
           have hcap : us.length + rest.length = cap * T.size el := by rw [hul, h4, ← Nat.add_mul]; congr 1; omega
           rw [hset_length] at h5
           have happ0 : app (hget h id).cells ys = ys := by rw [hcells]; rfl
           rw [happ0, Nat.zero_add] at hk
           exact value_wp (hex _ _ hrun) (hn _ _ _ _ _ hk (hk1.trans h5) (.osl _ _ _ _ _ _ cap (by simp [upd]) h3 (by rw [← hcap]; exact h6)))
     . exact hk.elim
   . split at hq
     . rename_i hcpy
       obtain ⟨cal, cargs, cty⟩ := c
       obtain rfl : cal = .builtin .copy := isCpy_eq hcpy
       unfold cpyE at hq
       split at hq <;> try (exact hq.elim)
       rename_i t u tl d x hty hargs
       split at hq <;> try (exact hq.elim)
       rename_i el id off n sz ht hd
       obtain ⟨hc, hq⟩ := onlyIf_inv hq
       simp at hc
       obtain ⟨⟨⟨⟨hl, hw⟩, hsz⟩, hno⟩, h1n⟩ := hc
       subst hsz
       obtain ⟨m, k, ys, us, xa, xc, hk, hus, hul, hxv, hxb, hxn, _⟩ := rowK_inv hh (he x) hq
       obtain ⟨_, hk⟩ := onlyIf_inv hk
       obtain ⟨zs, hzs, hk⟩ := optK_inv hk
       obtain ⟨hone, hk⟩ := onlyIf_inv hk
       obtain ⟨cs, hcs, hk⟩ := optK_inv hk
       obtain ⟨cargs⟩ := cargs
       simp at hargs
       subst hargs
       have hdv := he d
       rw [hd] at hdv
       rcases hdv.osl_inv with ⟨blk, cap, hv, hρ, h1, h2⟩ | ⟨h0, _⟩
       . obtain ⟨hzl, hzr⟩ := hus.sub hzs
         obtain ⟨us0, hth, hlen, hst⟩ := setCells_step hh hl hw hρ hzr hcs
         simp only [List.drop_zero] at hlen hst hzr
         obtain ⟨vs, hvs⟩ : ∃ vs, vs = us.take (Nat.min k n * T.size el) := ⟨_, rfl⟩
         rw [← hvs] at hlen hst hzr
         have hvl : vs.length = Nat.min k n * T.size el := by rw [hvs, List.length_take]; omega
         have hv1 := flatL_one hone hzr
         have hstore := run_storeCells_cells (P := P) blk off vs 0 w (fun j hj => by have := (hth (off + j) (by omega)).1; simpa using this) (fun j hj => by have := (hth (off + j) (by omega)).2; simpa using this) hv1
         rw [Nat.add_zero] at hstore
         have hfirst := first_cells (P := P) (w := w) (a := xa) (cap := xc) (n := Nat.min k n) (us := vs) hvl (fun b hb => by
           rcases hxb b hb with hu | ⟨bk, o, h3, h4⟩
           . left; rw [hvs, hu]; simp
           . right
             refine ⟨bk, o, h3, ?_⟩
             have := range_sub (k := 0) (n := Nat.min k n * T.size el) h4
             rw [hvs]
             simpa using this) (fun h => by have := hxn h; subst this; simp [Nat.min]) w (fun _ => rfl)
         have hfirst' : (Builtin.firstCells (T.size el) (Nat.min k n) (.slice xa k xc)).run P w = .ok vs.toArray w := by
           rw [← hfirst]
           cases xa <;> rfl
         have hsize := hT.size (P := P) (w := w) (notOther_iff hno)
         have hcty : cty = (t :: u :: tl).toArray := by rw [← hty]
         refine value_wp (v := goInt (Nat.min k n)) (w' := w.setCells blk off vs) ?_ (hn _ _ _ ρ _ hk hst (.i _ _))
         simp [execOp, resolve, invoke, builtin, Builtin.copy_, hcty, hv, hxv, run_underlying (hT.slice t el ht), Builtin.lenOf, hsize, hfirst', hstore]
       . omega
     split at hq <;> try (exact hq.elim)
     rename_i f args hc
     obtain ⟨vs, hv, hfin⟩ := callee_run (P := P) hT (o := { dst := dst, op := .call c, type := ty, pos := pos, after := after, guard := guard }) rfl he hc
     split at hq
     . cases hq with
       | mk r h' hsp hk =>
         refine hfin next Q ((hS.mu _ _ _ _ _ hsp X w ρ vs hold hh hv).mono ?_)
         rintro v w' ⟨ρ', h1, h2⟩
         exact hn v _ _ ρ' w' hk h1 h2
     obtain ⟨args', hs, hq⟩ := optK_inv hq
     cases hq with
     | mk r hsp hk =>
       refine hfin next Q (call_spec hh hold hv hs (hS.fn _ _ _ hsp) fun v w' hx ho => ?_)
       have ho' : OutR w w' (XXm X ρ h (heldBy h args r)) v r := by
         cases hf : r.flat with
         | true =>
           have h1 := out_trees (Z := fun _ => False) ho (fun _ h => h.elim) (fun _ h => h.elim)
           rw [noNew_flat hf] at h1
           exact .inr ⟨[], .nil, .tree v r (h1.flat hf) .nil⟩
         | false => simpa [heldBy, hf] using ho
       obtain ⟨ρ', h1, h2⟩ := adopt_step hh hold hx ho'
       exact hn v _ _ ρ' w' hk h1 h2
end
end Eng
set_option linter.unusedSimpArgs false
set_option linter.unusedVariables false
namespace Eng
open Go
section
variable {P : Program} {T : Ty} {w w' : World} {X O : Nat → Prop} {w0 : World} {ρ : Nat → Option Nat} {h : List Blk}
theorem alen0_sound (hT : TyOk P T) (o : Oper) {c : Call} (hop : o.op = .call c) (hb : c.callee = .builtin .len) {e : Operand → AVal} {ρ' : Operand → Value} {K : AVal → Prop} (he : ∀ x, Rep w X ρ (ρ' x) (e x)) (hq : alen0 Ar.real T c e K) :
   ∃ r z, (execOp ρ' o).run P w = .ok (.value r) w ∧ Rep w X ρ r z ∧ K z := by
 obtain ⟨dst, op, ty, pos, after, guard⟩ := o
 obtain ⟨cal, ⟨cargs⟩, ⟨cty⟩⟩ := c
 simp only at hop hb
 subst hop; subst hb
 unfold alen0 at hq
 cases cty with
 | nil => simp at hq
 | cons t cty =>
   cases cargs with
   | nil => simp at hq
   | cons x cargs =>
     simp only [List.getElem?_toArray, List.getElem?_cons_zero] at hq
     have hx := he x
     have hex : ∀ v, (Builtin.len_ (t :: cty).toArray ty ((ρ' x :: cargs.map ρ').toArray)).run P w = .ok v w →
         (execOp ρ' { dst := dst, op := .call { callee := .builtin .len, args := (x :: cargs).toArray, argTypes := (t :: cty).toArray }, type := ty, pos := pos, after := after, guard := guard }).run P w = .ok (.value v) w := by
       intro v h1
       simp only [execOp, resolve, invoke, builtin, Sem.run_bind, Sem.run_pure, Result.andThen_ok, List.map_toArray, List.map_cons, h1]
     generalize e x = y at hq hx
     split at hq <;> try (exact hq.elim)
     . rename_i n el ht
       refine ⟨_, _, hex (goInt n) ?_, .i _ _, hq⟩
       simp only [Builtin.len_, List.getElem?_toArray, List.getElem?_cons_zero, Sem.run_bind, run_underlying (hT.arr t n el ht), Result.andThen_ok]
       cases ρ' x <;> simp
     . rename_i el m ht
       have hv := hx.v_inv
       refine ⟨_, _, hex (goInt 0) ?_, .i _ _, hq⟩
       rw [hv]
       simp only [Builtin.len_, List.getElem?_toArray, List.getElem?_cons_zero, Sem.run_bind, run_underlying (hT.slice t el ht), Result.andThen_ok, Sem.run_pure]
       rfl
     . rename_i el m n cs ht
       have hv : ∃ a cap, ρ' x = .slice a n cap := by
         rcases hx.lst_inv with ⟨blk, off, cap, vs, hv, _⟩ | ⟨rfl, _, a, cap, hv⟩
         . exact ⟨_, _, hv⟩
         . exact ⟨_, _, hv⟩
       obtain ⟨a, cap, hv⟩ := hv
       have h1 : (Builtin.len_ (t :: cty).toArray ty ((ρ' x :: cargs.map ρ').toArray)).run P w = .ok (goInt n) w := by
         rw [hv]
         simp only [Builtin.len_, List.getElem?_toArray, List.getElem?_cons_zero, Sem.run_bind, run_underlying (hT.slice t el ht), Result.andThen_ok, Sem.run_pure]
       cases m
       . exact ⟨_, _, hex _ h1, .i _ _, hq⟩
       . exact ⟨_, _, hex _ h1, .s _ _, hq⟩
     . rename_i el m id off n sz ht
       have hv : ∃ a cap, ρ' x = .slice a n cap := by
         rcases hx.osl_inv with ⟨blk, cap, hv, _⟩ | ⟨rfl, a, hv⟩
         . exact ⟨_, _, hv⟩
         . exact ⟨_, _, hv⟩
       obtain ⟨a, cap, hv⟩ := hv
       have h1 : (Builtin.len_ (t :: cty).toArray ty ((ρ' x :: cargs.map ρ').toArray)).run P w = .ok (goInt n) w := by
         rw [hv]
         simp only [Builtin.len_, List.getElem?_toArray, List.getElem?_cons_zero, Sem.run_bind, run_underlying (hT.slice t el ht), Result.andThen_ok, Sem.run_pure]
       cases m
       . exact ⟨_, _, hex _ h1, .i _ _, hq⟩
       . exact ⟨_, _, hex _ h1, .s _ _, hq⟩
     . rename_i s ht
       have hv := hx.v_inv
       refine ⟨_, _, hex (goInt s.size) ?_, .s _ _, hq⟩
       rw [hv]
       simp only [Builtin.len_, List.getElem?_toArray, List.getElem?_cons_zero, Sem.run_bind, run_underlying (hT.str t ht), Result.andThen_ok, Sem.run_pure]
theorem numU_inv {v : Value} {x : AVal} {a : Int} (hx : Rep w X ρ v x) (h : numU x = some a) : v = .int .u64 a := by
 unfold numU at h
 split at h <;> cases h
 . exact hx.i_inv
 . exact hx.s_inv
theorem amin_sound (o : Oper) {c : Call} (hop : o.op = .call c) (hb : c.callee = .builtin .min) {e : Operand → AVal} {ρ' : Operand → Value} {K : AVal → Prop} (he : ∀ x, Rep w X ρ (ρ' x) (e x)) (hq : amin Ar.real c e K) :
   ∃ r z, (execOp ρ' o).run P w = .ok (.value r) w ∧ Rep w X ρ r z ∧ K z := by
 obtain ⟨dst, op, ty, pos, after, guard⟩ := o
 obtain ⟨cal, ⟨cargs⟩, cty⟩ := c
 simp only at hop hb
 subst hop; subst hb
 unfold amin at hq
 dsimp only at hq
 rcases cargs with _ | ⟨x, _ | ⟨y, _ | ⟨z, l⟩⟩⟩
 . exact hq.elim
 . exact hq.elim
 . dsimp only at hq
   obtain ⟨a, ha, hq⟩ := optK_inv hq
   obtain ⟨b, hb, hq⟩ := optK_inv hq
   obtain ⟨v, hp, hq', hk⟩ := hq
   have h1 := numU_inv (he x) ha
   have h2 := numU_inv (he y) hb
   have hv : (if b < a then b else a) = v := by
     by_cases h : b < a
     . rw [if_pos h]; exact hp (decide_eq_true h)
     . rw [if_neg h]; exact hq' (decide_eq_false h)
   refine ⟨.int .u64 v, _, ?_, .s _ _, hk⟩
   simp only [execOp, resolve, invoke, builtin, Sem.run_bind, Sem.run_pure, Result.andThen_ok, List.map_toArray, List.map_cons, List.map_nil, Builtin.min_, h1, h2, List.foldlM_cons, List.foldlM_nil, Builtin.min2, hv]
 . exact hq.elim
theorem alen_sound (hT : TyOk P T) (o : Oper) {c : Call} (hop : o.op = .call c) (hb : c.callee = .builtin .len ∨ c.callee = .builtin .min) {e : Operand → AVal} {ρ' : Operand → Value} {K : AVal → Prop} (he : ∀ x, Rep w X ρ (ρ' x) (e x)) (hq : alen Ar.real T c e K) :
   ∃ r z, (execOp ρ' o).run P w = .ok (.value r) w ∧ Rep w X ρ r z ∧ K z := by
 unfold alen at hq
 rcases hb with hb | hb <;> rw [hb] at hq
 . exact alen0_sound hT o hop hb he hq
 . exact amin_sound o hop hb he hq
theorem fz_room (r : Option Nat) (n : Nat) : (fz r).room n := fun _ h => by simp [fz, Fence.wide] at h
theorem fz_depth (r : Option Nat) (n : Nat) : (fz r).depth.isSome = true → 1 ≤ n := fun h => by simp [fz, Fence.wide] at h
theorem op_in {o : Oper} {a : Act} {next : Act → World → Prop} {Q : Exit → Act → World → Prop} (r : Option Nat) (hd : ∀ c, o.op ≠ .defer c) (h : o.wp P a w next Q) : o.wpIn (fz r) 1 P a w next Q := by
 refine ⟨fun f _ => trivial, ?_⟩
 rw [Oper.semAt_eq _ _ _ hd]
 unfold Oper.wp at h
 generalize (execOp a.eval o).run P w = res at h
 cases res with
 | ok x w' =>
   cases x with
   | value v => exact h
   | skip => exact h
   | defer d => exact h
   | enter f args =>
     refine ⟨fz_depth r _, ?_⟩
     have := (callsIn_wide (n := 0)).2 h
     exact this
   | row row args =>
     refine ⟨fz_depth r _, fun c cs _ => ?_⟩
     obtain ⟨v, w'', h1, h2⟩ := h c cs
     exact ⟨v, w'', h1, stepsIn_wide.2 h2⟩
   | round => exact h.elim
   | _ => exact h.elim
 | halt x w' => cases x <;> first | exact h | exact h.elim
structure HistOK (P : Program) (Sp : SpecT) (Hi : Hist) : Prop where
 step : ∀ {X ρ h w ρ' h' w'}, Hi X ρ h w → Step X ρ h w ρ' h' w' → Hi X ρ' h' w'
 yield : ∀ {X ρ i w us}, Hi X ρ (ghost i) w → i < Sp.n → (∀ b, X b → b < w.heap.size) → RepL w X noρ us (Sp.xs i) → YieldAt (fz none) 1 P Sp.l us.toArray w fun e W' =>
     e = .returned (.bool true) ∧ ∃ X', Hi X' ρ (ghost (i + 1)) W' ∧ (∀ b, X' b → b < W'.heap.size) ∧ w.heap.size ≤ W'.heap.size ∧ ∀ ρ v x, Rep w X ρ v x → Rep W' X' ρ v x
theorem ghost_live (i j : Nat) : (hget (ghost i) j).live = false := by
 cases j <;> rfl
theorem XX_ghost {i : Nat} {b : Nat} : XX X ρ (ghost i) b ↔ X b := by
 refine ⟨fun h => ?_, .inl⟩
 rcases h with h | ⟨j, h, _⟩
 . exact h
 . rw [ghost_live] at h; cases h
theorem aop_sound (hT : TyOk P T) {Sp : SpecT} (hS : SpOK P Sp) (tree : Md) (o : Oper) (a : Act) {s : St} {K : AVal → List Blk → Prop} (hh : HRel X ρ s.heap w) (hold : ∀ b, X b → b < w.heap.size) (he : ∀ x, Rep w (XX X ρ s.heap) ρ (a.eval x) (ev s x))
   (hy : ¬ (cls tree o.op = .e ∧ (yieldOf (ev s) o.op).isSome = true)) (hq : aop Ar.real T Sp tree o s K) {next : Act → World → Prop} {Q : Exit → Act → World → Prop}
   (hn : ∀ v y h' ρ' w', K y h' → Step X ρ s.heap w ρ' h' w' → Rep w' (XX X ρ' h') ρ' v y → next (a.put o.dst v) w') : o.wp P a w next Q := by
 have pure : ∀ (K' : AVal → Prop), (∃ r z, (execOp a.eval o).run P w = .ok (.value r) w ∧ Rep w (XX X ρ s.heap) ρ r z ∧ K' z) → (∀ y, K' y → K y s.heap) → o.wp P a w next Q := by
   rintro K' ⟨r, z, h1, h2, h3⟩ h4
   exact value_wp h1 (hn r z s.heap ρ w (h4 z h3) (Step.refl hh) h2)
 unfold aop at hq
 split at hq
 . rename_i hc
   split at hq
   . rename_i c hop
     have hl : c.callee = .builtin .len ∨ c.callee = .builtin .min := by
       rw [hop] at hc
       obtain ⟨cal, cargs, cty⟩ := c
       cases cal with
       | builtin b => cases b <;> first | exact .inl rfl | exact .inr rfl | (simp [cls] at hc; done) | (cases tree <;> simp [cls] at hc)
       | _ => cases tree <;> simp [cls] at hc
     exact pure _ (alen_sound hT o hop hl he hq) (fun _ h => h)
   . exact pure _ (aopP_sound hT o he hq) (fun _ h => h)
 . exact aopQ_sound hT hS o a hh hold he hq (fun v y l w' hk hs hr => hn v y _ ρ w' hk hs hr)
 . rename_i hc
   split at hq
   . rename_i l args hy'; exact (hy ⟨hc, by rw [hy']; rfl⟩).elim
   . exact aopE_sound hT hS o a hh hold he hq (fun v y h' ρ' w' hk hs hr => hn v y h' ρ' w' hk hs hr)
 . exact aopR_sound hT o a hh hold hq (fun v y h' ρ' w' hk hs hr => hn v y h' ρ' w' hk hs hr)
def RelE (P : Program) (B : Nat) (Hi : Hist) (s : St) (a : Act) (w : World) : Prop := ∃ X ρ, Rel P B Hi X ρ s a w
theorem put_tmps_len (s : St) (d : Option Tmp) (y : AVal) : (put s d y).tmps.length = s.tmps.length := by
 cases d <;> simp [put, lset_eq]
theorem put_heap (s : St) (d : Option Tmp) (y : AVal) : (put s d y).heap = s.heap := by cases d <;> rfl
theorem Marks.step {B : Nat} {ds : List Deferred} {h h' : List Blk} {ρ' : Nat → Option Nat} (hm : Marks B ρ h ds w) (st : Step X ρ h w ρ' h' w') : Marks B ρ' h' ds w' := by
 refine ⟨hm.nodup, fun d hd => ?_⟩
 obtain ⟨D, h1, h2, h3, h4⟩ := hm.is d hd
 have hlt : D < w.heap.size := by
   rcases Nat.lt_or_ge D w.heap.size with h' | h'
   . exact h'
   . rw [Array.getElem?_eq_none h'] at h3; cases h3
 refine ⟨D, h1, h2, ?_, fun i e1 e2 e3 => ?_⟩
 . rw [st.ext.block D hlt (by rintro ⟨i, e1, e2, e3⟩; exact h4 i e1 e2 e3)]; exact h3
 . rcases st.new i D e1 e2 e3 with h5 | ⟨j, j1, j2, j3⟩
   . omega
   . exact h4 j j1 j2 j3
theorem put_rel {s : St} {a : Act} {h' : List Blk} {ρ' : Nat → Option Nat} {X' : Nat → Prop} (hz : a.tmps.size = s.tmps.length) (hc : ∀ (t : Nat) (v : Value) (x : AVal), a.tmps[t]? = some v → lget s.tmps t = some x → Rep w' (XX X' ρ' h') ρ' v x)
   (d : Option Tmp) {v : Value} {y : AVal} (hy : Rep w' (XX X' ρ' h') ρ' v y) :
   (a.put d v).tmps.size = (put ⟨s.tmps, h'⟩ d y).tmps.length ∧ ∀ (t : Nat) (u : Value) (x : AVal), (a.put d v).tmps[t]? = some u → lget (put ⟨s.tmps, h'⟩ d y).tmps t = some x → Rep w' (XX X' ρ' h') ρ' u x := by
 have hsz : ∀ d v, (a.put d v).tmps.size = a.tmps.size := by intro d v; cases d <;> simp [Act.put]
 refine ⟨by rw [hsz, put_tmps_len]; exact hz, ?_⟩
 intro t u x hu hx
 cases d with
 | none => exact hc t u x hu hx
 | some d =>
   simp only [Act.put, put] at hu hx
   rw [lset_eq, lget_eq] at hx
   by_cases e : d = t
   . subst e
     have hlt : d < a.tmps.size := by
       rcases Nat.lt_or_ge d a.tmps.size with h' | h'
       . exact h'
       . rw [Array.getElem?_eq_none (by simpa using h')] at hu; cases hu
     have hlt' : d < s.tmps.length := by rw [← hz]; exact hlt
     rw [Array.getElem?_setIfInBounds_self_of_lt hlt] at hu
     rw [List.getElem?_set_self hlt'] at hx
     cases hu; cases hx
     exact hy
   . rw [Array.getElem?_setIfInBounds_ne e] at hu
     rw [List.getElem?_set_ne e, ← lget_eq] at hx
     exact hc t u x hu hx
theorem put_defers (a : Act) (d : Option Tmp) (v : Value) : (a.put d v).defers = a.defers := by cases d <;> rfl
theorem Rel.step {B : Nat} {Hi : Hist} {Sp : SpecT} (hHi : HistOK P Sp Hi) {s : St} {a : Act} (hr : Rel P B Hi X ρ s a w) {ρ' : Nat → Option Nat} {h' : List Blk} (st : Step X ρ s.heap w ρ' h' w') (d : Option Tmp) {v : Value} {y : AVal} (hy : Rep w' (XX X ρ' h') ρ' v y) :
   Rel P B Hi X ρ' (put ⟨s.tmps, h'⟩ d y) (a.put d v) w' := by
 obtain ⟨h1, h2⟩ := put_rel (s := s) (a := a) hr.size (fun t v x hv hx => st.carry v x (hr.tmps t v x hv hx)) d hy
 refine ⟨by rw [put_heap]; exact st.heap, h1, by rw [put_heap]; exact h2, ?_, fun b hb => Nat.lt_of_lt_of_le (hr.lt b hb) st.ext.size, Nat.le_trans hr.base st.ext.size, ?_⟩
 . rw [put_heap, put_defers]; exact hr.marks.step st
 . rw [put_heap]; exact hHi.step hr.hist st
theorem aops_cons {A : Ar} {Sp : SpecT} {tree : Md} {all : List Oper} {o : Oper} {os : List Oper} {s : St} {K : St → Prop} :
   aops A T Sp tree all (o :: os) s K = astep A T Sp tree all o s fun s' => aops A T Sp tree all os s' K := rfl
theorem dstOf_eq : ∀ (all : List Oper) (j : Nat), dstOf all j = (all[j]?).bind (·.dst)
 | [], _ => by simp [dstOf]
 | o :: l, 0 => by simp [dstOf]
 | o :: l, j + 1 => by simp [dstOf, dstOf_eq l j]
theorem ghost_heap {i : Nat} {w : World} (hd : ∀ j, 1 ≤ j → ρ j = none) : HRel X ρ (ghost i) w :=
 ⟨fun j k b h => (by rw [ghost_live] at h; cases h), fun j h => (by rw [ghost_live] at h; cases h), fun j hj => hd j hj, fun j d hm => by cases j with | zero => cases hm | succ j => cases hm⟩
theorem yield_sound {B : Nat} {Hi : Hist} {Sp : SpecT} (hHi : HistOK P Sp Hi) {o : Oper} {s : St} {a : Act} {K : AVal → List Blk → Prop} {l : Nat} {args : List AVal} (hr : Rel P B Hi X ρ s a w) (hds : a.defers = []) (hy : yieldOf (ev s) o.op = some (l, args))
   (hq : optK (snapL (snap s.heap depth) args) fun args' => AYield Sp l s.heap args' K) {next : Act → World → Prop} {Q : Exit → Act → World → Prop} (r : Option Nat)
   (hn : ∀ y h' X' w' v, K y h' → Rel P B Hi X' ρ (put ⟨s.tmps, h'⟩ o.dst y) (a.put o.dst v) w' → next (a.put o.dst v) w') : o.wpIn (fz r) 1 P a w next Q := by
 have hq0 := optK_inv hq
 clear hq
 obtain ⟨args', hs, hq⟩ := hq0
 obtain ⟨dst, op, ty, pos, after, guard⟩ := o
 cases op <;> simp only [yieldOf] at hy <;> try (cases hy; done)
 rename_i c
 obtain ⟨cal, cargs, cty⟩ := c
 cases cal <;> simp only at hy <;> try (cases hy; done)
 rename_i g
 have hg := hr.ev g
 generalize ev s g = z at hy hg
 split at hy <;> try (cases hy; done)
 rename_i l' ca cb
 split at hy <;> try (cases hy; done)
 rename_i e1 e2
 cases hy
 obtain rfl : ca = #[] := by rw [← Array.toList_inj]; simpa using e1
 obtain rfl : cb = #[] := by rw [← Array.toList_inj]; simpa using e2
 have hg := hg.v_inv
 cases hq with
 | mk i hl hi hh ha hk =>
   subst hl
   have hv : RepL w (XX X ρ s.heap) ρ (cargs.toList.map a.eval) (cargs.toList.map (ev s)) := by
     have : ∀ l : List Operand, RepL w (XX X ρ s.heap) ρ (l.map a.eval) (l.map (ev s)) := by
       intro l
       induction l with
       | nil => exact .nil
       | cons x l ih => exact .cons (hr.ev x) ih
     exact this _
   have hv' := snapL_sound (f := snap s.heap depth) (g := ids s.heap depth) (fun x y v h1 h2 h3 => snap_sound hr.heap depth x y v _ h1 h2 h3) _ _ _ hs hv (fun _ h => h)
   have hv2 : RepL w X noρ (cargs.toList.map a.eval) (Sp.xs i) := by
     rw [← ha]
     refine hv'.weaken fun b hb => ?_
     exact .inl hb
   have hist := hr.hist
   rw [hh] at hist
   obtain ⟨fn, tmps, asg, body, h1, h2⟩ := hHi.yield hist hi hr.lt hv2
   refine ⟨fun f _ => trivial, ?_⟩
   rw [Oper.semAt_eq _ _ _ (by intro c; simp)]
   have hrun : (execOp a.eval { dst := dst, op := .call { callee := .value g, args := cargs, argTypes := cty }, type := ty, pos := pos, after := after, guard := guard }).run P w = (Instr.yield Sp.l (cargs.toList.map a.eval).toArray).run P w := by
     simp only [execOp, resolve, hg, Sem.run_bind, Sem.run_pure, Result.andThen_ok]
     simp [go_sem]
     congr 2
     rw [← Array.toList_inj]; simp
   rw [hrun, h1]
   refine ⟨fz_depth r _, ?_⟩
   have h3 : RoundIn (fz r) (1 - 1) P Sp.l fn tmps asg body w _ := ⟨trivial, fun c cs _ => h2.2 c cs (fz_room none _)⟩
   refine h3.mono ?_
   rintro e W' ⟨rfl, X', i1, i2, i3, i4⟩
   refine hn _ _ X' W' _ hk ?_
   have hd : ∀ j, 1 ≤ j → ρ j = none := fun j hj => hr.heap.dom j (by rw [hh]; exact hj)
   have hcar : ∀ (t : Nat) (v : Value) (x : AVal), a.tmps[t]? = some v → lget s.tmps t = some x → Rep W' (XX X' ρ (ghost (i + 1))) ρ v x := fun t v x hv hx => by
     have h5 := hr.tmps t v x hv hx
     rw [hh] at h5
     have h6 : Rep w X ρ v x := h5.weaken fun b hb => XX_ghost.2 hb
     exact (i4 ρ v x h6).weaken fun b hb => XX_ghost.1 hb
   obtain ⟨k1, k2⟩ := put_rel (s := s) (a := a) (w' := W') (X' := X') (ρ' := ρ) (h' := ghost (i + 1)) hr.size hcar dst (v := .bool true) (y := .b true) (.b _)
   refine ⟨by rw [put_heap]; exact ghost_heap hd, k1, by rw [put_heap]; exact k2, ?_, i2, Nat.le_trans hr.base i3, by rw [put_heap]; exact i1⟩
   rw [put_defers, hds]
   exact ⟨.nil, fun d hd => by cases hd⟩
theorem astep_sound (hT : TyOk P T) {B : Nat} {Hi : Hist} {Sp : SpecT} (hS : SpOK P Sp) (hHi : HistOK P Sp Hi) (r : Option Nat) {tree : Md} {ops : Array Oper} {i : Nat} {o : Oper} (ho : ops[i]? = some o) {s : St} {a : Act} {K : St → Prop} (hr : RelE P B Hi s a w) (hds : Sp.n = 0 ∨ a.defers = [])
   (hq : astep Ar.real T Sp tree ops.toList o s K) {next : Act → World → Prop} {Q : Exit → Act → World → Prop}
   (hn : ∀ s' a' w', a'.defers = a.defers → K s' → RelE P B Hi s' a' w' → next a' w') : wpOpIn (fz r) 1 P ops Q i next a w := by
 obtain ⟨X, ρ, hr⟩ := hr
 have hold : ∀ b, X b → b < w.heap.size := hr.lt
 have run : (aop Ar.real T Sp tree o s fun v h => K (put ⟨s.tmps, h⟩ o.dst v)) → o.wpIn (fz r) 1 P a w next Q := fun hq => by
   by_cases hy : cls tree o.op = .e ∧ (yieldOf (ev s) o.op).isSome = true
   . obtain ⟨hc, hy⟩ := hy
     obtain ⟨⟨l, args⟩, hy⟩ := Option.isSome_iff_exists.1 hy
     unfold aop at hq
     rw [hc] at hq
     simp only [hy] at hq
     have hds' : a.defers = [] := by
       rcases hds with h0 | h0
       . obtain ⟨args', _, hq'⟩ := optK_inv hq
         cases hq' with
         | mk i _ hi _ _ _ => omega
       . exact h0
     exact yield_sound hHi hr hds' hy hq r fun y h' X' w' v hk hr' => hn _ _ _ (put_defers _ _ _) hk ⟨X', ρ, hr'⟩
   . refine op_in r ?_ (aop_sound hT hS tree o a hr.heap hold (fun x => hr.ev x) hy hq fun v y h' ρ' w' hk hs hy => hn _ _ _ (put_defers _ _ _) hk ⟨X, ρ', hr.step hHi hs o.dst hy⟩)
     intro c hc
     unfold aop at hq
     obtain ⟨dst, op, ty, pos, after, guard⟩ := o
     simp only at hc
     subst hc
     simp only [cls, aopP] at hq
 have skip : K (put s o.dst (.tup [])) → next (a.put o.dst undef) w := fun hk => hn _ _ _ (put_defers _ _ _) hk ⟨X, ρ, hr.step hHi (Step.refl hr.heap) o.dst Rep.undef⟩
 unfold wpOpIn
 rw [ho]
 simp only
 unfold astep at hq
 cases hg : o.guard with
 | none =>
   rw [hg] at hq
   have : Region.wanted o (yielded ops a.tmps) = true := by simp [Region.wanted, hg]
   rw [if_pos this]
   exact run hq
 | some g =>
   obtain ⟨j, want⟩ := g
   rw [hg] at hq
   simp only at hq
   split at hq
   . exact hq.elim
   . rename_i d hd
     rw [dstOf_eq] at hd
     have hyv : ∀ t, (∃ x, lget s.tmps d = some x ∧ ((x = .b t) ∨ x = .sb t)) → yielded ops a.tmps j = some t := by
       rintro t ⟨x, hx, hxt⟩
       have hlt : d < s.tmps.length := by
         rw [lget_eq] at hx
         rcases Nat.lt_or_ge d s.tmps.length with h' | h'
         . exact h'
         . rw [List.getElem?_eq_none h'] at hx; cases hx
       have hlt' : d < a.tmps.size := by rw [hr.size]; exact hlt
       have h1 : a.tmps[d]? = some a.tmps[d] := Array.getElem?_eq_getElem hlt'
       have h2 := hr.tmps d _ x h1 hx
       have h3 : a.tmps[d] = .bool t := by
         rcases hxt with rfl | rfl
         . exact h2.b_inv
         . exact h2.sb_inv
       have hd' : (ops[j]?).bind (·.dst) = some d := by simpa using hd
       unfold yielded
       rw [hd']
       simp only [Option.bind_some, h1, h3]
     split at hq
     . rename_i t hx
       have hy := hyv t ⟨_, hx, .inl rfl⟩
       split at hq
       . rename_i he
         rw [if_pos (by simpa [Region.wanted, hg, hy] using he)]
         exact run hq
       . rename_i he
         rw [if_neg (by simpa [Region.wanted, hg, hy] using he)]
         exact ⟨fun f _ => trivial, skip hq⟩
     . rename_i t hx
       have hy := hyv t ⟨_, hx, .inr rfl⟩
       split at hq
       . cases hq with
         | mk hp hq =>
           cases t
           . rw [if_neg (by simp [Region.wanted, hg, hy])]; exact ⟨fun f _ => trivial, skip (hq rfl)⟩
           . rw [if_pos (by simp [Region.wanted, hg, hy])]; exact run (hp rfl)
       . cases hq with
         | mk hp hq =>
           cases t
           . rw [if_pos (by simp [Region.wanted, hg, hy])]; exact run (hq rfl)
           . rw [if_neg (by simp [Region.wanted, hg, hy])]; exact ⟨fun f _ => trivial, skip (hp rfl)⟩
     . rename_i hx
       have hlt : d < s.tmps.length := by
         rw [lget_eq] at hx
         rcases Nat.lt_or_ge d s.tmps.length with h' | h'
         . exact h'
         . rw [List.getElem?_eq_none h'] at hx; cases hx
       have hlt' : d < a.tmps.size := by rw [hr.size]; exact hlt
       have h1 : a.tmps[d]? = some a.tmps[d] := Array.getElem?_eq_getElem hlt'
       obtain ⟨vs, h3, h4⟩ := (hr.tmps d _ _ h1 hx).tup_inv
       cases h4
       have hd' : (ops[j]?).bind (·.dst) = some d := by simpa using hd
       have hy : yielded ops a.tmps j = none := by
         unfold yielded
         rw [hd']
         simp only [Option.bind_some, h1, h3]
       rw [if_neg (by simp [Region.wanted, hg, hy])]
       exact ⟨fun f _ => trivial, skip hq⟩
     . exact hq.elim
theorem aops_sound (hT : TyOk P T) {B : Nat} {Hi : Hist} {Sp : SpecT} (hS : SpOK P Sp) (hHi : HistOK P Sp Hi) (r : Option Nat) {tree : Md} {ops : Array Oper} {Q : Exit → Act → World → Prop} {K : St → Prop} {ds : List Deferred} (hds : Sp.n = 0 ∨ ds = []) (hn : ∀ s' a' w', a'.defers = ds → K s' → RelE P B Hi s' a' w' → Q .normal a' w') :
   ∀ (n i : Nat) (s : St) (a : Act) (w : World), i + n = ops.size → a.defers = ds → RelE P B Hi s a w → aops Ar.real T Sp tree ops.toList (ops.toList.drop i) s K → wpOpsIn (fz r) 1 P ops Q (List.range' i n) a w := by
 intro n
 induction n with
 | zero =>
   intro i s a w hi hd hr hq
   rw [List.drop_eq_nil_of_le (by simp; omega)] at hq
   exact hn s a w hd hq hr
 | succ n ih =>
   intro i s a w hi hd hr hq
   have hlt : i < ops.toList.length := by simp; omega
   rw [List.drop_eq_getElem_cons hlt, aops_cons] at hq
   rw [List.range'_succ, wpOpsIn_cons]
   have ho : ops[i]? = some (ops.toList[i]) := by simp at hlt; simp [hlt]
   exact astep_sound hT hS hHi r ho hr (by rw [hd]; exact hds) hq fun s' a' w' hd' hk hr' => ih (i + 1) s' a' w' (by omega) (hd'.trans hd) hr' hk
end
end Eng
set_option linter.unusedSimpArgs false
set_option linter.unusedVariables false
namespace Eng
open Go
section
variable {P : Program} {T : Ty} {w w' : World} {X : Nat → Prop} {ρ : Nat → Option Nat} {h : List Blk} {B : Nat} {Hi : Hist} {Sp : SpecT}
def LoopW (r : Option Nat) (P : Program) (c : Code) (Q : Exit → Act → World → Prop) (a : Act) (w : World) : Prop :=
 ∀ (b : Frame) (k : List Item) (cs : List Frame), b.roundOf = r → ∃ e a' w', Q e a' w' ∧ ArrivesIn (Machine.fenced P (fz r)) P (lone (b.atR a (.code c :: .inLoop c :: k)) cs w) b k cs e a' w'
theorem all_fenced (r : Option Nat) (m : Machine) : m.fenced P (fz r) := fenced_wide P m
theorem LoopW.wp {r : Option Nat} {c : Code} {Q : Exit → Act → World → Prop} {a : Act} (hl : LoopW r P c Q a w) : (Code.loop c).wpIn (fz r) 1 P Q a w := by
 intro b k cs hro hb hr
 obtain ⟨e, a', w', hq, harr⟩ := hl b k cs hro
 exact ⟨e, a', w', hq, .of_steps (.one (all_fenced r _) stepR_loop) harr⟩
theorem LoopW.step {r : Option Nat} {c : Code} {Q : Exit → Act → World → Prop} {a : Act} (hl : c.wpIn (fz r) 1 P (Exit.then (LoopW r P c Q) Q) a w) : LoopW r P c Q a w := by
 intro b k cs hro
 obtain ⟨e, a₁, w₁, hq, harr⟩ := hl b (.inLoop c :: k) cs hro trivial (fz_room _ _)
 cases e with
 | normal =>
   obtain ⟨e₂, a₂, w₂, hq₂, harr₂⟩ := hq b k cs hro
   exact ⟨e₂, a₂, w₂, hq₂, .of_steps (StepsIn.trans harr (.one (all_fenced r _) stepR_inLoop)) harr₂⟩
 | exit id => exact ⟨_, a₁, w₁, hq, .pass (x := .inLoop c) rfl (fun _ _ => .inl (by simp)) harr⟩
 | goto l => exact ⟨_, a₁, w₁, hq, .pass (x := .inLoop c) rfl (fun _ _ => .inl (by simp)) harr⟩
 | ret => exact ⟨_, a₁, w₁, hq, .pass (x := .inLoop c) rfl (fun _ _ => .inl (by simp)) harr⟩
 | panic ch => exact ⟨_, a₁, w₁, hq, .pass (x := .inLoop c) rfl (fun _ _ => .inl (by simp)) harr⟩
 | outgrown => exact ⟨_, a₁, w₁, hq, .pass (x := .inLoop c) rfl (fun _ _ => .inl (by simp)) harr⟩
def dOK (Sp : SpecT) (a : Act) : Prop := Sp.it = false ∨ a.defers = []
def RelD (P : Program) (B : Nat) (Hi : Hist) (Sp : SpecT) (s : St) (a : Act) (w : World) : Prop := RelE P B Hi s a w ∧ dOK Sp a
def lift (P : Program) (B : Nat) (Hi : Hist) (Sp : SpecT) (K : Exit → St → Prop) (e : Exit) (a : Act) (w : World) : Prop := ∃ s, K e s ∧ RelD P B Hi Sp s a w
theorem simH_step {h' : List Blk} (hh : HRel X ρ h w) (hs : SimH h h') : Step X ρ h w ρ h' w := by
 have mk := fun i => simB_marks (simH_at hs i)
 refine ⟨hh.sim hs, fun v x hr => hr.weaken fun b hb => (simH_XX hs b).2 hb, Ext.refl _ w, fun i b h1 h2 h3 => .inr ⟨i, by rw [(mk i).1]; exact h1, by rw [(mk i).2]; exact h2, h3⟩, ⟨Nat.le_of_eq (simH_len hs), fun i _ h1 h2 => (simB_dead (simH_at hs i) h1).symm⟩⟩
theorem simK_step {h' : List Blk} (hh : HRel X ρ h w) (hs : SimK h h') : Step X ρ h w ρ h' w := by
 refine ⟨hh.simK hs, fun v x hr => hr.weaken fun b hb => simK_XX hs b hb, Ext.refl _ w, fun i b h1 h2 h3 => .inr ⟨i, (simK_live hs i h1).1, (simK_live hs i h1).2.1.trans h2, h3⟩, ⟨simK_len hs, fun i hi h1 _ => simK_dead hs i hi h1⟩⟩
theorem Rel.sim (hHi : HistOK P Sp Hi) {s s' : St} {a : Act} (hs : SimS s s') (hr : Rel P B Hi X ρ s a w) : Rel P B Hi X ρ s' a w := by
 obtain ⟨h1, h2⟩ := hs
 refine ⟨hr.heap.simK h2, hr.size.trans (simL_len h1), fun t v y hv hy => ?_, ⟨hr.marks.nodup, fun d hd => ?_⟩, hr.lt, hr.base, hHi.step hr.hist (simK_step hr.heap h2)⟩
 . have hlt : t < s.tmps.length := by
     rw [simL_len h1]
     rw [lget_eq] at hy
     exact (List.getElem?_eq_some_iff.1 hy).1
   have hx : s.tmps[t]? = some s.tmps[t] := List.getElem?_eq_getElem hlt
   have := hr.tmps t v _ hv (by rw [lget_eq]; exact hx)
   exact (rep_sim 12 (simL_at h1 t _ y hx (by rw [← lget_eq]; exact hy)) this).weaken fun b hb => simK_XX h2 b hb
 . obtain ⟨D, d1, d2, d3, d4⟩ := hr.marks.is d hd
   exact ⟨D, d1, d2, d3, fun i e1 e2 => d4 i (simK_live h2 i e1).1 ((simK_live h2 i e1).2.1.trans e2)⟩
theorem RelD.sim (hHi : HistOK P Sp Hi) {s s' : St} {a : Act} (hs : SimS s s') (hr : RelD P B Hi Sp s a w) : RelD P B Hi Sp s' a w := by
 obtain ⟨⟨X, ρ, h1⟩, h2⟩ := hr
 exact ⟨⟨X, ρ, h1.sim hHi hs⟩, h2⟩
def renρ (g : List Nat) (ρ : Nat → Option Nat) : Nat → Option Nat := fun j => match lgetN g j with
 | some i => ρ i
 | none => none
theorem renρ_of {g : List Nat} {ρ : Nat → Option Nat} {i q : Nat} (h : lgetN g i = some q) : renρ g ρ i = ρ q := by
 unfold renρ; rw [h]
theorem renL_len (f : AVal → AVal) : ∀ l, (renL f l).length = l.length
 | [] => rfl
 | x :: l => by simp [renL, renL_len f l]
theorem renL_at (f : AVal → AVal) : ∀ (l : List AVal) (j : Nat), (renL f l)[j]? = (l[j]?).map f
 | [], j => by simp [renL]
 | x :: l, 0 => by simp [renL]
 | x :: l, j + 1 => by simp [renL, renL_at f l j]
theorem rep_ren {g : List Nat} : ∀ (d : Nat) {y : AVal} {v : Value}, Rep w X ρ v (renD g d y) → Rep w X (renρ g ρ) v y := by
 intro d
 induction d with
 | zero =>
   intro y v h
   change Rep w X ρ v (.new true 0 0 []) at h
   cases h
 | succ d ih =>
   intro y v h
   have none_elim : ∀ {v : Value}, Rep w X ρ v noVal → False := by
     intro v h
     change Rep w X ρ v (.new true 0 0 []) at h
     cases h
   have lists : ∀ {vs : List Value} {cs : List AVal}, RepL w X ρ vs (renL (renD g d) cs) → vs.length = cs.length ∧ ∀ (j : Nat) (v : Value) (x : AVal), vs[j]? = some v → cs[j]? = some x → Rep w X (renρ g ρ) v x := by
     intro vs cs hr
     refine ⟨by rw [hr.length, renL_len], fun j v x hv hx => ih (hr.at j v _ hv (by rw [renL_at, hx]; rfl))⟩
   cases y with
   | agg cs =>
     obtain ⟨vs, rfl, hr⟩ := Rep.agg_inv h
     exact .agg vs cs (lists hr).1 (lists hr).2
   | tup cs =>
     obtain ⟨vs, rfl, hr⟩ := Rep.tup_inv h
     exact .tup vs cs (lists hr).1 (lists hr).2
   | own j o =>
     simp only [renD] at h
     split at h
     . rename_i i e
       obtain ⟨blk, rfl, hb⟩ := h.own_inv
       exact .own j o blk (by rw [renρ_of e]; exact hb)
     . exact (none_elim h).elim
   | el j o =>
     simp only [renD] at h
     split at h
     . rename_i i e
       obtain ⟨blk, rfl, hb⟩ := h.el_inv
       exact .el j o blk (by rw [renρ_of e]; exact hb)
     . exact (none_elim h).elim
   | osl m j o n sz =>
     simp only [renD] at h
     split at h
     . rename_i i e
       cases h with
       | osl _ _ _ _ _ blk cap h1 h2 h3 => exact .osl m j o n sz blk cap (by rw [renρ_of e]; exact h1) h2 h3
       | osl0 _ _ _ _ a => exact .osl0 m j o sz a
     . exact (none_elim h).elim
   | ifc t y =>
     obtain ⟨u, rfl, hu⟩ := Rep.ifc_inv h
     exact .ifc t u y (ih hu)
   | fn f a c =>
     obtain ⟨vs, us, rfl, h1, h2⟩ := Rep.fn_inv h
     exact .fn f vs us a c (lists h1).1 (lists h1).2 (lists h2).1 (lists h2).2
   | i k n => change Rep w X ρ v (.i k n) at h; cases h; exact .i k n
   | s k n => change Rep w X ρ v (.s k n) at h; cases h; exact .s k n
   | b t => change Rep w X ρ v (.b t) at h; cases h; exact .b t
   | sb t => change Rep w X ρ v (.sb t) at h; cases h; exact .sb t
   | v x => change Rep w X ρ v (.v x) at h; cases h; exact .v _ (by assumption)
   | any => exact .any v
   | cap0 => change Rep w X ρ v .cap0 at h; cases h; exact .cap0 _
   | lst m n cs =>
     change Rep w X ρ v (.lst m n cs) at h
     cases h with
     | lst _ blk off _ cap vs _ h1 h2 h3 h4 h5 h6 => exact .lst m blk off n cap vs cs h1 h2 h3 h4 h5 h6
     | lst0 _ a cap => exact .lst0 m a cap
   | ref cs off =>
     change Rep w X ρ v (.ref cs off) at h
     cases h with
     | ref blk base _ vs _ h1 h2 h3 h4 h5 => exact .ref blk base off vs cs h1 h2 h3 h4 h5
   | new m n sz cs => change Rep w X ρ v (.new m n sz cs) at h; cases h
theorem repL_ren {g : List Nat} {d : Nat} {ys : List AVal} {vs : List Value} (h : RepL w X ρ vs (renL (renD g d) ys)) : RepL w X (renρ g ρ) vs ys :=
 RepL.mk' (by rw [h.length, renL_len]) fun j v x hv hx => rep_ren d (h.at j v _ hv (by rw [renL_at, hx]; rfl))
theorem inN_of {x : Nat} : ∀ {l : List Nat} {i : Nat}, lgetN l i = some x → inN x l = true
 | [], i, h => by simp [lgetN] at h
 | y :: l, 0, h => by
   simp only [lgetN, Option.some.injEq] at h
   subst h
   simp [inN]
 | y :: l, i + 1, h => by
   simp only [lgetN] at h
   unfold inN
   split
   . rfl
   . exact inN_of h
theorem nodup_inj : ∀ {g : List Nat} {i j q : Nat}, nodupN g = true → lgetN g i = some q → lgetN g j = some q → i = j
 | [], i, j, q, _, h, _ => by simp [lgetN] at h
 | x :: l, i, j, q, hn, h1, h2 => by
   unfold nodupN at hn
   split at hn
   . cases hn
   . rename_i hx
     have key : ∀ {k : Nat}, lgetN l k = some x → False := fun hk => by rw [inN_of hk] at hx; cases hx
     cases i with
     | zero =>
       simp only [lgetN, Option.some.injEq] at h1
       cases j with
       | zero => rfl
       | succ j => simp only [lgetN] at h2; subst h1; exact (key h2).elim
     | succ i =>
       simp only [lgetN] at h1
       cases j with
       | zero => simp only [lgetN, Option.some.injEq] at h2; subst h2; exact (key h1).elim
       | succ j => simp only [lgetN] at h2; rw [nodup_inj hn h1 h2]
theorem lgetN_ge : ∀ {g : List Nat} {h : List Blk} {i : Nat}, sameLen g h = true → h.length ≤ i → lgetN g i = none
 | [], _, _, _, _ => rfl
 | x :: g, [], _, h, _ => by simp [sameLen] at h
 | x :: g, b :: h, 0, _, hi => by simp at hi
 | x :: g, b :: h, i + 1, hs, hi => lgetN_ge (g := g) (h := h) hs (by simpa using hi)
theorem simG_at {g : List Nat} {h : List Blk} : ∀ {l : List Blk} {j : Nat}, simG g h j l → ∀ i, ((hget l i).live = true → ∃ q, lgetN g (j + i) = some q ∧ (hget h q).live = true ∧ (hget h q).wr = (hget l i).wr ∧ SimL (hget h q).cells (renL (renD g 12) (hget l i).cells)) ∧ ∀ d, hget l i ≠ mark d
 | [], j, _, i => by
   rw [hget_of_ge [] i (Nat.zero_le _)]
   exact ⟨fun h => (by cases h), fun d h => (by cases h)⟩
 | b :: l, j, hs, 0 => by
   have hs := hs.1
   show (b.live = true → _) ∧ ∀ d, b ≠ mark d
   refine ⟨fun hb => ?_, fun d hd => ?_⟩
   . rw [hb] at hs
     simp only at hs
     split at hs
     . rename_i q e
       obtain ⟨h1, h2⟩ := onlyIf_elim hs
       rw [Bool.and_eq_true] at h1
       exact ⟨q, e, h1.1, eq_of_beq h1.2, h2⟩
     . exact hs.elim
   . subst hd
     obtain ⟨h1, _⟩ := onlyIf_elim (show onlyIf (isPad (mark d)) fun _ => True from hs)
     cases h1
 | b :: l, j, hs, i + 1 => by
   have := simG_at (l := l) (j := j + 1) hs.2 i
   rw [show j + (i + 1) = j + 1 + i by omega]
   exact this
def HistGC (Hi : Hist) : Prop := ∀ {X : Nat → Prop} {ρ : Nat → Option Nat} {h : List Blk} {w : World} {ρ' : Nat → Option Nat} {h' : List Blk}, Hi X ρ h w → HRel X ρ' h' w →
 (∀ i b, (hget h' i).live = true → (hget h' i).wr = true → ρ' i = some b → ∃ j, (hget h j).live = true ∧ (hget h j).wr = true ∧ ρ j = some b) → Hi X ρ' h' w
theorem Rel.simG (hg : HistGC Hi) {g : List Nat} {s s' : St} {a : Act} (hs : SimG g s s') (hr : Rel P B Hi X ρ s a w) : Rel P B Hi X (renρ g ρ) s' a w := by
 obtain ⟨h0, h1, h2⟩ := onlyIf_elim hs
 rw [Bool.and_eq_true] at h0
 have hat := fun i => simG_at h2 i
 have liv : ∀ i b, (hget s'.heap i).live = true → renρ g ρ i = some b → ∃ q, lgetN g i = some q ∧ (hget s.heap q).live = true ∧ (hget s.heap q).wr = (hget s'.heap i).wr ∧ ρ q = some b := by
   intro i b e1 e2
   obtain ⟨q, q1, q2, q3, _⟩ := (hat i).1 e1
   rw [Nat.zero_add] at q1
   rw [renρ_of q1] at e2
   exact ⟨q, q1, q2, q3, e2⟩
 have hXX : ∀ b, XX X (renρ g ρ) s'.heap b → XX X ρ s.heap b := by
   rintro b (hb | ⟨i, e1, e2, e3⟩)
   . exact .inl hb
   . obtain ⟨q, _, q2, q3, q4⟩ := liv i b e1 e3
     exact .inr ⟨q, q2, q3.trans e2, q4⟩
 have hh : HRel X (renρ g ρ) s'.heap w := by
   refine ⟨fun i j b e1 e2 e3 e4 => ?_, fun i e1 => ?_, fun i hi => ?_, fun i d hm => ?_⟩
   . obtain ⟨q, q1, q2, _, q4⟩ := liv i b e1 e3
     obtain ⟨q', q1', q2', _, q4'⟩ := liv j b e2 e4
     obtain rfl := hr.heap.inj q q' b q2 q2' q4 q4'
     exact nodup_inj h0.2 q1 q1'
   . obtain ⟨q, q1, q2, q3, q4⟩ := (hat i).1 e1
     rw [Nat.zero_add] at q1
     rcases hr.heap.blk q q2 with ⟨b, vs, f1, f2, f3, f4, f5, f6⟩ | ⟨f1, f2⟩
     . exact .inl ⟨b, vs, by rw [renρ_of q1]; exact f1, f2, f3, f4, f5, (repL_ren (f6.sim q4)).weaken hXX⟩
     . refine .inr ⟨by rw [renρ_of q1]; exact f1, ?_⟩
       rw [f2] at q4
       have := simL_len q4
       rw [renL_len] at this
       exact List.eq_nil_of_length_eq_zero this.symm
   . unfold renρ; rw [lgetN_ge h0.1 hi]
   . exact ((hat i).2 d hm).elim
 refine ⟨hh, ?_, fun t v y hv hy => ?_, ⟨hr.marks.nodup, fun d hd => ?_⟩, hr.lt, hr.base, hg hr.hist hh fun i b e1 e2 e3 => ?_⟩
 . have := simL_len h1
   rw [renL_len] at this
   exact hr.size.trans this
 . have hlt : t < s.tmps.length := by
     have := simL_len h1
     rw [renL_len] at this
     rw [this]
     rw [lget_eq] at hy
     exact (List.getElem?_eq_some_iff.1 hy).1
   have hx : s.tmps[t]? = some s.tmps[t] := List.getElem?_eq_getElem hlt
   have hr1 := hr.tmps t v _ hv (by rw [lget_eq]; exact hx)
   have hr2 := rep_sim 12 (simL_at h1 t _ (renD g 12 y) hx (by rw [renL_at, ← lget_eq, hy]; rfl)) hr1
   exact (rep_ren 12 hr2).weaken hXX
 . obtain ⟨D, d1, d2, d3, d4⟩ := hr.marks.is d hd
   refine ⟨D, d1, d2, d3, fun i e1 e2 e3 => ?_⟩
   obtain ⟨q, _, q2, q3, q4⟩ := liv i D e1 e3
   exact d4 q q2 (q3.trans e2) q4
 . obtain ⟨q, _, q2, q3, q4⟩ := liv i b e1 e3
   exact ⟨q, q2, q3.trans e2, q4⟩
theorem RelD.simG (hg : HistGC Hi) {g : List Nat} {s s' : St} {a : Act} (hs : SimG g s s') (hr : RelD P B Hi Sp s a w) : RelD P B Hi Sp s' a w := by
 obtain ⟨⟨X, ρ, h1⟩, h2⟩ := hr
 exact ⟨⟨X, _, h1.simG hg hs⟩, h2⟩
theorem loopN_sound (hHi : HistOK P Sp Hi) {gc : Bool} (hgc : gc = true → HistGC Hi) {r : Option Nat} {c : Code} {body : St → (Exit → St → Prop) → Prop} (hb : ∀ s K a w, body s K → RelD P B Hi Sp s a w → c.wpIn (fz r) 1 P (lift P B Hi Sp K) a w) :
   ∀ (n : Nat) (s : St) (K : Exit → St → Prop) (a : Act) (w : World), loopN gc body n s K → RelD P B Hi Sp s a w → LoopW r P c (lift P B Hi Sp K) a w := by
 have inv : ∀ (s : St) (K : Exit → St → Prop) (a : Act) (w : World), ALoop gc body s K → RelD P B Hi Sp s a w → LoopW r P c (lift P B Hi Sp K) a w := by
   intro s K a w hl hr
   cases hl with
   | inv st Pr μ a0 hs0 h0 round =>
     have key : ∀ m x a w, Pr x → μ x < m → RelD P B Hi Sp (st x) a w → LoopW r P c (lift P B Hi Sp K) a w := by
       intro m
       induction m with
       | zero => intro x a w _ h; omega
       | succ m ih =>
         intro x a w hI hm hr
         refine LoopW.step (wpIn_mono (hb (st x) _ a w (round x hI) hr) ?_)
         rintro e a' w' ⟨s', hk, hr'⟩
         cases e <;> try (exact ⟨s', hk, hr'⟩)
         obtain ⟨y, k1, k2, k3⟩ := hk
         exact ih y a' w' k2 (by omega) (hr'.sim hHi k1)
     exact key (μ a0 + 1) a0 a w h0 (by omega) (hr.sim hHi hs0)
   | invG hg st Pr μ a0 g0 hs0 h0 round =>
     have key : ∀ m x a w, Pr x → μ x < m → RelD P B Hi Sp (st x) a w → LoopW r P c (lift P B Hi Sp K) a w := by
       intro m
       induction m with
       | zero => intro x a w _ h; omega
       | succ m ih =>
         intro x a w hI hm hr
         refine LoopW.step (wpIn_mono (hb (st x) _ a w (round x hI) hr) ?_)
         rintro e a' w' ⟨s', hk, hr'⟩
         cases e <;> try (exact ⟨s', hk, hr'⟩)
         obtain ⟨y, g, k1, k2, k3⟩ := hk
         exact ih y a' w' k2 (by omega) (hr'.simG (hgc hg) k1)
     exact key (μ a0 + 1) a0 a w h0 (by omega) (hr.simG (hgc hg) hs0)
 intro n
 induction n with
 | zero => intro s K a w hl hr; exact inv s K a w hl hr
 | succ n ih =>
   intro s K a w hl hr
   refine LoopW.step (wpIn_mono (hb s _ a w hl hr) ?_)
   rintro e a' w' ⟨s', hk, hr'⟩
   cases e <;> try (exact ⟨s', hk, hr'⟩)
   exact ih s' K a' w' hk hr'
theorem RelE.drew (hHi : HistOK P Sp Hi) {s : St} {a : Act} (hr : RelE P B Hi s a w) : RelE P B Hi s a { w with drawn := w.drawn + 1 } := by
 obtain ⟨X, ρ, hr⟩ := hr
 have := hr.step hHi (Step.grow hr.heap (Ext.drew _ w) []) none (v := undef) (y := .tup []) Rep.undef
 exact ⟨X, ρ, this⟩
def DrawOK (P : Program) (T : Ty) : Prop := ∀ (Sp : SpecT) (B : Nat) (Hi : Hist) (r : Option Nat), SpOK P Sp → HistOK P Sp Hi → ∀ (tree : Md) (ops : Array Oper) (K : St → Prop) (Q : Exit → Act → World → Prop) (ds : List Deferred), okDraw tree ops = true → (Sp.n = 0 ∨ ds = []) →
 (∀ s' a' w', a'.defers = ds → K s' → RelE P B Hi s' a' w' → Q .normal a' w') → ∀ s a w, a.defers = ds → RelE P B Hi s a w → aops Ar.real T Sp tree ops.toList ops.toList s K → wpAnyIn (fz r) 1 P .any ops Q ops.size (Array.replicate ops.size false) a w
theorem Step.carry0 {ρ' : Nat → Option Nat} {h' : List Blk} (st : Step X ρ h w ρ' h' w') (ρx : Nat → Option Nat) {v : Value} {x : AVal} (hr : Rep w (XX X ρ h) ρx v x) : Rep w' (XX X ρ' h') ρx v x := by
 refine hr.carry st.ext (fun b hb hX => ⟨?_, fun hM => hX (.inr hM)⟩) (fun _ _ h => h)
 rintro (h1 | ⟨i, h1, h2, h3⟩)
 . exact hX (.inl h1)
 . rcases st.new i b h1 h2 h3 with h4 | h4
   . omega
   . exact hX (.inr h4)
theorem Step.calm {w'' : World} {ρ' : Nat → Option Nat} {h' : List Blk} (st : Step X ρ h w ρ' h' w') (hc : Calm w.heap.size w' w'') : Step X ρ h w ρ' h' w'' := by
 refine ⟨st.heap.calm hc, fun v x hr => (st.carry v x hr).calm hc, ?_, st.new, st.dead⟩
 refine ⟨hc.os.trans st.ext.os, hc.tape.trans st.ext.tape, hc.output.trans st.ext.output, Nat.le_trans st.ext.size hc.size, fun k hk hM => ?_, fun b o n ht => hc.there (st.ext.there b o n ht)⟩
 rw [hc.block k (Nat.lt_of_lt_of_le hk st.ext.size) hk]
 exact st.ext.block k hk hM
theorem Calm.putObj {w : World} {B l : Nat} {o o' : Obj} (hB : B ≤ l) (h : w.heap[l]? = some o) (ho : o.isCells = false) : Calm B w (w.putObj l o') := by
 refine ⟨rfl, rfl, rfl, by simp, fun k hk hkB => World.putObj_heap_other (by omega), fun k c t f hc => ?_⟩
 by_cases e : k = l
 . subst e; rw [hc] at h; cases h; simp [Obj.isCells] at ho
 . rw [World.putObj_heap_other e]; exact hc
theorem callsIn_fz {r r' : Option Nat} {n n' : Nat} {f : FuncId} {args : Array Value} {R : Ending → World → Prop} (h : CallsIn (fz r) n P f args w R) : CallsIn (fz r') n' P f args w R :=
 ⟨trivial, fun cs _ => h.2 cs (fz_room r _)⟩
def From (X : Nat → Prop) (ρ : Nat → Option Nat) (h : List Blk) (w : World) : Hist := fun X' ρ' h' w' => X' = X ∧ Step X ρ h w ρ' h' w'
theorem From.ok (hn : Sp.n = 0) : HistOK P Sp (From X ρ h w) :=
 ⟨fun hs st => by obtain ⟨rfl, hs⟩ := hs; exact ⟨rfl, hs.trans st⟩, fun _ hi => by omega⟩
theorem From.gc (hw : ∀ i, (hget h i).live = false) (hρ : ∀ i, ρ i = none) (hl : h = []) : HistGC (From X ρ h w) := by
 subst hl
 rintro X' ρ' h' w' ρ2 h2 ⟨rfl, hs⟩ hh hn
 have hnew : ∀ i b, (hget h2 i).live = true → (hget h2 i).wr = true → ρ2 i = some b → w.heap.size ≤ b := by
   intro i b e1 e2 e3
   obtain ⟨j, j1, j2, j3⟩ := hn i b e1 e2 e3
   rcases hs.new j b j1 j2 j3 with h | ⟨q, q1, _⟩
   . exact h
   . rw [hw q] at q1; cases q1
 refine ⟨rfl, hh, fun v x hr => ?_, hs.ext, fun i b e1 e2 e3 => .inl (hnew i b e1 e2 e3), ⟨Nat.zero_le _, fun i hi => by simp at hi⟩⟩
 refine hr.carry hs.ext (fun b hb hX => ⟨?_, fun hM => hX (.inr hM)⟩) (fun i b e => by rw [hρ i] at e; cases e)
 rintro (h1 | ⟨i, h1, h2, h3⟩)
 . exact hX (.inl h1)
 . have := hnew i b h1 h2 h3
   omega
theorem From.calm {X₁ : Nat → Prop} {ρ₁ : Nat → Option Nat} {h₁ : List Blk} (hf : From X ρ h w X₁ ρ₁ h₁ w') {w'' : World} (hc : Calm w.heap.size w' w'') : From X ρ h w X₁ ρ₁ h₁ w'' := by
 obtain ⟨rfl, hs⟩ := hf
 exact ⟨rfl, hs.calm hc⟩
def HistCalm (B : Nat) (Hi : Hist) : Prop := ∀ {X ρ h w w'}, Hi X ρ h w → Calm B w w' → Hi X ρ h w'
theorem psets_rep : ∀ (ps : List Tmp) {us : List Value} {xs : List AVal} (tm : Array Value) (am : List AVal) {w : World} {X : Nat → Prop} {ρ : Nat → Option Nat}, us.length = ps.length → RepL w X ρ us xs → tm.size = am.length → (∀ (t : Nat) (v : Value) (x : AVal), tm[t]? = some v → lget am t = some x → Rep w X ρ v x) →
   ((ps.zip us).foldl (fun t (x : Tmp × Value) => t.setIfInBounds x.1 x.2) tm).size = (psets am ps xs).length ∧ ∀ (t : Nat) (v : Value) (x : AVal), ((ps.zip us).foldl (fun t (x : Tmp × Value) => t.setIfInBounds x.1 x.2) tm)[t]? = some v → lget (psets am ps xs) t = some x → Rep w X ρ v x
 | [], us, xs, tm, am, w, X, ρ, hl, hr, hz, hc => by
   cases us with
   | nil => cases hr; exact ⟨hz, hc⟩
   | cons => simp at hl
 | p :: ps, us, xs, tm, am, w, X, ρ, hl, hr, hz, hc => by
   cases hr with
   | nil => simp at hl
   | cons h1 h2 =>
     rename_i v x us xs
     simp only [List.zip_cons_cons, List.foldl_cons, psets]
     refine psets_rep ps (tm.setIfInBounds p v) (lset am p x) (by simpa using hl) h2 (by rw [lset_eq]; simpa using hz) ?_
     intro t u y hu hy
     rw [lset_eq, lget_eq] at hy
     by_cases e : p = t
     . subst e
       have hlt : p < tm.size := by
         rcases Nat.lt_or_ge p tm.size with h' | h'
         . exact h'
         . rw [Array.getElem?_eq_none (by simpa using h')] at hu; cases hu
       rw [Array.getElem?_setIfInBounds_self_of_lt hlt] at hu
       rw [List.getElem?_set_self (by rw [← hz]; exact hlt)] at hy
       cases hu; cases hy
       exact h1
     . rw [Array.getElem?_setIfInBounds_ne e] at hu
       rw [List.getElem?_set_ne e, ← lget_eq] at hy
       exact hc t u y hu hy
theorem marks_nil {ρ : Nat → Option Nat} {h : List Blk} : Marks B ρ h [] w := ⟨.nil, fun d hd => by cases hd⟩
theorem sop_sound {T : Ty} {Sp : SpecT} {tree all} {o : Oper} {s : St} {y : AVal} {K : St → Prop} (h : sop Ar.real o (ev s) = some y) (hk : K (put s o.dst y)) : astep Ar.real T Sp tree all o s K := by
 unfold sop at h
 unfold astep
 cases hg : o.guard with
 | some g => rw [hg] at h; cases h
 | none =>
   rw [hg] at h
   simp only at h ⊢
   cases ho : o.op <;> rw [ho] at h <;> simp only at h <;> try (cases h; done)
   . cases h
     simp only [aop, ho, cls, aopP]
     exact hk
   . cases h
     simp only [aop, ho, cls, aopP]
     exact hk
   . rename_i op t x z u
     simp only [aop, ho, cls, aopP, abin]
     cases ha : isArith op with
     | false => rw [ha] at h; cases h
     | true =>
       rw [ha] at h
       simp only at h ⊢
       unfold aarith
       cases hx : ev s x <;> cases hz : ev s z <;> rw [hx, hz] at h <;> simp only at h ⊢ <;> try (cases h; done)
       all_goals
         split at h <;> try (cases h; done)
         rename_i hc
         cases h
         simp only [Bool.and_eq_true, Bool.not_eq_true'] at hc
         try rw [show (isShift op || decide _) = true by simp [hc.2]]
         try rw [hc.1]
         simp only [onlyIf, hc.1, hc.2, Bool.true_and, Bool.or_true]
         exact hk
theorem sops_sound {T : Ty} {Sp : SpecT} {tree all} : ∀ (os : List Oper) (s s1 : St) {K : St → Prop}, sops Ar.real os s = some s1 → K s1 → aops Ar.real T Sp tree all os s K
 | [], s, s1, K, h, hk => by cases h; exact hk
 | o :: os, s, s1, K, h, hk => by
   unfold sops at h
   split at h
   . rename_i y hy
     exact sop_sound hy (sops_sound os _ _ h hk)
   . cases h
theorem scode_sound {T : Ty} {Sp : SpecT} {N : Nat → Nat} {tr : Nat → Md} {id : Nat} {c : Code} {s s1 : St} {K : Exit → St → Prop} (hj : isJ tr c = true) (h : scode Ar.real c s = some s1) (hk : K .normal s1) : acode Ar.real T Sp N tr id c s K := by
 cases c <;> simp only [scode] at h <;> try (cases h; done)
 . cases h; exact hk
 . rename_i r ops draw
   have hr : reserve (tr r) ops.toList s = s := by
     simp only [isJ] at hj
     unfold reserve
     split
     . rename_i l e; rw [e] at hj; cases draw <;> cases hj
     . rename_i l e; rw [e] at hj; cases draw <;> cases hj
     . rename_i e; rw [e] at hj; cases draw <;> cases hj
     . rfl
   simp only [acode]
   rw [hr]
   exact sops_sound _ _ _ h hk
theorem put_get {s : St} {d : Option Tmp} {y : AVal} {i : Nat} (h : d ≠ some i) : lget (put s d y).tmps i = lget s.tmps i := by
 cases d with
 | none => rfl
 | some d =>
   show lget (lset s.tmps d y) i = _
   rw [lget_eq, lget_eq, lset_eq, List.getElem?_set_ne (fun e => h (by rw [e]))]
theorem sops_get : ∀ (os : List Oper) (s s1 : St) (i : Nat), sops Ar.real os s = some s1 → i ∉ dstL os → lget s1.tmps i = lget s.tmps i ∧ s1.heap = s.heap ∧ s1.tmps.length = s.tmps.length
 | [], s, s1, i, h, _ => by cases h; exact ⟨rfl, rfl, rfl⟩
 | o :: os, s, s1, i, h, hi => by
   unfold sops at h
   split at h
   . rename_i y hy
     have hd : o.dst ≠ some i ∧ i ∉ dstL os := by
       unfold dstL at hi
       cases hd : o.dst with
       | none => rw [hd] at hi; exact ⟨(fun e => nomatch e), hi⟩
       | some d =>
         rw [hd] at hi
         simp only [List.mem_cons, not_or] at hi
         exact ⟨fun e => hi.1 (by cases e; rfl), hi.2⟩
     obtain ⟨h1, h2, h3⟩ := sops_get os _ _ i h hd.2
     exact ⟨h1.trans (put_get hd.1), h2.trans (put_heap s o.dst y), h3.trans (put_tmps_len s o.dst y)⟩
   . cases h
theorem sops_hl : ∀ (os : List Oper) (s s1 : St), sops Ar.real os s = some s1 → s1.heap = s.heap ∧ s1.tmps.length = s.tmps.length
 | [], s, s1, h => by cases h; exact ⟨rfl, rfl⟩
 | o :: os, s, s1, h => by
   unfold sops at h
   split at h
   . rename_i y hy
     obtain ⟨h2, h3⟩ := sops_hl os _ _ h
     exact ⟨h2.trans (put_heap s o.dst y), h3.trans (put_tmps_len s o.dst y)⟩
   . cases h
theorem scode_get {c : Code} {s s1 : St} (h : scode Ar.real c s = some s1) : s1.heap = s.heap ∧ s1.tmps.length = s.tmps.length ∧ ∀ i, i ∉ dstC c → lget s1.tmps i = lget s.tmps i := by
 unfold scode at h
 split at h
 . cases h; exact ⟨rfl, rfl, fun _ _ => rfl⟩
 . exact ⟨(sops_hl _ _ _ h).1, (sops_hl _ _ _ h).2, fun i hi => (sops_get _ _ _ i h hi).1⟩
 . cases h
theorem memN_iff (d : Nat) : ∀ l, memN d l = true ↔ d ∈ l
 | [] => by simp [memN]
 | e :: l => by
   unfold memN
   cases h : d == e with
   | true => simp only [true_iff]; rw [beq_iff_eq] at h; subst h; exact List.mem_cons_self
   | false =>
     have := memN_iff d l
     simp only [this, List.mem_cons]
     have hne : d ≠ e := by intro e'; subst e'; simp at h
     simp [hne]
theorem uniN_mem : ∀ (k l : List Nat) (i : Nat), i ∈ k ∨ i ∈ l → i ∈ uniN k l
 | [], l, i, h => by rcases h with h | h; cases h; exact h
 | d :: k, l, i, h => by
   unfold uniN
   split
   . rename_i hm
     refine uniN_mem k l i ?_
     rcases h with h | h
     . rcases List.mem_cons.1 h with rfl | h
       . exact .inr ((memN_iff _ _).1 hm)
       . exact .inl h
     . exact .inr h
   . refine uniN_mem k (d :: l) i ?_
     rcases h with h | h
     . rcases List.mem_cons.1 h with rfl | h
       . exact .inr List.mem_cons_self
       . exact .inl h
     . exact .inr (List.mem_cons_of_mem _ h)
def Meet (x y : AVal) : Prop := y = .any ∨ (∃ k n, y = .s k n ∧ (x = .i k n ∨ x = .s k n)) ∨ (∃ b, y = .sb b ∧ (x = .b b ∨ x = .sb b))
theorem lget_lset {l : List AVal} {d i : Nat} {y z : AVal} (h : lget (lset l d y) i = some z) : (i = d ∧ z = y) ∨ (i ≠ d ∧ lget l i = some z) := by
 rw [lset_eq, lget_eq] at h
 by_cases e : d = i
 . subst e
   have := (List.getElem?_eq_some_iff.1 h).1
   rw [List.length_set] at this
   rw [List.getElem?_set_self this] at h
   cases h
   exact .inl ⟨rfl, rfl⟩
 . rw [List.getElem?_set_ne e] at h
   exact .inr ⟨fun e' => e e'.symm, by rw [lget_eq]; exact h⟩
theorem jn_inv {t : Bool} {sa sb : List AVal} : ∀ (D : List Nat) (tm : List AVal) {K : List AVal → Prop}, jn t sa sb D tm K →
   ∃ tm', K tm' ∧ tm'.length = tm.length ∧ ∀ i z, lget tm' i = some z → (lget tm i = some z ∧ i ∉ D) ∨ (i ∈ D ∧ (∀ x, t = true → lget sa i = some x → Meet x z) ∧ (∀ x, t = false → lget sb i = some x → Meet x z))
 | [], tm, K, h => ⟨tm, h, rfl, fun i z hz => .inl ⟨hz, by simp⟩⟩
 | d :: ds, tm, K, h => by
   have key : ∀ (y : AVal), (∀ x, t = true → lget sa d = some x → Meet x y) → (∀ x, t = false → lget sb d = some x → Meet x y) → jn t sa sb ds (lset tm d y) K →
       ∃ tm', K tm' ∧ tm'.length = tm.length ∧ ∀ i z, lget tm' i = some z → (lget tm i = some z ∧ i ∉ d :: ds) ∨ (i ∈ d :: ds ∧ (∀ x, t = true → lget sa i = some x → Meet x z) ∧ (∀ x, t = false → lget sb i = some x → Meet x z)) := by
     intro y h1 h2 h
     obtain ⟨tm', k1, k2, k3⟩ := jn_inv ds _ h
     refine ⟨tm', k1, k2.trans (by rw [lset_eq, List.length_set]), fun i z hz => ?_⟩
     rcases k3 i z hz with ⟨a1, a2⟩ | ⟨a1, a2⟩
     . rcases lget_lset a1 with ⟨rfl, rfl⟩ | ⟨b1, b2⟩
       . exact .inr ⟨List.mem_cons_self, h1, h2⟩
       . exact .inl ⟨b2, by simp [b1, a2]⟩
     . exact .inr ⟨List.mem_cons_of_mem _ a1, a2⟩
   have hany : jn t sa sb ds (lset tm d .any) K → _ := key .any (fun _ _ _ => .inl rfl) (fun _ _ _ => .inl rfl)
   unfold jn at h
   split at h
   all_goals first
     | exact hany h
     | (rename_i ea eb
        cases h with
        | mk v hp hq hk =>
          refine key (.sb v) ?_ ?_ hk
          . intro x ht hx; rw [ea] at hx; cases hx; cases hp ht; exact .inr (.inr ⟨_, rfl, by simp⟩)
          . intro x ht hx; rw [eb] at hx; cases hx; cases hq ht; exact .inr (.inr ⟨_, rfl, by simp⟩))
     | (rename_i ea eb
        split at h
        . rename_i hk
          have hk := of_decide_eq_true hk
          subst hk
          cases h with
          | mk v hp hq hk =>
            refine key (.s _ v) ?_ ?_ hk
            . intro x ht hx; rw [ea] at hx; cases hx; cases hp ht; exact .inr (.inl ⟨_, _, rfl, by simp⟩)
            . intro x ht hx; rw [eb] at hx; cases hx; cases hq ht; exact .inr (.inl ⟨_, _, rfl, by simp⟩)
        . exact hany h)
theorem Rep.meet {ρ : Nat → Option Nat} {v : Value} {x y : AVal} (hm : Meet x y) (h : Rep w X ρ v x) : Rep w X ρ v y := by
 rcases hm with rfl | ⟨k, n, rfl, rfl | rfl⟩ | ⟨b, rfl, rfl | rfl⟩
 . exact .any _
 . rw [h.i_inv]; exact .s _ _
 . exact h
 . rw [h.b_inv]; exact .sb _
 . exact h
theorem Rel.meet {s : St} {tm : List AVal} {a : Act} (hl : tm.length = s.tmps.length) (hm : ∀ i z, lget tm i = some z → lget s.tmps i = some z ∨ ∀ x, lget s.tmps i = some x → Meet x z) (hr : Rel P B Hi X ρ s a w) : Rel P B Hi X ρ ⟨tm, s.heap⟩ a w := by
 refine ⟨hr.heap, hr.size.trans hl.symm, fun t v y hv hy => ?_, hr.marks, hr.lt, hr.base, hr.hist⟩
 rcases hm t y hy with h | h
 . exact hr.tmps t v y hv h
 . have hlt : t < s.tmps.length := by
     rw [← hl]
     change lget tm t = some y at hy
     rw [lget_eq] at hy
     exact (List.getElem?_eq_some_iff.1 hy).1
   have hx : lget s.tmps t = some s.tmps[t] := by rw [lget_eq]; exact List.getElem?_eq_getElem hlt
   exact (hr.tmps t v _ hv hx).meet (h _ hx)
theorem acode_sound (hT : TyOk P T) (hm : P.follows .mixedOrders = true) (hd : DrawOK P T) (hS : SpOK P Sp) {N : Nat → Nat} {tr : Nat → Md} : ∀ (c : Code) (id : Nat) (s : St) (K : Exit → St → Prop) (a : Act) (w : World) (r : Option Nat) (B : Nat) (Hi : Hist), HistOK P Sp Hi → (noRange c = true ∨ (r = none ∧ Sp.it = false ∧ HistCalm B Hi)) → (noLoop c = true ∨ (Sp.gc = true → HistGC Hi)) → codeOK tr c = true →
   acode Ar.real T Sp N tr id c s K → RelD P B Hi Sp s a w → c.wpIn (fz r) 1 P (lift P B Hi Sp K) a w := by
 intro c
 induction c with
 | skip => intro id s K a w r B Hi hHi hR hG _ hq hr; exact wpIn_skip ⟨s, hq, hr⟩
 | region rg ops draw =>
   intro id s K a w r B Hi hHi hR hG hok hq hr
   replace hr : RelD P B Hi Sp (reserve (tr rg) ops.toList s) a w := by
     have grown : RelD P B Hi Sp ⟨s.tmps, s.heap ++ marksOf ops.toList⟩ a w := by
       obtain ⟨⟨X, ρ, h1⟩, h2⟩ := hr
       have st := reserve_step h1.heap ops.toList
       refine ⟨⟨X, ρ, st.heap, h1.size, fun t v x hv hx => st.carry v x (h1.tmps t v x hv hx), ⟨h1.marks.nodup, fun d hd => ?_⟩, h1.lt, h1.base, hHi.step h1.hist st⟩, h2⟩
       obtain ⟨D, d1, d2, d3, d4⟩ := h1.marks.is d hd
       refine ⟨D, d1, d2, d3, fun i e1 e2 e3 => ?_⟩
       rcases st.new i D e1 e2 e3 with e4 | ⟨j, j1, j2, j3⟩
       . have : D < w.heap.size := (Array.getElem?_eq_some_iff.1 d3).1
         omega
       . exact d4 j j1 j2 j3
     unfold reserve
     split
     . exact grown
     . exact grown
     . exact grown
     . exact hr
   simp only [acode] at hq
   generalize reserve (tr rg) ops.toList s = s at hq hr
   cases draw with
   | false =>
     refine wpIn_region ?_
     rw [List.range_eq_range']
     exact aops_sound hT hS hHi r (ds := a.defers) (hr.2.imp hS.it fun h => h) (fun s' a' w' hd hk hr' => ⟨s', hk, hr', by unfold dOK; rw [hd]; exact hr.2⟩) ops.size 0 s a w (by omega) rfl hr.1 hq
   | true =>
     refine wpIn_region_any hm ?_
     exact hd Sp B Hi r hS hHi (tr rg) ops _ _ a.defers (by simpa [codeOK] using hok) (hr.2.imp hS.it fun h => h) (fun s' a' w' hd hk hr' => ⟨s', hk, hr', by unfold dOK; rw [hd]; exact hr.2⟩) s a _ rfl (hr.1.drew hHi) hq
 | seq x y ih1 ih2 =>
   intro id s K a w r B Hi hHi hR hG hok hq hr
   simp only [codeOK, Bool.and_eq_true] at hok
   simp only [noRange, Bool.and_eq_true] at hR
   simp only [noLoop, Bool.and_eq_true] at hG
   refine wpIn_seq (wpIn_mono (ih1 id s _ a w r B Hi hHi (hR.imp (·.1) (fun h => h)) (hG.imp (·.1) (fun h => h)) hok.1 hq hr) ?_)
   rintro e a' w' ⟨s', hk, hr'⟩
   cases e <;> try (exact ⟨s', hk, hr'⟩)
   exact ih2 id s' K a' w' r B Hi hHi (hR.imp (·.2) (fun h => h)) (hG.imp (·.2) (fun h => h)) hok.2 hk hr'
 | cond c x y ih1 ih2 =>
   intro id s K a w r B Hi hHi hR hG hok hq hr
   simp only [codeOK, Bool.and_eq_true] at hok
   simp only [noRange, Bool.and_eq_true] at hR
   simp only [noLoop, Bool.and_eq_true] at hG
   obtain ⟨X, ρ, hr0⟩ := hr.1
   have hc := hr0.ev c
   simp only [acode] at hq
   generalize ev s c = z at hq hc
   split at hq
   . exact wpIn_cond_true hc.b_inv (ih1 id s K a w r B Hi hHi (hR.imp (·.1) (fun h => h)) (hG.imp (·.1) (fun h => h)) hok.1 hq hr)
   . exact wpIn_cond_false hc.b_inv (ih2 id s K a w r B Hi hHi (hR.imp (·.2) (fun h => h)) (hG.imp (·.2) (fun h => h)) hok.2 hq hr)
   . rename_i t
     split at hq
     . rename_i hj
       rw [Bool.and_eq_true] at hj
       split at hq
       . rename_i sa sb ea eb
         obtain ⟨tm, hk, hl, hm⟩ := jn_inv _ _ hq
         obtain ⟨a1, a2, a3⟩ := scode_get ea
         obtain ⟨b1, b2, b3⟩ := scode_get eb
         have hx := ih1 id s (fun e s' => e = .normal ∧ s' = sa) a w r B Hi hHi (hR.imp (·.1) (fun h => h)) (hG.imp (·.1) (fun h => h)) hok.1 (scode_sound hj.1 ea ⟨rfl, rfl⟩) hr
         have hy := ih2 id s (fun e s' => e = .normal ∧ s' = sb) a w r B Hi hHi (hR.imp (·.2) (fun h => h)) (hG.imp (·.2) (fun h => h)) hok.2 (scode_sound hj.2 eb ⟨rfl, rfl⟩) hr
         refine wpIn_cond_split hc.sb_inv (fun ht => wpIn_mono hx ?_) (fun hf => wpIn_mono hy ?_)
         . rintro e a' w' ⟨s', ⟨rfl, rfl⟩, ⟨⟨X', ρ', hr'⟩, hd'⟩⟩
           refine ⟨_, hk, ⟨X', ρ', ?_⟩, hd'⟩
           rw [← a1]
           refine hr'.meet (hl.trans a2.symm) fun i z hz => ?_
           rcases hm i z hz with ⟨c1, c2⟩ | ⟨c1, c2, c3⟩
           . exact .inl ((a3 i fun h => c2 (uniN_mem _ _ _ (.inl h))).trans c1)
           . exact .inr fun x hx => c2 x ht hx
         . rintro e a' w' ⟨s', ⟨rfl, rfl⟩, ⟨⟨X', ρ', hr'⟩, hd'⟩⟩
           refine ⟨_, hk, ⟨X', ρ', ?_⟩, hd'⟩
           rw [← b1]
           refine hr'.meet (hl.trans b2.symm) fun i z hz => ?_
           rcases hm i z hz with ⟨c1, c2⟩ | ⟨c1, c2, c3⟩
           . exact .inl ((b3 i fun h => c2 (uniN_mem _ _ _ (.inr h))).trans c1)
           . exact .inr fun x hx => c3 x hf hx
       . cases hq with
         | mk hp hq => exact wpIn_cond_split hc.sb_inv (fun ht => ih1 id s K a w r B Hi hHi (hR.imp (·.1) (fun h => h)) (hG.imp (·.1) (fun h => h)) hok.1 (hp ht) hr) (fun hf => ih2 id s K a w r B Hi hHi (hR.imp (·.2) (fun h => h)) (hG.imp (·.2) (fun h => h)) hok.2 (hq hf) hr)
     cases hq with
     | mk hp hq => exact wpIn_cond_split hc.sb_inv (fun ht => ih1 id s K a w r B Hi hHi (hR.imp (·.1) (fun h => h)) (hG.imp (·.1) (fun h => h)) hok.1 (hp ht) hr) (fun hf => ih2 id s K a w r B Hi hHi (hR.imp (·.2) (fun h => h)) (hG.imp (·.2) (fun h => h)) hok.2 (hq hf) hr)
   . exact hq.elim
 | block i c ih =>
   intro id s K a w r B Hi hHi hR hG hok hq hr
   refine wpIn_block (wpIn_mono (ih i s _ a w r B Hi hHi hR hG hok hq hr) ?_)
   rintro e a' w' ⟨s', hk, hr'⟩
   cases e <;> try (exact ⟨s', hk, hr'⟩)
   rename_i j
   simp only [Exit.inBlock]
   simp only at hk
   split at hk
   . rename_i he
     rw [if_pos (by simpa using he)]
     exact ⟨s', hk, hr'⟩
   . rename_i he
     rw [if_neg (by simpa using he)]
     exact ⟨s', hk, hr'⟩
 | loop c ih =>
   intro id s K a w r B Hi hHi hR hG hok hq hr
   have hG2 : Sp.gc = true → HistGC Hi := hG.resolve_left (by simp [noLoop])
   exact (loopN_sound hHi hG2 (fun s K a w hb hr => ih id s K a w r B Hi hHi hR (.inr hG2) hok hb hr) (N id) s K a w hq hr).wp
 | exit j => intro id s K a w r B Hi hHi hR hG _ hq hr; exact wpIn_exit ⟨s, hq, hr⟩
 | ret => intro id s K a w r B Hi hHi hR hG _ hq hr; exact wpIn_ret ⟨s, hq, hr⟩
 | rangeFunc g ps asg body ih1 ih2 =>
   intro id s K a w r B Hi hHi hR hG hok hq hr
   simp only [codeOK, Bool.and_eq_true] at hok
   obtain ⟨⟨⟨⟨hok1, hok2⟩, hnr1⟩, hnr2⟩, hnl1, hnl2⟩ := hok
   rcases hR with hR | ⟨rfl, hn0, hcalm⟩
   . simp [noRange] at hR
   obtain ⟨⟨X, ρ, hr0⟩, _⟩ := hr
   simp only [acode] at hq
   have hg := hr0.ev g
   generalize ev s g = z at hq hg
   split at hq <;> try (exact hq.elim)
   rename_i gf cap
   obtain ⟨cap', hs, hq⟩ := optK_inv hq
   obtain ⟨us0, ws, hgv, hus0, hws⟩ := hg.fn_inv
   cases hus0
   have hcap := snapL_sound (f := snap s.heap depth) (g := ids s.heap depth) (fun x y v h1 h2 h3 => snap_sound hr0.heap depth x y v _ h1 h2 h3) _ _ _ hs hws (fun _ h => h)
   generalize hL : idsL (ids s.heap depth) cap = L at hq hcap
   have hcap1 : RepL w (XX X ρ (freeze s.heap L)) noρ ws cap' := hcap.weaken fun b hb => XX_freeze hb
   have st0 : Step X ρ s.heap w ρ (freeze s.heap L) w := Step.grow hr0.heap (Ext.refl _ w) L
   generalize hh1 : freeze s.heap L = h₁ at hq hcap1 st0
   cases hq with
   | mk n xs hseq hlen hp hs1 hrd0 hK0 =>
     obtain ⟨I, hI⟩ : ∃ I : Nat → List Blk → Prop, I = fun i h => h = hp i := ⟨_, rfl⟩
     have h0 : I 0 (hp 0) := by rw [hI]
     have hrd : ∀ i h, i < n → I i h → _ := fun i h hi hIh => by
       have e : h = hp i := by rw [hI] at hIh; exact hIh
       exact e.symm ▸ hrd0 i hi
     have hK : ∀ h, I n h → K .normal ⟨s.tmps, h⟩ := fun h hIh => by
       have e : h = hp n := by rw [hI] at hIh; exact hIh
       rw [e]; exact hK0
     have hIs : ∀ i h, h = hp i → I i h := fun i h e => by rw [hI]; exact e
     generalize hp 0 = h1 at hs1 h0
     have hsq := hS.seq _ _ _ _ hseq
     refine wpIn_rangeFunc ?_
     intro fn hfn
     obtain ⟨rec, hrec⟩ : ∃ rec : LoopState → Option Code → Loop, rec = fun st pe => { state := st, pending := pe, fn, tmps := a.tmps, params := ps, assign := asg, body, defers := w.heap.size } := ⟨_, rfl⟩
     obtain ⟨W1, hW1⟩ : ∃ W1, (w.alloc (.deferred (some []))).alloc (.loop (rec .ready none)) = W1 := ⟨_, rfl⟩
     have hL1 : W1.heap[w.heap.size + 1]? = some (.loop (rec .ready none)) := by
       rw [← hW1]; have := World.alloc_heap_new (w.alloc (.deferred (some []))) (.loop (rec .ready none)); rwa [World.size_alloc] at this
     have hK1 : W1.heap[w.heap.size]? = some (.deferred (some [])) := by
       rw [← hW1]; exact (Go.RowKit.Below.heap_alloc _ _ _ (by simp)).trans (World.alloc_heap_new w _)
     have hx1 : Ext (fun _ => False) w W1 := by rw [← hW1]; exact (Ext.alloc _ _ _).trans (Ext.alloc _ _ _)
     refine ⟨w.heap.size + 1, [{ target := .collected w.heap.size, args := #[] }], W1, { target := .fn (.func gf) ws.toArray, args := #[.func (.yield (w.heap.size + 1)) #[] #[]] }, W1, gf,
       #[.func (.yield (w.heap.size + 1)) #[] #[]] ++ ws.toArray, W1, ?_, ?_, fun _ _ => trivial, ?_, fz_depth none 1, ?_⟩
     . rw [← hW1, hrec]; exact run_enterLoop_outer _ _ _ _ _
     . simp only [resolve, hgv]
       simp [go_sem]
     . simp [invoke, go_sem, hsq.1]
     . have own_lt : ∀ {ρ' : Nat → Option Nat} {h' : List Blk} {W : World}, HRel X ρ' h' W → ∀ i b, (hget h' i).live = true → (hget h' i).wr = true → ρ' i = some b → b < W.heap.size := by
         intro ρ' h' W hh i b e1 e2 e3
         rcases hh.blk i e1 with ⟨b', vs, q1, q2, _⟩ | ⟨q1, _⟩
         . rw [q1] at e3; cases e3; exact q2
         . rw [q1] at e3; cases e3
       have st1 : Step X ρ h₁ w ρ h₁ W1 := Step.grow (l := []) st0.heap hx1
       refine callsIn_fz (r := none) (n := 1) ((hsq.2 (XX X ρ h₁) W1 ws (w.heap.size + 1) (fun i Z W => ∃ ρ' h', I i h' ∧ (∀ b, Z b ↔ XX X ρ' h' b) ∧ Step X ρ h₁ w ρ' h' W ∧ W.heap[w.heap.size + 1]? = some (.loop (rec .ready none)) ∧ W.heap[w.heap.size]? = some (.deferred (some [])) ∧
           ∀ i b, (hget h' i).live = true → (hget h' i).wr = true → ρ' i = some b → b ≠ w.heap.size ∧ b ≠ w.heap.size + 1)
         (fun b hb => Nat.lt_of_lt_of_le (HRel.lt st0.heap hr0.lt hb) hx1.size) (RepL.carry hx1 (fun b hb hX => ⟨hX, fun h => h⟩) (fun _ _ h => h) hcap1) ?_ ?_ ?_).mono ?_)
       . -- it abides growth
         rintro i Z W W' ⟨ρ', h', k1, k2, k3, k4, k5, k6⟩ hx
         have hlt : w.heap.size + 1 < W.heap.size := (Array.getElem?_eq_some_iff.1 k4).1
         exact ⟨ρ', h', k1, k2, k3.trans (Step.grow (l := []) k3.heap hx), (hx.block _ hlt (fun h => h)).trans k4, (hx.block _ (by omega) (fun h => h)).trans k5, k6⟩
       . -- a round
         rintro i Z W us hi ⟨ρ', h', k1, k2, k3, k4, k5, k6⟩ hZ hus
         have hlu : us.length = ps.toList.length := by rw [hus.length, hlen i hi]
         have hy := run_yield (P := P) (args := us.toArray) k4 (by rw [hrec]; simpa using hlu)
         rw [hrec] at hy
         refine ⟨fn, _, asg, body, hy, ?_⟩
         have hlt : w.heap.size + 1 < W.heap.size := (Array.getElem?_eq_some_iff.1 k4).1
         have husX : RepL W (XX X ρ' h') ρ' us (xs i) := RepL.carry (Ext.refl (fun _ => False) W) (fun b hb hX => ⟨fun h => hX ((k2 b).2 h), fun h => h⟩) (fun j b h => by simp [noρ] at h) hus
         have htm : ∀ (t : Nat) (v : Value) (x : AVal), a.tmps[t]? = some v → lget s.tmps t = some x → Rep W (XX X ρ' h') ρ' v x := fun t v x hv hx => k3.carry v x (st0.carry v x (hr0.tmps t v x hv hx))
         obtain ⟨p1, p2⟩ := psets_rep ps.toList a.tmps s.tmps hlu husX hr0.size htm
         have hfold : (ps.zip us.toArray).foldl (fun t (x : Tmp × Value) => t.setIfInBounds x.1 x.2) a.tmps = (ps.toList.zip us).foldl (fun t (x : Tmp × Value) => t.setIfInBounds x.1 x.2) a.tmps := by
           rw [← Array.foldl_toList]
           congr 1
           simp
         have hlX : ∀ b, X b → b < W.heap.size := fun b hb => Nat.lt_of_lt_of_le (hr0.lt b hb) k3.ext.size
         refine roundIn_of_wpIn (F := fz none) (n := 1) trivial ?_
         have hrel : RelD P 0 (From X ρ' h' W) Sp ⟨psets s.tmps ps.toList (xs i), h'⟩ { tmps := (ps.zip us.toArray).foldl (fun t (x : Tmp × Value) => t.setIfInBounds x.1 x.2) a.tmps, defers := [] } W := by
           rw [hfold]
           exact ⟨⟨X, ρ', k3.heap, p1, p2, marks_nil, hlX, Nat.zero_le _, rfl, Step.refl k3.heap⟩, .inl hn0⟩
         refine wpIn_mono (ih1 id _ _ _ _ (some (w.heap.size + 1)) 0 _ (From.ok (hS.it hn0)) (.inl hnr1) (.inl hnl1) hok1 (hrd i h' hi k1) hrel) ?_
         rintro e a1 w1 ⟨s1, hk1, ⟨X1, ρ1, hr1⟩, _⟩
         cases e <;> try (exact hk1.elim)
         obtain ⟨rfl, st1⟩ := hr1.hist
         have hl1 : w1.heap[w.heap.size + 1]? = some (.loop (rec .ready none)) := by
           rw [st1.ext.block _ hlt (by rintro ⟨j, j1, j2, j3⟩; exact (k6 j _ j1 j2 j3).2 rfl)]; exact k4
         have hD1 : w1.heap[w.heap.size]? = some (.deferred (some [])) := by
           rw [st1.ext.block _ (by omega) (by rintro ⟨j, j1, j2, j3⟩; exact (k6 j _ j1 j2 j3).1 rfl)]; exact k5
         have hne1 : ∀ j b, (hget s1.heap j).live = true → (hget s1.heap j).wr = true → ρ1 j = some b → b ≠ w.heap.size ∧ b ≠ w.heap.size + 1 := by
           intro j b j1 j2 j3
           rcases st1.new j b j1 j2 j3 with h5 | ⟨q, q1, q2, q3⟩
           . omega
           . exact k6 q b q1 q2 q3
         refine ⟨_, run_beginRound hl1 (by rw [hrec]), ?_⟩
         obtain ⟨w2, hw2⟩ : ∃ w2, w2 = w1.putObj (w.heap.size + 1) (.loop { rec .ready none with state := .busy }) := ⟨_, rfl⟩
         rw [← hw2]
         have hc12 : ∀ B', B' ≤ w.heap.size + 1 → Calm B' w1 w2 := fun B' hB => by rw [hw2]; exact Calm.putObj hB hl1 rfl
         have hlt1 : w.heap.size + 1 < w1.heap.size := (Array.getElem?_eq_some_iff.1 hl1).1
         have hl2 : w2.heap[w.heap.size + 1]? = some (.loop { rec .ready none with state := .busy }) := by rw [hw2]; exact World.putObj_heap_same hlt1
         have hD2 : w2.heap[w.heap.size]? = some (.deferred (some [])) := by rw [hw2, World.putObj_heap_other (by omega)]; exact hD1
         have hc0 := hc12 0 (Nat.zero_le _)
         have hrel2 : RelD P 0 (From X1 ρ1 s1.heap w2) Sp s1 a1 w2 := by
           refine ⟨⟨X1, ρ1, hr1.heap.calm hc0, hr1.size, fun t v x hv hx => (hr1.tmps t v x hv hx).calm hc0, ?_, fun b hb => Nat.lt_of_lt_of_le (hr1.lt b hb) hc0.size, Nat.zero_le _, rfl, Step.refl (hr1.heap.calm hc0)⟩, .inl hn0⟩
           refine ⟨hr1.marks.nodup, fun d hd => ?_⟩
           obtain ⟨D, d1, d2, d3, d4⟩ := hr1.marks.is d hd
           refine ⟨D, d1, d2, ?_, d4⟩
           rw [hw2, World.putObj_heap_other (by rintro rfl; rw [hl1] at d3; cases d3)]
           exact d3
         refine wpIn_mono (ih2 id _ _ _ _ (some (w.heap.size + 1)) 0 _ (From.ok (hS.it hn0)) (.inl hnr2) (.inl hnl2) hok2 hk1 hrel2) ?_
         rintro e a2 w3 ⟨s2, hk2, ⟨X2, ρ2, hr2⟩, _⟩
         cases e <;> try (exact hk2.elim)
         obtain ⟨rfl, st2⟩ := hr2.hist
         have hlt2 : w.heap.size + 1 < w2.heap.size := (Array.getElem?_eq_some_iff.1 hl2).1
         have hl3 : w3.heap[w.heap.size + 1]? = some (.loop { rec .ready none with state := .busy }) := by
           rw [st2.ext.block _ hlt2 (by rintro ⟨j, j1, j2, j3⟩; exact (hne1 j _ j1 j2 j3).2 rfl)]; exact hl2
         have hD3 : w3.heap[w.heap.size]? = some (.deferred (some [])) := by
           rw [st2.ext.block _ (by omega) (by rintro ⟨j, j1, j2, j3⟩; exact (hne1 j _ j1 j2 j3).1 rfl)]; exact hD2
         have hne2 : ∀ j b, (hget s2.heap j).live = true → (hget s2.heap j).wr = true → ρ2 j = some b → b ≠ w.heap.size ∧ b ≠ w.heap.size + 1 := by
           intro j b j1 j2 j3
           rcases st2.new j b j1 j2 j3 with h5 | ⟨q, q1, q2, q3⟩
           . omega
           . exact hne1 q b q1 q2 q3
         have hend := run_endRound (P := P) none hl3
         refine ⟨_, _, hend, rfl, ?_⟩
         obtain ⟨w4, hw4⟩ : ∃ w4, w4 = w3.putObj (w.heap.size + 1) (.loop { { rec .ready none with state := .busy } with state := (if (none : Option Code).isNone then .ready else .done), pending := none }) := ⟨_, rfl⟩
         rw [← hw4]
         have hc34 : ∀ B', B' ≤ w.heap.size + 1 → Calm B' w3 w4 := fun B' hB => by rw [hw4]; exact Calm.putObj hB hl3 rfl
         have hlt3 : w.heap.size + 1 < w3.heap.size := (Array.getElem?_eq_some_iff.1 hl3).1
         have hl4 : w4.heap[w.heap.size + 1]? = some (.loop (rec .ready none)) := by
           rw [hw4, World.putObj_heap_same hlt3, hrec]; rfl
         have hD4 : w4.heap[w.heap.size]? = some (.deferred (some [])) := by rw [hw4, World.putObj_heap_other (by omega)]; exact hD3
         have stA : Step X2 ρ h₁ w ρ1 s1.heap w2 := (k3.trans st1).calm (hc12 _ (by omega))
         have stB : Step X2 ρ h₁ w ρ2 s2.heap w4 := (stA.trans st2).calm (hc34 _ (by omega))
         have hsz : W.heap.size ≤ w4.heap.size := Nat.le_trans st1.ext.size (Nat.le_trans hc0.size (Nat.le_trans st2.ext.size (hc34 0 (Nat.zero_le _)).size))
         obtain ⟨h2', hs2, hk2⟩ : ∃ h2', SimH s2.heap h2' ∧ I (i + 1) h2' := ⟨_, hk2, hIs _ _ rfl⟩
         refine ⟨XX X2 ρ2 s2.heap, ⟨ρ2, h2', hk2, fun b => simH_XX hs2 b, stB.trans (simH_step stB.heap hs2), hl4, hD4, fun i b e1 e2 e3 => hne2 i b (by rw [(simB_marks (simH_at hs2 i)).1]; exact e1) (by rw [(simB_marks (simH_at hs2 i)).2]; exact e2) e3⟩, fun b hb => HRel.lt stB.heap (fun b hb => Nat.lt_of_lt_of_le (hr0.lt b hb) stB.ext.size) hb, hsz, ?_⟩
         intro ρx v x hv
         have v1 : Rep W (XX X2 ρ' h') ρx v x := hv.weaken fun b hb => (k2 b).2 hb
         exact (st2.carry0 ρx ((st1.carry0 ρx v1).calm hc0)).calm (hc34 0 (Nat.zero_le _))
       . exact ⟨ρ, h1, h0, fun b => simH_XX hs1 b, st1.trans (simH_step st1.heap hs1), hL1, hK1, fun i b e1 e2 e3 => by have := own_lt (st0.heap.sim hs1) i b e1 e2 e3; omega⟩
       . -- behind it
         rintro e W2 ⟨⟨v, rfl⟩, Z, ρ', h', k1, k2, k3, k4, k5, k6⟩
         have hend := run_endLoop (P := P) k4 (by rw [hrec]; simp)
         refine ⟨_, _, hend, ?_⟩
         have hpn : (rec .ready none).pending = none := by rw [hrec]
         rw [hpn]
         have hlt : w.heap.size + 1 < W2.heap.size := (Array.getElem?_eq_some_iff.1 k4).1
         generalize hW3 : W2.putObj (w.heap.size + 1) _ = W3
         have hW3 := hW3.symm
         show lift P B Hi Sp K .normal { tmps := a.tmps, defers := [{ target := .collected w.heap.size, args := #[] }] ++ a.defers } W3
         have hb := hr0.base
         have hc : Calm w.heap.size W2 W3 := by rw [hW3]; exact Calm.putObj (by omega) k4 rfl
         have hcB : Calm B W2 W3 := by rw [hW3]; exact Calm.putObj (by omega) k4 rfl
         have stA : Step X ρ s.heap w ρ' h' W2 := st0.trans k3
         refine ⟨⟨s.tmps, h'⟩, hK h' k1, ⟨X, ρ', stA.heap.calm hc, hr0.size, fun t v x hv hx => (stA.carry v x (hr0.tmps t v x hv hx)).calm hc, ?_, fun b hb => Nat.lt_of_lt_of_le (hr0.lt b hb) (Nat.le_trans stA.ext.size hc.size), Nat.le_trans hb (Nat.le_trans stA.ext.size hc.size), hcalm (hHi.step hr0.hist stA) hcB⟩, .inl hn0⟩
         have hm1 := hr0.marks.step stA
         have hold : ∀ d ∈ a.defers, ∃ D, d = { target := .collected D, args := #[] } ∧ D < w.heap.size := by
           intro d hd
           obtain ⟨D, d1, d2, d3, d4⟩ := hr0.marks.is d hd
           refine ⟨D, d2, ?_⟩
           rcases Nat.lt_or_ge D w.heap.size with h' | h'
           . exact h'
           . rw [Array.getElem?_eq_none h'] at d3; cases d3
         refine ⟨?_, ?_⟩
         . show (_ :: a.defers).Nodup
           refine List.nodup_cons.2 ⟨fun hmem => ?_, hm1.nodup⟩
           obtain ⟨D, d1, d2⟩ := hold _ hmem
           simp at d1
           omega
         . intro d hd
           rcases List.mem_cons.1 hd with rfl | hd
           . refine ⟨w.heap.size, hb, rfl, ?_, fun i e1 e2 e3 => (k6 i _ e1 e2 e3).1 rfl⟩
             rw [hW3, World.putObj_heap_other (by omega)]; exact k5
           . obtain ⟨D, d1, d2, d3, d4⟩ := hm1.is d hd
             obtain ⟨D', e1, e2⟩ := hold d hd
             refine ⟨D, d1, d2, ?_, d4⟩
             have : D = D' := by rw [d2] at e1; simpa using e1
             rw [hW3, World.putObj_heap_other (by omega)]
             exact d3
 | scope => intro id s K a w r B Hi hHi hR hG _ hq hr; exact hq.elim
 | label => intro id s K a w r B Hi hHi hR hG _ hq hr; exact hq.elim
 | goto => intro id s K a w r B Hi hHi hR hG _ hq hr; exact hq.elim
 | refuse => intro id s K a w r B Hi hHi hR hG _ hq hr; exact hq.elim
theorem ares_sound (hT : TyOk P T) {s : St} {a : Act} (hr : Rel P B Hi X ρ s a w) : ∀ (rs : List ResultVar) (l : List AVal), ares T rs s = some l →
   ∃ vs, (rs.mapM fun (r : ResultVar) => (match r with
     | .tmp t => pure (a.tmps.getD t undef)
     | .cell c t => do loadVar t (← asAddr (a.tmps.getD c undef)) : Sem Value)).run P w = .ok vs w ∧ RepL w (XX X ρ s.heap) ρ vs l := by
 intro rs
 induction rs with
 | nil => intro l h; simp [ares] at h; subst h; exact ⟨[], by simp, .nil⟩
 | cons r rs ih =>
   intro l h
   cases r with
   | tmp t =>
     simp only [ares] at h
     split at h <;> try (cases h; done)
     rename_i x l' hx hl
     cases h
     obtain ⟨vs, h1, h2⟩ := ih l' hl
     have hx' := hr.ev (.tmp t)
     simp only [ev, hx, Option.getD_some, Act.eval] at hx'
     exact ⟨_, by simp only [List.mapM_cons, Sem.run_bind, Sem.run_pure, Result.andThen_ok, h1], .cons hx' h2⟩
   | cell c t =>
     simp only [ares] at h
     split at h <;> try (cases h; done)
     rename_i id off l' hx hl
     split at h <;> try (cases h; done)
     rename_i hlive
     cases hp : part T t (hget s.heap id).cells off <;> rw [hp] at h <;> simp at h
     subst h
     obtain ⟨vs, h1, h2⟩ := ih l' hl
     have hx' := hr.ev (.tmp c)
     simp only [ev, hx, Option.getD_some, Act.eval] at hx'
     obtain ⟨blk, hv, hρ⟩ := hx'.own_inv
     obtain ⟨us, hlt, hra, hth, hus⟩ := hr.heap.read hlive hρ
     obtain ⟨v, hv', hrep⟩ := part_load (P := P) hT hus hra hp
     rw [Nat.zero_add] at hv'
     have ha : (asAddr (a.tmps.getD c undef)).run P w = .ok ⟨blk, off, none⟩ w := by rw [hv]; rfl
     exact ⟨v :: vs, by simp only [List.mapM_cons, Sem.run_bind, Sem.run_pure, Result.andThen_ok, ha, hv', h1], .cons hrep h2⟩
theorem outs_flat {w0 : World} {Y : Nat → Prop} : ∀ {vs : List Value} {l : List AVal}, countNF l = 0 → RepL w (XX X ρ h) ρ vs l → Outs w0 w Y [] vs l
 | _, [], _, hr => by cases hr; exact .nil
 | _, x :: l, hc, hr => by
   cases hr with
   | cons h1 h2 =>
     simp only [countNF] at hc
     cases hf : x.flat with
     | false => rw [hf] at hc; first | (simp at hc; done) | (simp at hc; omega)
     | true => rw [hf] at hc; exact .tree _ _ (h1.flat hf) (outs_flat (by simpa using hc) h2)
theorem outF_sound {w0 : World} (hh : HRel X ρ h w) (hnew : ∀ i b, (hget h i).live = true → (hget h i).wr = true → ρ i = some b → w0.heap.size ≤ b) : ∀ {vs : List Value} {l l' : List AVal}, countNF l = 1 → outF h l = some l' → RepL w (XX X ρ h) ρ vs l →
   ∃ N, N.Nodup ∧ Outs w0 w (fun b => X b ∨ b ∈ N) N vs l'
 | _, [], _, hc, _, _ => by simp [countNF] at hc
 | _, x :: l, l', hc, ho, hr => by
   cases hr with
   | cons h1 h2 =>
     rename_i v vs
     simp only [countNF] at hc
     simp only [outF] at ho
     cases hf : x.flat with
     | true =>
       rw [hf] at hc ho
       split at ho <;> try (cases ho; done)
       rename_i y ys e1 e2
       cases e1; cases ho
       obtain ⟨N, hn, ho⟩ := outF_sound hh hnew (by simpa using hc) e2 h2
       exact ⟨N, hn, .tree _ _ (h1.flat hf) ho⟩
     | false =>
       rw [hf] at hc ho
       split at ho <;> try (cases ho; done)
       rename_i y ys e1 e2
       cases ho
       have hc0 : countNF l = 0 := by simp at hc; omega
       have hys : ys = l ∧ True := by
         clear h2 hc
         refine ⟨?_, trivial⟩
         have : ∀ {l ys : List AVal}, countNF l = 0 → outF h l = some ys → ys = l := by
           intro l
           induction l with
           | nil => intro ys _ h; simp [outF] at h; exact h
           | cons z l ih =>
             intro ys hc h
             simp only [countNF] at hc
             simp only [outF] at h
             cases hz : z.flat with
             | false => rw [hz] at hc; first | (simp at hc; done) | (simp at hc; omega)
             | true =>
               rw [hz] at hc h
               split at h <;> try (cases h; done)
               rename_i a b e1 e2
               cases e1; cases h
               rw [ih (by simpa using hc) e2]
         exact this hc0 e2
       obtain ⟨rfl, _⟩ := hys
       replace e1 : outOf h x = some y := e1
       have tree : snap h depth x = some y → ∃ N, N.Nodup ∧ Outs w0 w (fun b => X b ∨ b ∈ N) N (v :: vs) (y :: ys) := by
         intro hs
         have := snap_sound hh depth x y v _ hs h1 (fun _ h => h)
         exact ⟨[], .nil, .tree _ _ (this.weaken fun b hb => by rcases hb with hb | hb; exact .inl hb; cases hb) (outs_flat hc0 h2)⟩
       unfold outOf at e1
       split at e1
       . rename_i m id n sz
         split at e1
         . rename_i hcond
           simp at hcond
           obtain ⟨⟨⟨hl, hw⟩, hlen⟩, hcnt⟩ := hcond
           cases hs : snapL (snap h depth) (hget h id).cells <;> rw [hs] at e1 <;> simp at e1
           subst e1
           rcases h1.osl_inv with ⟨blk, cap, rfl, hρ, hn, ht⟩ | ⟨rfl, b, rfl⟩
           . obtain ⟨us, hlt, hra, hth, hus⟩ := hh.read hl hρ
             have hnotin : id ∉ idsL (ids h depth) (hget h id).cells := by
               have : ∀ (l : List Nat), countId id l = 0 → id ∉ l := by
                 intro l
                 induction l with
                 | nil => intro _; simp
                 | cons j l ih =>
                   intro hc
                   simp only [countId] at hc
                   by_cases e : j = id
                   . subst e; first | (simp at hc; done) | (simp at hc; omega)
                   . simp only [List.mem_cons, not_or]
                     refine ⟨fun e' => e e'.symm, ih (by split at hc <;> omega)⟩
               exact this _ hcnt
             have hcs := snapL_sound (f := snap h depth) (g := ids h depth) (fun x y v h1 h2 h3 => snap_sound hh depth x y v _ h1 h2 h3) _ _ _ hs hus (fun _ h => h)
             refine ⟨[blk], by simp, .new _ _ _ cap blk us _ (hnew id blk hl hw hρ) hlt hn hra hth ht (hcs.weaken fun b hb => ?_) (outs_flat hc0 h2)⟩
             rcases hb with hb | hb
             . exact .inl hb
             . simp at hb; subst hb; exact .inr ⟨id, hnotin, hl, hw, hρ⟩
           . have : (hget h id).cells = [] := by simpa using hlen
             rw [this] at hs
             simp [snapL] at hs
             subst hs
             exact ⟨[], .nil, .new0 _ _ _ (outs_flat hc0 h2)⟩
         . exact tree e1
       . exact tree e1
theorem outL_sound {w0 : World} (hh : HRel X ρ h w) (hnew : ∀ i b, (hget h i).live = true → (hget h i).wr = true → ρ i = some b → w0.heap.size ≤ b) {vs : List Value} {l l' : List AVal} (ho : outL h l = some l') (hr : RepL w (XX X ρ h) ρ vs l) :
   ∃ N, N.Nodup ∧ Outs w0 w (fun b => X b ∨ b ∈ N) N vs l' := by
 unfold outL at ho
 split at ho
 . rename_i hc; exact outF_sound hh hnew hc ho hr
 . have hcs := snapL_sound (f := snap h depth) (g := ids h depth) (fun x y v h1 h2 h3 => snap_sound hh depth x y v _ h1 h2 h3) l l' vs ho hr (fun _ h => h)
   refine ⟨[], .nil, ?_⟩
   have := hcs.weaken (X' := fun b => X b ∨ b ∈ []) fun b hb => by rcases hb with hb | hb; exact .inl hb; cases hb
   clear hr ho
   induction this with
   | nil => exact .nil
   | cons h1 _ ih => exact .tree _ _ h1 (ih (by cases hcs; assumption))
end
end Eng
