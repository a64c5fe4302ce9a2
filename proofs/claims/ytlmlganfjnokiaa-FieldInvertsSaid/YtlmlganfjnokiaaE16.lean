/- The engine, part 16: code. -/
import Derived.Test.YtlmlganfjnokiaaE15
import Derived.RangeFuncOwn
set_option linter.unusedSimpArgs false
set_option linter.unusedVariables false
namespace Eng
open Go

section
variable {P : Program} {T : Ty} {w w' : World} {X : Nat → Prop} {ρ : Nat → Option Nat} {h : List Blk} {B : Nat} {Hi : Hist} {Sp : SpecT}

/-- A loop's way, from the head of a round. -/
def LoopW (r : Option Nat) (P : Program) (c : Code) (Q : Exit → Act → World → Prop) (a : Act) (w : World) : Prop :=
  ∀ (b : Frame) (k : List Item) (cs : List Frame), b.roundOf = r → ∃ e a' w', Q e a' w' ∧ ArrivesIn (Machine.fenced P (fz r)) P (lone (b.atR a (.code c :: .inLoop c :: k)) cs w) b k cs e a' w'

theorem all_fenced (r : Option Nat) (m : Machine) : m.fenced P (fz r) := fenced_wide P m

theorem LoopW.wp {r : Option Nat} {c : Code} {Q : Exit → Act → World → Prop} {a : Act} (hl : LoopW r P c Q a w) : (Code.loop c).wpIn (fz r) 1 P Q a w := by
  intro b k cs hro hb hr
  obtain ⟨e, a', w', hq, harr⟩ := hl b k cs hro
  exact ⟨e, a', w', hq, .of_steps (.one (all_fenced r _) stepR_loop) harr⟩
theorem LoopW.step {r : Option Nat} {c : Code} {Q : Exit → Act → World → Prop} {a : Act} (hl : c.wpIn (fz r) 1 P (Exit.then (LoopW r P c Q) Q) a w) : LoopW r P c Q a w := by
  intro b k cs hro
  obtain ⟨e, a₁, w₁, hq, harr⟩ := hl b (.inLoop c :: k) cs hro trivial (fz_room _ _)
  cases e with
  | normal =>
    obtain ⟨e₂, a₂, w₂, hq₂, harr₂⟩ := hq b k cs hro
    exact ⟨e₂, a₂, w₂, hq₂, .of_steps (StepsIn.trans harr (.one (all_fenced r _) stepR_inLoop)) harr₂⟩
  | exit id => exact ⟨_, a₁, w₁, hq, .pass (x := .inLoop c) rfl (fun _ _ => .inl (by simp)) harr⟩
  | goto l => exact ⟨_, a₁, w₁, hq, .pass (x := .inLoop c) rfl (fun _ _ => .inl (by simp)) harr⟩
  | ret => exact ⟨_, a₁, w₁, hq, .pass (x := .inLoop c) rfl (fun _ _ => .inl (by simp)) harr⟩
  | panic ch => exact ⟨_, a₁, w₁, hq, .pass (x := .inLoop c) rfl (fun _ _ => .inl (by simp)) harr⟩
  | outgrown => exact ⟨_, a₁, w₁, hq, .pass (x := .inLoop c) rfl (fun _ _ => .inl (by simp)) harr⟩

/-- No marks in an iterator's walk. -/
def dOK (Sp : SpecT) (a : Act) : Prop := Sp.it = false ∨ a.defers = []
/-- All that is known at a point. -/
def RelD (P : Program) (B : Nat) (Hi : Hist) (Sp : SpecT) (s : St) (a : Act) (w : World) : Prop := RelE P B Hi s a w ∧ dOK Sp a

/-- A post on what is known, as one on frames and worlds. -/
def lift (P : Program) (B : Nat) (Hi : Hist) (Sp : SpecT) (K : Exit → St → Prop) (e : Exit) (a : Act) (w : World) : Prop := ∃ s, K e s ∧ RelD P B Hi Sp s a w

theorem simH_step {h' : List Blk} (hh : HRel X ρ h w) (hs : SimH h h') : Step X ρ h w ρ h' w := by
  have mk := fun i => simB_marks (simH_at hs i)
  refine ⟨hh.sim hs, fun v x hr => hr.weaken fun b hb => (simH_XX hs b).2 hb, Ext.refl _ w, fun i b h1 h2 h3 => .inr ⟨i, by rw [(mk i).1]; exact h1, by rw [(mk i).2]; exact h2, h3⟩, ⟨Nat.le_of_eq (simH_len hs), fun i _ h1 h2 => (simB_dead (simH_at hs i) h1).symm⟩⟩
theorem simK_step {h' : List Blk} (hh : HRel X ρ h w) (hs : SimK h h') : Step X ρ h w ρ h' w := by
  refine ⟨hh.simK hs, fun v x hr => hr.weaken fun b hb => simK_XX hs b hb, Ext.refl _ w, fun i b h1 h2 h3 => .inr ⟨i, (simK_live hs i h1).1, (simK_live hs i h1).2.1.trans h2, h3⟩, ⟨simK_len hs, fun i hi h1 _ => simK_dead hs i hi h1⟩⟩
theorem Rel.sim (hHi : HistOK P Sp Hi) {s s' : St} {a : Act} (hs : SimS s s') (hr : Rel P B Hi X ρ s a w) : Rel P B Hi X ρ s' a w := by
  obtain ⟨h1, h2⟩ := hs
  refine ⟨hr.heap.simK h2, hr.size.trans (simL_len h1), fun t v y hv hy => ?_, ⟨hr.marks.nodup, fun d hd => ?_⟩, hr.lt, hr.base, hHi.step hr.hist (simK_step hr.heap h2)⟩
  · have hlt : t < s.tmps.length := by
      rw [simL_len h1]
      rw [lget_eq] at hy
      exact (List.getElem?_eq_some_iff.1 hy).1
    have hx : s.tmps[t]? = some s.tmps[t] := List.getElem?_eq_getElem hlt
    have := hr.tmps t v _ hv (by rw [lget_eq]; exact hx)
    exact (rep_sim 12 (simL_at h1 t _ y hx (by rw [← lget_eq]; exact hy)) this).weaken fun b hb => simK_XX h2 b hb
  · obtain ⟨D, d1, d2, d3, d4⟩ := hr.marks.is d hd
    exact ⟨D, d1, d2, d3, fun i e1 e2 => d4 i (simK_live h2 i e1).1 ((simK_live h2 i e1).2.1.trans e2)⟩
theorem RelD.sim (hHi : HistOK P Sp Hi) {s s' : St} {a : Act} (hs : SimS s s') (hr : RelD P B Hi Sp s a w) : RelD P B Hi Sp s' a w := by
  obtain ⟨⟨X, ρ, h1⟩, h2⟩ := hr
  exact ⟨⟨X, ρ, h1.sim hHi hs⟩, h2⟩

theorem loopN_sound (hHi : HistOK P Sp Hi) {r : Option Nat} {c : Code} {body : St → (Exit → St → Prop) → Prop} (hb : ∀ s K a w, body s K → RelD P B Hi Sp s a w → c.wpIn (fz r) 1 P (lift P B Hi Sp K) a w) :
    ∀ (n : Nat) (s : St) (K : Exit → St → Prop) (a : Act) (w : World), loopN body n s K → RelD P B Hi Sp s a w → LoopW r P c (lift P B Hi Sp K) a w := by
  have inv : ∀ (s : St) (K : Exit → St → Prop) (a : Act) (w : World), ALoop body s K → RelD P B Hi Sp s a w → LoopW r P c (lift P B Hi Sp K) a w := by
    intro s K a w hl hr
    cases hl with
    | inv st Pr μ a0 hs0 h0 round =>
      have key : ∀ m x a w, Pr x → μ x < m → RelD P B Hi Sp (st x) a w → LoopW r P c (lift P B Hi Sp K) a w := by
        intro m
        induction m with
        | zero => intro x a w _ h; omega
        | succ m ih =>
          intro x a w hI hm hr
          refine LoopW.step (wpIn_mono (hb (st x) _ a w (round x hI) hr) ?_)
          rintro e a' w' ⟨s', hk, hr'⟩
          cases e <;> try (exact ⟨s', hk, hr'⟩)
          obtain ⟨y, k1, k2, k3⟩ := hk
          exact ih y a' w' k2 (by omega) (hr'.sim hHi k1)
      exact key (μ a0 + 1) a0 a w h0 (by omega) (hr.sim hHi hs0)
  intro n
  induction n with
  | zero => intro s K a w hl hr; exact inv s K a w hl hr
  | succ n ih =>
    intro s K a w hl hr
    refine LoopW.step (wpIn_mono (hb s _ a w hl hr) ?_)
    rintro e a' w' ⟨s', hk, hr'⟩
    cases e <;> try (exact ⟨s', hk, hr'⟩)
    exact ih s' K a' w' hk hr'

theorem RelE.drew (hHi : HistOK P Sp Hi) {s : St} {a : Act} (hr : RelE P B Hi s a w) : RelE P B Hi s a { w with drawn := w.drawn + 1 } := by
  obtain ⟨X, ρ, hr⟩ := hr
  have := hr.step hHi (Step.grow hr.heap (Ext.drew _ w) []) none (v := undef) (y := .tup []) Rep.undef
  exact ⟨X, ρ, this⟩

/-- A region whose order is open goes in its text's order. -/
def DrawOK (P : Program) (T : Ty) : Prop := ∀ (Sp : SpecT) (B : Nat) (Hi : Hist) (r : Option Nat), SpOK P Sp → HistOK P Sp Hi → ∀ (tree : Md) (ops : Array Oper) (K : St → Prop) (Q : Exit → Act → World → Prop) (ds : List Deferred), okDraw tree ops = true → (Sp.n = 0 ∨ ds = []) →
  (∀ s' a' w', a'.defers = ds → K s' → RelE P B Hi s' a' w' → Q .normal a' w') → ∀ s a w, a.defers = ds → RelE P B Hi s a w → aops Ar.real T Sp tree ops.toList ops.toList s K → wpAnyIn (fz r) 1 P .any ops Q ops.size (Array.replicate ops.size false) a w

theorem Step.carry0 {ρ' : Nat → Option Nat} {h' : List Blk} (st : Step X ρ h w ρ' h' w') (ρx : Nat → Option Nat) {v : Value} {x : AVal} (hr : Rep w (XX X ρ h) ρx v x) : Rep w' (XX X ρ' h') ρx v x := by
  refine hr.carry st.ext (fun b hb hX => ⟨?_, fun hM => hX (.inr hM)⟩) (fun _ _ h => h)
  rintro (h1 | ⟨i, h1, h2, h3⟩)
  · exact hX (.inl h1)
  · rcases st.new i b h1 h2 h3 with h4 | h4
    · omega
    · exact hX (.inr h4)

theorem Step.calm {w'' : World} {ρ' : Nat → Option Nat} {h' : List Blk} (st : Step X ρ h w ρ' h' w') (hc : Calm w.heap.size w' w'') : Step X ρ h w ρ' h' w'' := by
  refine ⟨st.heap.calm hc, fun v x hr => (st.carry v x hr).calm hc, ?_, st.new, st.dead⟩
  refine ⟨hc.os.trans st.ext.os, hc.tape.trans st.ext.tape, hc.output.trans st.ext.output, Nat.le_trans st.ext.size hc.size, fun k hk hM => ?_, fun b o n ht => hc.there (st.ext.there b o n ht)⟩
  rw [hc.block k (Nat.lt_of_lt_of_le hk st.ext.size) hk]
  exact st.ext.block k hk hM

theorem Calm.putObj {w : World} {B l : Nat} {o o' : Obj} (hB : B ≤ l) (h : w.heap[l]? = some o) (ho : o.isCells = false) : Calm B w (w.putObj l o') := by
  refine ⟨rfl, rfl, rfl, by simp, fun k hk hkB => World.putObj_heap_other (by omega), fun k c t f hc => ?_⟩
  by_cases e : k = l
  · subst e; rw [hc] at h; cases h; simp [Obj.isCells] at ho
  · rw [World.putObj_heap_other e]; exact hc

theorem callsIn_fz {r r' : Option Nat} {n n' : Nat} {f : FuncId} {args : Array Value} {R : Ending → World → Prop} (h : CallsIn (fz r) n P f args w R) : CallsIn (fz r') n' P f args w R :=
  ⟨trivial, fun cs _ => h.2 cs (fz_room r _)⟩
theorem roundIn_fz {r r' : Option Nat} {n n' l f : Nat} {tmps : Array Value} {a b : Code} {R : Ending → World → Prop} (h : RoundIn (fz r) n P l f tmps a b w R) : RoundIn (fz r') n' P l f tmps a b w R :=
  ⟨trivial, fun c cs _ => h.2 c cs (fz_room r _)⟩

/-- The way from one point on. -/
def From (X : Nat → Prop) (ρ : Nat → Option Nat) (h : List Blk) (w : World) : Hist := fun X' ρ' h' w' => X' = X ∧ Step X ρ h w ρ' h' w'
theorem From.ok (hn : Sp.n = 0) : HistOK P Sp (From X ρ h w) :=
  ⟨fun hs st => by obtain ⟨rfl, hs⟩ := hs; exact ⟨rfl, hs.trans st⟩, fun _ hi => by omega⟩
theorem From.calm {X₁ : Nat → Prop} {ρ₁ : Nat → Option Nat} {h₁ : List Blk} (hf : From X ρ h w X₁ ρ₁ h₁ w') {w'' : World} (hc : Calm w.heap.size w' w'') : From X ρ h w X₁ ρ₁ h₁ w'' := by
  obtain ⟨rfl, hs⟩ := hf
  exact ⟨rfl, hs.calm hc⟩

def HistCalm (B : Nat) (Hi : Hist) : Prop := ∀ {X ρ h w w'}, Hi X ρ h w → Calm B w w' → Hi X ρ h w'

theorem psets_rep : ∀ (ps : List Tmp) {us : List Value} {xs : List AVal} (tm : Array Value) (am : List AVal) {w : World} {X : Nat → Prop} {ρ : Nat → Option Nat}, us.length = ps.length → RepL w X ρ us xs → tm.size = am.length → (∀ (t : Nat) (v : Value) (x : AVal), tm[t]? = some v → lget am t = some x → Rep w X ρ v x) →
    ((ps.zip us).foldl (fun t (x : Tmp × Value) => t.setIfInBounds x.1 x.2) tm).size = (psets am ps xs).length ∧ ∀ (t : Nat) (v : Value) (x : AVal), ((ps.zip us).foldl (fun t (x : Tmp × Value) => t.setIfInBounds x.1 x.2) tm)[t]? = some v → lget (psets am ps xs) t = some x → Rep w X ρ v x
  | [], us, xs, tm, am, w, X, ρ, hl, hr, hz, hc => by
    cases us with
    | nil => cases hr; exact ⟨hz, hc⟩
    | cons => simp at hl
  | p :: ps, us, xs, tm, am, w, X, ρ, hl, hr, hz, hc => by
    cases hr with
    | nil => simp at hl
    | cons h1 h2 =>
      rename_i v x us xs
      simp only [List.zip_cons_cons, List.foldl_cons, psets]
      refine psets_rep ps (tm.setIfInBounds p v) (lset am p x) (by simpa using hl) h2 (by rw [lset_eq]; simpa using hz) ?_
      intro t u y hu hy
      rw [lset_eq, lget_eq] at hy
      by_cases e : p = t
      · subst e
        have hlt : p < tm.size := by
          rcases Nat.lt_or_ge p tm.size with h' | h'
          · exact h'
          · rw [Array.getElem?_eq_none (by simpa using h')] at hu; cases hu
        rw [Array.getElem?_setIfInBounds_self_of_lt hlt] at hu
        rw [List.getElem?_set_self (by rw [← hz]; exact hlt)] at hy
        cases hu; cases hy
        exact h1
      · rw [Array.getElem?_setIfInBounds_ne e] at hu
        rw [List.getElem?_set_ne e, ← lget_eq] at hy
        exact hc t u y hu hy

theorem marks_nil {ρ : Nat → Option Nat} {h : List Blk} : Marks B ρ h [] w := ⟨.nil, fun d hd => by cases hd⟩

theorem acode_sound (hT : TyOk P T) (hm : P.follows .mixedOrders = true) (hd : DrawOK P T) (hS : SpOK P Sp) {N : Nat → Nat} {tr : Nat → Md} : ∀ (c : Code) (id : Nat) (s : St) (K : Exit → St → Prop) (a : Act) (w : World) (r : Option Nat) (B : Nat) (Hi : Hist), HistOK P Sp Hi → (noRange c = true ∨ (r = none ∧ Sp.it = false ∧ HistCalm B Hi)) → codeOK tr c = true →
    acode Ar.real T Sp N tr id c s K → RelD P B Hi Sp s a w → c.wpIn (fz r) 1 P (lift P B Hi Sp K) a w := by
  intro c
  induction c with
  | skip => intro id s K a w r B Hi hHi hR _ hq hr; exact wpIn_skip ⟨s, hq, hr⟩
  | region rg ops draw =>
    intro id s K a w r B Hi hHi hR hok hq hr
    replace hr : RelD P B Hi Sp (reserve (tr rg) ops.toList s) a w := by
      unfold reserve
      split
      · obtain ⟨⟨X, ρ, h1⟩, h2⟩ := hr
        have st := reserve_step h1.heap ops.toList
        refine ⟨⟨X, ρ, st.heap, h1.size, fun t v x hv hx => st.carry v x (h1.tmps t v x hv hx), ⟨h1.marks.nodup, fun d hd => ?_⟩, h1.lt, h1.base, hHi.step h1.hist st⟩, h2⟩
        obtain ⟨D, d1, d2, d3, d4⟩ := h1.marks.is d hd
        refine ⟨D, d1, d2, d3, fun i e1 e2 e3 => ?_⟩
        rcases st.new i D e1 e2 e3 with e4 | ⟨j, j1, j2, j3⟩
        · have : D < w.heap.size := (Array.getElem?_eq_some_iff.1 d3).1
          omega
        · exact d4 j j1 j2 j3
      · exact hr
    simp only [acode] at hq
    generalize reserve (tr rg) ops.toList s = s at hq hr
    cases draw with
    | false =>
      refine wpIn_region ?_
      rw [List.range_eq_range']
      exact aops_sound hT hS hHi r (ds := a.defers) (hr.2.imp hS.it fun h => h) (fun s' a' w' hd hk hr' => ⟨s', hk, hr', by unfold dOK; rw [hd]; exact hr.2⟩) ops.size 0 s a w (by omega) rfl hr.1 hq
    | true =>
      refine wpIn_region_any hm ?_
      exact hd Sp B Hi r hS hHi (tr rg) ops _ _ a.defers (by simpa [codeOK] using hok) (hr.2.imp hS.it fun h => h) (fun s' a' w' hd hk hr' => ⟨s', hk, hr', by unfold dOK; rw [hd]; exact hr.2⟩) s a _ rfl (hr.1.drew hHi) hq
  | seq x y ih1 ih2 =>
    intro id s K a w r B Hi hHi hR hok hq hr
    simp only [codeOK, Bool.and_eq_true] at hok
    simp only [noRange, Bool.and_eq_true] at hR
    refine wpIn_seq (wpIn_mono (ih1 id s _ a w r B Hi hHi (hR.imp (·.1) (fun h => h)) hok.1 hq hr) ?_)
    rintro e a' w' ⟨s', hk, hr'⟩
    cases e <;> try (exact ⟨s', hk, hr'⟩)
    exact ih2 id s' K a' w' r B Hi hHi (hR.imp (·.2) (fun h => h)) hok.2 hk hr'
  | cond c x y ih1 ih2 =>
    intro id s K a w r B Hi hHi hR hok hq hr
    simp only [codeOK, Bool.and_eq_true] at hok
    simp only [noRange, Bool.and_eq_true] at hR
    obtain ⟨X, ρ, hr0⟩ := hr.1
    have hc := hr0.ev c
    simp only [acode] at hq
    generalize ev s c = z at hq hc
    split at hq
    · exact wpIn_cond_true hc.b_inv (ih1 id s K a w r B Hi hHi (hR.imp (·.1) (fun h => h)) hok.1 hq hr)
    · exact wpIn_cond_false hc.b_inv (ih2 id s K a w r B Hi hHi (hR.imp (·.2) (fun h => h)) hok.2 hq hr)
    · cases hq with
      | mk hp hq => exact wpIn_cond_split hc.sb_inv (fun ht => ih1 id s K a w r B Hi hHi (hR.imp (·.1) (fun h => h)) hok.1 (hp ht) hr) (fun hf => ih2 id s K a w r B Hi hHi (hR.imp (·.2) (fun h => h)) hok.2 (hq hf) hr)
    · exact hq.elim
  | block i c ih =>
    intro id s K a w r B Hi hHi hR hok hq hr
    refine wpIn_block (wpIn_mono (ih i s _ a w r B Hi hHi hR hok hq hr) ?_)
    rintro e a' w' ⟨s', hk, hr'⟩
    cases e <;> try (exact ⟨s', hk, hr'⟩)
    rename_i j
    simp only [Exit.inBlock]
    simp only at hk
    split at hk
    · rename_i he
      rw [if_pos (by simpa using he)]
      exact ⟨s', hk, hr'⟩
    · rename_i he
      rw [if_neg (by simpa using he)]
      exact ⟨s', hk, hr'⟩
  | loop c ih =>
    intro id s K a w r B Hi hHi hR hok hq hr
    exact (loopN_sound hHi (fun s K a w hb hr => ih id s K a w r B Hi hHi hR hok hb hr) (N id) s K a w hq hr).wp
  | exit j => intro id s K a w r B Hi hHi hR _ hq hr; exact wpIn_exit ⟨s, hq, hr⟩
  | ret => intro id s K a w r B Hi hHi hR _ hq hr; exact wpIn_ret ⟨s, hq, hr⟩
  | rangeFunc g ps asg body ih1 ih2 =>
    intro id s K a w r B Hi hHi hR hok hq hr
    simp only [codeOK, Bool.and_eq_true] at hok
    obtain ⟨⟨⟨hok1, hok2⟩, hnr1⟩, hnr2⟩ := hok
    rcases hR with hR | ⟨rfl, hn0, hcalm⟩
    · simp [noRange] at hR
    obtain ⟨⟨X, ρ, hr0⟩, _⟩ := hr
    simp only [acode] at hq
    have hg := hr0.ev g
    generalize ev s g = z at hq hg
    split at hq <;> try (exact hq.elim)
    rename_i gf cap
    obtain ⟨cap', hs, hq⟩ := optK_inv hq
    obtain ⟨us0, ws, hgv, hus0, hws⟩ := hg.fn_inv
    cases hus0
    have hcap := snapL_sound (f := snap s.heap depth) (g := ids s.heap depth) (fun x y v h1 h2 h3 => snap_sound hr0.heap depth x y v _ h1 h2 h3) _ _ _ hs hws (fun _ h => h)
    generalize hL : idsL (ids s.heap depth) cap = L at hq hcap
    have hcap1 : RepL w (XX X ρ (freeze s.heap L)) noρ ws cap' := hcap.weaken fun b hb => XX_freeze hb
    have st0 : Step X ρ s.heap w ρ (freeze s.heap L) w := Step.grow hr0.heap (Ext.refl _ w) L
    generalize hh1 : freeze s.heap L = h₁ at hq hcap1 st0
    cases hq with
    | mk n xs hseq hlen hp hs1 hrd0 hK0 =>
      obtain ⟨I, hI⟩ : ∃ I : Nat → List Blk → Prop, I = fun i h => h = hp i := ⟨_, rfl⟩
      have h0 : I 0 (hp 0) := by rw [hI]
      have hrd : ∀ i h, i < n → I i h → _ := fun i h hi hIh => by
        have e : h = hp i := by rw [hI] at hIh; exact hIh
        exact e.symm ▸ hrd0 i hi
      have hK : ∀ h, I n h → K .normal ⟨s.tmps, h⟩ := fun h hIh => by
        have e : h = hp n := by rw [hI] at hIh; exact hIh
        rw [e]; exact hK0
      have hIs : ∀ i h, h = hp i → I i h := fun i h e => by rw [hI]; exact e
      generalize hp 0 = h1 at hs1 h0
      have hsq := hS.seq _ _ _ _ hseq
      refine wpIn_rangeFunc ?_
      intro fn hfn
      obtain ⟨rec, hrec⟩ : ∃ rec : LoopState → Option Code → Loop, rec = fun st pe => { state := st, pending := pe, fn, tmps := a.tmps, params := ps, assign := asg, body, defers := w.heap.size } := ⟨_, rfl⟩
      obtain ⟨W1, hW1⟩ : ∃ W1, (w.alloc (.deferred (some []))).alloc (.loop (rec .ready none)) = W1 := ⟨_, rfl⟩
      have hL1 : W1.heap[w.heap.size + 1]? = some (.loop (rec .ready none)) := by
        rw [← hW1]; have := World.alloc_heap_new (w.alloc (.deferred (some []))) (.loop (rec .ready none)); rwa [World.size_alloc] at this
      have hK1 : W1.heap[w.heap.size]? = some (.deferred (some [])) := by
        rw [← hW1]; exact (Go.RowKit.Below.heap_alloc _ _ _ (by simp)).trans (World.alloc_heap_new w _)
      have hx1 : Ext (fun _ => False) w W1 := by rw [← hW1]; exact (Ext.alloc _ _ _).trans (Ext.alloc _ _ _)
      refine ⟨w.heap.size + 1, [{ target := .collected w.heap.size, args := #[] }], W1, { target := .fn (.func gf) ws.toArray, args := #[.func (.yield (w.heap.size + 1)) #[] #[]] }, W1, gf,
        #[.func (.yield (w.heap.size + 1)) #[] #[]] ++ ws.toArray, W1, ?_, ?_, fun _ _ => trivial, ?_, fz_depth none 1, ?_⟩
      · rw [← hW1, hrec]; exact run_enterLoop_outer _ _ _ _ _
      · simp only [resolve, hgv]
        simp [go_sem]
      · simp [invoke, go_sem, hsq.1]
      · have own_lt : ∀ {ρ' : Nat → Option Nat} {h' : List Blk} {W : World}, HRel X ρ' h' W → ∀ i b, (hget h' i).live = true → (hget h' i).wr = true → ρ' i = some b → b < W.heap.size := by
          intro ρ' h' W hh i b e1 e2 e3
          rcases hh.blk i e1 with ⟨b', vs, q1, q2, _⟩ | ⟨q1, _⟩
          · rw [q1] at e3; cases e3; exact q2
          · rw [q1] at e3; cases e3
        have st1 : Step X ρ h₁ w ρ h₁ W1 := Step.grow (l := []) st0.heap hx1
        refine callsIn_fz (r := none) (n := 1) ((hsq.2 (XX X ρ h₁) W1 ws (w.heap.size + 1) (fun i Z W => ∃ ρ' h', I i h' ∧ (∀ b, Z b ↔ XX X ρ' h' b) ∧ Step X ρ h₁ w ρ' h' W ∧ W.heap[w.heap.size + 1]? = some (.loop (rec .ready none)) ∧ W.heap[w.heap.size]? = some (.deferred (some [])) ∧
            ∀ i b, (hget h' i).live = true → (hget h' i).wr = true → ρ' i = some b → b ≠ w.heap.size ∧ b ≠ w.heap.size + 1)
          (fun b hb => Nat.lt_of_lt_of_le (HRel.lt st0.heap hr0.lt hb) hx1.size) (RepL.carry hx1 (fun b hb hX => ⟨hX, fun h => h⟩) (fun _ _ h => h) hcap1) ?_ ?_ ?_).mono ?_)
        · -- it abides growth
          rintro i Z W W' ⟨ρ', h', k1, k2, k3, k4, k5, k6⟩ hx
          have hlt : w.heap.size + 1 < W.heap.size := (Array.getElem?_eq_some_iff.1 k4).1
          exact ⟨ρ', h', k1, k2, k3.trans (Step.grow (l := []) k3.heap hx), (hx.block _ hlt (fun h => h)).trans k4, (hx.block _ (by omega) (fun h => h)).trans k5, k6⟩
        · -- a round
          rintro i Z W us hi ⟨ρ', h', k1, k2, k3, k4, k5, k6⟩ hZ hus
          have hlu : us.length = ps.toList.length := by rw [hus.length, hlen i hi]
          have hy := run_yield (P := P) (args := us.toArray) k4 (by rw [hrec]; simpa using hlu)
          rw [hrec] at hy
          refine ⟨fn, _, asg, body, hy, ?_⟩
          have hlt : w.heap.size + 1 < W.heap.size := (Array.getElem?_eq_some_iff.1 k4).1
          have husX : RepL W (XX X ρ' h') ρ' us (xs i) := RepL.carry (Ext.refl (fun _ => False) W) (fun b hb hX => ⟨fun h => hX ((k2 b).2 h), fun h => h⟩) (fun j b h => by simp [noρ] at h) hus
          have htm : ∀ (t : Nat) (v : Value) (x : AVal), a.tmps[t]? = some v → lget s.tmps t = some x → Rep W (XX X ρ' h') ρ' v x := fun t v x hv hx => k3.carry v x (st0.carry v x (hr0.tmps t v x hv hx))
          obtain ⟨p1, p2⟩ := psets_rep ps.toList a.tmps s.tmps hlu husX hr0.size htm
          have hfold : (ps.zip us.toArray).foldl (fun t (x : Tmp × Value) => t.setIfInBounds x.1 x.2) a.tmps = (ps.toList.zip us).foldl (fun t (x : Tmp × Value) => t.setIfInBounds x.1 x.2) a.tmps := by
            rw [← Array.foldl_toList]
            congr 1
            simp
          have hlX : ∀ b, X b → b < W.heap.size := fun b hb => Nat.lt_of_lt_of_le (hr0.lt b hb) k3.ext.size
          refine roundIn_of_wpIn (F := fz none) (n := 1) trivial ?_
          have hrel : RelD P 0 (From X ρ' h' W) Sp ⟨psets s.tmps ps.toList (xs i), h'⟩ { tmps := (ps.zip us.toArray).foldl (fun t (x : Tmp × Value) => t.setIfInBounds x.1 x.2) a.tmps, defers := [] } W := by
            rw [hfold]
            exact ⟨⟨X, ρ', k3.heap, p1, p2, marks_nil, hlX, Nat.zero_le _, rfl, Step.refl k3.heap⟩, .inl hn0⟩
          refine wpIn_mono (ih1 id _ _ _ _ (some (w.heap.size + 1)) 0 _ (From.ok (hS.it hn0)) (.inl hnr1) hok1 (hrd i h' hi k1) hrel) ?_
          rintro e a1 w1 ⟨s1, hk1, ⟨X1, ρ1, hr1⟩, _⟩
          cases e <;> try (exact hk1.elim)
          obtain ⟨rfl, st1⟩ := hr1.hist
          have hl1 : w1.heap[w.heap.size + 1]? = some (.loop (rec .ready none)) := by
            rw [st1.ext.block _ hlt (by rintro ⟨j, j1, j2, j3⟩; exact (k6 j _ j1 j2 j3).2 rfl)]; exact k4
          have hD1 : w1.heap[w.heap.size]? = some (.deferred (some [])) := by
            rw [st1.ext.block _ (by omega) (by rintro ⟨j, j1, j2, j3⟩; exact (k6 j _ j1 j2 j3).1 rfl)]; exact k5
          have hne1 : ∀ j b, (hget s1.heap j).live = true → (hget s1.heap j).wr = true → ρ1 j = some b → b ≠ w.heap.size ∧ b ≠ w.heap.size + 1 := by
            intro j b j1 j2 j3
            rcases st1.new j b j1 j2 j3 with h5 | ⟨q, q1, q2, q3⟩
            · omega
            · exact k6 q b q1 q2 q3
          refine ⟨_, run_beginRound hl1 (by rw [hrec]), ?_⟩
          obtain ⟨w2, hw2⟩ : ∃ w2, w2 = w1.putObj (w.heap.size + 1) (.loop { rec .ready none with state := .busy }) := ⟨_, rfl⟩
          rw [← hw2]
          have hc12 : ∀ B', B' ≤ w.heap.size + 1 → Calm B' w1 w2 := fun B' hB => by rw [hw2]; exact Calm.putObj hB hl1 rfl
          have hlt1 : w.heap.size + 1 < w1.heap.size := (Array.getElem?_eq_some_iff.1 hl1).1
          have hl2 : w2.heap[w.heap.size + 1]? = some (.loop { rec .ready none with state := .busy }) := by rw [hw2]; exact World.putObj_heap_same hlt1
          have hD2 : w2.heap[w.heap.size]? = some (.deferred (some [])) := by rw [hw2, World.putObj_heap_other (by omega)]; exact hD1
          have hc0 := hc12 0 (Nat.zero_le _)
          have hrel2 : RelD P 0 (From X1 ρ1 s1.heap w2) Sp s1 a1 w2 := by
            refine ⟨⟨X1, ρ1, hr1.heap.calm hc0, hr1.size, fun t v x hv hx => (hr1.tmps t v x hv hx).calm hc0, ?_, fun b hb => Nat.lt_of_lt_of_le (hr1.lt b hb) hc0.size, Nat.zero_le _, rfl, Step.refl (hr1.heap.calm hc0)⟩, .inl hn0⟩
            refine ⟨hr1.marks.nodup, fun d hd => ?_⟩
            obtain ⟨D, d1, d2, d3, d4⟩ := hr1.marks.is d hd
            refine ⟨D, d1, d2, ?_, d4⟩
            rw [hw2, World.putObj_heap_other (by rintro rfl; rw [hl1] at d3; cases d3)]
            exact d3
          refine wpIn_mono (ih2 id _ _ _ _ (some (w.heap.size + 1)) 0 _ (From.ok (hS.it hn0)) (.inl hnr2) hok2 hk1 hrel2) ?_
          rintro e a2 w3 ⟨s2, hk2, ⟨X2, ρ2, hr2⟩, _⟩
          cases e <;> try (exact hk2.elim)
          obtain ⟨rfl, st2⟩ := hr2.hist
          have hlt2 : w.heap.size + 1 < w2.heap.size := (Array.getElem?_eq_some_iff.1 hl2).1
          have hl3 : w3.heap[w.heap.size + 1]? = some (.loop { rec .ready none with state := .busy }) := by
            rw [st2.ext.block _ hlt2 (by rintro ⟨j, j1, j2, j3⟩; exact (hne1 j _ j1 j2 j3).2 rfl)]; exact hl2
          have hD3 : w3.heap[w.heap.size]? = some (.deferred (some [])) := by
            rw [st2.ext.block _ (by omega) (by rintro ⟨j, j1, j2, j3⟩; exact (hne1 j _ j1 j2 j3).1 rfl)]; exact hD2
          have hne2 : ∀ j b, (hget s2.heap j).live = true → (hget s2.heap j).wr = true → ρ2 j = some b → b ≠ w.heap.size ∧ b ≠ w.heap.size + 1 := by
            intro j b j1 j2 j3
            rcases st2.new j b j1 j2 j3 with h5 | ⟨q, q1, q2, q3⟩
            · omega
            · exact hne1 q b q1 q2 q3
          have hend := run_endRound (P := P) none hl3
          refine ⟨_, _, hend, rfl, ?_⟩
          obtain ⟨w4, hw4⟩ : ∃ w4, w4 = w3.putObj (w.heap.size + 1) (.loop { { rec .ready none with state := .busy } with state := (if (none : Option Code).isNone then .ready else .done), pending := none }) := ⟨_, rfl⟩
          rw [← hw4]
          have hc34 : ∀ B', B' ≤ w.heap.size + 1 → Calm B' w3 w4 := fun B' hB => by rw [hw4]; exact Calm.putObj hB hl3 rfl
          have hlt3 : w.heap.size + 1 < w3.heap.size := (Array.getElem?_eq_some_iff.1 hl3).1
          have hl4 : w4.heap[w.heap.size + 1]? = some (.loop (rec .ready none)) := by
            rw [hw4, World.putObj_heap_same hlt3, hrec]; rfl
          have hD4 : w4.heap[w.heap.size]? = some (.deferred (some [])) := by rw [hw4, World.putObj_heap_other (by omega)]; exact hD3
          have stA : Step X2 ρ h₁ w ρ1 s1.heap w2 := (k3.trans st1).calm (hc12 _ (by omega))
          have stB : Step X2 ρ h₁ w ρ2 s2.heap w4 := (stA.trans st2).calm (hc34 _ (by omega))
          have hsz : W.heap.size ≤ w4.heap.size := Nat.le_trans st1.ext.size (Nat.le_trans hc0.size (Nat.le_trans st2.ext.size (hc34 0 (Nat.zero_le _)).size))
          obtain ⟨h2', hs2, hk2⟩ : ∃ h2', SimH s2.heap h2' ∧ I (i + 1) h2' := ⟨_, hk2, hIs _ _ rfl⟩
          refine ⟨XX X2 ρ2 s2.heap, ⟨ρ2, h2', hk2, fun b => simH_XX hs2 b, stB.trans (simH_step stB.heap hs2), hl4, hD4, fun i b e1 e2 e3 => hne2 i b (by rw [(simB_marks (simH_at hs2 i)).1]; exact e1) (by rw [(simB_marks (simH_at hs2 i)).2]; exact e2) e3⟩, fun b hb => HRel.lt stB.heap (fun b hb => Nat.lt_of_lt_of_le (hr0.lt b hb) stB.ext.size) hb, hsz, ?_⟩
          intro ρx v x hv
          have v1 : Rep W (XX X2 ρ' h') ρx v x := hv.weaken fun b hb => (k2 b).2 hb
          exact (st2.carry0 ρx ((st1.carry0 ρx v1).calm hc0)).calm (hc34 0 (Nat.zero_le _))
        · exact ⟨ρ, h1, h0, fun b => simH_XX hs1 b, st1.trans (simH_step st1.heap hs1), hL1, hK1, fun i b e1 e2 e3 => by have := own_lt (st0.heap.sim hs1) i b e1 e2 e3; omega⟩
        · -- behind it
          rintro e W2 ⟨⟨v, rfl⟩, Z, ρ', h', k1, k2, k3, k4, k5, k6⟩
          have hend := run_endLoop (P := P) k4 (by rw [hrec]; simp)
          refine ⟨_, _, hend, ?_⟩
          have hpn : (rec .ready none).pending = none := by rw [hrec]
          rw [hpn]
          have hlt : w.heap.size + 1 < W2.heap.size := (Array.getElem?_eq_some_iff.1 k4).1
          generalize hW3 : W2.putObj (w.heap.size + 1) _ = W3
          have hW3 := hW3.symm
          show lift P B Hi Sp K .normal { tmps := a.tmps, defers := [{ target := .collected w.heap.size, args := #[] }] ++ a.defers } W3
          have hb := hr0.base
          have hc : Calm w.heap.size W2 W3 := by rw [hW3]; exact Calm.putObj (by omega) k4 rfl
          have hcB : Calm B W2 W3 := by rw [hW3]; exact Calm.putObj (by omega) k4 rfl
          have stA : Step X ρ s.heap w ρ' h' W2 := st0.trans k3
          refine ⟨⟨s.tmps, h'⟩, hK h' k1, ⟨X, ρ', stA.heap.calm hc, hr0.size, fun t v x hv hx => (stA.carry v x (hr0.tmps t v x hv hx)).calm hc, ?_, fun b hb => Nat.lt_of_lt_of_le (hr0.lt b hb) (Nat.le_trans stA.ext.size hc.size), Nat.le_trans hb (Nat.le_trans stA.ext.size hc.size), hcalm (hHi.step hr0.hist stA) hcB⟩, .inl hn0⟩
          have hm1 := hr0.marks.step stA
          have hold : ∀ d ∈ a.defers, ∃ D, d = { target := .collected D, args := #[] } ∧ D < w.heap.size := by
            intro d hd
            obtain ⟨D, d1, d2, d3, d4⟩ := hr0.marks.is d hd
            refine ⟨D, d2, ?_⟩
            rcases Nat.lt_or_ge D w.heap.size with h' | h'
            · exact h'
            · rw [Array.getElem?_eq_none h'] at d3; cases d3
          refine ⟨?_, ?_⟩
          · show (_ :: a.defers).Nodup
            refine List.nodup_cons.2 ⟨fun hmem => ?_, hm1.nodup⟩
            obtain ⟨D, d1, d2⟩ := hold _ hmem
            simp at d1
            omega
          · intro d hd
            rcases List.mem_cons.1 hd with rfl | hd
            · refine ⟨w.heap.size, hb, rfl, ?_, fun i e1 e2 e3 => (k6 i _ e1 e2 e3).1 rfl⟩
              rw [hW3, World.putObj_heap_other (by omega)]; exact k5
            · obtain ⟨D, d1, d2, d3, d4⟩ := hm1.is d hd
              obtain ⟨D', e1, e2⟩ := hold d hd
              refine ⟨D, d1, d2, ?_, d4⟩
              have : D = D' := by rw [d2] at e1; simpa using e1
              rw [hW3, World.putObj_heap_other (by omega)]
              exact d3
  | scope => intro id s K a w r B Hi hHi hR _ hq hr; exact hq.elim
  | label => intro id s K a w r B Hi hHi hR _ hq hr; exact hq.elim
  | goto => intro id s K a w r B Hi hHi hR _ hq hr; exact hq.elim
  | refuse => intro id s K a w r B Hi hHi hR _ hq hr; exact hq.elim

theorem ares_sound (hT : TyOk P T) {s : St} {a : Act} (hr : Rel P B Hi X ρ s a w) : ∀ (rs : List ResultVar) (l : List AVal), ares T rs s = some l →
    ∃ vs, (rs.mapM fun (r : ResultVar) => (match r with
      | .tmp t => pure (a.tmps.getD t undef)
      | .cell c t => do loadVar t (← asAddr (a.tmps.getD c undef)) : Sem Value)).run P w = .ok vs w ∧ RepL w (XX X ρ s.heap) ρ vs l := by
  intro rs
  induction rs with
  | nil => intro l h; simp [ares] at h; subst h; exact ⟨[], by simp, .nil⟩
  | cons r rs ih =>
    intro l h
    cases r with
    | tmp t =>
      simp only [ares] at h
      split at h <;> try (cases h; done)
      rename_i x l' hx hl
      cases h
      obtain ⟨vs, h1, h2⟩ := ih l' hl
      have hx' := hr.ev (.tmp t)
      simp only [ev, hx, Option.getD_some, Act.eval] at hx'
      exact ⟨_, by simp only [List.mapM_cons, Sem.run_bind, Sem.run_pure, Result.andThen_ok, h1], .cons hx' h2⟩
    | cell c t =>
      simp only [ares] at h
      split at h <;> try (cases h; done)
      rename_i id off l' hx hl
      split at h <;> try (cases h; done)
      rename_i hlive
      cases hp : part T t (hget s.heap id).cells off <;> rw [hp] at h <;> simp at h
      subst h
      obtain ⟨vs, h1, h2⟩ := ih l' hl
      have hx' := hr.ev (.tmp c)
      simp only [ev, hx, Option.getD_some, Act.eval] at hx'
      obtain ⟨blk, hv, hρ⟩ := hx'.own_inv
      obtain ⟨us, hlt, hra, hth, hus⟩ := hr.heap.read hlive hρ
      obtain ⟨v, hv', hrep⟩ := part_load (P := P) hT hus hra hp
      rw [Nat.zero_add] at hv'
      have ha : (asAddr (a.tmps.getD c undef)).run P w = .ok ⟨blk, off, none⟩ w := by rw [hv]; rfl
      exact ⟨v :: vs, by simp only [List.mapM_cons, Sem.run_bind, Sem.run_pure, Result.andThen_ok, ha, hv', h1], .cons hrep h2⟩

theorem outs_flat {w0 : World} {Y : Nat → Prop} : ∀ {vs : List Value} {l : List AVal}, countNF l = 0 → RepL w (XX X ρ h) ρ vs l → Outs w0 w Y [] vs l
  | _, [], _, hr => by cases hr; exact .nil
  | _, x :: l, hc, hr => by
    cases hr with
    | cons h1 h2 =>
      simp only [countNF] at hc
      cases hf : x.flat with
      | false => rw [hf] at hc; first | (simp at hc; done) | (simp at hc; omega)
      | true => rw [hf] at hc; exact .tree _ _ (h1.flat hf) (outs_flat (by simpa using hc) h2)

theorem outF_sound {w0 : World} (hh : HRel X ρ h w) (hnew : ∀ i b, (hget h i).live = true → (hget h i).wr = true → ρ i = some b → w0.heap.size ≤ b) : ∀ {vs : List Value} {l l' : List AVal}, countNF l = 1 → outF h l = some l' → RepL w (XX X ρ h) ρ vs l →
    ∃ N, N.Nodup ∧ Outs w0 w (fun b => X b ∨ b ∈ N) N vs l'
  | _, [], _, hc, _, _ => by simp [countNF] at hc
  | _, x :: l, l', hc, ho, hr => by
    cases hr with
    | cons h1 h2 =>
      rename_i v vs
      simp only [countNF] at hc
      simp only [outF] at ho
      cases hf : x.flat with
      | true =>
        rw [hf] at hc ho
        split at ho <;> try (cases ho; done)
        rename_i y ys e1 e2
        cases e1; cases ho
        obtain ⟨N, hn, ho⟩ := outF_sound hh hnew (by simpa using hc) e2 h2
        exact ⟨N, hn, .tree _ _ (h1.flat hf) ho⟩
      | false =>
        rw [hf] at hc ho
        split at ho <;> try (cases ho; done)
        rename_i y ys e1 e2
        cases ho
        have hc0 : countNF l = 0 := by simp at hc; omega
        have hys : ys = l ∧ True := by
          clear h2 hc
          refine ⟨?_, trivial⟩
          have : ∀ {l ys : List AVal}, countNF l = 0 → outF h l = some ys → ys = l := by
            intro l
            induction l with
            | nil => intro ys _ h; simp [outF] at h; exact h
            | cons z l ih =>
              intro ys hc h
              simp only [countNF] at hc
              simp only [outF] at h
              cases hz : z.flat with
              | false => rw [hz] at hc; first | (simp at hc; done) | (simp at hc; omega)
              | true =>
                rw [hz] at hc h
                split at h <;> try (cases h; done)
                rename_i a b e1 e2
                cases e1; cases h
                rw [ih (by simpa using hc) e2]
          exact this hc0 e2
        obtain ⟨rfl, _⟩ := hys
        replace e1 : outOf h x = some y := e1
        have tree : snap h depth x = some y → ∃ N, N.Nodup ∧ Outs w0 w (fun b => X b ∨ b ∈ N) N (v :: vs) (y :: ys) := by
          intro hs
          have := snap_sound hh depth x y v _ hs h1 (fun _ h => h)
          exact ⟨[], .nil, .tree _ _ (this.weaken fun b hb => by rcases hb with hb | hb; exact .inl hb; cases hb) (outs_flat hc0 h2)⟩
        unfold outOf at e1
        split at e1
        · rename_i m id n sz
          split at e1
          · rename_i hcond
            simp at hcond
            obtain ⟨⟨⟨hl, hw⟩, hlen⟩, hcnt⟩ := hcond
            cases hs : snapL (snap h depth) (hget h id).cells <;> rw [hs] at e1 <;> simp at e1
            subst e1
            rcases h1.osl_inv with ⟨blk, cap, rfl, hρ, hn, ht⟩ | ⟨rfl, b, rfl⟩
            · obtain ⟨us, hlt, hra, hth, hus⟩ := hh.read hl hρ
              have hnotin : id ∉ idsL (ids h depth) (hget h id).cells := by
                have : ∀ (l : List Nat), countId id l = 0 → id ∉ l := by
                  intro l
                  induction l with
                  | nil => intro _; simp
                  | cons j l ih =>
                    intro hc
                    simp only [countId] at hc
                    by_cases e : j = id
                    · subst e; first | (simp at hc; done) | (simp at hc; omega)
                    · simp only [List.mem_cons, not_or]
                      refine ⟨fun e' => e e'.symm, ih (by split at hc <;> omega)⟩
                exact this _ hcnt
              have hcs := snapL_sound (f := snap h depth) (g := ids h depth) (fun x y v h1 h2 h3 => snap_sound hh depth x y v _ h1 h2 h3) _ _ _ hs hus (fun _ h => h)
              refine ⟨[blk], by simp, .new _ _ _ cap blk us _ (hnew id blk hl hw hρ) hlt hn hra hth ht (hcs.weaken fun b hb => ?_) (outs_flat hc0 h2)⟩
              rcases hb with hb | hb
              · exact .inl hb
              · simp at hb; subst hb; exact .inr ⟨id, hnotin, hl, hw, hρ⟩
            · have : (hget h id).cells = [] := by simpa using hlen
              rw [this] at hs
              simp [snapL] at hs
              subst hs
              exact ⟨[], .nil, .new0 _ _ _ (outs_flat hc0 h2)⟩
          · exact tree e1
        · exact tree e1

theorem outL_sound {w0 : World} (hh : HRel X ρ h w) (hnew : ∀ i b, (hget h i).live = true → (hget h i).wr = true → ρ i = some b → w0.heap.size ≤ b) {vs : List Value} {l l' : List AVal} (ho : outL h l = some l') (hr : RepL w (XX X ρ h) ρ vs l) :
    ∃ N, N.Nodup ∧ Outs w0 w (fun b => X b ∨ b ∈ N) N vs l' := by
  unfold outL at ho
  split at ho
  · rename_i hc; exact outF_sound hh hnew hc ho hr
  · have hcs := snapL_sound (f := snap h depth) (g := ids h depth) (fun x y v h1 h2 h3 => snap_sound hh depth x y v _ h1 h2 h3) l l' vs ho hr (fun _ h => h)
    refine ⟨[], .nil, ?_⟩
    have := hcs.weaken (X' := fun b => X b ∨ b ∈ []) fun b hb => by rcases hb with hb | hb; exact .inl hb; cases hb
    clear hr ho
    induction this with
    | nil => exact .nil
    | cons h1 _ ih => exact .tree _ _ h1 (ih (by cases hcs; assumption))
end
end Eng
