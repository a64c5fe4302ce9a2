/- The engine, part 4: how what a walk knows stands to the model's values and memory. -/
import Derived.Test.YtlmlganfjnokiaaE3
import Derived.Deep.MidRow
import Derived.ChangeKeysEq
namespace Eng
open Go

/-- From w to w' only blocks of M were written; the rest grew. -/
structure Ext (M : Nat → Prop) (w w' : World) : Prop where
  os : w'.os = w.os
  tape : w'.tape = w.tape
  output : w'.output = w.output
  size : w.heap.size ≤ w'.heap.size
  block : ∀ k, k < w.heap.size → ¬ M k → w'.heap[k]? = w.heap[k]?
  there : ∀ b o n, w.there b o n → w'.there b o n

theorem Ext.refl (M : Nat → Prop) (w : World) : Ext M w w := ⟨rfl, rfl, rfl, Nat.le_refl _, fun _ _ _ => rfl, fun _ _ _ h => h⟩
theorem Ext.trans {M : Nat → Prop} {a b c : World} (h : Ext M a b) (k : Ext M b c) : Ext M a c :=
  ⟨k.os.trans h.os, k.tape.trans h.tape, k.output.trans h.output, Nat.le_trans h.size k.size,
   fun i hi hM => (k.block i (Nat.lt_of_lt_of_le hi h.size) hM).trans (h.block i hi hM), fun b o n ht => k.there b o n (h.there b o n ht)⟩
/-- What was written lay beyond what there was at first, or in M. -/
theorem Ext.trans' {M M' : Nat → Prop} {a b c : World} (h : Ext M a b) (k : Ext M' b c) (hm : ∀ i, M' i → i < a.heap.size → M i) : Ext M a c :=
  ⟨k.os.trans h.os, k.tape.trans h.tape, k.output.trans h.output, Nat.le_trans h.size k.size,
   fun i hi hM => (k.block i (Nat.lt_of_lt_of_le hi h.size) (fun h' => hM (hm i h' hi))).trans (h.block i hi hM), fun b o n ht => k.there b o n (h.there b o n ht)⟩
theorem Ext.mono {M M' : Nat → Prop} {w w' : World} (h : Ext M w w') (hm : ∀ k, M k → M' k) : Ext M' w w' :=
  ⟨h.os, h.tape, h.output, h.size, fun k hk hM => h.block k hk (fun h' => hM (hm k h')), h.there⟩

theorem there_lt {w : World} {b o n : Nat} (h : w.there b o n) (hn : 0 < n) : b < w.heap.size := by
  have h0 := (h 0 hn).1
  rcases Nat.lt_or_ge b w.heap.size with hb | hb
  · exact hb
  · simp [World.cell?, Array.getElem?_eq_none hb] at h0

theorem Ext.alloc (M : Nat → Prop) (w : World) (o : Obj) : Ext M w (w.alloc o) :=
  ⟨rfl, rfl, rfl, by simp, fun k hk _ => Go.RowKit.Below.heap_alloc w o k hk, fun b off n h j hj => by
    have hb := there_lt (w := w) h (by omega)
    have := h j hj
    have e := Go.RowKit.Below.heap_alloc w o b hb
    exact ⟨by rw [World.cell?_of_block (w := w) e]; exact this.1, by rw [World.frozen?_of_block (w := w) e]; exact this.2⟩⟩

theorem Ext.drew (M : Nat → Prop) (w : World) : Ext M w { w with drawn := w.drawn + 1 } :=
  ⟨rfl, rfl, rfl, Nat.le_refl _, fun _ _ _ => rfl, fun _ _ _ h => h⟩

theorem heap_setCells_ne (b : Nat) : ∀ (vs : List Value) (o : Nat) (w : World) (k : Nat), k ≠ b → (w.setCells b o vs).heap[k]? = w.heap[k]?
  | [], _, _, _, _ => rfl
  | v :: r, o, w, k, h => by
    rw [World.setCells, heap_setCells_ne b r (o + 1) _ k h]
    exact Go.RowKit.Below.heap_setCell w ⟨b, o, none⟩ v k h
theorem size_setCells (b : Nat) : ∀ (vs : List Value) (o : Nat) (w : World), (w.setCells b o vs).heap.size = w.heap.size
  | [], _, _ => rfl
  | v :: r, o, w => by rw [World.setCells, size_setCells b r]; simp [World.setCell]
theorem misc_setCells (b : Nat) : ∀ (vs : List Value) (o : Nat) (w : World), (w.setCells b o vs).os = w.os ∧ (w.setCells b o vs).tape = w.tape ∧ (w.setCells b o vs).output = w.output
  | [], _, _ => ⟨rfl, rfl, rfl⟩
  | v :: r, o, w => by rw [World.setCells]; obtain ⟨h1, h2, h3⟩ := misc_setCells b r (o + 1) (w.setCell ⟨b, o, none⟩ v); exact ⟨h1, h2, h3⟩
theorem Ext.setCells (w : World) (b o : Nat) (vs : List Value) : Ext (· = b) w (w.setCells b o vs) :=
  ⟨(misc_setCells b vs o w).1, (misc_setCells b vs o w).2.1, (misc_setCells b vs o w).2.2, by rw [size_setCells]; exact Nat.le_refl _,
   fun k _ hk => heap_setCells_ne b vs o w k hk, fun b' o' n h => World.there_setCells h b o vs⟩

theorem rangeAt_ext {M : Nat → Prop} {w w' : World} (h : Ext M w w') {b o : Nat} {vs : List Value} (hb : b < w.heap.size) (hM : ¬ M b) (hr : w.rangeAt b o vs) : w'.rangeAt b o vs :=
  fun j v hj => by rw [World.cell?_of_block (w := w) (h.block b hb hM)]; exact hr j v hj

/-- From w to w' only what is no cells was turned, and that at or beyond B; the rest grew. -/
structure Calm (B : Nat) (w w' : World) : Prop where
  os : w'.os = w.os
  tape : w'.tape = w.tape
  output : w'.output = w.output
  size : w.heap.size ≤ w'.heap.size
  block : ∀ k, k < w.heap.size → k < B → w'.heap[k]? = w.heap[k]?
  cells : ∀ (k : Nat) (c : Array Value) (t : TypeId) (f : Nat × Nat), w.heap[k]? = some (.cells c t f) → w'.heap[k]? = some (.cells c t f)

theorem Calm.refl (B : Nat) (w : World) : Calm B w w := ⟨rfl, rfl, rfl, Nat.le_refl _, fun _ _ _ => rfl, fun _ _ _ _ h => h⟩
theorem Calm.trans {B : Nat} {a b c : World} (h : Calm B a b) (k : Calm B b c) : Calm B a c :=
  ⟨k.os.trans h.os, k.tape.trans h.tape, k.output.trans h.output, Nat.le_trans h.size k.size,
   fun i hi hB => (k.block i (Nat.lt_of_lt_of_le hi h.size) hB).trans (h.block i hi hB), fun i x t f hc => k.cells i x t f (h.cells i x t f hc)⟩
theorem Calm.cell {B : Nat} {w w' : World} (h : Calm B w w') {a : Addr} (hc : (w.cell? a).isSome = true) : w'.cell? a = w.cell? a ∧ w'.frozen? a = w.frozen? a := by
  simp only [World.cell?, World.frozen?] at hc ⊢
  split at hc
  · rename_i c t f hb
    rw [h.cells _ c t f hb, hb]
    exact ⟨rfl, rfl⟩
  · simp at hc
theorem Calm.range {B : Nat} {w w' : World} (h : Calm B w w') {b o : Nat} {vs : List Value} (hr : w.rangeAt b o vs) : w'.rangeAt b o vs := fun j v hj => by
  have := hr j v hj
  rw [(h.cell (by rw [this]; rfl)).1]
  exact this
theorem Calm.there {B : Nat} {w w' : World} (h : Calm B w w') {b o n : Nat} (hr : w.there b o n) : w'.there b o n := fun j hj => by
  obtain ⟨h1, h2⟩ := hr j hj
  rw [(h.cell h1).1, (h.cell h1).2]
  exact ⟨h1, h2⟩

def noρ : Nat → Option Nat := fun _ => none

/-- A value and what is known of it. Behind a tree stands nothing of one's own. -/
inductive Rep (w : World) (X : Nat → Prop) : (Nat → Option Nat) → Value → AVal → Prop where
  | i {ρ : Nat → Option Nat} (k : IntKind) (n : Int) : Rep w X ρ (.int k n) (.i k n)
  | s {ρ : Nat → Option Nat} (k : IntKind) (n : Int) : Rep w X ρ (.int k n) (.s k n)
  | b {ρ : Nat → Option Nat} (t : Bool) : Rep w X ρ (.bool t) (.b t)
  | sb {ρ : Nat → Option Nat} (t : Bool) : Rep w X ρ (.bool t) (.sb t)
  | v {ρ : Nat → Option Nat} (x : Value) (h : oneV x = true) : Rep w X ρ x (.v x)
  | any {ρ : Nat → Option Nat} (x : Value) : Rep w X ρ x .any
  | agg {ρ : Nat → Option Nat} (vs : List Value) (cs : List AVal) (hl : vs.length = cs.length) (h : ∀ (j : Nat) (v : Value) (x : AVal), vs[j]? = some v → cs[j]? = some x → Rep w X ρ v x) : Rep w X ρ (.agg vs.toArray) (.agg cs)
  | tup {ρ : Nat → Option Nat} (vs : List Value) (cs : List AVal) (hl : vs.length = cs.length) (h : ∀ (j : Nat) (v : Value) (x : AVal), vs[j]? = some v → cs[j]? = some x → Rep w X ρ v x) : Rep w X ρ (.tuple vs.toArray) (.tup cs)
  | lst {ρ : Nat → Option Nat} (m : Bool) (blk off n cap : Nat) (vs : List Value) (cs : List AVal) (hX : ¬ X blk) (hb : blk < w.heap.size) (hr : w.rangeAt blk off vs) (hn : n ≤ cap)
      (hl : vs.length = cs.length) (h : ∀ (j : Nat) (v : Value) (x : AVal), vs[j]? = some v → cs[j]? = some x → Rep w X noρ v x) : Rep w X ρ (.slice (some ⟨blk, off, none⟩) n cap) (.lst m n cs)
  | lst0 {ρ : Nat → Option Nat} (m : Bool) (a : Option Addr) (cap : Nat) : Rep w X ρ (.slice a 0 cap) (.lst m 0 [])
  | ref {ρ : Nat → Option Nat} (blk base off : Nat) (vs : List Value) (cs : List AVal) (hX : ¬ X blk) (hb : blk < w.heap.size) (hr : w.rangeAt blk base vs)
      (hl : vs.length = cs.length) (h : ∀ (j : Nat) (v : Value) (x : AVal), vs[j]? = some v → cs[j]? = some x → Rep w X noρ v x) : Rep w X ρ (.pointer (some ⟨blk, base + off, none⟩)) (.ref cs off)
  | own {ρ : Nat → Option Nat} (id off blk : Nat) (h : ρ id = some blk) : Rep w X ρ (.pointer (some ⟨blk, off, none⟩)) (.own id off)
  | osl {ρ : Nat → Option Nat} (m : Bool) (id off n sz blk cap : Nat) (h : ρ id = some blk) (hn : n ≤ cap) (ht : w.there blk off (cap * sz)) : Rep w X ρ (.slice (some ⟨blk, off, none⟩) n cap) (.osl m id off n sz)
  | osl0 {ρ : Nat → Option Nat} (m : Bool) (id off sz : Nat) (a : Option Addr) : Rep w X ρ (.slice a 0 0) (.osl m id off 0 sz)
  | ifc {ρ : Nat → Option Nat} (t : TypeId) (v : Value) (x : AVal) (h : Rep w X ρ v x) : Rep w X ρ (.iface t v) (.ifc t x)
  | fn {ρ : Nat → Option Nat} (f : Fn) (vs us : List Value) (cs ds : List AVal) (hl : vs.length = cs.length) (h : ∀ (j : Nat) (v : Value) (x : AVal), vs[j]? = some v → cs[j]? = some x → Rep w X ρ v x)
      (hl' : us.length = ds.length) (h' : ∀ (j : Nat) (v : Value) (x : AVal), us[j]? = some v → ds[j]? = some x → Rep w X ρ v x) : Rep w X ρ (.func f vs.toArray us.toArray) (.fn f cs ds)

/-- Lists, one by one. -/
inductive RepL (w : World) (X : Nat → Prop) (ρ : Nat → Option Nat) : List Value → List AVal → Prop where
  | nil : RepL w X ρ [] []
  | cons {v : Value} {x : AVal} {vs : List Value} {xs : List AVal} (h : Rep w X ρ v x) (hs : RepL w X ρ vs xs) : RepL w X ρ (v :: vs) (x :: xs)

section
variable {w : World} {X : Nat → Prop} {ρ : Nat → Option Nat}

theorem RepL.length {vs : List Value} {xs : List AVal} (h : RepL w X ρ vs xs) : vs.length = xs.length := by
  induction h with
  | nil => rfl
  | cons _ _ ih => simp [ih]
theorem RepL.at {vs : List Value} {xs : List AVal} (h : RepL w X ρ vs xs) : ∀ (j : Nat) (v : Value) (x : AVal), vs[j]? = some v → xs[j]? = some x → Rep w X ρ v x := by
  induction h with
  | nil => intro j v x hv; simp at hv
  | cons h hs ih =>
    intro j v x hv hx
    cases j with
    | zero => simp at hv hx; subst hv; subst hx; exact h
    | succ j => exact ih j v x (by simpa using hv) (by simpa using hx)
theorem RepL.mk' : ∀ {vs : List Value} {xs : List AVal}, vs.length = xs.length → (∀ (j : Nat) (v : Value) (x : AVal), vs[j]? = some v → xs[j]? = some x → Rep w X ρ v x) → RepL w X ρ vs xs
  | [], [], _, _ => .nil
  | v :: vs, x :: xs, hl, h => .cons (h 0 v x rfl rfl) (RepL.mk' (by simpa using hl) fun j v' x' hv hx => h (j + 1) v' x' (by simpa using hv) (by simpa using hx))
  | [], _ :: _, hl, _ => by simp at hl
  | _ :: _, [], hl, _ => by simp at hl

theorem RepL.agg {vs : List Value} {cs : List AVal} (h : RepL w X ρ vs cs) : Rep w X ρ (.agg vs.toArray) (.agg cs) := .agg vs cs h.length h.at
theorem RepL.tup {vs : List Value} {cs : List AVal} (h : RepL w X ρ vs cs) : Rep w X ρ (.tuple vs.toArray) (.tup cs) := .tup vs cs h.length h.at

theorem Rep.agg_inv {v : Value} {cs : List AVal} (h : Rep w X ρ v (.agg cs)) : ∃ vs : List Value, v = .agg vs.toArray ∧ RepL w X ρ vs cs := by
  cases h with
  | agg vs cs hl h => exact ⟨vs, rfl, RepL.mk' hl h⟩
theorem Rep.tup_inv {v : Value} {cs : List AVal} (h : Rep w X ρ v (.tup cs)) : ∃ vs : List Value, v = .tuple vs.toArray ∧ RepL w X ρ vs cs := by
  cases h with
  | tup vs cs hl h => exact ⟨vs, rfl, RepL.mk' hl h⟩

theorem Rep.i_inv {v : Value} {k : IntKind} {n : Int} (h : Rep w X ρ v (.i k n)) : v = .int k n := by cases h; rfl
theorem Rep.s_inv {v : Value} {k : IntKind} {n : Int} (h : Rep w X ρ v (.s k n)) : v = .int k n := by cases h; rfl
theorem Rep.b_inv {v : Value} {t : Bool} (h : Rep w X ρ v (.b t)) : v = .bool t := by cases h; rfl
theorem Rep.sb_inv {v : Value} {t : Bool} (h : Rep w X ρ v (.sb t)) : v = .bool t := by cases h; rfl
theorem Rep.v_inv {v x : Value} (h : Rep w X ρ v (.v x)) : v = x := by cases h; rfl
theorem Rep.own_inv {v : Value} {id off : Nat} (h : Rep w X ρ v (.own id off)) : ∃ blk, v = .pointer (some ⟨blk, off, none⟩) ∧ ρ id = some blk := by cases h; exact ⟨_, rfl, by assumption⟩
theorem Rep.ref_inv {v : Value} {cs : List AVal} {off : Nat} (h : Rep w X ρ v (.ref cs off)) :
    ∃ blk base vs, v = .pointer (some ⟨blk, base + off, none⟩) ∧ ¬ X blk ∧ blk < w.heap.size ∧ w.rangeAt blk base vs ∧ RepL w X noρ vs cs := by
  cases h with
  | ref blk base off vs cs h1 h2 h3 hl h4 => exact ⟨blk, base, vs, rfl, h1, h2, h3, RepL.mk' hl h4⟩
theorem Rep.lst_inv {v : Value} {m : Bool} {n : Nat} {cs : List AVal} (h : Rep w X ρ v (.lst m n cs)) :
    (∃ blk off cap vs, v = .slice (some ⟨blk, off, none⟩) n cap ∧ ¬ X blk ∧ blk < w.heap.size ∧ w.rangeAt blk off vs ∧ n ≤ cap ∧ RepL w X noρ vs cs) ∨ (n = 0 ∧ cs = [] ∧ ∃ a cap, v = .slice a 0 cap) := by
  cases h with
  | lst m blk off n cap vs cs h1 h2 h3 hn hl h4 => exact .inl ⟨blk, off, cap, vs, rfl, h1, h2, h3, hn, RepL.mk' hl h4⟩
  | lst0 m a cap => exact .inr ⟨rfl, rfl, a, cap, rfl⟩
theorem Rep.osl_inv {v : Value} {m : Bool} {id off n sz : Nat} (h : Rep w X ρ v (.osl m id off n sz)) :
    (∃ blk cap, v = .slice (some ⟨blk, off, none⟩) n cap ∧ ρ id = some blk ∧ n ≤ cap ∧ w.there blk off (cap * sz)) ∨ (n = 0 ∧ ∃ a, v = .slice a 0 0) := by
  cases h with
  | osl m id off n sz blk cap h1 h2 h3 => exact .inl ⟨blk, cap, rfl, h1, h2, h3⟩
  | osl0 m id off sz a => exact .inr ⟨rfl, a, rfl⟩
theorem Rep.ifc_inv {v : Value} {t : TypeId} {x : AVal} (h : Rep w X ρ v (.ifc t x)) : ∃ u, v = .iface t u ∧ Rep w X ρ u x := by cases h; exact ⟨_, rfl, by assumption⟩
theorem Rep.fn_inv {v : Value} {f : Fn} {as cs : List AVal} (h : Rep w X ρ v (.fn f as cs)) : ∃ vs us : List Value, v = .func f vs.toArray us.toArray ∧ RepL w X ρ vs as ∧ RepL w X ρ us cs := by
  cases h with
  | fn f vs us cs ds hl h hl' h' => exact ⟨vs, us, rfl, RepL.mk' hl h, RepL.mk' hl' h'⟩

/-- Carried on: memory grows, less is forbidden, more is known. -/
theorem Rep.calm {w' : World} {B : Nat} (hc : Calm B w w') {v : Value} {x : AVal} (h : Rep w X ρ v x) : Rep w' X ρ v x := by
  induction h with
  | i k n => exact .i k n
  | s k n => exact .s k n
  | b t => exact .b t
  | sb t => exact .sb t
  | v x h => exact .v x h
  | any x => exact .any x
  | agg vs cs hl _ ih => exact .agg vs cs hl ih
  | tup vs cs hl _ ih => exact .tup vs cs hl ih
  | lst m blk off n cap vs cs h1 hb hr hn hl _ ih => exact .lst m blk off n cap vs cs h1 (Nat.lt_of_lt_of_le hb hc.size) (hc.range hr) hn hl ih
  | lst0 m a cap => exact .lst0 m a cap
  | ref blk base off vs cs h1 hb hr hl _ ih => exact .ref blk base off vs cs h1 (Nat.lt_of_lt_of_le hb hc.size) (hc.range hr) hl ih
  | own id off blk h => exact .own id off blk h
  | osl m id off n sz blk cap h hn ht => exact .osl m id off n sz blk cap h hn (hc.there ht)
  | osl0 m id off sz a => exact .osl0 m id off sz a
  | ifc t v x _ ih => exact .ifc t v x ih
  | fn f vs us cs ds hl _ hl' _ ih ih' => exact .fn f vs us cs ds hl ih hl' ih'
theorem RepL.calm {w' : World} {B : Nat} (hc : Calm B w w') {vs : List Value} {xs : List AVal} (h : RepL w X ρ vs xs) : RepL w' X ρ vs xs := by
  induction h with
  | nil => exact .nil
  | cons h _ ih => exact .cons (h.calm hc) ih

theorem Rep.carry {w' : World} {X' : Nat → Prop} {ρ' : Nat → Option Nat} {M : Nat → Prop} (he : Ext M w w') (hX : ∀ b, b < w.heap.size → ¬ X b → ¬ X' b ∧ ¬ M b) (hρ : ∀ i b, ρ i = some b → ρ' i = some b)
    {v : Value} {x : AVal} (h : Rep w X ρ v x) : Rep w' X' ρ' v x := by
  induction h generalizing ρ' with
  | i k n => exact .i k n
  | s k n => exact .s k n
  | b t => exact .b t
  | sb t => exact .sb t
  | v x h => exact .v x h
  | any x => exact .any x
  | agg vs cs hl _ ih => exact .agg vs cs hl fun j v x h1 h2 => ih j v x h1 h2 hρ
  | tup vs cs hl _ ih => exact .tup vs cs hl fun j v x h1 h2 => ih j v x h1 h2 hρ
  | lst m blk off n cap vs cs h1 hb hr hn hl _ ih =>
    have := hX blk hb h1
    exact .lst m blk off n cap vs cs this.1 (Nat.lt_of_lt_of_le hb he.size) (rangeAt_ext he hb this.2 hr) hn hl fun j v x h1 h2 => ih j v x h1 h2 fun _ _ h => h
  | lst0 m a cap => exact .lst0 m a cap
  | ref blk base off vs cs h1 hb hr hl _ ih =>
    have := hX blk hb h1
    exact .ref blk base off vs cs this.1 (Nat.lt_of_lt_of_le hb he.size) (rangeAt_ext he hb this.2 hr) hl fun j v x h1 h2 => ih j v x h1 h2 fun _ _ h => h
  | own id off blk h => exact .own id off blk (hρ _ _ h)
  | osl m id off n sz blk cap h hn ht => exact .osl m id off n sz blk cap (hρ _ _ h) hn (he.there _ _ _ ht)
  | osl0 m id off sz a => exact .osl0 m id off sz a
  | ifc t v x _ ih => exact .ifc t v x (ih hρ)
  | fn f vs us cs ds hl _ hl' _ ih ih' => exact .fn f vs us cs ds hl (fun j v x h1 h2 => ih j v x h1 h2 hρ) hl' (fun j v x h1 h2 => ih' j v x h1 h2 hρ)

theorem RepL.carry {w' : World} {X' : Nat → Prop} {ρ' : Nat → Option Nat} {M : Nat → Prop} (he : Ext M w w') (hX : ∀ b, b < w.heap.size → ¬ X b → ¬ X' b ∧ ¬ M b) (hρ : ∀ i b, ρ i = some b → ρ' i = some b)
    {vs : List Value} {xs : List AVal} (h : RepL w X ρ vs xs) : RepL w' X' ρ' vs xs := by
  induction h with
  | nil => exact .nil
  | cons h _ ih => exact .cons (h.carry he hX hρ) ih

theorem Rep.weaken {X' : Nat → Prop} (hX : ∀ b, X' b → X b) {v : Value} {x : AVal} (h : Rep w X ρ v x) : Rep w X' ρ v x :=
  h.carry (Ext.refl (fun _ => False) w) (fun b _ hb => ⟨fun h => hb (hX b h), id⟩) (fun _ _ h => h)
theorem Rep.up {v : Value} {x : AVal} (h : Rep w X noρ v x) : Rep w X ρ v x :=
  h.carry (Ext.refl (fun _ => False) w) (fun b _ hb => ⟨hb, id⟩) (fun _ _ h => by cases h)
theorem RepL.up {vs : List Value} {xs : List AVal} (h : RepL w X noρ vs xs) : RepL w X ρ vs xs :=
  h.carry (Ext.refl (fun _ => False) w) (fun b _ hb => ⟨hb, id⟩) (fun _ _ h => by cases h)
theorem RepL.weaken {X' : Nat → Prop} (hX : ∀ b, X' b → X b) {vs : List Value} {xs : List AVal} (h : RepL w X ρ vs xs) : RepL w X' ρ vs xs :=
  h.carry (Ext.refl (fun _ => False) w) (fun b _ hb => ⟨fun h => hb (hX b h), id⟩) (fun _ _ h => h)
end

/-- lget and its kin against the library's words. -/
theorem lget_eq : ∀ (l : List AVal) (n : Nat), lget l n = l[n]?
  | [], _ => by simp [lget]
  | x :: l, 0 => by simp [lget]
  | x :: l, n + 1 => by simp [lget, lget_eq l n]
theorem lset_eq : ∀ (l : List AVal) (n : Nat) (y : AVal), lset l n y = l.set n y
  | [], _, _ => by simp [lset]
  | x :: l, 0, y => by simp [lset]
  | x :: l, n + 1, y => by simp [lset, lset_eq l n y]
theorem app_eq : ∀ (l k : List AVal), app l k = l ++ k
  | [], k => rfl
  | x :: l, k => by simp [app, app_eq l k]
theorem lsub_spec : ∀ (l : List AVal) (off n : Nat) (r : List AVal), lsub l off n = some r → off + n ≤ l.length ∧ r = (l.drop off).take n
  | l, 0, 0, r, h => by simp [lsub] at h; subst h; simp
  | [], 0, n + 1, r, h => by simp [lsub] at h
  | [], off + 1, n, r, h => by simp [lsub] at h
  | x :: l, 0, n + 1, r, h => by
    simp [lsub] at h
    obtain ⟨a, ha, rfl⟩ := h
    obtain ⟨h1, h2⟩ := lsub_spec l 0 n a ha
    refine ⟨by simp; omega, by simp [h2]⟩
  | x :: l, off + 1, n, r, h => by
    simp [lsub] at h
    obtain ⟨h1, h2⟩ := lsub_spec l off n r h
    exact ⟨by simp; omega, by simp [h2]⟩
theorem lput_spec : ∀ (l : List AVal) (off : Nat) (ys r : List AVal), lput l off ys = some r → off + ys.length ≤ l.length ∧ r = l.take off ++ ys ++ l.drop (off + ys.length)
  | l, 0, [], r, h => by simp [lput] at h; subst h; simp
  | [], 0, y :: ys, r, h => by simp [lput] at h
  | [], off + 1, ys, r, h => by simp [lput] at h
  | x :: l, 0, y :: ys, r, h => by
    simp [lput] at h
    obtain ⟨a, ha, rfl⟩ := h
    obtain ⟨h1, h2⟩ := lput_spec l 0 ys a ha
    refine ⟨by simp; omega, by simp [h2]⟩
  | x :: l, off + 1, ys, r, h => by
    simp [lput] at h
    obtain ⟨a, ha, rfl⟩ := h
    obtain ⟨h1, h2⟩ := lput_spec l off ys a ha
    refine ⟨by simp; omega, ?_⟩
    simp [h2, show off + 1 + ys.length = (off + ys.length) + 1 by omega]
theorem hget_of_ge : ∀ (h : List Blk) (i : Nat), h.length ≤ i → hget h i = default
  | [], _, _ => rfl
  | x :: h, 0, hi => by simp at hi
  | x :: h, i + 1, hi => by simp [hget]; exact hget_of_ge h i (by simpa using hi)
theorem hget_append_lt : ∀ (h k : List Blk) (i : Nat), i < h.length → hget (h ++ k) i = hget h i
  | x :: h, k, 0, _ => rfl
  | x :: h, k, i + 1, hi => by simp [hget]; exact hget_append_lt h k i (by simpa using hi)
  | [], _, _, hi => by simp at hi
theorem hget_append_len : ∀ (h : List Blk) (b : Blk), hget (h ++ [b]) h.length = b
  | [], b => rfl
  | x :: h, b => by simp [hget]; exact hget_append_len h b
theorem hset_length : ∀ (h : List Blk) (i : Nat) (b : Blk), (hset h i b).length = h.length
  | [], _, _ => rfl
  | x :: h, 0, b => rfl
  | x :: h, i + 1, b => by simp [hset, hset_length h i b]
theorem hget_hset : ∀ (h : List Blk) (i j : Nat) (b : Blk), hget (hset h i b) j = if i = j ∧ i < h.length then b else hget h j
  | [], i, j, b => by simp [hset]
  | x :: h, 0, 0, b => by simp [hset, hget]
  | x :: h, 0, j + 1, b => by simp [hset, hget]
  | x :: h, i + 1, 0, b => by simp [hset, hget]
  | x :: h, i + 1, j + 1, b => by simp [hset, hget, hget_hset h i j b]
theorem live_lt {h : List Blk} {i : Nat} (hl : (hget h i).live = true) : i < h.length := by
  rcases Nat.lt_or_ge i h.length with hi | hi
  · exact hi
  · rw [hget_of_ge h i hi] at hl; cases hl

section
variable {w : World} {X : Nat → Prop} {ρ : Nat → Option Nat}
theorem RepL.get {vs : List Value} {xs : List AVal} (h : RepL w X ρ vs xs) {n : Nat} {x : AVal} (hx : lget xs n = some x) : ∃ v, vs[n]? = some v ∧ Rep w X ρ v x := by
  rw [lget_eq] at hx
  have hn : n < xs.length := by
    rcases Nat.lt_or_ge n xs.length with h' | h'
    · exact h'
    · rw [List.getElem?_eq_none h'] at hx; cases hx
  have hv : n < vs.length := by rw [h.length]; exact hn
  exact ⟨vs[n], List.getElem?_eq_getElem hv, h.at n _ x (List.getElem?_eq_getElem hv) hx⟩
theorem RepL.sub {vs : List Value} {xs r : List AVal} (h : RepL w X ρ vs xs) {off n : Nat} (hr : lsub xs off n = some r) : off + n ≤ vs.length ∧ RepL w X ρ ((vs.drop off).take n) r := by
  obtain ⟨h1, rfl⟩ := lsub_spec _ _ _ _ hr
  have hl := h.length
  refine ⟨by omega, RepL.mk' (by simp; omega) fun j v x hv hx => ?_⟩
  rw [List.getElem?_take] at hv hx
  split at hv
  · rename_i hj
    rw [if_pos hj, List.getElem?_drop] at hx
    rw [List.getElem?_drop] at hv
    exact h.at _ v x hv hx
  · cases hv
theorem RepL.append {vs us : List Value} {xs ys : List AVal} (h : RepL w X ρ vs xs) (h' : RepL w X ρ us ys) : RepL w X ρ (vs ++ us) (xs ++ ys) := by
  induction h with
  | nil => exact h'
  | cons h _ ih => exact .cons h ih
theorem RepL.take {vs : List Value} {xs : List AVal} (h : RepL w X ρ vs xs) : ∀ n, RepL w X ρ (vs.take n) (xs.take n) := by
  induction h with
  | nil => intro n; simp; exact .nil
  | cons h _ ih =>
    intro n
    cases n with
    | zero => exact .nil
    | succ n => exact .cons h (ih n)
theorem RepL.drop {vs : List Value} {xs : List AVal} (h : RepL w X ρ vs xs) : ∀ n, RepL w X ρ (vs.drop n) (xs.drop n) := by
  induction h with
  | nil => intro n; simp; exact .nil
  | cons h hs ih =>
    intro n
    cases n with
    | zero => exact .cons h hs
    | succ n => exact ih n
theorem RepL.put {vs us : List Value} {xs ys r : List AVal} (h : RepL w X ρ vs xs) (h' : RepL w X ρ us ys) {off : Nat} (hr : lput xs off ys = some r) :
    off + us.length ≤ vs.length ∧ RepL w X ρ (vs.take off ++ us ++ vs.drop (off + us.length)) r := by
  obtain ⟨h1, rfl⟩ := lput_spec _ _ _ _ hr
  have hl := h.length
  have hl' := h'.length
  refine ⟨by omega, ?_⟩
  rw [hl']
  exact ((h.take off).append h').append (h.drop _)
end

/-- What a walk's values must keep away from: what is forbidden, and what is one's own to write. -/
def XX (X : Nat → Prop) (ρ : Nat → Option Nat) (h : List Blk) (b : Nat) : Prop := X b ∨ ∃ i, (hget h i).live = true ∧ (hget h i).wr = true ∧ ρ i = some b
/-- But for the rows that are named. -/
def XXm (X : Nat → Prop) (ρ : Nat → Option Nat) (h : List Blk) (L : List Nat) (b : Nat) : Prop := X b ∨ ∃ i, i ∉ L ∧ (hget h i).live = true ∧ (hget h i).wr = true ∧ ρ i = some b

structure HRel (X : Nat → Prop) (ρ : Nat → Option Nat) (h : List Blk) (w : World) : Prop where
  inj : ∀ i j b, (hget h i).live = true → (hget h j).live = true → ρ i = some b → ρ j = some b → i = j
  blk : ∀ i, (hget h i).live = true → (∃ b vs, ρ i = some b ∧ b < w.heap.size ∧ ¬ X b ∧ w.rangeAt b 0 vs ∧ w.there b 0 vs.length ∧ RepL w (XX X ρ h) ρ vs (hget h i).cells) ∨ (ρ i = none ∧ (hget h i).cells = [])
  dom : ∀ i, h.length ≤ i → ρ i = none
  res : ∀ i d, hget h i = mark d → ρ i = none

/-- What is said of the way that led here. -/
abbrev Hist := (Nat → Prop) → (Nat → Option Nat) → List Blk → World → Prop

/-- The marks of ranges over functions: each names its own empty block, that nobody writes. -/
structure Marks (B : Nat) (ρ : Nat → Option Nat) (h : List Blk) (ds : List Deferred) (w : World) : Prop where
  nodup : ds.Nodup
  is : ∀ d ∈ ds, ∃ D, B ≤ D ∧ d = { target := .collected D, args := #[] } ∧ w.heap[D]? = some (.deferred (some [])) ∧ ∀ i, (hget h i).live = true → (hget h i).wr = true → ρ i ≠ some D

structure Rel (P : Program) (B : Nat) (Hi : Hist) (X : Nat → Prop) (ρ : Nat → Option Nat) (s : St) (a : Act) (w : World) : Prop where
  heap : HRel X ρ s.heap w
  size : a.tmps.size = s.tmps.length
  tmps : ∀ (t : Nat) (v : Value) (x : AVal), a.tmps[t]? = some v → lget s.tmps t = some x → Rep w (XX X ρ s.heap) ρ v x
  marks : Marks B ρ s.heap a.defers w
  lt : ∀ b, X b → b < w.heap.size
  base : B ≤ w.heap.size
  hist : Hi X ρ s.heap w

theorem Rep.undef {w : World} {X : Nat → Prop} {ρ : Nat → Option Nat} : Rep w X ρ undef (.tup []) := .tup [] [] rfl (fun j v x hv => by simp at hv)
theorem Rep.ofV1 {w : World} {X : Nat → Prop} {ρ : Nat → Option Nat} (v : Value) : Rep w X ρ v (ofV1 v) := by
  cases v <;> first | exact .i _ _ | exact .b _ | exact .any _ | exact .v _ rfl
theorem RepL.mapV {w : World} {X : Nat → Prop} {ρ : Nat → Option Nat} : ∀ (vs : List Value), RepL w X ρ vs (mapV vs)
  | [] => .nil
  | v :: vs => .cons (Rep.ofV1 v) (RepL.mapV vs)
theorem Rep.ofV {w : World} {X : Nat → Prop} {ρ : Nat → Option Nat} (v : Value) : Rep w X ρ v (ofV v) := by
  cases v <;> try (first | exact .i _ _ | exact .b _ | exact .v _ rfl)
  · rename_i cs
    have := RepL.agg (RepL.mapV (w := w) (X := X) (ρ := ρ) cs.toList)
    simpa [Eng.ofV] using this
  · rename_i cs
    obtain ⟨l⟩ := cs
    cases l with
    | nil => exact Rep.undef
    | cons a l => exact .any _

theorem Rep.oneV {w : World} {X : Nat → Prop} {ρ : Nat → Option Nat} {v : Value} {x : AVal} (h : Rep w X ρ v x) (hx : x.one = true) : oneV v = true := by
  cases h <;> simp [AVal.one] at hx <;> first | rfl | assumption
theorem Rep.cells {w : World} {X : Nat → Prop} {ρ : Nat → Option Nat} {v : Value} {x : AVal} {cs : List AVal} (h : Rep w X ρ v x) (hc : x.cells = some cs) : RepL w X ρ v.cells.toList cs := by
  cases h with
  | agg vs cs' hl h => simp [AVal.cells] at hc; subst hc; simp only [Value.cells, List.toList_toArray]; exact RepL.mk' hl h
  | v x h =>
    simp [AVal.cells] at hc; subst hc
    cases v <;> first | (simp [Eng.oneV] at h; done) | exact .cons (.v _ rfl) .nil
  | any x => simp [AVal.cells] at hc
  | i k n => simp [AVal.cells] at hc; subst hc; exact .cons (.i k n) .nil
  | s k n => simp [AVal.cells] at hc; subst hc; exact .cons (.s k n) .nil
  | b t => simp [AVal.cells] at hc; subst hc; exact .cons (.b t) .nil
  | sb t => simp [AVal.cells] at hc; subst hc; exact .cons (.sb t) .nil
  | tup vs cs' hl h => simp [AVal.cells] at hc; subst hc; exact .cons (.tup vs cs' hl h) .nil
  | lst m blk off n cap vs cs' hX hb hr hn hl h => simp [AVal.cells] at hc; subst hc; exact .cons (.lst m blk off n cap vs cs' hX hb hr hn hl h) .nil
  | lst0 m a cap => simp [AVal.cells] at hc; subst hc; exact .cons (.lst0 m a cap) .nil
  | ref blk base off vs cs' hX hb hr hl h => simp [AVal.cells] at hc; subst hc; exact .cons (.ref blk base off vs cs' hX hb hr hl h) .nil
  | own id off blk h => simp [AVal.cells] at hc; subst hc; exact .cons (.own id off blk h) .nil
  | osl m id off n sz blk cap h hn ht => simp [AVal.cells] at hc; subst hc; exact .cons (.osl m id off n sz blk cap h hn ht) .nil
  | osl0 m id off sz a => simp [AVal.cells] at hc; subst hc; exact .cons (.osl0 m id off sz a) .nil
  | ifc t v x h => simp [AVal.cells] at hc; subst hc; exact .cons (.ifc t v x h) .nil
  | fn f vs us cs' ds hl h hl' h' => simp [AVal.cells] at hc; subst hc; exact .cons (.fn f vs us cs' ds hl h hl' h') .nil

theorem Rel.ev {P : Program} {B : Nat} {Hi : Hist} {X : Nat → Prop} {ρ : Nat → Option Nat} {s : St} {a : Act} {w : World} (h : Rel P B Hi X ρ s a w) (x : Operand) :
    Rep w (XX X ρ s.heap) ρ (a.eval x) (ev s x) := by
  cases x with
  | tmp t =>
    simp only [Act.eval, Eng.ev]
    rcases Nat.lt_or_ge t a.tmps.size with ht | ht
    · have h1 : a.tmps[t]? = some a.tmps[t] := Array.getElem?_eq_getElem ht
      have h2 : lget s.tmps t = some (s.tmps[t]'(by rw [← h.size]; exact ht)) := by rw [lget_eq]; exact List.getElem?_eq_getElem _
      rw [h2]
      simp only [Array.getD_eq_getD_getElem?, h1, Option.getD_some]
      exact h.tmps t _ _ h1 h2
    · have h1 : a.tmps[t]? = none := Array.getElem?_eq_none ht
      have h2 : lget s.tmps t = none := by rw [lget_eq]; exact List.getElem?_eq_none (by rw [← h.size]; exact ht)
      rw [h2]
      simp only [Array.getD_eq_getD_getElem?, h1, Option.getD_none]
      exact Rep.undef
  | const v => exact Rep.ofV v
  | global g => exact .v _ rfl
  | func f => exact .fn (.func f) [] [] [] [] rfl (fun j v x hv => by simp at hv) rfl (fun j v x hv => by simp at hv)
section
variable {w : World} {X : Nat → Prop}
theorem onlyIf_inv {c : Bool} {K : Unit → Prop} (h : onlyIf c K) : c = true ∧ K () := by
  cases c
  · exact h.elim
  · exact ⟨rfl, h⟩

theorem simL_len {f : AVal → AVal → Prop} : ∀ {xs ys : List AVal}, simL f xs ys → xs.length = ys.length
  | [], [], _ => rfl
  | [x], [y], _ => rfl
  | x :: x' :: xs, y :: y' :: ys, h => by
    have := simL_len (xs := x' :: xs) (ys := y' :: ys) h.2
    simpa using this
  | [], _ :: _, h => by simp [simL] at h
  | _ :: _, [], h => by simp [simL] at h
  | [_], _ :: _ :: _, h => by simp [simL] at h
  | _ :: _ :: _, [_], h => by simp [simL] at h
theorem simL_at {f : AVal → AVal → Prop} : ∀ {xs ys : List AVal}, simL f xs ys → ∀ (j : Nat) (x y : AVal), xs[j]? = some x → ys[j]? = some y → f x y
  | [], [], _, j, x, y, hx, _ => by simp at hx
  | [a], [b], h, j, x, y, hx, hy => by
    cases j with
    | zero => simp at hx hy; subst hx; subst hy; exact h
    | succ j => simp at hx
  | a :: a' :: xs, b :: b' :: ys, h, j, x, y, hx, hy => by
    cases j with
    | zero => simp at hx hy; subst hx; subst hy; exact h.1
    | succ j => exact simL_at (xs := a' :: xs) (ys := b' :: ys) h.2 j x y (by simpa using hx) (by simpa using hy)
  | [], _ :: _, h, _, _, _, _, _ => by simp [simL] at h
  | _ :: _, [], h, _, _, _, _, _ => by simp [simL] at h
  | [_], _ :: _ :: _, h, _, _, _, _, _ => by simp [simL] at h
  | _ :: _ :: _, [_], h, _, _, _, _, _ => by simp [simL] at h

theorem rep_simL {d : Nat} {ρ : Nat → Option Nat} (ih : ∀ {x y : AVal} {v : Value}, simD d x y → Rep w X ρ v x → Rep w X ρ v y) {vs : List Value} {cs ds : List AVal} (h : simL (simD d) cs ds) (hr : RepL w X ρ vs cs) : RepL w X ρ vs ds := by
  refine RepL.mk' (hr.length.trans (simL_len h)) fun j v y hv hy => ?_
  have hl := simL_len h
  have : j < cs.length := by
    rw [hl]
    exact (List.getElem?_eq_some_iff.1 hy).1
  exact ih (simL_at h j _ y (List.getElem?_eq_getElem this) hy) (hr.at j v _ hv (List.getElem?_eq_getElem this))

theorem rep_sim : ∀ (d : Nat) {ρ : Nat → Option Nat} {x y : AVal} {v : Value}, simD d x y → Rep w X ρ v x → Rep w X ρ v y := by
  intro d
  induction d with
  | zero => intro ρ x y v h; exact h.elim
  | succ d ih =>
    intro ρ x y v h hr
    unfold simD at h
    split at h
    · obtain ⟨h1, rfl⟩ := onlyIf_inv h; obtain rfl := of_decide_eq_true h1; rw [hr.i_inv]; exact .i _ _
    · obtain ⟨h1, rfl⟩ := onlyIf_inv h; obtain rfl := of_decide_eq_true h1; rw [hr.i_inv]; exact .s _ _
    · obtain ⟨h1, rfl⟩ := onlyIf_inv h; obtain rfl := of_decide_eq_true h1; rw [hr.s_inv]; exact .i _ _
    · obtain ⟨h1, rfl⟩ := onlyIf_inv h; obtain rfl := of_decide_eq_true h1; rw [hr.s_inv]; exact .s _ _
    · subst h; rw [hr.b_inv]; exact .b _
    · subst h; rw [hr.b_inv]; exact .sb _
    · subst h; rw [hr.sb_inv]; exact .b _
    · subst h; rw [hr.sb_inv]; exact .sb _
    · rw [hr.v_inv]; exact .lst0 _ _ _
    · subst h; exact hr
    · obtain ⟨vs, rfl, hl⟩ := hr.agg_inv
      exact (rep_simL (ρ := ρ) ih h hl).agg
    · obtain ⟨vs, rfl, hl⟩ := hr.tup_inv
      exact (rep_simL (ρ := ρ) ih h hl).tup
    · obtain ⟨rfl, rfl⟩ := h; exact hr
    · obtain ⟨rfl, h⟩ := h
      cases hr with
      | lst m blk off n cap vs _ hX hb hra hn hl hh =>
        have hr2 := rep_simL (ρ := noρ) ih h (RepL.mk' hl hh)
        exact .lst _ blk off _ cap vs _ hX hb hra hn hr2.length hr2.at
      | lst0 m a cap =>
        have := simL_len h
        cases hd : ‹List AVal› with
        | nil => exact .lst0 _ _ _
        | cons => simp_all
    · obtain ⟨rfl, h⟩ := h
      cases hr with
      | ref blk base off vs _ hX hb hra hl hh =>
        have hr2 := rep_simL (ρ := noρ) ih h (RepL.mk' hl hh)
        exact .ref blk base _ vs _ hX hb hra hr2.length hr2.at
    · obtain ⟨rfl, rfl⟩ := h; exact hr
    · obtain ⟨rfl, rfl, rfl, rfl⟩ := h
      cases hr with
      | osl m id off n sz blk cap h hn ht => exact .osl _ _ _ _ _ blk cap h hn ht
      | osl0 m id off sz a => exact .osl0 _ _ _ _ _
    · cases hr
    · exact h.elim
    · exact .any _
    · obtain ⟨rfl, h⟩ := h
      obtain ⟨u, rfl, hu⟩ := hr.ifc_inv
      exact .ifc _ _ _ (ih h hu)
    · obtain ⟨rfl, h1, h2⟩ := h
      obtain ⟨vs, us, rfl, ha, hc⟩ := hr.fn_inv
      have r1 := rep_simL (ρ := ρ) ih h1 ha
      have r2 := rep_simL (ρ := ρ) ih h2 hc
      exact .fn _ vs us _ _ r1.length r1.at r2.length r2.at
    · exact h.elim
theorem Rep.sim {ρ : Nat → Option Nat} {x y : AVal} {v : Value} (h : Sim x y) (hr : Rep w X ρ v x) : Rep w X ρ v y := rep_sim 12 h hr
theorem RepL.sim {ρ : Nat → Option Nat} {xs ys : List AVal} {vs : List Value} (h : SimL xs ys) (hr : RepL w X ρ vs xs) : RepL w X ρ vs ys := rep_simL (ρ := ρ) (rep_sim 12) h hr
end

theorem simH_len : ∀ {h h' : List Blk}, SimH h h' → h.length = h'.length
  | [], [], _ => rfl
  | [x], [y], _ => rfl
  | x :: x' :: xs, y :: y' :: ys, h => by
    have := simH_len (h := x' :: xs) (h' := y' :: ys) h.2
    simpa using this
  | [], _ :: _, h => by simp [SimH] at h
  | _ :: _, [], h => by simp [SimH] at h
  | [_], _ :: _ :: _, h => by simp [SimH] at h
  | _ :: _ :: _, [_], h => by simp [SimH] at h
theorem simB_def : simB default default := rfl
theorem simH_at : ∀ {h h' : List Blk}, SimH h h' → ∀ i, simB (hget h i) (hget h' i)
  | [], [], _, _ => simB_def
  | [x], [y], h, i => by cases i with
    | zero => exact h
    | succ i => exact simB_def
  | x :: x' :: xs, y :: y' :: ys, h, i => by cases i with
    | zero => exact h.1
    | succ i => exact simH_at (h := x' :: xs) (h' := y' :: ys) h.2 i
  | [], _ :: _, h, _ => by simp [SimH] at h
  | _ :: _, [], h, _ => by simp [SimH] at h
  | [_], _ :: _ :: _, h, _ => by simp [SimH] at h
  | _ :: _ :: _, [_], h, _ => by simp [SimH] at h
theorem simB_marks {b b' : Blk} (h : simB b b') : b.live = b'.live ∧ b.wr = b'.wr := by
  unfold simB onlyIf at h
  split at h
  · rename_i h1; simpa using h1
  · exact h.elim
theorem simB_cells {b b' : Blk} (h : simB b b') (hl : b.live = true) : SimL b.cells b'.cells := by
  unfold simB onlyIf at h
  split at h
  · rw [hl] at h; exact h
  · exact h.elim
theorem simB_dead {b b' : Blk} (h : simB b b') (hl : b.live = false) : b = b' := by
  unfold simB onlyIf at h
  split at h
  · rw [hl] at h; exact h
  · exact h.elim
theorem simH_XX {X : Nat → Prop} {ρ : Nat → Option Nat} {h h' : List Blk} (hs : SimH h h') (b : Nat) : XX X ρ h b ↔ XX X ρ h' b := by
  unfold XX
  constructor
  · rintro (hb | ⟨i, h1, h2, h3⟩)
    · exact .inl hb
    · obtain ⟨e1, e2⟩ := simB_marks (simH_at hs i)
      exact .inr ⟨i, e1 ▸ h1, e2 ▸ h2, h3⟩
  · rintro (hb | ⟨i, h1, h2, h3⟩)
    · exact .inl hb
    · obtain ⟨e1, e2⟩ := simB_marks (simH_at hs i)
      exact .inr ⟨i, e1 ▸ h1, e2 ▸ h2, h3⟩
theorem HRel.sim {X : Nat → Prop} {ρ : Nat → Option Nat} {h h' : List Blk} {w : World} (hs : SimH h h') (hh : HRel X ρ h w) : HRel X ρ h' w := by
  have mk := fun i => simB_marks (simH_at hs i)
  refine ⟨fun i j b h1 h2 => hh.inj i j b (by rw [(mk i).1]; exact h1) (by rw [(mk j).1]; exact h2), fun i h1 => ?_, fun i hi => hh.dom i (by rw [simH_len hs]; exact hi), fun i d hm => hh.res i d (by rw [simB_dead (simH_at hs i) (by rw [(mk i).1, hm]; rfl), hm])⟩
  have hl : (hget h i).live = true := by rw [(mk i).1]; exact h1
  have hc := simB_cells (simH_at hs i) hl
  rcases hh.blk i hl with ⟨b, vs, e1, e2, e3, e4, e5, e6⟩ | ⟨e1, e2⟩
  · exact .inl ⟨b, vs, e1, e2, e3, e4, e5, (e6.sim hc).weaken fun b hb => (simH_XX hs b).2 hb⟩
  · refine .inr ⟨e1, ?_⟩
    have := simL_len hc
    rw [e2] at this
    exact List.eq_nil_of_length_eq_zero this.symm
theorem isPad_eq {b : Blk} (h : isPad b = true) : b = ⟨false, true, []⟩ := by
  obtain ⟨l, r, c⟩ := b
  unfold isPad at h
  cases l <;> cases r <;> cases c <;> simp at h ⊢
theorem onlyIf_elim {c : Bool} {K : Unit → Prop} (h : onlyIf c K) : c = true ∧ K () := by
  cases c
  · exact h.elim
  · exact ⟨rfl, h⟩
theorem simK_len : ∀ {h h' : List Blk}, SimK h h' → h.length ≤ h'.length
  | [], _, _ => Nat.zero_le _
  | [x], [y], _ => Nat.le_refl _
  | [x], y :: y' :: ys, h => by simp
  | x :: x' :: xs, y :: ys, h => by
    have := simK_len (h := x' :: xs) (h' := ys) (by cases ys <;> exact h.2)
    simpa using this
  | _ :: _, [], h => by simp [SimK] at h
theorem simK_pad : ∀ {h' : List Blk}, SimK [] h' → ∀ i, (hget h' i).live = false ∧ ∀ d, hget h' i ≠ mark d
  | [], _, i => ⟨rfl, fun d h => by have : (hget [] i).cells = (mark d).cells := by rw [h]
                                    cases this⟩
  | y :: ys, h, i => by
    have h := onlyIf_elim (show onlyIf (isPad y) fun _ => SimK [] ys from h)
    have e := isPad_eq h.1
    cases i with
    | zero =>
      have hy : hget (y :: ys) 0 = y := rfl
      rw [hy, e]
      exact ⟨rfl, fun d h => by cases h⟩
    | succ i => exact simK_pad (h' := ys) h.2 i
theorem simK_at : ∀ {h h' : List Blk}, SimK h h' → ∀ i, simK (hget h i) (hget h' i) ∨ (h.length ≤ i ∧ (hget h' i).live = false ∧ ∀ d, hget h' i ≠ mark d)
  | [], h', h, i => .inr ⟨Nat.zero_le _, simK_pad h i⟩
  | [x], [y], h, i => by cases i with
    | zero => exact .inl h
    | succ i => exact .inr ⟨by simp, simK_pad (h' := []) trivial i⟩
  | [x], y :: y' :: ys, h, i => by cases i with
    | zero => exact .inl h.1
    | succ i => exact .inr ⟨by simp, simK_pad (h' := y' :: ys) h.2 i⟩
  | x :: x' :: xs, y :: ys, h, i => by
    have h0 : simK x y ∧ SimK (x' :: xs) ys := by cases ys <;> exact h
    cases i with
    | zero => exact .inl h0.1
    | succ i =>
      rcases simK_at (h := x' :: xs) (h' := ys) h0.2 i with h1 | ⟨h1, h2⟩
      · exact .inl h1
      · exact .inr ⟨by simpa using h1, h2⟩
  | _ :: _, [], h, _ => by simp [SimK] at h
theorem simK_live {h h' : List Blk} (hs : SimK h h') (i : Nat) (hl : (hget h' i).live = true) : (hget h i).live = true ∧ (hget h i).wr = (hget h' i).wr ∧ SimL (hget h i).cells (hget h' i).cells := by
  rcases simK_at hs i with h1 | ⟨_, h1, _⟩
  · unfold simK at h1
    rw [hl] at h1
    obtain ⟨h2, h3⟩ := onlyIf_elim h1
    simp only [Bool.and_eq_true, beq_iff_eq] at h2
    exact ⟨h2.1, h2.2, h3⟩
  · rw [h1] at hl; cases hl
theorem simK_dead {h h' : List Blk} (hs : SimK h h') (i : Nat) (hi : i < h.length) (hl : (hget h i).live = false) : hget h' i = hget h i := by
  rcases simK_at hs i with h1 | ⟨h1, _⟩
  · unfold simK at h1
    cases hl' : (hget h' i).live with
    | true =>
      rw [hl', hl] at h1
      have h2 := (onlyIf_elim h1).1
      rw [Bool.false_and] at h2
      cases h2
    | false =>
      rw [hl', hl] at h1
      exact h1.symm
  · omega
theorem simK_mark {h h' : List Blk} (hs : SimK h h') (i d : Nat) (hm : hget h' i = mark d) : hget h i = mark d := by
  rcases simK_at hs i with h1 | ⟨_, _, h1⟩
  · unfold simK at h1
    rw [hm] at h1
    cases hl : (hget h i).live with
    | true =>
      rw [hl] at h1
      have h2 := (onlyIf_elim (show onlyIf (isPad (mark d)) fun _ => True from h1)).1
      cases h2
    | false =>
      rw [hl] at h1
      exact h1
  · exact (h1 d hm).elim
theorem simK_XX {X : Nat → Prop} {ρ : Nat → Option Nat} {h h' : List Blk} (hs : SimK h h') (b : Nat) : XX X ρ h' b → XX X ρ h b := by
  rintro (hb | ⟨i, h1, h2, h3⟩)
  · exact .inl hb
  · obtain ⟨e1, e2, _⟩ := simK_live hs i h1
    exact .inr ⟨i, e1, e2.trans h2, h3⟩
theorem HRel.simK {X : Nat → Prop} {ρ : Nat → Option Nat} {h h' : List Blk} {w : World} (hs : SimK h h') (hh : HRel X ρ h w) : HRel X ρ h' w := by
  refine ⟨fun i j b h1 h2 => hh.inj i j b (simK_live hs i h1).1 (simK_live hs j h2).1, fun i h1 => ?_, fun i hi => hh.dom i (Nat.le_trans (simK_len hs) hi), fun i d hm => hh.res i d (simK_mark hs i d hm)⟩
  obtain ⟨hl, _, hc⟩ := simK_live hs i h1
  rcases hh.blk i hl with ⟨b, vs, e1, e2, e3, e4, e5, e6⟩ | ⟨e1, e2⟩
  · exact .inl ⟨b, vs, e1, e2, e3, e4, e5, (e6.sim hc).weaken fun b hb => simK_XX hs b hb⟩
  · refine .inr ⟨e1, ?_⟩
    have := simL_len hc
    rw [e2] at this
    exact List.eq_nil_of_length_eq_zero this.symm
end Eng
