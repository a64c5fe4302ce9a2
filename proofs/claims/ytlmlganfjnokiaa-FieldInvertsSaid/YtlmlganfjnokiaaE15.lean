/- The engine, part 15: an operation, a region. -/
import Derived.Test.YtlmlganfjnokiaaE14
import Derived.OrdersIn
import Derived.RangeFuncIn
set_option linter.unusedSimpArgs false
set_option linter.unusedVariables false
namespace Eng
open Go

section
variable {P : Program} {T : Ty} {w w' : World} {X O : Nat → Prop} {w0 : World} {ρ : Nat → Option Nat} {h : List Blk}

theorem alen_sound (hT : TyOk P T) (o : Oper) {c : Call} (hop : o.op = .call c) (hb : c.callee = .builtin .len) {e : Operand → AVal} {ρ' : Operand → Value} {K : AVal → Prop} (he : ∀ x, Rep w X ρ (ρ' x) (e x)) (hq : alen Ar.real T c e K) :
    ∃ r z, (execOp ρ' o).run P w = .ok (.value r) w ∧ Rep w X ρ r z ∧ K z := by
  obtain ⟨dst, op, ty, pos, after, guard⟩ := o
  obtain ⟨cal, ⟨cargs⟩, ⟨cty⟩⟩ := c
  simp only at hop hb
  subst hop; subst hb
  unfold alen at hq
  cases cty with
  | nil => simp at hq
  | cons t cty =>
    cases cargs with
    | nil => simp at hq
    | cons x cargs =>
      simp only [List.getElem?_toArray, List.getElem?_cons_zero] at hq
      have hx := he x
      have hex : ∀ v, (Builtin.len_ (t :: cty).toArray ty ((ρ' x :: cargs.map ρ').toArray)).run P w = .ok v w →
          (execOp ρ' { dst := dst, op := .call { callee := .builtin .len, args := (x :: cargs).toArray, argTypes := (t :: cty).toArray }, type := ty, pos := pos, after := after, guard := guard }).run P w = .ok (.value v) w := by
        intro v h1
        simp only [execOp, resolve, invoke, builtin, Sem.run_bind, Sem.run_pure, Result.andThen_ok, List.map_toArray, List.map_cons, h1]
      generalize e x = y at hq hx
      split at hq <;> try (exact hq.elim)
      · rename_i n el ht
        refine ⟨_, _, hex (goInt n) ?_, .i _ _, hq⟩
        simp only [Builtin.len_, List.getElem?_toArray, List.getElem?_cons_zero, Sem.run_bind, run_underlying (hT.arr t n el ht), Result.andThen_ok]
        cases ρ' x <;> simp
      · rename_i el m ht
        have hv := hx.v_inv
        refine ⟨_, _, hex (goInt 0) ?_, .i _ _, hq⟩
        rw [hv]
        simp only [Builtin.len_, List.getElem?_toArray, List.getElem?_cons_zero, Sem.run_bind, run_underlying (hT.slice t el ht), Result.andThen_ok, Sem.run_pure]
        rfl
      · rename_i el m n cs ht
        have hv : ∃ a cap, ρ' x = .slice a n cap := by
          rcases hx.lst_inv with ⟨blk, off, cap, vs, hv, _⟩ | ⟨rfl, _, a, cap, hv⟩
          · exact ⟨_, _, hv⟩
          · exact ⟨_, _, hv⟩
        obtain ⟨a, cap, hv⟩ := hv
        have h1 : (Builtin.len_ (t :: cty).toArray ty ((ρ' x :: cargs.map ρ').toArray)).run P w = .ok (goInt n) w := by
          rw [hv]
          simp only [Builtin.len_, List.getElem?_toArray, List.getElem?_cons_zero, Sem.run_bind, run_underlying (hT.slice t el ht), Result.andThen_ok, Sem.run_pure]
        cases m
        · exact ⟨_, _, hex _ h1, .i _ _, hq⟩
        · exact ⟨_, _, hex _ h1, .s _ _, hq⟩
      · rename_i el m id off n sz ht
        have hv : ∃ a cap, ρ' x = .slice a n cap := by
          rcases hx.osl_inv with ⟨blk, cap, hv, _⟩ | ⟨rfl, a, hv⟩
          · exact ⟨_, _, hv⟩
          · exact ⟨_, _, hv⟩
        obtain ⟨a, cap, hv⟩ := hv
        have h1 : (Builtin.len_ (t :: cty).toArray ty ((ρ' x :: cargs.map ρ').toArray)).run P w = .ok (goInt n) w := by
          rw [hv]
          simp only [Builtin.len_, List.getElem?_toArray, List.getElem?_cons_zero, Sem.run_bind, run_underlying (hT.slice t el ht), Result.andThen_ok, Sem.run_pure]
        cases m
        · exact ⟨_, _, hex _ h1, .i _ _, hq⟩
        · exact ⟨_, _, hex _ h1, .s _ _, hq⟩
      · rename_i s ht
        have hv := hx.v_inv
        refine ⟨_, _, hex (goInt s.size) ?_, .s _ _, hq⟩
        rw [hv]
        simp only [Builtin.len_, List.getElem?_toArray, List.getElem?_cons_zero, Sem.run_bind, run_underlying (hT.str t ht), Result.andThen_ok, Sem.run_pure]

theorem fz_room (r : Option Nat) (n : Nat) : (fz r).room n := fun _ h => by simp [fz, Fence.wide] at h
theorem fz_depth (r : Option Nat) (n : Nat) : (fz r).depth.isSome = true → 1 ≤ n := fun h => by simp [fz, Fence.wide] at h

theorem op_in {o : Oper} {a : Act} {next : Act → World → Prop} {Q : Exit → Act → World → Prop} (r : Option Nat) (hd : ∀ c, o.op ≠ .defer c) (h : o.wp P a w next Q) : o.wpIn (fz r) 1 P a w next Q := by
  refine ⟨fun f _ => trivial, ?_⟩
  rw [Oper.semAt_eq _ _ _ hd]
  unfold Oper.wp at h
  generalize (execOp a.eval o).run P w = res at h
  cases res with
  | ok x w' =>
    cases x with
    | value v => exact h
    | skip => exact h
    | defer d => exact h
    | enter f args =>
      refine ⟨fz_depth r _, ?_⟩
      have := (callsIn_wide (n := 0)).2 h
      exact this
    | row row args =>
      refine ⟨fz_depth r _, fun c cs _ => ?_⟩
      obtain ⟨v, w'', h1, h2⟩ := h c cs
      exact ⟨v, w'', h1, stepsIn_wide.2 h2⟩
    | round => exact h.elim
    | _ => exact h.elim
  | halt x w' => cases x <;> first | exact h | exact h.elim

/-- What is asked of what is said of the way. -/
structure HistOK (P : Program) (Sp : SpecT) (Hi : Hist) : Prop where
  step : ∀ {X ρ h w ρ' h' w'}, Hi X ρ h w → Step X ρ h w ρ' h' w' → Hi X ρ' h' w'
  yield : ∀ {X ρ i w us}, Hi X ρ (ghost i) w → i < Sp.n → (∀ b, X b → b < w.heap.size) → RepL w X noρ us (Sp.xs i) → YieldAt (fz none) 1 P Sp.l us.toArray w fun e W' =>
      e = .returned (.bool true) ∧ ∃ X', Hi X' ρ (ghost (i + 1)) W' ∧ (∀ b, X' b → b < W'.heap.size) ∧ w.heap.size ≤ W'.heap.size ∧ ∀ ρ v x, Rep w X ρ v x → Rep W' X' ρ v x

theorem ghost_live (i j : Nat) : (hget (ghost i) j).live = false := by
  cases j <;> rfl
theorem XX_ghost {i : Nat} {b : Nat} : XX X ρ (ghost i) b ↔ X b := by
  refine ⟨fun h => ?_, .inl⟩
  rcases h with h | ⟨j, h, _⟩
  · exact h
  · rw [ghost_live] at h; cases h

theorem aop_sound (hT : TyOk P T) {Sp : SpecT} (hS : SpOK P Sp) (tree : Md) (o : Oper) (a : Act) {s : St} {K : AVal → List Blk → Prop} (hh : HRel X ρ s.heap w) (hold : ∀ b, X b → b < w.heap.size) (he : ∀ x, Rep w (XX X ρ s.heap) ρ (a.eval x) (ev s x))
    (hy : ¬ (cls tree o.op = .e ∧ (yieldOf (ev s) o.op).isSome = true)) (hq : aop Ar.real T Sp tree o s K) {next : Act → World → Prop} {Q : Exit → Act → World → Prop}
    (hn : ∀ v y h' ρ' w', K y h' → Step X ρ s.heap w ρ' h' w' → Rep w' (XX X ρ' h') ρ' v y → next (a.put o.dst v) w') : o.wp P a w next Q := by
  have pure : ∀ (K' : AVal → Prop), (∃ r z, (execOp a.eval o).run P w = .ok (.value r) w ∧ Rep w (XX X ρ s.heap) ρ r z ∧ K' z) → (∀ y, K' y → K y s.heap) → o.wp P a w next Q := by
    rintro K' ⟨r, z, h1, h2, h3⟩ h4
    exact value_wp h1 (hn r z s.heap ρ w (h4 z h3) (Step.refl hh) h2)
  unfold aop at hq
  split at hq
  · rename_i hc
    split at hq
    · rename_i c hop
      have hl : c.callee = .builtin .len := by
        rw [hop] at hc
        obtain ⟨cal, cargs, cty⟩ := c
        cases cal with
        | builtin b => cases b <;> first | rfl | (simp [cls] at hc; done) | (cases tree <;> simp [cls] at hc)
        | _ => cases tree <;> simp [cls] at hc
      exact pure _ (alen_sound hT o hop hl he hq) (fun _ h => h)
    · exact pure _ (aopP_sound hT o he hq) (fun _ h => h)
  · exact aopQ_sound hT hS o a hh hold he hq (fun v y l w' hk hs hr => hn v y _ ρ w' hk hs hr)
  · rename_i hc
    split at hq
    · rename_i l args hy'; exact (hy ⟨hc, by rw [hy']; rfl⟩).elim
    · exact aopE_sound hT hS o a hh hold he hq (fun v y h' ρ' w' hk hs hr => hn v y h' ρ' w' hk hs hr)
  · exact aopR_sound hT o a hh hold hq (fun v y h' ρ' w' hk hs hr => hn v y h' ρ' w' hk hs hr)

def RelE (P : Program) (B : Nat) (Hi : Hist) (s : St) (a : Act) (w : World) : Prop := ∃ X ρ, Rel P B Hi X ρ s a w

theorem put_tmps_len (s : St) (d : Option Tmp) (y : AVal) : (put s d y).tmps.length = s.tmps.length := by
  cases d <;> simp [put, lset_eq]
theorem put_heap (s : St) (d : Option Tmp) (y : AVal) : (put s d y).heap = s.heap := by cases d <;> rfl

theorem Marks.step {B : Nat} {ds : List Deferred} {h h' : List Blk} {ρ' : Nat → Option Nat} (hm : Marks B ρ h ds w) (st : Step X ρ h w ρ' h' w') : Marks B ρ' h' ds w' := by
  refine ⟨hm.nodup, fun d hd => ?_⟩
  obtain ⟨D, h1, h2, h3, h4⟩ := hm.is d hd
  have hlt : D < w.heap.size := by
    rcases Nat.lt_or_ge D w.heap.size with h' | h'
    · exact h'
    · rw [Array.getElem?_eq_none h'] at h3; cases h3
  refine ⟨D, h1, h2, ?_, fun i e1 e2 e3 => ?_⟩
  · rw [st.ext.block D hlt (by rintro ⟨i, e1, e2, e3⟩; exact h4 i e1 e2 e3)]; exact h3
  · rcases st.new i D e1 e2 e3 with h5 | ⟨j, j1, j2, j3⟩
    · omega
    · exact h4 j j1 j2 j3

theorem put_rel {s : St} {a : Act} {h' : List Blk} {ρ' : Nat → Option Nat} {X' : Nat → Prop} (hz : a.tmps.size = s.tmps.length) (hc : ∀ (t : Nat) (v : Value) (x : AVal), a.tmps[t]? = some v → lget s.tmps t = some x → Rep w' (XX X' ρ' h') ρ' v x)
    (d : Option Tmp) {v : Value} {y : AVal} (hy : Rep w' (XX X' ρ' h') ρ' v y) :
    (a.put d v).tmps.size = (put ⟨s.tmps, h'⟩ d y).tmps.length ∧ ∀ (t : Nat) (u : Value) (x : AVal), (a.put d v).tmps[t]? = some u → lget (put ⟨s.tmps, h'⟩ d y).tmps t = some x → Rep w' (XX X' ρ' h') ρ' u x := by
  have hsz : ∀ d v, (a.put d v).tmps.size = a.tmps.size := by intro d v; cases d <;> simp [Act.put]
  refine ⟨by rw [hsz, put_tmps_len]; exact hz, ?_⟩
  intro t u x hu hx
  cases d with
  | none => exact hc t u x hu hx
  | some d =>
    simp only [Act.put, put] at hu hx
    rw [lset_eq, lget_eq] at hx
    by_cases e : d = t
    · subst e
      have hlt : d < a.tmps.size := by
        rcases Nat.lt_or_ge d a.tmps.size with h' | h'
        · exact h'
        · rw [Array.getElem?_eq_none (by simpa using h')] at hu; cases hu
      have hlt' : d < s.tmps.length := by rw [← hz]; exact hlt
      rw [Array.getElem?_setIfInBounds_self_of_lt hlt] at hu
      rw [List.getElem?_set_self hlt'] at hx
      cases hu; cases hx
      exact hy
    · rw [Array.getElem?_setIfInBounds_ne e] at hu
      rw [List.getElem?_set_ne e, ← lget_eq] at hx
      exact hc t u x hu hx

theorem put_defers (a : Act) (d : Option Tmp) (v : Value) : (a.put d v).defers = a.defers := by cases d <;> rfl

theorem Rel.step {B : Nat} {Hi : Hist} {Sp : SpecT} (hHi : HistOK P Sp Hi) {s : St} {a : Act} (hr : Rel P B Hi X ρ s a w) {ρ' : Nat → Option Nat} {h' : List Blk} (st : Step X ρ s.heap w ρ' h' w') (d : Option Tmp) {v : Value} {y : AVal} (hy : Rep w' (XX X ρ' h') ρ' v y) :
    Rel P B Hi X ρ' (put ⟨s.tmps, h'⟩ d y) (a.put d v) w' := by
  obtain ⟨h1, h2⟩ := put_rel (s := s) (a := a) hr.size (fun t v x hv hx => st.carry v x (hr.tmps t v x hv hx)) d hy
  refine ⟨by rw [put_heap]; exact st.heap, h1, by rw [put_heap]; exact h2, ?_, fun b hb => Nat.lt_of_lt_of_le (hr.lt b hb) st.ext.size, Nat.le_trans hr.base st.ext.size, ?_⟩
  · rw [put_heap, put_defers]; exact hr.marks.step st
  · rw [put_heap]; exact hHi.step hr.hist st

theorem aops_cons {A : Ar} {Sp : SpecT} {tree : Md} {all : List Oper} {o : Oper} {os : List Oper} {s : St} {K : St → Prop} :
    aops A T Sp tree all (o :: os) s K = astep A T Sp tree all o s fun s' => aops A T Sp tree all os s' K := rfl

theorem dstOf_eq : ∀ (all : List Oper) (j : Nat), dstOf all j = (all[j]?).bind (·.dst)
  | [], _ => by simp [dstOf]
  | o :: l, 0 => by simp [dstOf]
  | o :: l, j + 1 => by simp [dstOf, dstOf_eq l j]

theorem ghost_heap {i : Nat} {w : World} (hd : ∀ j, 1 ≤ j → ρ j = none) : HRel X ρ (ghost i) w :=
  ⟨fun j k b h => (by rw [ghost_live] at h; cases h), fun j h => (by rw [ghost_live] at h; cases h), fun j hj => hd j hj, fun j d hm => by cases j with | zero => cases hm | succ j => cases hm⟩

theorem yield_sound {B : Nat} {Hi : Hist} {Sp : SpecT} (hHi : HistOK P Sp Hi) {o : Oper} {s : St} {a : Act} {K : AVal → List Blk → Prop} {l : Nat} {args : List AVal} (hr : Rel P B Hi X ρ s a w) (hds : a.defers = []) (hy : yieldOf (ev s) o.op = some (l, args))
    (hq : optK (snapL (snap s.heap depth) args) fun args' => AYield Sp l s.heap args' K) {next : Act → World → Prop} {Q : Exit → Act → World → Prop} (r : Option Nat)
    (hn : ∀ y h' X' w' v, K y h' → Rel P B Hi X' ρ (put ⟨s.tmps, h'⟩ o.dst y) (a.put o.dst v) w' → next (a.put o.dst v) w') : o.wpIn (fz r) 1 P a w next Q := by
  have hq0 := optK_inv hq
  clear hq
  obtain ⟨args', hs, hq⟩ := hq0
  obtain ⟨dst, op, ty, pos, after, guard⟩ := o
  cases op <;> simp only [yieldOf] at hy <;> try (cases hy; done)
  rename_i c
  obtain ⟨cal, cargs, cty⟩ := c
  cases cal <;> simp only at hy <;> try (cases hy; done)
  rename_i g
  have hg := hr.ev g
  generalize ev s g = z at hy hg
  split at hy <;> try (cases hy; done)
  rename_i l' ca cb
  split at hy <;> try (cases hy; done)
  rename_i e1 e2
  cases hy
  obtain rfl : ca = #[] := by rw [← Array.toList_inj]; simpa using e1
  obtain rfl : cb = #[] := by rw [← Array.toList_inj]; simpa using e2
  have hg := hg.v_inv
  cases hq with
  | mk i hl hi hh ha hk =>
    subst hl
    have hv : RepL w (XX X ρ s.heap) ρ (cargs.toList.map a.eval) (cargs.toList.map (ev s)) := by
      have : ∀ l : List Operand, RepL w (XX X ρ s.heap) ρ (l.map a.eval) (l.map (ev s)) := by
        intro l
        induction l with
        | nil => exact .nil
        | cons x l ih => exact .cons (hr.ev x) ih
      exact this _
    have hv' := snapL_sound (f := snap s.heap depth) (g := ids s.heap depth) (fun x y v h1 h2 h3 => snap_sound hr.heap depth x y v _ h1 h2 h3) _ _ _ hs hv (fun _ h => h)
    have hv2 : RepL w X noρ (cargs.toList.map a.eval) (Sp.xs i) := by
      rw [← ha]
      refine hv'.weaken fun b hb => ?_
      exact .inl hb
    have hist := hr.hist
    rw [hh] at hist
    obtain ⟨fn, tmps, asg, body, h1, h2⟩ := hHi.yield hist hi hr.lt hv2
    refine ⟨fun f _ => trivial, ?_⟩
    rw [Oper.semAt_eq _ _ _ (by intro c; simp)]
    have hrun : (execOp a.eval { dst := dst, op := .call { callee := .value g, args := cargs, argTypes := cty }, type := ty, pos := pos, after := after, guard := guard }).run P w = (Instr.yield Sp.l (cargs.toList.map a.eval).toArray).run P w := by
      simp only [execOp, resolve, hg, Sem.run_bind, Sem.run_pure, Result.andThen_ok]
      simp [go_sem]
      congr 2
      rw [← Array.toList_inj]; simp
    rw [hrun, h1]
    refine ⟨fz_depth r _, ?_⟩
    have h3 : RoundIn (fz r) (1 - 1) P Sp.l fn tmps asg body w _ := ⟨trivial, fun c cs _ => h2.2 c cs (fz_room none _)⟩
    refine h3.mono ?_
    rintro e W' ⟨rfl, X', i1, i2, i3, i4⟩
    refine hn _ _ X' W' _ hk ?_
    have hd : ∀ j, 1 ≤ j → ρ j = none := fun j hj => hr.heap.dom j (by rw [hh]; exact hj)
    have hcar : ∀ (t : Nat) (v : Value) (x : AVal), a.tmps[t]? = some v → lget s.tmps t = some x → Rep W' (XX X' ρ (ghost (i + 1))) ρ v x := fun t v x hv hx => by
      have h5 := hr.tmps t v x hv hx
      rw [hh] at h5
      have h6 : Rep w X ρ v x := h5.weaken fun b hb => XX_ghost.2 hb
      exact (i4 ρ v x h6).weaken fun b hb => XX_ghost.1 hb
    obtain ⟨k1, k2⟩ := put_rel (s := s) (a := a) (w' := W') (X' := X') (ρ' := ρ) (h' := ghost (i + 1)) hr.size hcar dst (v := .bool true) (y := .b true) (.b _)
    refine ⟨by rw [put_heap]; exact ghost_heap hd, k1, by rw [put_heap]; exact k2, ?_, i2, Nat.le_trans hr.base i3, by rw [put_heap]; exact i1⟩
    rw [put_defers, hds]
    exact ⟨.nil, fun d hd => by cases hd⟩

theorem astep_sound (hT : TyOk P T) {B : Nat} {Hi : Hist} {Sp : SpecT} (hS : SpOK P Sp) (hHi : HistOK P Sp Hi) (r : Option Nat) {tree : Md} {ops : Array Oper} {i : Nat} {o : Oper} (ho : ops[i]? = some o) {s : St} {a : Act} {K : St → Prop} (hr : RelE P B Hi s a w) (hds : Sp.n = 0 ∨ a.defers = [])
    (hq : astep Ar.real T Sp tree ops.toList o s K) {next : Act → World → Prop} {Q : Exit → Act → World → Prop}
    (hn : ∀ s' a' w', a'.defers = a.defers → K s' → RelE P B Hi s' a' w' → next a' w') : wpOpIn (fz r) 1 P ops Q i next a w := by
  obtain ⟨X, ρ, hr⟩ := hr
  have hold : ∀ b, X b → b < w.heap.size := hr.lt
  have run : (aop Ar.real T Sp tree o s fun v h => K (put ⟨s.tmps, h⟩ o.dst v)) → o.wpIn (fz r) 1 P a w next Q := fun hq => by
    by_cases hy : cls tree o.op = .e ∧ (yieldOf (ev s) o.op).isSome = true
    · obtain ⟨hc, hy⟩ := hy
      obtain ⟨⟨l, args⟩, hy⟩ := Option.isSome_iff_exists.1 hy
      unfold aop at hq
      rw [hc] at hq
      simp only [hy] at hq
      have hds' : a.defers = [] := by
        rcases hds with h0 | h0
        · obtain ⟨args', _, hq'⟩ := optK_inv hq
          cases hq' with
          | mk i _ hi _ _ _ => omega
        · exact h0
      exact yield_sound hHi hr hds' hy hq r fun y h' X' w' v hk hr' => hn _ _ _ (put_defers _ _ _) hk ⟨X', ρ, hr'⟩
    · refine op_in r ?_ (aop_sound hT hS tree o a hr.heap hold (fun x => hr.ev x) hy hq fun v y h' ρ' w' hk hs hy => hn _ _ _ (put_defers _ _ _) hk ⟨X, ρ', hr.step hHi hs o.dst hy⟩)
      intro c hc
      unfold aop at hq
      obtain ⟨dst, op, ty, pos, after, guard⟩ := o
      simp only at hc
      subst hc
      simp only [cls, aopP] at hq
  have skip : K (put s o.dst (.tup [])) → next (a.put o.dst undef) w := fun hk => hn _ _ _ (put_defers _ _ _) hk ⟨X, ρ, hr.step hHi (Step.refl hr.heap) o.dst Rep.undef⟩
  unfold wpOpIn
  rw [ho]
  simp only
  unfold astep at hq
  cases hg : o.guard with
  | none =>
    rw [hg] at hq
    have : Region.wanted o (yielded ops a.tmps) = true := by simp [Region.wanted, hg]
    rw [if_pos this]
    exact run hq
  | some g =>
    obtain ⟨j, want⟩ := g
    rw [hg] at hq
    simp only at hq
    split at hq
    · exact hq.elim
    · rename_i d hd
      rw [dstOf_eq] at hd
      have hyv : ∀ t, (∃ x, lget s.tmps d = some x ∧ ((x = .b t) ∨ x = .sb t)) → yielded ops a.tmps j = some t := by
        rintro t ⟨x, hx, hxt⟩
        have hlt : d < s.tmps.length := by
          rw [lget_eq] at hx
          rcases Nat.lt_or_ge d s.tmps.length with h' | h'
          · exact h'
          · rw [List.getElem?_eq_none h'] at hx; cases hx
        have hlt' : d < a.tmps.size := by rw [hr.size]; exact hlt
        have h1 : a.tmps[d]? = some a.tmps[d] := Array.getElem?_eq_getElem hlt'
        have h2 := hr.tmps d _ x h1 hx
        have h3 : a.tmps[d] = .bool t := by
          rcases hxt with rfl | rfl
          · exact h2.b_inv
          · exact h2.sb_inv
        have hd' : (ops[j]?).bind (·.dst) = some d := by simpa using hd
        unfold yielded
        rw [hd']
        simp only [Option.bind_some, h1, h3]
      split at hq
      · rename_i t hx
        have hy := hyv t ⟨_, hx, .inl rfl⟩
        split at hq
        · rename_i he
          rw [if_pos (by simpa [Region.wanted, hg, hy] using he)]
          exact run hq
        · rename_i he
          rw [if_neg (by simpa [Region.wanted, hg, hy] using he)]
          exact ⟨fun f _ => trivial, skip hq⟩
      · rename_i t hx
        have hy := hyv t ⟨_, hx, .inr rfl⟩
        split at hq
        · cases hq with
          | mk hp hq =>
            cases t
            · rw [if_neg (by simp [Region.wanted, hg, hy])]; exact ⟨fun f _ => trivial, skip (hq rfl)⟩
            · rw [if_pos (by simp [Region.wanted, hg, hy])]; exact run (hp rfl)
        · cases hq with
          | mk hp hq =>
            cases t
            · rw [if_pos (by simp [Region.wanted, hg, hy])]; exact run (hq rfl)
            · rw [if_neg (by simp [Region.wanted, hg, hy])]; exact ⟨fun f _ => trivial, skip (hp rfl)⟩
      · rename_i hx
        have hlt : d < s.tmps.length := by
          rw [lget_eq] at hx
          rcases Nat.lt_or_ge d s.tmps.length with h' | h'
          · exact h'
          · rw [List.getElem?_eq_none h'] at hx; cases hx
        have hlt' : d < a.tmps.size := by rw [hr.size]; exact hlt
        have h1 : a.tmps[d]? = some a.tmps[d] := Array.getElem?_eq_getElem hlt'
        obtain ⟨vs, h3, h4⟩ := (hr.tmps d _ _ h1 hx).tup_inv
        cases h4
        have hd' : (ops[j]?).bind (·.dst) = some d := by simpa using hd
        have hy : yielded ops a.tmps j = none := by
          unfold yielded
          rw [hd']
          simp only [Option.bind_some, h1, h3]
        rw [if_neg (by simp [Region.wanted, hg, hy])]
        exact ⟨fun f _ => trivial, skip hq⟩
      · exact hq.elim

theorem aops_sound (hT : TyOk P T) {B : Nat} {Hi : Hist} {Sp : SpecT} (hS : SpOK P Sp) (hHi : HistOK P Sp Hi) (r : Option Nat) {tree : Md} {ops : Array Oper} {Q : Exit → Act → World → Prop} {K : St → Prop} {ds : List Deferred} (hds : Sp.n = 0 ∨ ds = []) (hn : ∀ s' a' w', a'.defers = ds → K s' → RelE P B Hi s' a' w' → Q .normal a' w') :
    ∀ (n i : Nat) (s : St) (a : Act) (w : World), i + n = ops.size → a.defers = ds → RelE P B Hi s a w → aops Ar.real T Sp tree ops.toList (ops.toList.drop i) s K → wpOpsIn (fz r) 1 P ops Q (List.range' i n) a w := by
  intro n
  induction n with
  | zero =>
    intro i s a w hi hd hr hq
    rw [List.drop_eq_nil_of_le (by simp; omega)] at hq
    exact hn s a w hd hq hr
  | succ n ih =>
    intro i s a w hi hd hr hq
    have hlt : i < ops.toList.length := by simp; omega
    rw [List.drop_eq_getElem_cons hlt, aops_cons] at hq
    rw [List.range'_succ, wpOpsIn_cons]
    have ho : ops[i]? = some (ops.toList[i]) := by simp at hlt; simp [hlt]
    exact astep_sound hT hS hHi r ho hr (by rw [hd]; exact hds) hq fun s' a' w' hd' hk hr' => ih (i + 1) s' a' w' (by omega) (hd'.trans hd) hr' hk
end
end Eng
