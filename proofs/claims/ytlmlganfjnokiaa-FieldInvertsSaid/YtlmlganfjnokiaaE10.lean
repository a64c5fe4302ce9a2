/- The engine, part 10: calls, and operations that read. -/
import Derived.Test.YtlmlganfjnokiaaE9
set_option linter.unusedSimpArgs false
set_option linter.unusedVariables false
namespace Eng
open Go

section
variable {P : Program} {T : Ty} {w w0 : World} {X : Nat → Prop} {ρ : Nat → Option Nat} {h : List Blk}

theorem outs_trees {Y Z : Nat → Prop} {N : List Nat} {vs : List Value} {xs : List AVal} (ho : Outs w0 w Y N vs xs) (hZ : ∀ b, Z b → b < w0.heap.size) (hZY : ∀ b, Z b → Y b) :
    RepL w Z noρ vs (noNewL xs) := by
  induction ho with
  | nil => exact .nil
  | tree v x h _ ih =>
    refine .cons ?_ ih
    cases x <;> first | exact h.weaken hZY | cases h
  | new m n sz cap b us cs hb hb' hn hr ht ht' hu _ ih =>
    exact .cons ((hu.weaken hZY).lst (fun h' => by have := hZ b h'; omega) hb' hr hn) ih
  | new0 m sz a _ ih => exact .cons (.lst0 _ _ _) ih

theorem out_trees {Xc Z : Nat → Prop} {v : Value} {r : AVal} (ho : OutR w0 w Xc v r) (hZ : ∀ b, Z b → b < w0.heap.size) (hZY : ∀ b, Z b → Xc b) : Rep w Z noρ v (noNew r) := by
  rcases ho with ⟨N, vs, xs, rfl, rfl, _, ho⟩ | ⟨N, _, ho⟩
  · exact (outs_trees ho hZ (fun b hb => .inl (hZY b hb))).tup
  · have := outs_trees ho hZ (fun b hb => .inl (hZY b hb))
    cases this with
    | cons h1 _ =>
      cases r <;> try (exact h1)
      rename_i xs
      cases ho with
      | tree _ _ h _ => 
        obtain ⟨us, rfl, hu⟩ := h.tup_inv
        refine RepL.tup ?_
        have : ∀ {us : List Value} {xs : List AVal}, RepL w (fun b => Xc b ∨ b ∈ N) noρ us xs → RepL w Z noρ us (noNewL xs) := by
          intro us xs hu
          induction hu with
          | nil => exact .nil
          | cons h _ ih =>
            refine .cons ?_ ih
            rename_i v x vs xs _
            cases x <;> first | exact h.weaken (fun b hb => .inl (hZY b hb)) | cases h
        exact this hu

theorem noNew_flat {r : AVal} (hr : r.flat = true) : noNew r = r := by
  have h1 : ∀ x : AVal, x.plain = true → noNew1 x = x := by intro x hx; cases x <;> first | rfl | (simp [AVal.plain] at hx)
  cases r <;> first
    | rfl
    | (simp [AVal.flat, AVal.plain] at hr; done)
    | skip
  rename_i vs
  simp only [noNew]
  congr 1
  simp only [AVal.flat] at hr
  induction vs with
  | nil => rfl
  | cons x vs ih =>
    simp only [flatL, Bool.and_eq_true] at hr
    simp only [noNewL]
    rw [ih hr.2]
    congr 1
    cases x <;> first | rfl | (simp [AVal.plain] at hr)

theorem HRel.lt (hh : HRel X ρ h w) (hold : ∀ b, X b → b < w.heap.size) {b : Nat} (hb : XX X ρ h b) : b < w.heap.size := by
  rcases hb with hb | ⟨i, h1, h2, h3⟩
  · exact hold b hb
  · rcases hh.blk i h1 with ⟨b', vs, h4, h5, _⟩ | ⟨h4, _⟩
    · rw [h4] at h3; cases h3; exact h5
    · rw [h4] at h3; cases h3

/-- A call comes to its function. -/
theorem callee_run (hT : TyOk P T) {o : Oper} {c : Call} (hop : o.op = .call c) {a : Act} {e : Operand → AVal} (he : ∀ x, Rep w X ρ (a.eval x) (e x)) {f : FuncId} {args : List AVal} (hc : callee T e c = some (f, args)) :
    ∃ vs, RepL w X ρ vs args ∧ ∀ (next : Act → World → Prop) (Q : Exit → Act → World → Prop), CallsX P f vs.toArray w (fun v w' => next (a.put o.dst v) w') → o.wp P a w next Q := by
  obtain ⟨dst, op, ty, pos, after, guard⟩ := o
  subst hop
  have fin : ∀ (vs : List Value) (next : Act → World → Prop) (Q : Exit → Act → World → Prop), (execOp a.eval { dst := dst, op := .call c, type := ty, pos := pos, after := after, guard := guard }).run P w = (callFunc f vs.toArray).run P w →
      CallsX P f vs.toArray w (fun v w' => next (a.put dst v) w') → ({ dst := dst, op := .call c, type := ty, pos := pos, after := after, guard := guard } : Oper).wp P a w next Q := by
    intro vs next Q h1 h2
    unfold Oper.wp
    rw [h1]
    unfold CallsX at h2
    split at h2
    · rename_i v w' hr; rw [hr]; exact h2
    · rename_i g as w' hr
      rw [hr]
      exact h2.mono fun e w'' ⟨v, he, hR⟩ => by subst he; exact hR
    · exact h2.elim
  obtain ⟨cal, cargs, cty⟩ := c
  unfold callee at hc
  cases cal with
  | value g =>
    simp only at hc
    have hg := he g
    generalize e g = y at hc hg
    split at hc <;> try (cases hc; done)
    rename_i f' first cap
    cases hc
    obtain ⟨us, ws, hv, hu, hw⟩ := hg.fn_inv
    refine ⟨us ++ cargs.toList.map a.eval ++ ws, ?_, ?_⟩
    · simp only [app_eq]
      rw [List.append_assoc]
      exact hu.append ((RepL.mapE he cargs.toList).append hw)
    · intro next Q hcx
      refine fin _ next Q ?_ hcx
      simp only [execOp, resolve, hv, Deferred.ofValue, Sem.run_bind, Sem.run_pure, Result.andThen_ok, invoke]
      congr 2
      apply Array.ext'; simp
  | invoke r name =>
    simp only at hc
    have hg := he r
    generalize e r = y at hc hg
    split at hc <;> try (cases hc; done)
    rename_i t x
    cases hm : T.meth t name with
    | none => rw [hm] at hc; simp at hc
    | some g =>
      rw [hm] at hc
      simp at hc
      obtain ⟨rfl, rfl⟩ := hc
      obtain ⟨u, hv, hu⟩ := hg.ifc_inv
      have hmr := hT.meth t name g hm u w
      refine ⟨u :: cargs.toList.map a.eval, .cons hu (RepL.mapE he cargs.toList), ?_⟩
      intro next Q hcx
      refine fin _ next Q ?_ hcx
      simp only [execOp, resolve, hv, Sem.run_bind, Sem.run_pure, Result.andThen_ok, invoke]
      have h0 : (#[Value.iface t u] ++ Array.map a.eval cargs)[0]? = some (.iface t u) := by rw [Array.getElem?_append_left (by simp)]; rfl
      simp only [h0, Sem.run_bind, Sem.run_pure, Result.andThen_ok, callMethod, run_program, hmr]
      congr 2
      apply Array.ext'; simp
      exact List.take_of_length_le (by simp)
  | builtin b => simp at hc

/-- The contract at a call, from the caller's side. -/
theorem call_spec (hh : HRel X ρ h w) (hold : ∀ b, X b → b < w.heap.size) {f : FuncId} {args args' : List AVal} {vs : List Value} {r : AVal} {R : Value → World → Prop}
    (hv : RepL w (XX X ρ h) ρ vs args) (hs : snapL (snap h depth) args = some args') (hsp : Spec P f args' r)
    (hR : ∀ v w', Ext (fun _ => False) w w' → OutR w w' (XXm X ρ h (idsL (ids h depth) args)) v r → R v w') : CallsX P f vs.toArray w R := by
  have hv' : RepL w (XXm X ρ h (idsL (ids h depth) args)) noρ vs args' :=
    snapL_sound (f := snap h depth) (g := ids h depth) (fun x y v h1 h2 h3 => snap_sound hh depth x y v _ h1 h2 h3) args args' vs hs hv (fun _ h => h)
  exact (hsp _ w vs (fun b hb => hh.lt hold (XXm_XX hb)) hv').mono fun v w' ⟨h1, h2⟩ => hR v w' h1 h2

theorem value_wp {o : Oper} {a : Act} {v : Value} {w' : World} {next : Act → World → Prop} {Q : Exit → Act → World → Prop} (h1 : (execOp a.eval o).run P w = .ok (.value v) w') (h2 : next (a.put o.dst v) w') : o.wp P a w next Q := by
  unfold Oper.wp; rw [h1]; exact h2

theorem HRel.read (hh : HRel X ρ h w) {id blk : Nat} (hl : (hget h id).live = true) (hρ : ρ id = some blk) :
    ∃ vs, blk < w.heap.size ∧ w.rangeAt blk 0 vs ∧ w.there blk 0 vs.length ∧ RepL w (XX X ρ h) ρ vs (hget h id).cells := by
  rcases hh.blk id hl with ⟨b, us, hb, hlt, hX, hra, hth, hus⟩ | ⟨hn, _⟩
  · rw [hb] at hρ; cases hρ; exact ⟨us, hlt, hra, hth, hus⟩
  · rw [hn] at hρ; cases hρ
end
end Eng
