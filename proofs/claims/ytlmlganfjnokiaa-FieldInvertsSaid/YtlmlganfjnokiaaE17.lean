/- The engine, part 17: a function's contract out of its body. -/
import Derived.Test.YtlmlganfjnokiaaE16
import Derived.RangeFuncLeaves
set_option linter.unusedSimpArgs false
set_option linter.unusedVariables false
namespace Eng
open Go

section
variable {P : Program} {T : Ty}

theorem undefs_length : ∀ n, (undefs n).length = n
  | 0 => rfl
  | n + 1 => by simp [undefs, undefs_length n]
theorem undefs_rep {w : World} {X : Nat → Prop} {ρ : Nat → Option Nat} : ∀ n, RepL w X ρ (List.replicate n undef) (undefs n)
  | 0 => .nil
  | n + 1 => by rw [List.replicate_succ]; exact .cons Rep.undef (undefs_rep n)

theorem callFunc_body {f : FuncId} {fn : Func} (hf : P.funcs[f]? = some fn) (hn : (fn.name == "runtime.NumGoroutine") = false) (hb : fn.body.isNone = false) (args : Array Value) (w : World) :
    (callFunc f args).run P w = .ok (.enter f args) w := by
  have h1 : ¬ fn.name = "runtime.NumGoroutine" := by simpa using hn
  have h2 : ¬ fn.body = none := by intro e; rw [e] at hb; cases hb
  simp [callFunc, hf, h1, h2]

theorem leaves_of {ρ : Nat → Option Nat} {h : List Blk} {fn : Func} {tmps : Array Value} {R : Ending → World → Prop} {B : Nat} : ∀ (ds : List Deferred) (w : World), Marks B ρ h ds w → (∀ w', Calm B w w' → ∃ v, (results fn tmps).run P w' = .ok v w' ∧ R (.returned v) w') → LeavesInM (fz none) 1 P fn tmps R ds .returning w
  | [], w, _, hk => by
    simp only [LeavesInM, LeavesIn]
    exact hk w (Calm.refl B w)
  | d :: ds, w, hm, hk => by
    obtain ⟨D, h1, rfl, h3, h4⟩ := hm.is d (by simp)
    have hc : Calm B w (w.putObj D (.deferred none)) := Calm.putObj h1 h3 rfl
    refine ⟨by simp, .inl ⟨D, _, rfl, run_takeDeferred h3, leaves_of (ρ := ρ) (h := h) ds _ ⟨(List.nodup_cons.1 hm.nodup).2, fun d' hd' => ?_⟩ fun w' hc' => hk w' (hc.trans hc')⟩⟩
    obtain ⟨D', e1, e2, e3, e4⟩ := hm.is d' (by simp [hd'])
    refine ⟨D', e1, e2, ?_, e4⟩
    rw [World.putObj_heap_other, e3]
    rintro rfl
    exact (List.nodup_cons.1 hm.nodup).1 (by rw [e2] at hd'; exact hd')

theorem hget_nil (i : Nat) : hget [] i = default := rfl
theorem nil_live {i : Nat} (h : (hget ([] : List Blk) i).live = true) : False := by rw [hget_nil] at h; cases h

/-- What is known as a function is entered. -/
theorem enter_rel {X : Nat → Prop} {w : World} {ρ : Nat → Option Nat} {h : List Blk} {vs : List Value} {As : List AVal} (hX : ∀ b, X b → b < w.heap.size) (hh : HRel X ρ h w) (hv : RepL w (XX X ρ h) ρ vs As) (B n : Nat) {Hi : Hist} (hB : B ≤ w.heap.size) (hi : Hi X ρ h w) :
    Rel P B Hi X ρ ⟨app As (undefs (n - As.length)), h⟩ { tmps := vs.toArray ++ Array.replicate (n - vs.toArray.size) undef, defers := [] } w := by
  have hall : RepL w (XX X ρ h) ρ (vs ++ List.replicate (n - vs.length) undef) (app As (undefs (n - As.length))) := by
    rw [app_eq, ← hv.length]
    exact hv.append (undefs_rep _)
  have hlist : (vs.toArray ++ Array.replicate (n - vs.toArray.size) undef).toList = vs ++ List.replicate (n - vs.length) undef := by simp
  refine ⟨hh, ?_, ?_, marks_nil, hX, hB, hi⟩
  · have := hall.length
    rw [← hlist] at this
    simpa using this
  · intro t v x h1 h2
    rw [lget_eq] at h2
    refine hall.at t v x ?_ h2
    rw [← hlist, Array.getElem?_toList]
    exact h1

theorem callsX_of {f : FuncId} {fn : Func} {c : Code} (hf : P.funcs[f]? = some fn) (hb : fn.body = some c) (hn : (fn.name == "runtime.NumGoroutine") = false) {args : Array Value} {w : World} {R : Value → World → Prop}
    (h : CallsIn (fz none) 1 P f args w fun e w' => ∃ v, e = .returned v ∧ R v w') : CallsX P f args w R := by
  unfold CallsX
  rw [callFunc_body hf hn (by rw [hb]; rfl)]
  exact (callsIn_wide (n := 1)).1 h

/-- A function's values off its slots. -/
theorem results_run (hT : TyOk P T) {fn : Func} {X : Nat → Prop} {ρ : Nat → Option Nat} {s : St} {a : Act} {B : Nat} {Hi : Hist} {w : World} (hr : Rel P B Hi X ρ s a w) {l : List AVal} (hl : ares T fn.results.toList s = some l) :
    ∃ us : List Value, (results fn a.tmps).run P w = .ok (if h : us.toArray.size = 1 then us.toArray[0] else .tuple us.toArray) w ∧ RepL w (XX X ρ s.heap) ρ us l := by
  obtain ⟨us, h1, h2⟩ := ares_sound (P := P) hT hr fn.results.toList l hl
  refine ⟨us, ?_, h2⟩
  unfold results
  rw [Array.mapM_eq_mapM_toList]
  simp only [Sem.run_bind, Sem.run_pure, map_eq_pure_bind]
  erw [h1]
  rfl

theorem spec_of_afun (hT : TyOk P T) (hm : P.follows .mixedOrders = true) (hd : DrawOK P T) {Sp : SpecT} (hS : SpOK P Sp) (hn0 : Sp.it = false) {f : FuncId} {fn : Func} {c : Code} (hf : P.funcs[f]? = some fn) (hb : fn.body = some c) (hn : (fn.name == "runtime.NumGoroutine") = false)
    {N : Nat → Nat} {tr : Nat → Md} (hok : codeOK tr c = true) {As : List AVal} {r : AVal} (h : afun Ar.real T Sp N tr fn.ntmps fn.results c As (· = r)) : Spec P f As r := by
  intro X w vs hX hv
  refine callsX_of hf hb hn (callsIn_of_wp_marks hf hb trivial ?_)
  have hxx : ∀ b, XX X noρ [] b → X b := by
    rintro b (hb | ⟨i, h1, _⟩)
    · exact hb
    · exact (nil_live h1).elim
  have hh : HRel X noρ [] w := ⟨fun i j b h1 => (nil_live h1).elim, fun i h1 => (nil_live h1).elim, fun _ _ => rfl, fun _ _ _ => rfl⟩
  have hR : Rel P w.heap.size (From X noρ [] w) X noρ ⟨app As (undefs (fn.ntmps - As.length)), []⟩ { tmps := vs.toArray ++ Array.replicate (fn.ntmps - vs.toArray.size) undef, defers := [] } w :=
    enter_rel hX hh (hv.weaken hxx) _ _ (Nat.le_refl _) ⟨rfl, Step.refl hh⟩
  unfold afun at h
  refine wpIn_mono (acode_sound hT hm hd hS c 0 _ _ _ _ none _ _ (From.ok (hS.it hn0)) (.inr ⟨rfl, hn0, fun hf hc => hf.calm hc⟩) hok h ⟨⟨X, noρ, hR⟩, .inl hn0⟩) ?_
  rintro e a' w' ⟨s', hk, ⟨X', ρ, hr⟩, _⟩
  obtain ⟨rfl, hst⟩ := hr.hist
  have fin : optK (ares T fn.results.toList s') (fun l => optK (outL s'.heap l) fun l => one l = r) → LeavesInM (fz none) 1 P fn a'.tmps (fun e w'' => ∃ v, e = .returned v ∧ Ext (fun _ => False) w w'' ∧ OutR w w'' X' v r) a'.defers .returning w' := by
    intro hk
    obtain ⟨l, hl, hk⟩ := optK_inv hk
    obtain ⟨l', hl', rfl⟩ := optK_inv hk
    refine leaves_of _ _ hr.marks fun w'' hc => ?_
    have hst := hst.calm hc
    have hr2 : Rel P 0 (fun _ _ _ _ => True) X' ρ s' { a' with defers := [] } w'' := ⟨hr.heap.calm hc, hr.size, fun t v x hv hx => (hr.tmps t v x hv hx).calm hc, marks_nil, fun b hb => Nat.lt_of_lt_of_le (hr.lt b hb) hc.size, Nat.zero_le _, trivial⟩
    obtain ⟨us, h1, h2⟩ := results_run hT hr2 hl
    obtain ⟨N, hN, ho⟩ := outL_sound (w0 := w) hr2.heap (fun i b h1 h2 h3 => by rcases hst.new i b h1 h2 h3 with h' | ⟨j, j1, _⟩; exact h'; exact (nil_live j1).elim) hl' h2
    refine ⟨_, h1, _, rfl, hst.ext.mono fun b ⟨i, i1, _⟩ => nil_live i1, ?_⟩
    have hlen : us.length = l'.length := by
      clear h1 h2
      have : ∀ {N : List Nat} {Y : Nat → Prop} {us : List Value} {l' : List AVal}, Outs w w'' Y N us l' → us.length = l'.length := by
        intro N Y us l' ho
        induction ho with
        | nil => rfl
        | tree _ _ _ _ ih => simp [ih]
        | new _ _ _ _ _ _ _ _ _ _ _ _ _ _ _ ih => simp [ih]
        | new0 _ _ _ _ ih => simp [ih]
      exact this ho
    by_cases h1 : us.length = 1
    · obtain ⟨u, rfl⟩ : ∃ u, us = [u] := by
        cases us with
        | nil => simp at h1
        | cons u us => cases us with
          | nil => exact ⟨u, rfl⟩
          | cons => simp at h1
      obtain ⟨x, rfl⟩ : ∃ x, l' = [x] := by
        cases l' with
        | nil => simp at hlen
        | cons u us => cases us with
          | nil => exact ⟨u, rfl⟩
          | cons => simp at hlen
      exact .inr ⟨N, hN, ho⟩
    · have h2 : one l' = .tup l' := by
        cases l' with
        | nil => rfl
        | cons u us' => cases us' with
          | nil => simp at hlen; exact absurd hlen h1
          | cons => rfl
      rw [h2, dif_neg (by simpa using h1)]
      exact .inl ⟨N, us, l', rfl, rfl, hN, ho⟩
  cases e <;> simp only at hk <;> first
    | exact fin hk
    | exact hk.elim

theorem one_rep {w : World} {X : Nat → Prop} {ρ : Nat → Option Nat} {us : List Value} {l : List AVal} (h : RepL w X ρ us l) : Rep w X ρ (if h : us.toArray.size = 1 then us.toArray[0] else .tuple us.toArray) (one l) := by
  cases h with
  | nil => exact .tup [] [] rfl (fun j v x hv => by simp at hv)
  | cons h1 h2 =>
    cases h2 with
    | nil => exact h1
    | cons h2 h3 => exact (RepL.cons h1 (.cons h2 h3)).tup

theorem specM_of_afunM (hT : TyOk P T) (hm : P.follows .mixedOrders = true) (hd : DrawOK P T) {Sp : SpecT} (hS : SpOK P Sp) (hn0 : Sp.it = false) {f : FuncId} {fn : Func} {c : Code} (hf : P.funcs[f]? = some fn) (hb : fn.body = some c) (hn : (fn.name == "runtime.NumGoroutine") = false)
    {N : Nat → Nat} {tr : Nat → Md} (hok : codeOK tr c = true) {h0 : List Blk} {As : List AVal} {r : AVal} {h' : List Blk} (h : afunM Ar.real T Sp N tr fn.ntmps fn.results c h0 As (fun r' k => r' = r ∧ k = h')) : SpecM P f h0 As r h' := by
  intro X w ρ vs hX hh hv
  refine callsX_of hf hb hn (callsIn_of_wp_marks hf hb trivial ?_)
  have hR : Rel P w.heap.size (From X ρ h0 w) X ρ ⟨app As (undefs (fn.ntmps - As.length)), h0⟩ { tmps := vs.toArray ++ Array.replicate (fn.ntmps - vs.toArray.size) undef, defers := [] } w :=
    enter_rel hX hh hv _ _ (Nat.le_refl _) ⟨rfl, Step.refl hh⟩
  unfold afunM at h
  refine wpIn_mono (acode_sound hT hm hd hS c 0 _ _ _ _ none _ _ (From.ok (hS.it hn0)) (.inr ⟨rfl, hn0, fun hf hc => hf.calm hc⟩) hok h ⟨⟨X, ρ, hR⟩, .inl hn0⟩) ?_
  rintro e a' w' ⟨s', hk, ⟨X', ρ', hr⟩, _⟩
  obtain ⟨rfl, hst⟩ := hr.hist
  have fin : optK (ares T fn.results.toList s') (fun l => one l = r ∧ s'.heap = h') → LeavesInM (fz none) 1 P fn a'.tmps (fun e w'' => ∃ v, e = .returned v ∧ ∃ ρ', Step X' ρ h0 w ρ' h' w'' ∧ Rep w'' (XX X' ρ' h') ρ' v r) a'.defers .returning w' := by
    intro hk
    obtain ⟨l, hl, rfl, rfl⟩ := optK_inv hk
    refine leaves_of _ _ hr.marks fun w'' hc => ?_
    have hr2 : Rel P 0 (fun _ _ _ _ => True) X' ρ' s' { a' with defers := [] } w'' := ⟨hr.heap.calm hc, hr.size, fun t v x hv hx => (hr.tmps t v x hv hx).calm hc, marks_nil, fun b hb => Nat.lt_of_lt_of_le (hr.lt b hb) hc.size, Nat.zero_le _, trivial⟩
    obtain ⟨us, h1, h2⟩ := results_run hT hr2 hl
    exact ⟨_, h1, _, rfl, ρ', hst.calm hc, one_rep h2⟩
  cases e <;> simp only at hk <;> first
    | exact fin hk
    | exact hk.elim

/-- An iterator's way. -/
def FromI (J : Nat → (Nat → Prop) → World → Prop) : Hist := fun Z ρ h w => ∃ i w1, J i Z w1 ∧ 0 < h.length ∧ hget h 0 = ⟨false, false, [.s .i64 i]⟩ ∧ Ext (fun _ => False) w1 w ∧ ∀ j b, (hget h j).live = true → (hget h j).wr = true → ρ j = some b → w1.heap.size ≤ b

theorem seq_of_afunI (hT : TyOk P T) (hm : P.follows .mixedOrders = true) (hd : DrawOK P T) {f : FuncId} {fn : Func} {c : Code} (hf : P.funcs[f]? = some fn) (hb : fn.body = some c) (hn : (fn.name == "runtime.NumGoroutine") = false)
    {N : Nat → Nat} {tr : Nat → Md} (hok : codeOK tr c = true) (hnr : noRange c = true) {cap : List AVal} {n : Nat} {xs : Nat → List AVal}
    (h : ∀ l, afunI Ar.real T { specs P with l := l, n := n, xs := xs, it := true } N tr fn.ntmps fn.results c l cap (fun k => k = ghost n)) : SeqSp P f cap n xs := by
  refine ⟨fun args w => callFunc_body hf hn (by rw [hb]; rfl) args w, ?_⟩
  intro X w vs l J hX hv hJ hY h0
  have hv' : RepL w X noρ (.func (.yield l) #[] #[] :: vs) (.v (.func (.yield l) #[] #[]) :: cap) := .cons (.v _ rfl) hv
  have hargs : (#[.func (.yield l) #[] #[]] ++ vs.toArray : Array Value) = (Value.func (.yield l) #[] #[] :: vs).toArray := by rw [← Array.toList_inj]; simp
  rw [hargs]
  refine callsIn_of_wp_marks hf hb trivial ?_
  have hh : HRel X noρ (ghost 0) w := ghost_heap fun _ _ => rfl
  have hHi : HistOK P { specs P with l := l, n := n, xs := xs, it := true } (FromI J) := by
    refine ⟨?_, ?_⟩
    · rintro X ρ h w ρ' h' w' ⟨i, w1, h1, h2, h3, h4, h5⟩ st
      refine ⟨i, w1, h1, Nat.lt_of_lt_of_le h2 st.dead.len, ?_, h4.trans' st.ext ?_, ?_⟩
      · rw [st.dead.same 0 h2 (by rw [h3]) (by rw [h3])]; exact h3
      · rintro b ⟨j, j1, j2, j3⟩ hlt
        have := h5 j b j1 j2 j3
        omega
      · intro j b j1 j2 j3
        rcases st.new j b j1 j2 j3 with h6 | ⟨q, q1, q2, q3⟩
        · exact Nat.le_trans h4.size h6
        · exact h5 q b q1 q2 q3
    · rintro X ρ i w us ⟨i', w1, h1, h2, h3, h4, h5⟩ hi hlt hus
      have hi' : i' = i := by
        have : (⟨false, false, [.s .i64 (i : Int)]⟩ : Blk) = ⟨false, false, [.s .i64 (i' : Int)]⟩ := h3
        simp at this
        omega
      subst hi'
      refine (hY i' X w us hi (hJ _ _ _ _ h1 h4) hlt hus).imp fun fn' hy => ?_
      obtain ⟨tmps, asg, body, e1, e2⟩ := hy
      refine ⟨tmps, asg, body, e1, e2.mono ?_⟩
      rintro e W' ⟨he, Z', k1, k2, k3, k4⟩
      exact ⟨he, Z', ⟨i' + 1, W', k1, by simp [ghost], rfl, Ext.refl _ _, fun j b j1 => by rw [ghost_live] at j1; cases j1⟩, k2, k3, k4⟩
  have hi0 : FromI J X noρ (ghost 0) w := ⟨0, w, h0, by simp [ghost], rfl, Ext.refl _ _, fun j b j1 => by rw [ghost_live] at j1; cases j1⟩
  have hR : Rel P 0 (FromI J) X noρ ⟨app (.v (.func (.yield l) #[] #[]) :: cap) (undefs (fn.ntmps - (cap.length + 1))), ghost 0⟩ { tmps := (Value.func (.yield l) #[] #[] :: vs).toArray ++ Array.replicate (fn.ntmps - (Value.func (.yield l) #[] #[] :: vs).toArray.size) undef, defers := [] } w :=
    enter_rel (As := .v (.func (.yield l) #[] #[]) :: cap) hX hh (hv'.weaken fun b hb => XX_ghost.1 hb) _ _ (Nat.zero_le _) hi0
  have h := h l
  unfold afunI at h
  have hS : SpOK P { specs P with l := l, n := n, xs := xs, it := true } := ⟨fun _ _ _ h => h, fun _ _ _ _ _ h => h, fun _ _ _ _ h => h, fun h => by cases h⟩
  refine wpIn_mono (acode_sound hT hm hd hS c 0 _ _ _ _ none _ _ hHi (.inl hnr) hok h ⟨⟨X, noρ, hR⟩, .inr rfl⟩) ?_
  rintro e a' w' ⟨s', hk, ⟨X', ρ, hr⟩, hdd⟩
  have fin : optK (ares T fn.results.toList s') (fun _ => s'.heap = ghost n) → LeavesInM (fz none) 1 P fn a'.tmps (fun e w'' => (∃ v, e = .returned v) ∧ ∃ Z, J n Z w'') a'.defers .returning w' := by
    intro hk
    obtain ⟨l', hl, hg⟩ := optK_inv hk
    have hj : ∃ Z, J n Z w' := by
      obtain ⟨i, w1, h1, h2, h3, h4, h5⟩ := hr.hist
      have hi' : i = n := by
        rw [hg] at h3
        have : (⟨false, false, [.s .i64 (n : Int)]⟩ : Blk) = ⟨false, false, [.s .i64 (i : Int)]⟩ := h3
        simp at this
        omega
      subst hi'
      exact ⟨X', hJ _ _ _ _ h1 h4⟩
    obtain ⟨us, h1, h2⟩ := results_run hT hr hl
    have hd0 : a'.defers = [] := hdd.resolve_left (by simp)
    rw [hd0]
    exact ⟨_, h1, ⟨_, rfl⟩, hj⟩
  cases e <;> simp only at hk <;> first
    | exact fin hk
    | exact hk.elim
end
end Eng
