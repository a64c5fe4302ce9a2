/- The engine, part 24: values that say the same. -/
import Derived.Test.YtlmlganfjnokiaaE23
set_option linter.unusedSimpArgs false
set_option linter.unusedVariables false
namespace Eng
open Go

section
variable {w : World} {X : Nat → Prop}
theorem outs_sim1 {w0 : World} {Y : Nat → Prop} {d : Nat} {N : List Nat} {v : Value} {x y : AVal} (h : simD d x y) (ho : Outs w0 w Y N [v] [x]) {vs : List Value} {ys : List AVal} {M : List Nat} (hs : Outs w0 w Y M vs ys) : Outs w0 w Y (N ++ M) (v :: vs) (y :: ys) := by
  cases ho with
  | tree _ _ hr hs' => cases hs'; exact .tree _ _ (rep_sim d h hr) hs
  | new m n sz cap b us cs hb hb' hn hr ht ht' hu hs' =>
    cases hs'
    cases d with
    | zero => exact h.elim
    | succ d =>
      cases y <;> simp only [simD] at h
      obtain ⟨rfl, rfl, h⟩ := h
      exact .new _ _ _ cap b us _ hb hb' hn hr ht ht' (rep_simL (ρ := noρ) (rep_sim d) h hu) hs
  | new0 m sz a hs' =>
    cases hs'
    cases d with
    | zero => exact h.elim
    | succ d =>
      cases y <;> simp only [simD] at h
      obtain ⟨rfl, rfl, h⟩ := h
      have := simL_len h
      rename_i ds
      cases ds with
      | nil => exact .new0 _ _ _ hs
      | cons => simp at this
theorem outs_split {w0 : World} {Y : Nat → Prop} {N : List Nat} {v : Value} {x : AVal} {vs : List Value} {xs : List AVal} (ho : Outs w0 w Y N (v :: vs) (x :: xs)) : ∃ N1 N2, N = N1 ++ N2 ∧ Outs w0 w Y N1 [v] [x] ∧ Outs w0 w Y N2 vs xs := by
  cases ho with
  | tree _ _ hr hs => exact ⟨[], _, rfl, .tree _ _ hr .nil, hs⟩
  | new m n sz cap b us cs hb hb' hn hr ht ht' hu hs => exact ⟨[b], _, rfl, .new m n sz cap b us cs hb hb' hn hr ht ht' hu .nil, hs⟩
  | new0 m sz a hs => exact ⟨[], _, rfl, .new0 m sz a .nil, hs⟩
theorem outs_sim {w0 : World} {Y : Nat → Prop} {d : Nat} : ∀ {xs ys : List AVal} {vs : List Value} {N : List Nat}, simL (simD d) xs ys → Outs w0 w Y N vs xs → Outs w0 w Y N vs ys
  | [], ys, vs, N, h, ho => by
    have := simL_len h
    cases ys with
    | nil => exact ho
    | cons => simp at this
  | x :: xs, ys, vs, N, h, ho => by
    have hl := simL_len h
    cases ys with
    | nil => simp at hl
    | cons y ys =>
      have h1 : simD d x y := simL_at h 0 x y rfl rfl
      have h2 : simL (simD d) xs ys := by
        cases xs with
        | nil => cases ys with
          | nil => trivial
          | cons => simp at hl
        | cons a xs => cases ys with
          | nil => simp at hl
          | cons b ys => exact h.2
      cases vs with
      | nil => cases ho
      | cons v vs =>
        obtain ⟨N1, N2, rfl, o1, o2⟩ := outs_split ho
        exact outs_sim1 h1 o1 (outs_sim h2 o2)
theorem OutR.sim {w0 : World} {v : Value} {r r' : AVal} (h : Sim r r') (ho : OutR w0 w X v r) : OutR w0 w X v r' := by
  rcases ho with ⟨N, vs, xs, rfl, rfl, hN, ho⟩ | ⟨N, hN, ho⟩
  · have key : ∀ d, simD d (.tup xs) r' → OutR w0 w X (.tuple vs.toArray) r' := by
      intro d h
      cases d with
      | zero => exact h.elim
      | succ d =>
        cases r' <;> simp only [simD] at h
        · exact .inl ⟨N, vs, _, rfl, rfl, hN, outs_sim h ho⟩
        · exact .inr ⟨[], .nil, .tree _ _ (.any _) .nil⟩
    exact key _ h
  · refine .inr ⟨N, hN, ?_⟩
    have := outs_sim1 h ho .nil
    simpa using this
end

theorem Spec.sim {P : Program} {f : FuncId} {As As' : List AVal} {r r' : AVal} (h : Spec P f As r) (ha : SimL As' As) (hr : Sim r r') : Spec P f As' r' := fun X w vs hX hv =>
  (h X w vs hX (hv.sim ha)).mono fun v w' ⟨h1, h2⟩ => ⟨h1, h2.sim hr⟩
theorem Spec.args {P : Program} {f : FuncId} {As As' : List AVal} {r : AVal} (h : Spec P f As r) (ha : SimL As' As) : Spec P f As' r := fun X w vs hX hv => h X w vs hX (hv.sim ha)
theorem Spec.res {P : Program} {f : FuncId} {As : List AVal} {r r' : AVal} (h : Spec P f As r) (hr : Sim r r') : Spec P f As r' := fun X w vs hX hv =>
  (h X w vs hX hv).mono fun v w' ⟨h1, h2⟩ => ⟨h1, h2.sim hr⟩
theorem SeqSp.args {P : Program} {f : FuncId} {As As' : List AVal} {n : Nat} {xs : Nat → List AVal} (h : SeqSp P f As n xs) (ha : SimL As' As) : SeqSp P f As' n xs :=
  ⟨h.1, fun X w vs l J h1 h2 => h.2 X w vs l J h1 (h2.sim ha)⟩

section
variable {P : Program} {T : Ty}
theorem spec_of_afunK (hT : TyOk P T) (hm : P.follows .mixedOrders = true) (hd : DrawOK P T) {Sp : SpecT} (hS : SpOK P Sp) (hn0 : Sp.it = false) {f : FuncId} {fn : Func} {c : Code} (hf : P.funcs[f]? = some fn) (hb : fn.body = some c) (hn : (fn.name == "runtime.NumGoroutine") = false)
    {N : Nat → Nat} {tr : Nat → Md} (hok : codeOK tr c = true) {As : List AVal} {r : AVal} {K : AVal → Prop} (h : afun Ar.real T Sp N tr fn.ntmps fn.results c As K) (hK : ∀ x, K x → Sim x r) : Spec P f As r := by
  intro X w vs hX hv
  refine callsX_of hf hb hn (callsIn_of_wp_marks hf hb trivial ?_)
  have hxx : ∀ b, XX X noρ [] b → X b := by
    rintro b (hb | ⟨i, h1, _⟩)
    · exact hb
    · exact (nil_live h1).elim
  have hh : HRel X noρ [] w := ⟨fun i j b h1 => (nil_live h1).elim, fun i h1 => (nil_live h1).elim, fun _ _ => rfl, fun _ _ _ => rfl⟩
  have hR : Rel P w.heap.size (From X noρ [] w) X noρ ⟨app As (undefs (fn.ntmps - As.length)), []⟩ { tmps := vs.toArray ++ Array.replicate (fn.ntmps - vs.toArray.size) undef, defers := [] } w :=
    enter_rel hX hh (hv.weaken hxx) _ _ (Nat.le_refl _) ⟨rfl, Step.refl hh⟩
  unfold afun at h
  refine wpIn_mono (acode_sound hT hm hd hS c 0 _ _ _ _ none _ _ (From.ok (hS.it hn0)) (.inr ⟨rfl, hn0, fun hf hc => hf.calm hc⟩) hok h ⟨⟨X, noρ, hR⟩, .inl hn0⟩) ?_
  rintro e a' w' ⟨s', hk, ⟨X', ρ, hr⟩, _⟩
  obtain ⟨rfl, hst⟩ := hr.hist
  have fin : optK (ares T fn.results.toList s') (fun l => optK (outL s'.heap l) fun l => K (one l)) → LeavesInM (fz none) 1 P fn a'.tmps (fun e w'' => ∃ v, e = .returned v ∧ Ext (fun _ => False) w w'' ∧ OutR w w'' X' v r) a'.defers .returning w' := by
    intro hk
    obtain ⟨l, hl, hk⟩ := optK_inv hk
    obtain ⟨l', hl', hk⟩ := optK_inv hk
    refine leaves_of _ _ hr.marks fun w'' hc => ?_
    have hst := hst.calm hc
    have hr2 : Rel P 0 (fun _ _ _ _ => True) X' ρ s' { a' with defers := [] } w'' := ⟨hr.heap.calm hc, hr.size, fun t v x hv hx => (hr.tmps t v x hv hx).calm hc, marks_nil, fun b hb => Nat.lt_of_lt_of_le (hr.lt b hb) hc.size, Nat.zero_le _, trivial⟩
    obtain ⟨us, h1, h2⟩ := results_run hT hr2 hl
    obtain ⟨N, hN, ho⟩ := outL_sound (w0 := w) hr2.heap (fun i b h1 h2 h3 => by rcases hst.new i b h1 h2 h3 with h' | ⟨j, j1, _⟩; exact h'; exact (nil_live j1).elim) hl' h2
    refine ⟨_, h1, _, rfl, hst.ext.mono fun b ⟨i, i1, _⟩ => nil_live i1, OutR.sim (hK _ hk) ?_⟩
    have hlen : us.length = l'.length := by
      clear h1 h2
      have : ∀ {N : List Nat} {Y : Nat → Prop} {us : List Value} {l' : List AVal}, Outs w w'' Y N us l' → us.length = l'.length := by
        intro N Y us l' ho
        induction ho with
        | nil => rfl
        | tree _ _ _ _ ih => simp [ih]
        | new _ _ _ _ _ _ _ _ _ _ _ _ _ _ _ ih => simp [ih]
        | new0 _ _ _ _ ih => simp [ih]
      exact this ho
    by_cases h1 : us.length = 1
    · obtain ⟨u, rfl⟩ : ∃ u, us = [u] := by
        cases us with
        | nil => simp at h1
        | cons u us => cases us with
          | nil => exact ⟨u, rfl⟩
          | cons => simp at h1
      obtain ⟨x, rfl⟩ : ∃ x, l' = [x] := by
        cases l' with
        | nil => simp at hlen
        | cons u us => cases us with
          | nil => exact ⟨u, rfl⟩
          | cons => simp at hlen
      exact .inr ⟨N, hN, ho⟩
    · have h2 : one l' = .tup l' := by
        cases l' with
        | nil => rfl
        | cons u us' => cases us' with
          | nil => simp at hlen; exact absurd hlen h1
          | cons => rfl
      rw [h2, dif_neg (by simpa using h1)]
      exact .inl ⟨N, us, l', rfl, rfl, hN, ho⟩
  cases e <;> simp only at hk <;> first
    | exact fin hk
    | exact hk.elim

end
end Eng
