/- The engine, part 12: operations that read, done. -/
import Derived.Test.YtlmlganfjnokiaaE11
import Derived.Deep.Draws
set_option linter.unusedSimpArgs false
set_option linter.unusedVariables false
namespace Eng
open Go

section
variable {P : Program} {T : Ty} {w w' : World} {X Z : Nat → Prop} {ρ : Nat → Option Nat} {h : List Blk}

theorem reps_length (z : List AVal) : ∀ n, (reps n z).length = n * z.length
  | 0 => by simp [reps]
  | n + 1 => by simp [reps, app_eq, reps_length z n, Nat.add_mul, Nat.add_comm]

theorem RepL.reps {z : List Value} {zs : List AVal} (hz : RepL w X ρ z zs) : ∀ n, RepL w X ρ (List.replicate n z).flatten (reps n zs)
  | 0 => .nil
  | n + 1 => by
    simp only [List.replicate_succ, List.flatten_cons, Eng.reps, app_eq]
    exact hz.append (RepL.reps hz n)

theorem zeros_eq (z : Array Value) (n : Nat) : ((Array.range (n * z.size)).map (fun i => z[i % z.size]!)).toList = (List.replicate n z.toList).flatten := by
  rcases Nat.eq_zero_or_pos z.size with h0 | h0
  · have : z.toList = [] := by simpa using h0
    simp [h0, this]
  · apply List.ext_getElem?
    intro i
    simp only [Array.toList_map, Array.toList_range, List.getElem?_map, List.getElem?_range]
    by_cases hi : i < n * z.size
    · have h1 : (List.range (n * z.size))[i]? = some i := by simp [hi]
      rw [h1]
      have h2 : ∀ (n i : Nat), i < n * z.size → ((List.replicate n z.toList).flatten)[i]? = some (z[i % z.size]'(Nat.mod_lt _ h0)) := by
        intro n
        induction n with
        | zero => intro i hi; simp at hi
        | succ n ih =>
          intro i hi
          simp only [List.replicate_succ, List.flatten_cons]
          by_cases hlt : i < z.size
          · rw [List.getElem?_append_left (by simpa using hlt)]
            simp [Nat.mod_eq_of_lt hlt, hlt]
          · rw [List.getElem?_append_right (by simp; omega)]
            have := ih (i - z.size) (by rw [Nat.add_mul] at hi; omega)
            simp only [Array.length_toList]
            rw [this]
            congr 2
            exact (Nat.mod_eq_sub_mod (by omega)).symm
      rw [h2 n i hi]
      simp [Nat.mod_lt _ h0]
    · rw [List.getElem?_eq_none (by simp; omega), List.getElem?_eq_none (by simp; omega)]
      rfl

theorem Step.grow' (hh : HRel X ρ h w) (he : Ext (fun _ => False) w w') : Step X ρ h w ρ (freeze h []) w' := Step.grow hh he []

/-- A new tree. -/
theorem new_tree {c : Array Value} {t : TypeId} {cs : List AVal} (hh : HRel X ρ h w) (hold : ∀ b, X b → b < w.heap.size) (hr : RepL w (XX X ρ h) noρ c.toList cs) :
    ¬ XX X ρ h w.heap.size ∧ w.heap.size < (w.alloc (.cells c t)).heap.size ∧ (w.alloc (.cells c t)).rangeAt w.heap.size 0 c.toList ∧ RepL (w.alloc (.cells c t)) (XX X ρ h) noρ c.toList cs := by
  have hb : (w.alloc (.cells c t)).heap[w.heap.size]? = some (.cells c t) := by show (w.heap.push _)[w.heap.size]? = _; simp
  refine ⟨fun h' => by have := hh.lt hold h'; omega, by simp, fun j v hj => ?_, hr.carry (Ext.alloc (fun _ => False) w _) (fun b _ h => ⟨h, id⟩) (fun _ _ h => h)⟩
  rw [Nat.zero_add]
  simp only [World.cell?, hb]
  simpa using hj

theorem rowK_inv {sz : Nat} {x : AVal} {v : Value} {K : Bool → Nat → List AVal → Prop} (hh : HRel X ρ h w) (hv : Rep w (XX X ρ h) ρ v x) (hk : rowK Ar.real h sz x K) :
    ∃ m n ys us a cap, K m n ys ∧ RepL w (XX X ρ h) ρ us ys ∧ us.length = n * sz ∧ v = .slice a n cap ∧ (∀ b, a = some b → us = [] ∨ ∃ blk o, b = ⟨blk, o, none⟩ ∧ w.rangeAt blk o us) ∧ (a = none → n = 0) := by
  unfold rowK at hk
  split at hk
  · have := hv.v_inv
    subst this
    exact ⟨false, 0, [], [], none, 0, hk, .nil, by simp, rfl, (fun b hb => by cases hb), fun _ => rfl⟩
  · rename_i m n cs
    have hlen : cs.length = n * sz ∧ K m n cs := by
      cases m
      · obtain ⟨h1, h2⟩ := onlyIf_inv hk
        exact ⟨by simpa using h1, h2⟩
      · cases hk with
        | mk h1 h2 => exact ⟨by simpa [Ar.real] using h1, h2⟩
    rcases hv.lst_inv with ⟨blk, off, cap, us, rfl, h1, h2, h3, h4, h5⟩ | ⟨rfl, rfl, a, cap, rfl⟩
    · exact ⟨m, n, cs, us, _, cap, hlen.2, h5.up, by rw [h5.length]; exact hlen.1, rfl, (fun b hb => by cases hb; exact .inr ⟨blk, off, rfl, h3⟩), fun h => by cases h⟩
    · exact ⟨m, 0, [], [], a, cap, hlen.2, .nil, by simp, rfl, fun b hb => .inl rfl, fun _ => rfl⟩
  · rename_i id off n sz'
    obtain ⟨hl, hk⟩ := onlyIf_inv hk
    obtain ⟨cs, hcs, hk⟩ := optK_inv hk
    rcases hv.osl_inv with ⟨blk, cap, rfl, hρ, hn, ht⟩ | ⟨rfl, a, rfl⟩
    · obtain ⟨us, hlt, hra, hth, hus⟩ := hh.read hl hρ
      obtain ⟨hlen, hsub⟩ := hus.sub hcs
      have hra' := range_sub (k := off) (n := n * sz) hra
      rw [Nat.zero_add] at hra'
      exact ⟨false, n, cs, _, _, cap, hk, hsub, by simp; omega, rfl, (fun b hb => by cases hb; exact .inr ⟨blk, off, rfl, hra'⟩), fun h => by cases h⟩
    · obtain ⟨_, h2⟩ := lsub_spec _ _ _ _ hcs
      simp at h2
      subst h2
      exact ⟨false, 0, [], [], a, 0, hk, .nil, by simp, rfl, fun b hb => .inl rfl, fun _ => rfl⟩
  · exact hk.elim

theorem first_cells {a : Option Addr} {n cap sz : Nat} {us : List Value} (hl : us.length = n * sz) (ha : ∀ b, a = some b → us = [] ∨ ∃ blk o, b = ⟨blk, o, none⟩ ∧ w.rangeAt blk o us) (hn : a = none → n = 0) (w1 : World) (hw : ∀ p, w1.cell? p = w.cell? p) :
    (Builtin.firstCells sz n (.slice a n cap)).run P w1 = .ok us.toArray w1 := by
  cases a with
  | none => have := hn rfl; subst this; have : us = [] := by simpa using hl
            subst this; simp [Builtin.firstCells]
  | some b =>
    simp only [Builtin.firstCells]
    rw [← hl]
    refine run_loadCells_list (P := P) w1 b us fun j v hj => ?_
    rcases ha b rfl with rfl | ⟨blk, o, rfl, hr⟩
    · simp at hj
    · rw [hw, add_mid]; exact hr j v hj

/-- An append that makes a new row. -/
theorem run_append_new (hT : TyOk P T) {argTypes : Array TypeId} {ty t el : TypeId} {sb xb : Option Addr} {sn sc xn xc : Nat} {olds news : List Value}
    (h0 : argTypes.toList.head? = some t) (ht : T.und t = .slice el) (hno : T.und el ≠ .other) (hok : appOk T argTypes = true) (hb1 : 1 ≤ T.bytes el)
    (hol : olds.length = sn * T.size el) (hob : ∀ b, sb = some b → olds = [] ∨ ∃ blk o, b = ⟨blk, o, none⟩ ∧ w.rangeAt blk o olds) (hon : sb = none → sn = 0)
    (hnl : news.length = xn * T.size el) (hnb : ∀ b, xb = some b → news = [] ∨ ∃ blk o, b = ⟨blk, o, none⟩ ∧ w.rangeAt blk o news) (hnn : xb = none → xn = 0)
    (hneed : sc < sn + xn) (hroom : Builtin.nextslicecap (sn + xn) sc * T.bytes el ≤ 2 ^ 48) (hsmall : sn + xn ≤ 2 ^ 62) :
    ∃ cap rest, sn + xn ≤ cap ∧ rest.length = (cap - (sn + xn)) * T.size el ∧
      (Builtin.append_ argTypes ty #[.slice sb sn sc, .slice xb xn xc]).run P w = .ok (.slice (some ⟨w.heap.size, 0, none⟩) (sn + xn) cap) (w.drew.alloc (.cells (olds ++ news ++ rest).toArray el)) := by
  obtain ⟨l⟩ := argTypes
  cases l with
  | nil => simp at h0
  | cons t' l =>
    simp at h0; subst h0
    cases l with
    | nil => simp [appOk] at hok
    | cons u l =>
      have hu : ∃ d, P.underlying u = some d ∧ ∀ k, d ≠ .int k := by
        simp [appOk] at hok
        cases hd : T.und u <;> rw [hd] at hok <;> simp at hok
        · exact ⟨_, hT.str _ hd, by simp⟩
        · exact ⟨_, hT.slice _ _ hd, by simp⟩
      obtain ⟨d, hud, hdn⟩ := hu
      have hz : (match d with | .int _ => true | _ => false) = false := by cases d <;> simp at hdn ⊢
      obtain ⟨i, hi, his, hib, z, hiz, hzc, _⟩ := hT.info el hno
      have hul := hT.slice t' el ht
      have hw1 : ∀ p, w.drew.cell? p = w.cell? p := fun p => rfl
      have f1 := first_cells (P := P) (cap := sc) hol hob hon w.drew hw1
      have f2 := first_cells (P := P) (cap := xc) hnl hnb hnn w.drew hw1
      refine ⟨(sn + xn) + (w.tape w.drawn (.appendCap (sn + xn) sc el)) % (2 ^ 63 - (sn + xn)), (Builtin.zeroCells z.cells ((w.tape w.drawn (.appendCap (sn + xn) sc el)) % (2 ^ 63 - (sn + xn)))).toList, by omega, ?_, ?_⟩
      · have hzl : z.cells.size = T.size el := by rw [← hT.zlen el, ← hzc]; simp
        simp [Builtin.zeroCells, hzl]
      · have e0 : ¬ (sn + xn ≤ sc) := by omega
        have e1 : ¬ (9223372036854775807 < (sn : Int) + xn ∧ T.bytes el = 0) := by omega
        have e2 : ¬ (281474976710656 < Builtin.nextslicecap (sn + xn) sc * T.bytes el) := by omega
        have e3 : (Question.appendCap (sn + xn) sc el).forced = false := rfl
        have e4 : (Question.appendCap (sn + xn) sc el).cut (w.tape w.drawn (.appendCap (sn + xn) sc el)) = (sn + xn) + (w.tape w.drawn (.appendCap (sn + xn) sc el)) % (2 ^ 63 - (sn + xn)) := rfl
        have hsz : ∀ w, (Go.sizeOf el).run P w = .ok (T.size el) w := fun w => hT.size hno
        have hti : ∀ w, (typeInfo el).run P w = .ok i w := fun w => by simp [typeInfo, hi]
        have hzv : ∀ w, (zeroValue el).run P w = .ok z w := fun w => by simp [zeroValue, typeInfo, hi, hiz]
        have g0 : (({ toList := t' :: u :: l } : Array TypeId))[0]? = some t' := rfl
        have g1 : (({ toList := t' :: u :: l } : Array TypeId))[1]? = some u := rfl
        have ar : ∀ n w, (askRoom n).run P w = .ok () w := by intro n w; unfold askRoom; split <;> rfl
        generalize (w.tape w.drawn (.appendCap (sn + xn) sc el)) % (2 ^ 63 - (sn + xn)) = q at *
        unfold Builtin.append_
        simp only [g0, g1, List.getElem?_toArray, List.getElem?_cons_zero, List.getElem?_cons_succ, Sem.run_bind, run_underlying hul, Result.andThen_ok, hsz, run_underlying hud, Sem.run_pure]
        cases d <;> first
          | (exact absurd rfl (hdn _))
          | (simp [Builtin.lenOf, e0, e1, e2, e3, e4, hsz, hti, hzv, ar, f1, f2, newRow, newObj, hib]
             have e : (olds ++ (news ++ (Builtin.zeroCells z.cells q).toList)).toArray = olds.toArray ++ (news.toArray ++ Builtin.zeroCells z.cells q) := by apply Array.ext'; simp
             rw [e]; rfl)

/-- An append for which there is room, or nothing to do. -/
theorem run_append_in (hT : TyOk P T) {argTypes : Array TypeId} {ty t el : TypeId} {sb xb : Option Addr} {sn sc xn xc : Nat} {news : List Value}
    (h0 : argTypes.toList.head? = some t) (ht : T.und t = .slice el) (hno : T.und el ≠ .other) (hok : appOk T argTypes = true)
    (hnl : news.length = xn * T.size el) (hnb : ∀ b, xb = some b → news = [] ∨ ∃ blk o, b = ⟨blk, o, none⟩ ∧ w.rangeAt blk o news) (hnn : xb = none → xn = 0)
    (hneed : sn + xn ≤ sc) {w' : World} (hst : match sb with | none => w' = w | some a => (storeCells (a.add (sn * T.size el)) news).run P w = .ok () w') :
    (Builtin.append_ argTypes ty #[.slice sb sn sc, .slice xb xn xc]).run P w = .ok (.slice sb (sn + xn) sc) w' := by
  obtain ⟨l⟩ := argTypes
  cases l with
  | nil => simp at h0
  | cons t' l =>
    simp at h0; subst h0
    cases l with
    | nil => simp [appOk] at hok
    | cons u l =>
      have hu : ∃ d, P.underlying u = some d ∧ ∀ k, d ≠ .int k := by
        simp [appOk] at hok
        cases hd : T.und u <;> rw [hd] at hok <;> simp at hok
        · exact ⟨_, hT.str _ hd, by simp⟩
        · exact ⟨_, hT.slice _ _ hd, by simp⟩
      obtain ⟨d, hud, hdn⟩ := hu
      have hul := hT.slice t' el ht
      have f2 := first_cells (P := P) (cap := xc) hnl hnb hnn w (fun _ => rfl)
      have hsz : ∀ w, (Go.sizeOf el).run P w = .ok (T.size el) w := fun w => hT.size hno
      have g0 : (({ toList := t' :: u :: l } : Array TypeId))[0]? = some t' := rfl
      have g1 : (({ toList := t' :: u :: l } : Array TypeId))[1]? = some u := rfl
      unfold Builtin.append_
      simp only [g0, g1, List.getElem?_toArray, List.getElem?_cons_zero, List.getElem?_cons_succ, Sem.run_bind, run_underlying hul, Result.andThen_ok, hsz, run_underlying hud, Sem.run_pure]
      cases sb with
      | none =>
        subst hst
        cases d <;> first
          | (exact absurd rfl (hdn _))
          | simp [Builtin.lenOf, hneed, f2]
      | some a =>
        cases d <;> first
          | (exact absurd rfl (hdn _))
          | simp [Builtin.lenOf, hneed, f2, hst]
end
end Eng
