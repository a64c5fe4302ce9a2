/- The engine, part 20: a region whose order is open may go in its text's order. -/
import Derived.Test.YtlmlganfjnokiaaE19
set_option linter.unusedSimpArgs false
set_option linter.unusedVariables false
namespace Eng
open Go

section
variable {A : Ar} {T : Ty} {Sp : SpecT}

def Out (A : Ar) (T : Ty) (Sp : SpecT) (tree : Md) (all : List Oper) (o : Oper) (s : St) (y : AVal) (h' : List Blk) : Prop :=
  (gd all o s = some true ∧ ∀ K : AVal → List Blk → Prop, K y h' → aop A T Sp tree o s K) ∨ (gd all o s = some false ∧ y = .tup [] ∧ h' = s.heap)

theorem out_of {tree : Md} {all : List Oper} {o : Oper} {s : St} {K : St → Prop} (h : astep A T Sp tree all o s K) : ∃ y h', Out A T Sp tree all o s y h' ∧ K (put ⟨s.tmps, h'⟩ o.dst y) := by
  rcases (astep_iff A T Sp).1 h with ⟨hg, h⟩ | ⟨hg, h⟩
  · obtain ⟨y, h', h1, h2⟩ := lin_op A T Sp tree o s _ h
    exact ⟨y, h', .inl ⟨hg, h2⟩, h1⟩
  · exact ⟨_, s.heap, .inr ⟨hg, rfl, rfl⟩, h⟩
theorem of_out {tree : Md} {all : List Oper} {o : Oper} {s : St} {K : St → Prop} {y : AVal} {h' : List Blk} (h : Out A T Sp tree all o s y h') (hk : K (put ⟨s.tmps, h'⟩ o.dst y)) : astep A T Sp tree all o s K := by
  refine (astep_iff A T Sp).2 ?_
  rcases h with ⟨hg, h⟩ | ⟨hg, rfl, rfl⟩
  · exact .inl ⟨hg, h _ hk⟩
  · exact .inr ⟨hg, hk⟩

/-- The slots that an operation looks at read the same. -/
structure Alike (all : List Oper) (o : Oper) (s s' : St) : Prop where
  ev : ∀ x ∈ o.op.operands, ev s x = ev s' x
  gd : gd all o s = gd all o s'

theorem put_ev {s : St} {d : Option Tmp} {y : AVal} {h : List Blk} {x : Operand} (hx : ∀ t, x = .tmp t → d ≠ some t) : ev (put ⟨s.tmps, h⟩ d y) x = ev s x := by
  cases x <;> try rfl
  rename_i t
  cases d with
  | none => rfl
  | some d =>
    have := hx t rfl
    simp only [put, ev, lset_eq, lget_eq]
    rw [List.getElem?_set_ne (by simpa using this)]

theorem alike_put {ops : Array Oper} {o j : Oper} {s : St} {y : AVal} {h : List Blk} (hap : j.apart ops o = true) : Alike ops.toList o (put ⟨s.tmps, h⟩ j.dst y) s := by
  have hsp := (Oper.apart_spec hap).1
  refine ⟨fun x hx => put_ev fun t e => ?_, ?_⟩
  · intro hd
    refine hsp t hd ?_
    subst e
    simp only [Oper.looksAt, List.mem_append, List.mem_filterMap]
    exact .inl ⟨.tmp t, by simpa using hx, rfl⟩
  · unfold gd
    cases hg : o.guard with
    | none => rfl
    | some g =>
      obtain ⟨k, want⟩ := g
      dsimp only
      cases hd : dstOf ops.toList k with
      | none => rfl
      | some d =>
        dsimp only
        have : lget (put ⟨s.tmps, h⟩ j.dst y).tmps d = lget s.tmps d := by
          cases hj : j.dst with
          | none => rfl
          | some e =>
            have hne : e ≠ d := by
              rintro rfl
              refine hsp e hj ?_
              simp only [Oper.looksAt, List.mem_append, hg]
              right
              rw [dstOf_eq] at hd
              have : (ops[k]?).bind (·.dst) = some e := by simpa using hd
              simp [this]
            simp only [put, lset_eq, lget_eq]
            rw [List.getElem?_set_ne hne]
        rw [this]

theorem out_p {tree : Md} {all : List Oper} {o : Oper} {s s' : St} {y : AVal} {h' : List Blk} (hc : cls tree o.op = .p) (ha : Alike all o s s') (h : Out A T Sp tree all o s y h') : h' = s.heap ∧ Out A T Sp tree all o s' y s'.heap := by
  rcases h with ⟨hg, h⟩ | ⟨hg, rfl, rfl⟩
  · have key : ∀ (F : (Operand → AVal) → (AVal → Prop) → Prop), (∀ e, Lin1 (F e)) → (F (ev s) = F (ev s')) → (∀ s (K : AVal → List Blk → Prop), aop A T Sp tree o s K = F (ev s) fun v => K v s.heap) → h' = s.heap ∧ Out A T Sp tree all o s' y s'.heap := by
      intro F hF he hop
      have h1 := h (fun v k => v = y ∧ k = h') ⟨rfl, rfl⟩
      rw [hop] at h1
      obtain ⟨v, ⟨rfl, h2⟩, h3⟩ := hF _ _ h1
      refine ⟨h2.symm, .inl ⟨by rw [← ha.gd]; exact hg, fun K hK => ?_⟩⟩
      rw [hop, ← he]
      exact h3 (fun v => K v s'.heap) hK
    cases hop : o.op with
    | call c =>
      refine key (fun e => alen A T c e) (fun e => lin_len A T c e) (congr_len A T (by rw [← hop]; exact ha.ev)) fun s K => ?_
      unfold aop; rw [hc]; simp only [hop]
    | _ =>
      refine key (fun e => aopP A T o e) (fun e => lin_P A T o e) (congr_P A T ha.ev) fun s K => ?_
      unfold aop; rw [hc]; simp only [hop]
  · exact ⟨rfl, .inr ⟨by rw [← ha.gd]; exact hg, rfl, rfl⟩⟩

theorem out_q {tree : Md} {all : List Oper} {o : Oper} {s : St} {y : AVal} {h' : List Blk} (hc : cls tree o.op = .q) (h : Out A T Sp tree all o s y h') :
    ∃ l, h' = freeze s.heap l ∧ ∀ s' k, Alike all o s s' → (s'.heap = freeze s.heap k ∨ freeze s'.heap k = s.heap) → Out A T Sp tree all o s' y (freeze s'.heap l) := by
  rcases h with ⟨hg, h⟩ | ⟨hg, rfl, rfl⟩
  · have hop : ∀ s (K : AVal → List Blk → Prop), aop A T Sp tree o s K = aopQ A T Sp o (ev s) s.heap fun v l => K v (freeze s.heap l) := by
      intro s K; unfold aop; rw [hc]
    have h1 := h (fun v k => v = y ∧ k = h') ⟨rfl, rfl⟩
    rw [hop] at h1
    obtain ⟨v, l, ⟨rfl, h2⟩, h3⟩ := lin_Q A T Sp o _ _ _ h1
    refine ⟨l, h2.symm, fun s' k ha hk => .inl ⟨by rw [← ha.gd]; exact hg, fun K hK => ?_⟩⟩
    rw [hop, ← congr_Q A T Sp ha.ev]
    have := h3 (fun v l => K v (freeze s'.heap l)) hK
    rcases hk with hk | hk
    · rw [hk, Q_freeze]; rw [hk] at this; exact this
    · rw [← hk, Q_freeze] at this; exact this
  · exact ⟨[], rfl, fun s' k ha _ => .inr ⟨by rw [← ha.gd]; exact hg, rfl, rfl⟩⟩

theorem out_same {tree : Md} {all : List Oper} {o : Oper} {s s' : St} {y : AVal} {h' : List Blk} (hh : s'.heap = s.heap) (ha : Alike all o s s') (h : Out A T Sp tree all o s y h') : Out A T Sp tree all o s' y h' := by
  rcases h with ⟨hg, h⟩ | ⟨hg, rfl, rfl⟩
  · refine .inl ⟨by rw [← ha.gd]; exact hg, fun K hK => ?_⟩
    have h1 := h K hK
    unfold aop at h1 ⊢
    cases hc : cls tree o.op
    · rw [hc] at h1
      dsimp only at h1 ⊢
      cases hop : o.op with
      | call c => rw [hop] at h1; dsimp only at h1 ⊢; rw [hh, ← congr_len A T (by rw [← hop]; exact ha.ev)]; exact h1
      | _ => rw [hop] at h1; dsimp only at h1 ⊢; rw [hh, ← congr_P A T ha.ev]; exact h1
    · rw [hc] at h1
      dsimp only at h1 ⊢
      rw [hh, ← congr_Q A T Sp ha.ev]; exact h1
    · rw [hc] at h1
      dsimp only at h1 ⊢
      rw [hh, ← congr_E A T Sp ha.ev, ← yield_congr ha.ev]; exact h1
    · rw [hc] at h1
      dsimp only at h1 ⊢
      rw [hh]; exact h1
  · exact .inr ⟨by rw [← ha.gd]; exact hg, rfl, hh.symm⟩

theorem hset_app (k : List Blk) (B : Blk) : ∀ (h : List Blk) (i : Nat), i < h.length → hset (h ++ k) i B = hset h i B ++ k
  | [], i, hi => by simp at hi
  | x :: h, 0, _ => rfl
  | x :: h, i + 1, hi => by
    show x :: hset (h ++ k) i B = _
    rw [hset_app k B h i (by simpa using hi)]; rfl
theorem freeze_app (k : List Blk) : ∀ (l : List Nat) (h : List Blk), (∀ i ∈ l, i < h.length) → freeze (h ++ k) l = freeze h l ++ k := by
  intro l
  induction l with
  | nil => intro h _; rfl
  | cons i l ih =>
    intro h hl
    have hi := hl i (by simp)
    show freeze (hset (h ++ k) i _) l = _
    rw [hget_appl h k i hi, hset_app k _ h i hi]
    exact ih _ fun j hj => by rw [hset_length]; exact hl j (by simp [hj])

/-- What reads goes likewise when memory has grown. -/
theorem out_qa {tree : Md} {all : List Oper} {o : Oper} {s : St} {y : AVal} {h' : List Blk} (hc : cls tree o.op = .q) (h : Out A T Sp tree all o s y h') :
    ∃ l, h' = freeze s.heap l ∧ (∀ i ∈ l, (hget s.heap i).live = true) ∧ ∀ s', Alike all o s s' → More s.heap s'.heap → Out A T Sp tree all o s' y (freeze s'.heap l) := by
  rcases h with ⟨hg, h⟩ | ⟨hg, rfl, rfl⟩
  · have hop : ∀ s (K : AVal → List Blk → Prop), aop A T Sp tree o s K = aopQ A T Sp o (ev s) s.heap fun v l => K v (freeze s.heap l) := by
      intro s K; unfold aop; rw [hc]
    have h1 := h (fun v k => v = y ∧ k = h') ⟨rfl, rfl⟩
    rw [hop] at h1
    have h1 := Q_app A T Sp (More.refl _) h1
    obtain ⟨v, l, ⟨⟨rfl, h2⟩, hb⟩, h3⟩ := lin_Q A T Sp o _ _ _ h1
    refine ⟨l, h2.symm, hb, fun s' ha hk => .inl ⟨by rw [← ha.gd]; exact hg, fun K hK => ?_⟩⟩
    rw [hop, ← congr_Q A T Sp ha.ev]
    have h4 := Q_app A T Sp hk (h3 (fun a b => a = v ∧ b = l) ⟨rfl, rfl⟩)
    obtain ⟨v', l', ⟨⟨rfl, rfl⟩, _⟩, h5⟩ := lin_Q A T Sp o _ _ _ h4
    exact h5 _ hK
  · exact ⟨[], rfl, (fun _ h => by cases h), fun s' ha _ => .inr ⟨by rw [← ha.gd]; exact hg, rfl, rfl⟩⟩

theorem findRes_congr {d : Nat} : ∀ (h k : List Blk) (i : Nat), h.length = k.length → (∀ j, isMark (hget h j) d = isMark (hget k j) d) → findRes h d i = findRes k d i
  | [], [], _, _, _ => rfl
  | [], _ :: _, _, hl, _ => by simp at hl
  | _ :: _, [], _, hl, _ => by simp at hl
  | x :: h, y :: k, i, hl, hm => by
    have h0 := hm 0
    simp only [hget] at h0
    unfold findRes
    rw [h0, findRes_congr h k (i + 1) (by simpa using hl) fun j => by have := hm (j + 1); simpa only [hget] using this]
theorem isMark_live {b : Blk} {d : Nat} (h : b.live = true) : isMark b d = false := by
  cases hm : isMark b d with
  | false => rfl
  | true => rw [isMark_eq hm] at h; cases h
theorem isMark_mark {d e : Nat} (h : d ≠ e) : isMark (mark d) e = false := by
  show ((d : Int) == (e : Int)) = false
  exact beq_eq_false_iff_ne.2 fun h' => h (by omega)
theorem findRes_hset {h : List Blk} {id d : Nat} {B : Blk} (h1 : isMark (hget h id) d = false) (h2 : isMark B d = false) : findRes (hset h id B) d 0 = findRes h d 0 := by
  refine findRes_congr _ _ _ (hset_length _ _ _) fun j => ?_
  rw [hget_hset]
  split
  · rename_i e; obtain ⟨rfl, _⟩ := e; rw [h1, h2]
  · rfl
theorem findRes_freeze {h : List Blk} {l : List Nat} {d : Nat} (hl : ∀ i ∈ l, (hget h i).live = true) : findRes (freeze h l) d 0 = findRes h d 0 := by
  refine findRes_congr _ _ _ (freeze_length _ _) fun j => ?_
  by_cases hj : j ∈ l
  · rw [isMark_live (hl j hj), isMark_live (by rw [freeze_live]; exact hl j hj)]
  · have h1 := freeze_live l h j
    have h2 := freeze_cells l h j
    have h3 := freeze_get l h j
    simp only [hj, decide_false, Bool.false_and, Bool.not_false, Bool.and_true] at h3
    have : hget (freeze h l) j = hget h j := by
      generalize hget (freeze h l) j = a at *
      generalize hget h j = b at *
      cases a; cases b
      simp at h1 h2 h3
      simp [h1, h2, h3]
    rw [this]
theorem freeze_hset {h : List Blk} {l : List Nat} {id : Nat} {B : Blk} (hi : id ∉ l) : freeze (hset h id B) l = hset (freeze h l) id B := by
  refine blk_ext (by simp [freeze_length, hset_length]) fun j => ?_
  have h1 := freeze_live l (hset h id B) j
  have h2 := freeze_cells l (hset h id B) j
  have h3 := freeze_get l (hset h id B) j
  have k1 := freeze_live l h j
  have k2 := freeze_cells l h j
  have k3 := freeze_get l h j
  rw [hset_length] at h3
  rw [hget_hset, freeze_length]
  rw [hget_hset] at h1 h2 h3
  by_cases e : id = j ∧ id < h.length
  · rw [if_pos e] at h1 h2 h3 ⊢
    obtain ⟨rfl, hlt⟩ := e
    simp only [hi, decide_false, Bool.false_and, Bool.not_false, Bool.and_true] at h3
    generalize hget (freeze (hset h id B) l) id = a at *
    cases a; cases B
    simp at h1 h2 h3
    simp [h1, h2, h3]
  · rw [if_neg e] at h1 h2 h3 ⊢
    rw [← k3] at h3
    rw [← k1] at h1
    rw [← k2] at h2
    generalize hget (freeze (hset h id B) l) j = a at *
    generalize hget (freeze h l) j = b at *
    cases a; cases b
    simp at h1 h2 h3
    simp [h1, h2, h3]
theorem hset_comm {h : List Blk} {i j : Nat} {B C : Blk} (hne : i ≠ j) : hset (hset h i B) j C = hset (hset h j C) i B := by
  refine blk_ext (by simp [hset_length]) fun k => ?_
  simp only [hget_hset, hset_length]
  by_cases e1 : j = k ∧ j < h.length
  · rw [if_pos e1, if_neg (by rintro ⟨rfl, _⟩; exact hne e1.1.symm), if_pos e1]
  · rw [if_neg e1]
    by_cases e2 : i = k ∧ i < h.length
    · rw [if_pos e2, if_pos e2]
    · rw [if_neg e2, if_neg e2, if_neg e1]

/-- An allocation at its place. -/
theorem out_fill {tree : Md} {all : List Oper} {o : Oper} {s : St} {y : AVal} {h' : List Blk} (hc : cls tree o.op = .r) (h : Out A T Sp tree all o s y h') :
    (∃ d id B, o.dst = some d ∧ B.live = true ∧ findRes s.heap d 0 = some id ∧ h' = hset s.heap id B ∧ ∀ s', Alike all o s s' → findRes s'.heap d 0 = some id → Out A T Sp tree all o s' y (hset s'.heap id B)) ∨
    (h' = s.heap ∧ ∀ s', Alike all o s s' → Out A T Sp tree all o s' y s'.heap) := by
  rcases h with ⟨hg, h⟩ | ⟨hg, rfl, rfl⟩
  · have hop : ∀ s (K : AVal → List Blk → Prop), aop A T Sp tree o s K = aopR T o s.heap K := by
      intro s K; unfold aop; rw [hc]
    have h1 := h (fun v k => v = y ∧ k = h') ⟨rfl, rfl⟩
    rw [hop] at h1
    unfold aopR at h1
    split at h1 <;> try (exact h1.elim)
    rename_i t d h2 h3
    obtain ⟨h4, h5⟩ := onlyIf_inv h1
    obtain ⟨id, h6, rfl, rfl⟩ := optK_inv h5
    refine .inl ⟨d, id, _, h3, rfl, h6, rfl, fun s' ha hf => .inl ⟨by rw [← ha.gd]; exact hg, fun K hK => ?_⟩⟩
    rw [hop]
    unfold aopR
    rw [h2, h3]
    dsimp only
    rw [h4]
    show optK _ _
    rw [hf]
    exact hK
  · exact .inr ⟨rfl, fun s' ha => .inr ⟨by rw [← ha.gd]; exact hg, rfl, rfl⟩⟩

/-- An allocation. -/
theorem out_alloc {tree : Md} {all : List Oper} {o : Oper} {s : St} {y : AVal} {h' : List Blk} (hc : cls tree o.op = .e) (hi : isAlloc o.op = true) (h : Out A T Sp tree all o s y h') :
    ∃ k, h' = s.heap ++ k ∧ ∀ s', Alike all o s s' → s'.heap.length = s.heap.length → Out A T Sp tree all o s' y (s'.heap ++ k) := by
  rcases h with ⟨hg, h⟩ | ⟨hg, rfl, rfl⟩
  · cases hop : o.op <;> rw [hop] at hi <;> try (cases hi; done)
    rename_i t
    have hop' : ∀ s (K : AVal → List Blk → Prop), aop A T Sp tree o s K = onlyIf (notOther (T.und t)) fun _ => K (.own s.heap.length 0) (s.heap ++ [⟨true, true, mapV (T.zero t)⟩]) := by
      intro s K; unfold aop; rw [hc]; dsimp only; rw [hop]; unfold aopE; rw [hop]; rfl
    have h1 := h (fun v k => v = y ∧ k = h') ⟨rfl, rfl⟩
    rw [hop'] at h1
    obtain ⟨h2, rfl, rfl⟩ := onlyIf_inv h1
    refine ⟨_, rfl, fun s' ha hl => .inl ⟨by rw [← ha.gd]; exact hg, fun K hK => ?_⟩⟩
    rw [hop', h2]
    show K _ _
    rw [hl]
    exact hK
  · exact ⟨[], by simp, fun s' ha _ => .inr ⟨by rw [← ha.gd]; exact hg, rfl, by simp⟩⟩

theorem put_put {tm : List AVal} {h h' k : List Blk} {d e : Option Tmp} {x y : AVal} (hne : ∀ t, d = some t → e ≠ some t) :
    put ⟨(put ⟨tm, h⟩ d x).tmps, k⟩ e y = put ⟨(put ⟨tm, h'⟩ e y).tmps, k⟩ d x := by
  cases d with
  | none => cases e <;> rfl
  | some t =>
    cases e with
    | none => rfl
    | some u =>
      have : t ≠ u := fun e => hne t rfl (e ▸ rfl)
      simp only [put, lset_eq]
      rw [List.set_comm _ _ this]

/-- Two that are independent change places. -/
theorem swap {tree : Md} {ops : Array Oper} {j i : Oper} (hi : indep tree ops j i = true) {s : St} {K : St → Prop} (h : astep A T Sp tree ops.toList j s fun s' => astep A T Sp tree ops.toList i s' K) :
    astep A T Sp tree ops.toList i s fun s' => astep A T Sp tree ops.toList j s' K := by
  simp only [indep, Bool.and_eq_true] at hi
  obtain ⟨⟨h1, h2⟩, hcl⟩ := hi
  have hd : ∀ t, j.dst = some t → i.dst ≠ some t := (Oper.apart_spec h1).2.1
  obtain ⟨yj, hj, oj, h⟩ := out_of h
  obtain ⟨yi, hi, oi, hk⟩ := out_of h
  rw [put_put (h' := hj) hd] at hk
  have ai : ∀ h, Alike ops.toList i (put ⟨s.tmps, h⟩ j.dst yj) s := fun h => alike_put h1
  have aj : ∀ h, Alike ops.toList j s (put ⟨s.tmps, h⟩ i.dst yi) := fun h => by
    have := alike_put (s := s) (h := h) (y := yi) h2
    exact ⟨fun x hx => (this.ev x hx).symm, this.gd.symm⟩
  have tm : ∀ h h', (put ⟨s.tmps, h⟩ i.dst yi).tmps = (put ⟨s.tmps, h'⟩ i.dst yi).tmps := fun h h' => by cases i.dst <;> rfl
  have fin : ∀ hi', Out A T Sp tree ops.toList i s yi hi' → Out A T Sp tree ops.toList j (put ⟨s.tmps, hi'⟩ i.dst yi) yj hi → astep A T Sp tree ops.toList i s fun s' => astep A T Sp tree ops.toList j s' K := by
    intro hi' o1 o2
    refine of_out o1 (of_out o2 ?_)
    rw [tm hi' hj]
    exact hk
  have casej : cls tree j.op = .p → astep A T Sp tree ops.toList i s fun s' => astep A T Sp tree ops.toList j s' K := by
    intro hc
    obtain ⟨rfl, h4⟩ := out_p hc (aj hi) oj
    have o1 : Out A T Sp tree ops.toList i s yi hi := out_same (by rw [put_heap]) (ai _) oi
    rw [put_heap] at h4
    exact fin hi o1 h4
  have casei : cls tree i.op = .p → astep A T Sp tree ops.toList i s fun s' => astep A T Sp tree ops.toList j s' K := by
    intro hc
    obtain ⟨h3, h4⟩ := out_p hc (ai hj) oi
    rw [put_heap] at h3
    subst h3
    exact fin s.heap h4 (out_same (by rw [put_heap]) (aj _) oj)
  have caseq : cls tree j.op = .q → cls tree i.op = .q → astep A T Sp tree ops.toList i s fun s' => astep A T Sp tree ops.toList j s' K := by
    intro hcj hci
    obtain ⟨l1, rfl, hq1⟩ := out_q hcj oj
    obtain ⟨l2, h3, hq2⟩ := out_q hci oi
    rw [put_heap] at h3
    have h3' : hi = freeze (freeze s.heap l1) l2 := h3
    subst h3'
    have o1 : Out A T Sp tree ops.toList i s yi (freeze s.heap l2) := hq2 s l1 (ai _) (.inr (by rw [put_heap]))
    have o2 := hq1 (put ⟨s.tmps, freeze s.heap l2⟩ i.dst yi) l2 (aj _) (.inl (by rw [put_heap]))
    rw [put_heap] at o2
    refine fin _ o1 ?_
    rw [freeze_comm s.heap l1 l2]
    exact o2
  have casea : cls tree j.op = .q → cls tree i.op = .e → isAlloc i.op = true → astep A T Sp tree ops.toList i s fun s' => astep A T Sp tree ops.toList j s' K := by
    intro hcj hci hal
    obtain ⟨l1, rfl, hb, hq1⟩ := out_qa hcj oj
    obtain ⟨k, h3, hq2⟩ := out_alloc hci hal oi
    rw [put_heap] at h3
    have h3' : hi = freeze s.heap l1 ++ k := h3
    subst h3'
    have o1 : Out A T Sp tree ops.toList i s yi (s.heap ++ k) := hq2 s (ai _) (by rw [put_heap]; exact (freeze_length _ _).symm)
    have o2 := hq1 (put ⟨s.tmps, s.heap ++ k⟩ i.dst yi) (aj _) (by rw [put_heap]; exact More.app _ _)
    rw [put_heap] at o2
    refine fin _ o1 ?_
    rw [← freeze_app _ _ _ fun i hi => live_lt (hb i hi)]
    exact o2
  have caseqr : cls tree j.op = .q → cls tree i.op = .r → astep A T Sp tree ops.toList i s fun s' => astep A T Sp tree ops.toList j s' K := by
    intro hcj hci
    obtain ⟨l1, rfl, hb, hq1⟩ := out_qa hcj oj
    rcases out_fill hci oi with ⟨d, id, B, e1, e2, e3, e4, e5⟩ | ⟨e1, e2⟩
    · rw [put_heap] at e3 e4
      have e3' : findRes (freeze s.heap l1) d 0 = some id := e3
      have e4' : hi = hset (freeze s.heap l1) id B := e4
      subst e4'
      rw [findRes_freeze hb] at e3'
      obtain ⟨f1, f2⟩ := findRes_at e3'
      have hnl : id ∉ l1 := fun h => by have := hb id h; rw [f2] at this; cases this
      have o1 : Out A T Sp tree ops.toList i s yi (hset s.heap id B) := e5 s (ai _) e3'
      have o2 := hq1 (put ⟨s.tmps, hset s.heap id B⟩ i.dst yi) (aj _) (by rw [put_heap]; exact More.fill f2 B)
      rw [put_heap] at o2
      refine fin _ o1 ?_
      rw [← freeze_hset hnl]
      exact o2
    · rw [put_heap] at e1
      subst e1
      have o1 : Out A T Sp tree ops.toList i s yi s.heap := e2 s (ai _)
      have o2 := hq1 (put ⟨s.tmps, s.heap⟩ i.dst yi) (aj _) (by rw [put_heap]; exact More.refl _)
      rw [put_heap] at o2
      exact fin _ o1 o2
  have caserr : cls tree j.op = .r → cls tree i.op = .r → astep A T Sp tree ops.toList i s fun s' => astep A T Sp tree ops.toList j s' K := by
    intro hcj hci
    rcases out_fill hcj oj with ⟨dj, idj, Bj, a1, a2, a3, a4, a5⟩ | ⟨a1, a2⟩
    · subst a4
      rcases out_fill hci oi with ⟨d, id, B, e1, e2, e3, e4, e5⟩ | ⟨e1, e2⟩
      · rw [put_heap] at e3 e4
        have e3' : findRes (hset s.heap idj Bj) d 0 = some id := e3
        have e4' : hi = hset (hset s.heap idj Bj) id B := e4
        subst e4'
        have hdd : dj ≠ d := fun e => hd dj a1 (e ▸ e1)
        obtain ⟨g1, g2⟩ := findRes_at a3
        rw [findRes_hset (by rw [g2]; exact isMark_mark hdd) (isMark_live a2)] at e3'
        obtain ⟨f1, f2⟩ := findRes_at e3'
        have hii : idj ≠ id := by
          rintro rfl
          rw [g2] at f2
          have h5 := isMark_mark hdd
          rw [f2] at h5
          have h6 : isMark (mark d) d = true := by show ((d : Int) == (d : Int)) = true; simp
          rw [h6] at h5; cases h5
        have o1 : Out A T Sp tree ops.toList i s yi (hset s.heap id B) := e5 s (ai _) e3'
        have o2 := a5 (put ⟨s.tmps, hset s.heap id B⟩ i.dst yi) (aj _) (by
          rw [put_heap]
          show findRes (hset s.heap id B) dj 0 = _
          rw [findRes_hset (by rw [f2]; exact isMark_mark (Ne.symm hdd)) (isMark_live e2)]
          exact a3)
        rw [put_heap] at o2
        refine fin _ o1 ?_
        rw [hset_comm hii]
        exact o2
      · rw [put_heap] at e1
        subst e1
        have o1 : Out A T Sp tree ops.toList i s yi s.heap := e2 s (ai _)
        have o2 := a5 (put ⟨s.tmps, s.heap⟩ i.dst yi) (aj _) (by rw [put_heap]; exact a3)
        rw [put_heap] at o2
        exact fin _ o1 o2
    · subst a1
      have o1 : Out A T Sp tree ops.toList i s yi hi := out_same (by rw [put_heap]) (ai _) oi
      have o2 := a2 (put ⟨s.tmps, hi⟩ i.dst yi) (aj _)
      rw [put_heap] at o2
      exact fin _ o1 o2
  cases hcj : cls tree j.op <;> cases hci : cls tree i.op <;> rw [hcj, hci] at hcl <;> first
    | exact casej hcj
    | exact casei hci
    | exact caseq hcj hci
    | exact casea hcj hci hcl
    | exact caseqr hcj hci
    | exact caserr hcj hci
    | cases hcl
end
end Eng
