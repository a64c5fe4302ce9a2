/- The engine, part 19: two operations may change places. -/
import Derived.Test.YtlmlganfjnokiaaE18
set_option linter.unusedSimpArgs false
set_option linter.unusedVariables false
namespace Eng
open Go

section
variable (A : Ar) (T : Ty) (Sp : SpecT)

theorem mapE_congr {e e' : Operand → AVal} : ∀ {l : List Operand}, (∀ x ∈ l, e x = e' x) → l.map e = l.map e'
  | [], _ => rfl
  | x :: l, h => by simp [h x (by simp)]; intro y hy; exact h y (by simp [hy])
theorem parts_congr {e e' : Operand → AVal} : ∀ {l : List (Nat × Operand)}, (∀ p ∈ l, e p.2 = e' p.2) → aopP.partsOf e l = aopP.partsOf e' l
  | [], _ => rfl
  | (i, x) :: l, h => by simp only [aopP.partsOf, h (i, x) (by simp), parts_congr (l := l) fun p hp => h p (by simp [hp])]

theorem congr_P {o : Oper} {e e' : Operand → AVal} (h : ∀ x ∈ o.op.operands, e x = e' x) : aopP A T o e = aopP A T o e' := by
  obtain ⟨dst, op, ty, pos, after, guard⟩ := o
  funext K
  unfold aopP
  cases op <;> simp only [Op.operands] at h <;> dsimp only
  case move x => rw [h x (by simp)]
  case assign x => rw [h x (by simp)]
  case pick c a b => rw [h c (by simp), h a (by simp), h b (by simp)]
  case binOp o t x y yt => rw [h x (by simp), h y (by simp)]
  case unOp o t x => rw [h x (by simp)]
  case convert s d x => rw [h x (by simp)]
  case load t x => rw [h x (by simp)]
  case nilCheck x => rw [h x (by simp)]
  case extract x i => rw [h x (by simp)]
  case field t x f => rw [h x (by simp)]
  case index t x i => rw [h x (by simp), h i (by simp)]
  case fieldAddr t x f => rw [h x (by simp)]
  case indexAddr t x i => rw [h x (by simp), h i (by simp)]
  case makeInterface t x => rw [h x (by simp)]
  case typeAssert x a b c => rw [h x (by simp)]
  case makeFunc f a c => rw [mapE_congr (l := a.toList) fun x hx => h x (by simp at hx ⊢; exact .inl hx), mapE_congr (l := c.toList) fun x hx => h x (by simp at hx ⊢; exact .inr hx)]
  case build t ps => rw [parts_congr (l := ps.toList) fun p hp => h p.2 (by simp; exact ⟨p.1, by simpa using hp⟩)]
  case sliceToArrayPointer t x => rw [h x (by simp)]

theorem congr_len {c : Call} {e e' : Operand → AVal} (h : ∀ x ∈ (Op.call c).operands, e x = e' x) : alen A T c e = alen A T c e' := by
  funext K
  unfold alen
  cases hx : c.args[0]? with
  | none => cases c.argTypes[0]? <;> rfl
  | some x =>
    have : x ∈ c.args := Array.mem_of_getElem? hx
    cases c.argTypes[0]? with
    | none => rfl
    | some t =>
      dsimp only
      rw [h x (by simp [Op.operands, Call.operands, this])]

theorem callee_congr {c : Call} {e e' : Operand → AVal} (h : ∀ x ∈ (Op.call c).operands, e x = e' x) : callee T e c = callee T e' c := by
  obtain ⟨cal, args, tys⟩ := c
  have ha : args.toList.map e = args.toList.map e' := mapE_congr fun x hx => h x (by simp [Op.operands, Call.operands]; right; simpa using hx)
  unfold callee
  cases cal with
  | value f => simp only [ha, h f (by simp [Op.operands, Call.operands])]
  | invoke r n => simp only [ha, h r (by simp [Op.operands, Call.operands])]
  | builtin b => rfl

theorem congr_Q {o : Oper} {e e' : Operand → AVal} {hp : List Blk} (h : ∀ x ∈ o.op.operands, e x = e' x) : aopQ A T Sp o e hp = aopQ A T Sp o e' hp := by
  obtain ⟨dst, op, ty, pos, after, guard⟩ := o
  funext K
  unfold aopQ
  cases op <;> simp only [Op.operands] at h <;> dsimp only
  case load t x => rw [h x (by simp)]
  case slice t x lo hi mx =>
    rw [h x (by simp)]
    have h1 : lo.map e = lo.map e' := by cases lo with | none => rfl | some y => simp [h y (by simp)]
    have h2 : hi.map e = hi.map e' := by cases hi with | none => rfl | some y => simp [h y (by simp)]
    rw [h1, h2]
  case box t x => rw [h x (by simp)]
  case buildSlice t n ps => rw [parts_congr (l := ps.toList) fun p hp => h p.2 (by simp; exact ⟨p.1, by simpa using hp⟩)]
  case makeSlice t a b => rw [h a (by simp), h b (by simp)]
  case call c =>
    rw [callee_congr T h]
    have : appQ A T c.args c.argTypes e hp = appQ A T c.args c.argTypes e' hp := by
      obtain ⟨cal, args, tys⟩ := c
      unfold appQ
      funext K
      rcases ha : args.toList with _ | ⟨s, _ | ⟨x, _ | ⟨z, r⟩⟩⟩ <;> rcases tys.toList with _ | ⟨t, _ | ⟨u, q⟩⟩ <;> try rfl
      dsimp only
      rw [h s (by have : s ∈ args.toList := by rw [ha]; simp
                  simp [Call.operands]; right; simpa using this), h x (by have : x ∈ args.toList := by rw [ha]; simp
                                                                          simp [Call.operands]; right; simpa using this)]
    rw [this]

theorem congr_E {o : Oper} {e e' : Operand → AVal} {hp : List Blk} (h : ∀ x ∈ o.op.operands, e x = e' x) : aopE A T Sp o e hp = aopE A T Sp o e' hp := by
  obtain ⟨dst, op, ty, pos, after, guard⟩ := o
  funext K
  unfold aopE
  cases op <;> simp only [Op.operands] at h <;> dsimp only
  case store t x y => rw [h x (by simp), h y (by simp)]
  case box t x => rw [h x (by simp)]
  case buildSlice t n ps => rw [parts_congr (l := ps.toList) fun p hp => h p.2 (by simp; exact ⟨p.1, by simpa using hp⟩)]
  case makeSlice t a b => rw [h a (by simp), h b (by simp)]
  case call c =>
    rw [callee_congr T h]
    have : appE A T c.args c.argTypes e hp = appE A T c.args c.argTypes e' hp := by
      obtain ⟨cal, args, tys⟩ := c
      unfold appE
      funext K
      rcases ha : args.toList with _ | ⟨s, _ | ⟨x, _ | ⟨z, r⟩⟩⟩ <;> rcases tys.toList with _ | ⟨t, _ | ⟨u, q⟩⟩ <;> try rfl
      dsimp only
      rw [h s (by have : s ∈ args.toList := by rw [ha]; simp
                  simp [Call.operands]; right; simpa using this), h x (by have : x ∈ args.toList := by rw [ha]; simp
                                                                          simp [Call.operands]; right; simpa using this)]
    have hcpy : cpyE A T c.args c.argTypes e hp = cpyE A T c.args c.argTypes e' hp := by
      obtain ⟨cal, args, tys⟩ := c
      unfold cpyE
      funext K
      rcases ha : args.toList with _ | ⟨s, _ | ⟨x, _ | ⟨z, r⟩⟩⟩ <;> rcases tys.toList with _ | ⟨t, _ | ⟨u, q⟩⟩ <;> try rfl
      dsimp only
      rw [h s (by have : s ∈ args.toList := by rw [ha]; simp
                  simp [Call.operands]; right; simpa using this), h x (by have : x ∈ args.toList := by rw [ha]; simp
                                                                          simp [Call.operands]; right; simpa using this)]
    rw [this, hcpy]

theorem yield_congr {o : Op} {e e' : Operand → AVal} (h : ∀ x ∈ o.operands, e x = e' x) : yieldOf e o = yieldOf e' o := by
  cases o <;> try rfl
  rename_i c
  obtain ⟨cal, args, tys⟩ := c
  cases cal <;> try rfl
  rename_i g
  simp only [yieldOf]
  rw [h g (by simp [Op.operands, Call.operands])]
  have : args.toList.map e = args.toList.map e' := mapE_congr fun x hx => h x (by simp [Op.operands, Call.operands]; right; simpa using hx)
  rw [this]

/-- What is frozen reads the same. -/
theorem snap_freeze (h : List Blk) (l : List Nat) : ∀ d, snap (freeze h l) d = snap h d := by
  intro d
  induction d with
  | zero => rfl
  | succ d ih =>
    funext x
    cases x <;> simp only [snap, ih, freeze_live, freeze_cells]
theorem ids_freeze (h : List Blk) (l : List Nat) : ∀ d, ids (freeze h l) d = ids h d := by
  intro d
  induction d with
  | zero => rfl
  | succ d ih =>
    funext x
    cases x <;> simp only [ids, ih, freeze_live, freeze_cells]
theorem row_freeze (h : List Blk) (l : List Nat) (sz : Nat) (x : AVal) : rowK A (freeze h l) sz x = rowK A h sz x := by
  funext K
  unfold rowK
  simp only [freeze_live, freeze_cells]
theorem held_freeze (h : List Blk) (l : List Nat) (args : List AVal) (r : AVal) : heldBy (freeze h l) args r = heldBy h args r := by
  unfold heldBy; rw [ids_freeze]

theorem Q_freeze {o : Oper} {e : Operand → AVal} {h : List Blk} {l : List Nat} : aopQ A T Sp o e (freeze h l) = aopQ A T Sp o e h := by
  funext K
  unfold aopQ appQ
  simp only [freeze_live, freeze_cells, snap_freeze, ids_freeze, row_freeze, held_freeze]

/-- Memory has grown, or places were filled. -/
def More (h k : List Blk) : Prop := h.length ≤ k.length ∧ ∀ i, (hget h i).live = true → hget k i = hget h i
theorem More.refl (h : List Blk) : More h h := ⟨Nat.le_refl _, fun _ _ => rfl⟩
theorem More.app (h k : List Blk) : More h (h ++ k) := ⟨by simp, fun i hi => hget_appl _ _ _ (live_lt hi)⟩
theorem More.fill {h : List Blk} {id d : Nat} (hm : hget h id = mark d) (B : Blk) : More h (hset h id B) :=
  ⟨by rw [hset_length]; exact Nat.le_refl _, fun i hi => by
    rw [hget_hset]
    split
    · rename_i e
      obtain ⟨rfl, _⟩ := e
      rw [hm] at hi; cases hi
    · rfl⟩
theorem snapL_app {f g : AVal → Option AVal} {a b : AVal → List Nat} {L : Nat → Prop} (hf : ∀ x y, f x = some y → g x = some y ∧ b x = a x ∧ ∀ i ∈ a x, L i) : ∀ (xs ys : List AVal), snapL f xs = some ys → snapL g xs = some ys ∧ idsL b xs = idsL a xs ∧ ∀ i ∈ idsL a xs, L i
  | [], ys, h => ⟨h, rfl, fun i hi => by simp [idsL] at hi⟩
  | x :: xs, ys, h => by
    simp only [snapL] at h
    split at h <;> try (cases h; done)
    rename_i y ys' h1 h2
    cases h
    obtain ⟨e1, e2, e3⟩ := hf _ _ h1
    obtain ⟨f1, f2, f3⟩ := snapL_app hf xs ys' h2
    refine ⟨by simp only [snapL, e1, f1], by simp only [idsL, e2, f2], fun i hi => ?_⟩
    simp only [idsL, List.mem_append] at hi
    rcases hi with hi | hi
    · exact e3 i hi
    · exact f3 i hi

/-- What a walk reads lies as it lay when memory has grown. -/
theorem snap_app {h k : List Blk} (hm : More h k) : ∀ (d : Nat) (x y : AVal), snap h d x = some y → snap k d x = some y ∧ ids k d x = ids h d x ∧ ∀ i ∈ ids h d x, (hget h i).live = true := by
  intro d
  induction d with
  | zero => intro x y hs; simp [snap] at hs
  | succ d ih =>
    intro x y hs
    have hL := fun xs ys => snapL_app (f := snap h d) (g := snap k d) (a := ids h d) (b := ids k d) (L := fun i => (hget h i).live = true) ih xs ys
    cases x <;> simp only [snap] at hs <;> try (cases hs; done)
    case i | s | b | sb | v | lst | ref => cases hs; exact ⟨rfl, rfl, fun i hi => by simp [ids] at hi⟩
    case agg cs =>
      cases hc : snapL (snap h d) cs <;> rw [hc] at hs <;> simp at hs
      subst hs
      obtain ⟨h1, h2, h3⟩ := hL _ _ hc
      exact ⟨by simp only [snap, h1, Option.map_some], by simp only [ids, h2], by simpa only [ids] using h3⟩
    case tup cs =>
      cases hc : snapL (snap h d) cs <;> rw [hc] at hs <;> simp at hs
      subst hs
      obtain ⟨h1, h2, h3⟩ := hL _ _ hc
      exact ⟨by simp only [snap, h1, Option.map_some], by simp only [ids, h2], by simpa only [ids] using h3⟩
    case own id off =>
      split at hs <;> try (cases hs; done)
      rename_i hlive
      have hsame := hm.2 _ hlive
      cases hc : snapL (snap h d) (hget h id).cells <;> rw [hc] at hs <;> simp at hs
      subst hs
      obtain ⟨h1, h2, h3⟩ := hL _ _ hc
      refine ⟨by simp only [snap, hsame, hlive, if_true, h1, Option.map_some], by simp only [ids, hsame, h2], fun i hi => ?_⟩
      simp only [ids, List.mem_cons] at hi
      rcases hi with rfl | hi
      · exact hlive
      · exact h3 i hi
    case osl m id off n sz =>
      split at hs <;> try (cases hs; done)
      rename_i hlive
      have hsame := hm.2 _ hlive
      split at hs <;> try (cases hs; done)
      rename_i cs hcs
      cases hc : snapL (snap h d) cs <;> rw [hc] at hs <;> simp at hs
      subst hs
      obtain ⟨h1, h2, h3⟩ := hL _ _ hc
      refine ⟨by simp only [snap, hsame, hlive, if_true, hcs, h1, Option.map_some], by simp only [ids, hsame, hcs, h2], fun i hi => ?_⟩
      simp only [ids, hcs, List.mem_cons] at hi
      rcases hi with rfl | hi
      · exact hlive
      · exact h3 i hi
    case ifc t x =>
      cases hc : snap h d x <;> rw [hc] at hs <;> simp at hs
      subst hs
      obtain ⟨h1, h2, h3⟩ := ih _ _ hc
      exact ⟨by simp only [snap, h1, Option.map_some], by simp only [ids, h2], by simpa only [ids] using h3⟩
    case fn f a c =>
      split at hs <;> try (cases hs; done)
      rename_i a' c' h1 h2
      cases hs
      obtain ⟨e1, e2, e3⟩ := hL _ _ h1
      obtain ⟨f1, f2, f3⟩ := hL _ _ h2
      refine ⟨by simp only [snap, e1, f1], by simp only [ids, e2, f2], fun i hi => ?_⟩
      simp only [ids, List.mem_append] at hi
      rcases hi with hi | hi
      · exact e3 i hi
      · exact f3 i hi

theorem held_app {h k : List Blk} (hm : More h k) {args args' : List AVal} {r : AVal} (hs : snapL (snap h depth) args = some args') : heldBy k args r = heldBy h args r ∧ ∀ i ∈ heldBy h args r, (hget h i).live = true := by
  obtain ⟨h1, h2, h3⟩ := snapL_app (f := snap h depth) (g := snap k depth) (a := ids h depth) (b := ids k depth) (L := fun i => (hget h i).live = true) (snap_app hm depth) _ _ hs
  unfold heldBy
  cases r.flat
  · exact ⟨h2, h3⟩
  · exact ⟨rfl, fun i hi => by cases hi⟩

theorem row_app {h k : List Blk} (hm : More h k) {sz : Nat} {x : AVal} {K : Bool → Nat → List AVal → Prop} (hk : rowK A h sz x K) : rowK A k sz x K := by
  unfold rowK at hk ⊢
  split at hk
  · exact hk
  · exact hk
  · rename_i id off n z
    obtain ⟨h1, h2⟩ := onlyIf_inv hk
    rw [hm.2 _ h1, h1]
    exact h2
  · exact hk.elim

theorem row_mono {h : List Blk} {sz : Nat} {x : AVal} {K K' : Bool → Nat → List AVal → Prop} (hK : ∀ m n ys, K m n ys → K' m n ys) (hk : rowK A h sz x K) : rowK A h sz x K' := by
  unfold rowK at hk ⊢
  split at hk
  · exact hK _ _ _ hk
  · split at hk
    · cases hk with
      | mk h1 h2 => exact .mk h1 (hK _ _ _ h2)
    · obtain ⟨h1, h2⟩ := onlyIf_inv hk
      rw [h1]; exact hK _ _ _ h2
  · obtain ⟨h1, h2⟩ := onlyIf_inv hk
    obtain ⟨cs, h3, h4⟩ := optK_inv h2
    rw [h1]
    show optK _ _
    rw [h3]; exact hK _ _ _ h4
  · exact hk.elim
theorem room_mono {el : TypeId} {m : Bool} {n : Nat} {K K' : Unit → Prop} (hK : K () → K' ()) (hk : roomK A T el m n K) : roomK A T el m n K' := by
  unfold roomK at hk ⊢
  cases m
  · obtain ⟨h1, h2⟩ := onlyIf_inv hk
    dsimp only
    rw [h1]; exact hK h2
  · cases hk with
    | mk h1 h2 => exact .mk h1 (hK h2)

/-- What reads goes through when memory has grown, and makes the same. -/
theorem Q_app {o : Oper} {e : Operand → AVal} {h k : List Blk} (hm : More h k) {K : AVal → List Nat → Prop} (hq : aopQ A T Sp o e h K) : aopQ A T Sp o e k fun y l => K y l ∧ ∀ i ∈ l, (hget h i).live = true := by
  have hS := fun xs ys => snapL_app (f := snap h depth) (g := snap k depth) (a := ids h depth) (b := ids k depth) (L := fun i => (hget h i).live = true) (snap_app hm depth) xs ys
  have nil : ∀ i ∈ ([] : List Nat), (hget h i).live = true := fun i hi => by cases hi
  obtain ⟨dst, op, ty, pos, after, guard⟩ := o
  unfold aopQ at hq ⊢
  cases op <;> dsimp only at hq ⊢ <;> try (exact hq.elim)
  case load t x =>
    generalize e x = y at hq ⊢
    cases y <;> (try dsimp only at hq ⊢) <;> try (exact hq.elim)
    · obtain ⟨z, h1, h2⟩ := optK_inv hq
      rw [h1]; exact ⟨h2, nil⟩
    · obtain ⟨hl, hq⟩ := onlyIf_inv hq
      rw [hm.2 _ hl, hl]
      obtain ⟨z, h1, h2⟩ := optK_inv hq
      rw [h1]; exact ⟨h2, nil⟩
  case slice t x lo hi mx =>
    generalize T.und t = u at hq ⊢
    generalize e x = y at hq ⊢
    cases mx <;> (try dsimp only at hq ⊢) <;> try (exact hq.elim)
    have sub : ∀ {n : Nat} {F G : Nat → Nat → Prop}, (∀ l r, F l r → G l r) → aopP.asub (lo.map e) (hi.map e) n F → aopP.asub (lo.map e) (hi.map e) n G := by
      intro n F G hFG hf
      unfold aopP.asub at hf ⊢
      split
      · rename_i h1; rw [h1] at hf; exact hf
      · rename_i a h1
        rw [h1] at hf
        dsimp only at hf
        split
        · rename_i h2; rw [h2] at hf; exact hf
        · rename_i b h2; rw [h2] at hf; exact hFG _ _ hf
    cases u <;> (try dsimp only at hq ⊢) <;> try (exact hq.elim)
    all_goals (cases y <;> (try dsimp only at hq ⊢) <;> try (exact hq.elim))
    · rename_i m n cs
      cases m <;> (try dsimp only at hq ⊢) <;> try (exact hq.elim)
      obtain ⟨h1, hq⟩ := onlyIf_inv hq
      rw [h1]
      exact sub (fun l r hf => by obtain ⟨z, h3, h4⟩ := optK_inv hf; rw [h3]; exact ⟨h4, nil⟩) hq
    · rename_i m id off n sz
      cases m <;> (try dsimp only at hq ⊢) <;> try (exact hq.elim)
      obtain ⟨h1, hq⟩ := onlyIf_inv hq
      rw [h1]
      exact sub (fun l r hf => ⟨hf, nil⟩) hq
    · obtain ⟨h1, hq⟩ := onlyIf_inv hq
      rw [h1]
      exact sub (fun l r hf => by obtain ⟨z, h3, h4⟩ := optK_inv hf; rw [h3]; exact ⟨h4, nil⟩) hq
    · rename_i id off
      obtain ⟨h1, hq⟩ := onlyIf_inv hq
      have hl : (hget h id).live = true := by simp at h1; exact h1.1.2
      rw [hm.2 _ hl, h1]
      exact sub (fun l r hf => ⟨hf, nil⟩) hq
  case alloc t =>
    obtain ⟨h1, hq⟩ := onlyIf_inv hq
    rw [h1]; exact ⟨hq, nil⟩
  case box t x =>
    obtain ⟨y, h1, hq⟩ := optK_inv hq
    obtain ⟨cs, h2, hq⟩ := optK_inv hq
    obtain ⟨e1, e2, e3⟩ := snap_app hm depth _ _ h1
    rw [e1]
    show optK y.cells _
    rw [h2, e2]
    exact ⟨hq, e3⟩
  case buildSlice t n parts =>
    generalize T.und t = u at hq ⊢
    cases u <;> (try dsimp only at hq ⊢) <;> try (exact hq.elim)
    obtain ⟨h1, hq⟩ := onlyIf_inv hq
    obtain ⟨cs, h2, hq⟩ := optK_inv hq
    obtain ⟨cs', h3, hq⟩ := optK_inv hq
    obtain ⟨e1, e2, e3⟩ := hS _ _ h3
    rw [h1]
    show optK _ _
    rw [h2]
    show optK (snapL (snap k depth) cs) _
    rw [e1]
    show K _ _ ∧ _
    rw [e2]
    exact ⟨hq, e3⟩
  case makeSlice t l c =>
    generalize T.und t = u at hq ⊢; generalize e l = y at hq ⊢; generalize e c = z at hq ⊢
    cases u <;> (try dsimp only at hq ⊢) <;> try (exact hq.elim)
    cases y <;> (try dsimp only at hq ⊢) <;> try (exact hq.elim)
    cases z <;> (try dsimp only at hq ⊢) <;> try (exact hq.elim)
    obtain ⟨h1, hq⟩ := onlyIf_inv hq
    rw [h1]; exact ⟨hq, nil⟩
  case call c =>
    cases happ : isApp c.callee
    · rw [happ] at hq
      dsimp only at hq ⊢
      generalize callee T e c = q at hq ⊢
      rcases q with _ | ⟨f, args⟩
      · exact hq.elim
      · obtain ⟨args', hs, hq⟩ := optK_inv hq
        obtain ⟨e1, e2, e3⟩ := hS _ _ hs
        dsimp only
        rw [e1]
        cases hq with
        | mk r h1 h2 =>
          obtain ⟨g1, g2⟩ := held_app hm (r := r) hs
          refine .mk r h1 ⟨?_, ?_⟩
          · rw [g1]; exact h2
          · rw [g1]; exact g2
    · rw [happ] at hq
      dsimp only at hq ⊢
      unfold appQ at hq ⊢
      generalize c.argTypes.toList = ts at hq ⊢
      generalize c.args.toList = as at hq ⊢
      rcases ts with _ | ⟨t, _ | ⟨u, q⟩⟩ <;> (try dsimp only at hq ⊢) <;> try (exact hq.elim)
      rcases as with _ | ⟨sx, _ | ⟨x, _ | ⟨z, r⟩⟩⟩ <;> (try dsimp only at hq ⊢) <;> try (exact hq.elim)
      generalize T.und t = ut at hq ⊢
      generalize e sx = y at hq ⊢
      split at hq
      · obtain ⟨h1, hq⟩ := onlyIf_inv hq
        rw [h1]
        dsimp only [onlyIf]
        refine row_mono A ?_ (row_app A hm hq)
        intro m n ys hr
        refine room_mono A T ?_ hr
        intro hr
        obtain ⟨cs, h2, hr⟩ := optK_inv hr
        obtain ⟨e1, e2, e3⟩ := hS _ _ h2
        rw [e1]
        show K _ _ ∧ _
        rw [e2]
        exact ⟨hr, e3⟩
      · exact hq.elim

theorem blk_ext {h k : List Blk} (hl : h.length = k.length) (hg : ∀ i, hget h i = hget k i) : h = k := by
  induction h generalizing k with
  | nil => cases k with
    | nil => rfl
    | cons => simp at hl
  | cons x h ih =>
    cases k with
    | nil => simp at hl
    | cons y k =>
      have h0 := hg 0
      simp [hget] at h0
      subst h0
      rw [ih (by simpa using hl) fun i => by have := hg (i + 1); simpa [hget] using this]
theorem freeze_get (l : List Nat) : ∀ (h : List Blk) (i : Nat), (hget (freeze h l) i).wr = ((hget h i).wr && !(decide (i ∈ l) && decide (i < h.length))) := by
  induction l with
  | nil => intro h i; simp [freeze]
  | cons j l ih =>
    intro h i
    rw [freeze, ih, hset_length, hget_hset]
    by_cases e : j = i
    · subst e
      by_cases hlt : j < h.length
      · simp [hlt]
      · simp [hlt]
    · have : ¬ (j = i ∧ j < h.length) := by simp [e]
      rw [if_neg this]
      simp [Ne.symm e]
theorem freeze_comm (h : List Blk) (l k : List Nat) : freeze (freeze h l) k = freeze (freeze h k) l := by
  refine blk_ext (by simp [freeze_length]) fun i => ?_
  have h1 : (hget (freeze (freeze h l) k) i).live = (hget (freeze (freeze h k) l) i).live := by simp [freeze_live]
  have h2 : (hget (freeze (freeze h l) k) i).cells = (hget (freeze (freeze h k) l) i).cells := by simp [freeze_cells]
  have h3 : (hget (freeze (freeze h l) k) i).wr = (hget (freeze (freeze h k) l) i).wr := by
    simp only [freeze_get, freeze_length]
    cases (hget h i).wr <;> cases decide (i ∈ l) <;> cases decide (i ∈ k) <;> cases decide (i < h.length) <;> rfl
  generalize hget (freeze (freeze h l) k) i = a at *
  generalize hget (freeze (freeze h k) l) i = b at *
  cases a; cases b
  simp at h1 h2 h3
  simp [h1, h2, h3]

/-- Whether a guarded operation runs. -/
def gsay : Option AVal → Bool → Option Bool
  | some (.b t), want => some (t == want)
  | some (.sb t), want => some (t == want)
  | some (.tup []), _ => some false
  | _, _ => none
def gd (all : List Oper) (o : Oper) (s : St) : Option Bool :=
  match o.guard with
  | none => some true
  | some (j, want) => match dstOf all j with
    | none => none
    | some d => gsay (lget s.tmps d) want

theorem astep_iff {tree : Md} {all : List Oper} {o : Oper} {s : St} {K : St → Prop} : astep A T Sp tree all o s K ↔
    (gd all o s = some true ∧ aop A T Sp tree o s fun v h => K (put ⟨s.tmps, h⟩ o.dst v)) ∨ (gd all o s = some false ∧ K (put s o.dst (.tup []))) := by
  unfold astep gd
  cases o.guard with
  | none => simp
  | some g =>
    obtain ⟨j, want⟩ := g
    dsimp only
    cases dstOf all j with
    | none => simp
    | some d =>
      dsimp only
      rcases lget s.tmps d with _ | r
      · simp [gsay]
      · cases r <;> try (simp [gsay]; done)
        · rename_i t
          cases h : t == want <;> simp [gsay, h]
        · rename_i t
          cases want <;> cases t <;> simp [gsay] <;> constructor <;> first
            | (intro h; cases h with | mk hp hq => first | exact hp rfl | exact hq rfl)
            | (intro h; exact ABr.t rfl h)
            | (intro h; exact ABr.f rfl h)
        · rename_i vs
          cases vs <;> simp [gsay]
end
end Eng
