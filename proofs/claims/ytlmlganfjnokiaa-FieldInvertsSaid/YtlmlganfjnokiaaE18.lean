/- The engine, part 18: operations whose order is open. -/
import Derived.Test.YtlmlganfjnokiaaE17
set_option linter.unusedSimpArgs false
set_option linter.unusedVariables false
namespace Eng
open Go

/-- A step uses what follows at one answer. -/
def Lin1 {α : Type} (F : (α → Prop) → Prop) : Prop := ∀ K, F K → ∃ y, K y ∧ ∀ K', K' y → F K'
def Lin2 {α β : Type} (F : (α → β → Prop) → Prop) : Prop := ∀ K, F K → ∃ y z, K y z ∧ ∀ K', K' y z → F K'

section
variable {α β γ : Type}
theorem lin_ret (y : α) : Lin1 fun K => K y := fun K h => ⟨y, h, fun _ h => h⟩
theorem lin_false : Lin1 fun (_ : α → Prop) => False := fun K h => h.elim
theorem lin_opt {x : Option γ} {F : γ → (α → Prop) → Prop} (h : ∀ y, Lin1 (F y)) : Lin1 fun K => optK x fun y => F y K := by
  intro K hk
  obtain ⟨y, rfl, hk⟩ := optK_inv hk
  exact h y K hk
theorem lin_if {c : Bool} {F : (α → Prop) → Prop} (h : Lin1 F) : Lin1 fun K => onlyIf c fun _ => F K := by
  intro K hk
  obtain ⟨rfl, hk⟩ := onlyIf_inv hk
  exact h K hk
theorem lin_need {c : Bool} {F : (α → Prop) → Prop} (h : Lin1 F) : Lin1 fun K => Need c fun _ => F K := by
  intro K hk
  cases hk with
  | mk h1 h2 => obtain ⟨y, h3, h4⟩ := h K h2; exact ⟨y, h3, fun K' hk' => .mk h1 (h4 K' hk')⟩
theorem lin_br {t : Bool} {F G : (α → Prop) → Prop} (h : Lin1 F) (h' : Lin1 G) : Lin1 fun K => ABr t (fun _ => F K) (fun _ => G K) := by
  intro K hk
  cases hk with
  | mk hp hq =>
    cases t
    · obtain ⟨y, h3, h4⟩ := h' K (hq rfl); exact ⟨y, h3, fun K' hk' => ABr.f rfl (h4 K' hk')⟩
    · obtain ⟨y, h3, h4⟩ := h K (hp rfl); exact ⟨y, h3, fun K' hk' => ABr.t rfl (h4 K' hk')⟩
theorem lin2_ret (y : α) (z : β) : Lin2 fun K => K y z := fun K h => ⟨y, z, h, fun _ h => h⟩
theorem lin2_false : Lin2 fun (_ : α → β → Prop) => False := fun K h => h.elim
theorem lin2_opt {x : Option γ} {F : γ → (α → β → Prop) → Prop} (h : ∀ y, Lin2 (F y)) : Lin2 fun K => optK x fun y => F y K := by
  intro K hk
  obtain ⟨y, rfl, hk⟩ := optK_inv hk
  exact h y K hk
theorem lin2_if {c : Bool} {F : (α → β → Prop) → Prop} (h : Lin2 F) : Lin2 fun K => onlyIf c fun _ => F K := by
  intro K hk
  obtain ⟨rfl, hk⟩ := onlyIf_inv hk
  exact h K hk
theorem lin2_need {c : Bool} {F : (α → β → Prop) → Prop} (h : Lin2 F) : Lin2 fun K => Need c fun _ => F K := by
  intro K hk
  cases hk with
  | mk h1 h2 => obtain ⟨y, z, h3, h4⟩ := h K h2; exact ⟨y, z, h3, fun K' hk' => .mk h1 (h4 K' hk')⟩
theorem lin2_mut {Sp : SpecT} {f : FuncId} {h : List Blk} {args : List AVal} : Lin2 (AMut Sp f h args) := by
  intro K hk
  cases hk with
  | mk r h' h1 h2 => exact ⟨r, h', h2, fun K' hk' => .mk r h' h1 hk'⟩
theorem lin2_yield {Sp : SpecT} {l : Nat} {h : List Blk} {args : List AVal} : Lin2 (AYield Sp l h args) := by
  intro K hk
  cases hk with
  | mk i h1 h2 h3 h4 h5 => exact ⟨_, _, h5, fun K' hk' => .mk i h1 h2 h3 h4 hk'⟩
theorem lin2_call {Sp : SpecT} {f : FuncId} {args : List AVal} {F : AVal → (α → β → Prop) → Prop} (h : ∀ r, Lin2 (F r)) : Lin2 fun K => ACall Sp f args fun r => F r K := by
  intro K hk
  cases hk with
  | mk r h1 h2 => obtain ⟨y, z, h3, h4⟩ := h r K h2; exact ⟨y, z, h3, fun K' hk' => .mk r h1 (h4 K' hk')⟩
end

section
variable (A : Ar) (T : Ty) (Sp : SpecT)

theorem lin_aidx {m : Bool} {x : AVal} {n : Nat} {F : Nat → (AVal → Prop) → Prop} (h : ∀ k, Lin1 (F k)) : Lin1 fun K => aidx m x n fun k => F k K := by
  have hi : ∀ j, Lin1 fun K => AIdx j n fun k => F k K := by
    intro j K hk
    cases hk with
    | mk i h1 h2 h3 => obtain ⟨y, h4, h5⟩ := h i K h3; exact ⟨y, h4, fun K' hk' => .mk i h1 h2 (h5 K' hk')⟩
  cases x <;> first
    | exact lin_false
    | (cases m
       · exact lin_if (h _)
       · exact hi _)
    | exact hi _
theorem lin_arow {cs : List AVal} {i sz : Nat} {F : List AVal → (AVal → Prop) → Prop} (h : ∀ ys, Lin1 (F ys)) : Lin1 fun K => ARow cs i sz fun ys => F ys K := by
  intro K hk
  cases hk with
  | mk ys h1 h2 => obtain ⟨y, h4, h5⟩ := h ys K h2; exact ⟨y, h4, fun K' hk' => .mk ys h1 (h5 K' hk')⟩

theorem lin_arith {op : BinOp} {x y : AVal} : Lin1 (aarith A op x y) := by
  cases x <;> try (exact lin_false)
  all_goals (cases y <;> try (exact lin_false))
  · exact lin_if (lin_ret _)
  · unfold aarith
    cases hn : needsOk op
    · exact lin_if (lin_ret _)
    · exact lin_if (lin_need (lin_ret _))
  · exact lin_if (lin_ret _)
  · unfold aarith
    cases hn : needsOk op
    · exact lin_if (lin_ret _)
    · exact lin_if (lin_need (lin_ret _))
theorem lin_cmp {op : BinOp} {x y : AVal} : Lin1 (acmp A op x y) := by
  cases x <;> try (exact lin_false)
  all_goals (cases y <;> first | exact lin_false | exact lin_if (lin_ret _))
theorem lin_eql {t : TypeId} {x y : AVal} {b : Bool} : Lin1 fun (K : AVal → Prop) => aeql A T t x y fun f => K (f b) := by
  unfold aeql
  cases isPtr (T.und t)
  · exact lin_if (lin_opt fun _ => lin_ret _)
  · exact lin_opt fun _ => lin_ret _
theorem lin_bin {op : BinOp} {t : TypeId} {x y : AVal} : Lin1 (abin A T op t x y) := by
  unfold abin
  cases isArith op
  · cases isI x && isI y
    · cases op <;> first | exact lin_eql A T | exact lin_false
    · exact lin_if (lin_cmp A)
  · exact lin_arith A
theorem lin_un {op : UnOp} {x : AVal} : Lin1 (aun A op x) := by
  unfold aun
  cases op <;> cases x <;> first | exact lin_false | exact lin_ret _

theorem lin_P (o : Oper) (e : Operand → AVal) : Lin1 (aopP A T o e) := by
  obtain ⟨dst, op, ty, pos, after, guard⟩ := o
  unfold aopP
  cases op <;> dsimp only <;> try (exact lin_false)
  case move => exact lin_ret _
  case assign => exact lin_ret _
  case pick c a b => generalize e c = y; cases y <;> first | exact lin_false | exact lin_ret _ | exact lin_br (lin_ret _) (lin_ret _)
  case binOp => exact lin_bin A T
  case unOp => exact lin_un A
  case convert s d x =>
    refine lin_if ?_
    generalize T.und d = u; generalize e x = y
    cases u <;> try (exact lin_false)
    cases y <;> first | exact lin_false | exact lin_ret _
  case load t x => generalize e x = y; cases y <;> first | exact lin_false | exact lin_opt fun _ => lin_ret _
  case nilCheck x => generalize e x = y; cases y <;> first | exact lin_false | exact lin_ret _
  case extract x i => generalize e x = y; cases y <;> first | exact lin_false | exact lin_opt fun _ => lin_ret _
  case field t x f =>
    generalize T.und t = u; generalize e x = y
    cases u <;> try (exact lin_false)
    cases y <;> try (exact lin_false)
    rename_i fs cs
    dsimp only
    generalize fs[f]? = q
    cases q <;> first | exact lin_false | exact lin_opt fun _ => lin_ret _
  case index t x ix =>
    generalize T.und t = u; generalize e x = y
    cases u <;> try (exact lin_false)
    cases y <;> try (exact lin_false)
    exact lin_aidx fun _ => lin_opt fun _ => lin_ret _
  case fieldAddr t x f =>
    generalize T.und t = u; generalize e x = y
    cases u <;> try (exact lin_false)
    rename_i fs
    dsimp only
    generalize fs[f]? = q
    cases q <;> try (exact lin_false)
    cases y <;> first | exact lin_if lin_false | exact lin_if (lin_ret _)
  case indexAddr t x ix =>
    generalize T.und t = u; generalize e x = y
    cases u <;> try (exact lin_false)
    all_goals (cases y <;> first | exact lin_false | exact lin_if (lin_aidx fun _ => lin_ret _) | skip)
    rename_i m n cs
    refine lin_if (lin_aidx fun _ => ?_)
    cases m
    · exact lin_ret _
    · exact lin_arow fun _ => lin_ret _
  case makeInterface t x => generalize T.und t = u; cases u <;> first | exact lin_false | exact lin_ret _
  case typeAssert x xt t ok =>
    generalize hu : T.und t = u; generalize e x = y
    cases u <;> try (exact lin_false)
    all_goals
      (cases y <;> try (exact lin_false)
       rename_i t' z
       dsimp only
       cases t' == t
       · cases ok <;> first | exact lin_false | exact lin_ret _
       · exact lin_ret _)
  case makeFunc => exact lin_ret _
  case build t parts =>
    generalize buildable T (T.und t) = b
    generalize aopP.fillP T (T.und t) (aopP.partsOf e parts.toList) (mapV (T.zero t)) = q
    cases b <;> cases q <;> first | exact lin_false | exact lin_ret _
  case sliceToArrayPointer t x =>
    generalize T.und t = u; generalize e x = y
    cases u <;> try (exact lin_false)
    cases y <;> try (exact lin_false)
    · rename_i n el m k cs
      cases m
      · exact lin_if (lin_ret _)
      · exact lin_if (lin_need (lin_ret _))
    · rename_i n el m id off k sz
      cases m
      · exact lin_if (lin_ret _)
      · exact lin_false

theorem lin_len (c : Call) (e : Operand → AVal) : Lin1 (alen A T c e) := by
  unfold alen
  generalize c.argTypes[0]? = q
  generalize c.args[0]? = r
  cases q <;> try (exact lin_false)
  cases r <;> try (exact lin_false)
  rename_i t x
  dsimp only
  generalize T.und t = u; generalize e x = y
  cases u <;> try (exact lin_false)
  · cases y <;> try (exact lin_false)
    rename_i z; cases z <;> first | exact lin_false | exact lin_ret _
  · cases y <;> first
      | exact lin_false
      | exact lin_ret _
      | (rename_i z
         cases z <;> try (exact lin_false)
         rename_i a n c
         cases a <;> try (exact lin_false)
         cases n <;> first | exact lin_false | exact lin_ret _)
  · exact lin_ret _

theorem lin_sub {α β : Type} {lo hi : Option AVal} {n : Nat} {F : Nat → Nat → (α → β → Prop) → Prop} (h : ∀ l r, Lin2 (F l r)) : Lin2 fun K => aopP.asub lo hi n fun l r => F l r K := by
  unfold aopP.asub
  generalize subHi hi n = q
  cases q with
  | none => exact lin2_false
  | some r =>
    dsimp only
    generalize subLo lo r = p
    cases p with
    | none => exact lin2_false
    | some l => exact h l r

theorem lin_row {α β : Type} {h : List Blk} {sz : Nat} {x : AVal} {F : Bool → Nat → List AVal → (α → β → Prop) → Prop} (hF : ∀ m n ys, Lin2 (F m n ys)) : Lin2 fun K => rowK A h sz x fun m n ys => F m n ys K := by
  unfold rowK
  cases x <;> try (exact lin2_false)
  · rename_i z
    cases z <;> try (exact lin2_false)
    rename_i a n c
    cases a <;> try (exact lin2_false)
    cases n <;> try (exact lin2_false)
    cases c <;> first | exact lin2_false | exact hF _ _ _
  · rename_i m n cs
    cases m
    · exact lin2_if (hF _ _ _)
    · exact lin2_need (hF _ _ _)
  · rename_i m id off n sz'
    cases m
    · exact lin2_if (lin2_opt fun _ => hF _ _ _)
    · exact lin2_false

theorem lin_room {α β : Type} {el : TypeId} {m : Bool} {n : Nat} {F : (α → β → Prop) → Prop} (hF : Lin2 F) : Lin2 fun K => roomK A T el m n fun _ => F K := by
  cases m
  · exact lin2_if hF
  · exact lin2_need hF

theorem lin_appQ {args : Array Operand} {tys : Array TypeId} {e : Operand → AVal} {h : List Blk} : Lin2 (appQ A T args tys e h) := by
  unfold appQ
  generalize tys.toList = q
  generalize args.toList = r
  rcases q with _ | ⟨t, _ | ⟨u, q⟩⟩ <;> try (exact lin2_false)
  rcases r with _ | ⟨s, _ | ⟨x, _ | ⟨z, r⟩⟩⟩ <;> try (exact lin2_false)
  dsimp only
  generalize T.und t = d; generalize e s = y
  cases d <;> try (exact lin2_false)
  cases y <;> try (exact lin2_false)
  rename_i z
  cases z <;> try (exact lin2_false)
  rename_i a n c
  cases a <;> try (exact lin2_false)
  cases n <;> try (exact lin2_false)
  cases c <;> try (exact lin2_false)
  exact lin2_if (lin_row A fun _ _ _ => lin_room A T (lin2_opt fun _ => lin2_ret _ _))

theorem lin_Q (o : Oper) (e : Operand → AVal) (h : List Blk) : Lin2 (aopQ A T Sp o e h) := by
  obtain ⟨dst, op, ty, pos, after, guard⟩ := o
  unfold aopQ
  cases op <;> dsimp only <;> try (exact lin2_false)
  case load t x => generalize e x = y; cases y <;> first | exact lin2_false | exact lin2_opt fun _ => lin2_ret _ _ | exact lin2_if (lin2_opt fun _ => lin2_ret _ _)
  case slice t x lo hi mx =>
    generalize T.und t = u; generalize e x = y
    cases mx <;> try (exact lin2_false)
    cases u <;> try (exact lin2_false)
    all_goals (cases y <;> try (exact lin2_false))
    · rename_i m n cs
      cases m
      · exact lin2_if (lin_sub fun _ _ => lin2_opt fun _ => lin2_ret _ _)
      · exact lin2_false
    · rename_i m id off n sz
      cases m
      · exact lin2_if (lin_sub fun _ _ => lin2_ret _ _)
      · exact lin2_false
    · exact lin2_if (lin_sub fun _ _ => lin2_opt fun _ => lin2_ret _ _)
    · exact lin2_if (lin_sub fun _ _ => lin2_ret _ _)
  case alloc => exact lin2_if (lin2_ret _ _)
  case box => exact lin2_opt fun _ => lin2_opt fun _ => lin2_ret _ _
  case buildSlice t n parts =>
    generalize hu : T.und t = u
    cases u <;> first | exact lin2_false | exact lin2_if (lin2_opt fun _ => lin2_opt fun _ => lin2_ret _ _)
  case makeSlice t l c =>
    generalize T.und t = u; generalize e l = y; generalize e c = z
    cases u <;> try (exact lin2_false)
    cases y <;> try (exact lin2_false)
    cases z <;> first | exact lin2_false | exact lin2_if (lin2_ret _ _)
  case call c =>
    cases isApp c.callee
    · dsimp only
      generalize callee T e c = q
      rcases q with _ | ⟨f, args⟩
      · exact lin2_false
      · exact lin2_opt fun _ => lin2_call fun _ => lin2_ret _ _
    · exact lin_appQ A T

theorem lin_appE {args : Array Operand} {tys : Array TypeId} {e : Operand → AVal} {h : List Blk} : Lin2 (appE A T args tys e h) := by
  unfold appE
  generalize tys.toList = q
  generalize args.toList = r
  rcases q with _ | ⟨t, _ | ⟨u, q⟩⟩ <;> try (exact lin2_false)
  rcases r with _ | ⟨s, _ | ⟨x, _ | ⟨z, r⟩⟩⟩ <;> try (exact lin2_false)
  dsimp only
  generalize T.und t = d; generalize e s = y
  cases d <;> try (exact lin2_false)
  refine lin2_if (lin_row A fun m k ys => ?_)
  cases y <;> try (exact lin2_false)
  · rename_i z
    cases z <;> try (exact lin2_false)
    rename_i a n c
    cases a <;> try (exact lin2_false)
    cases n <;> try (exact lin2_false)
    cases c <;> try (exact lin2_false)
    exact lin_room A T (lin2_ret _ _)
  · rename_i m id off n sz
    cases m <;> try (exact lin2_false)
    cases off <;> try (exact lin2_false)
    exact lin2_if (lin_room A T (lin2_ret _ _))

theorem lin_cpy {args : Array Operand} {tys : Array TypeId} {e : Operand → AVal} {h : List Blk} : Lin2 (cpyE A T args tys e h) := by
  unfold cpyE
  generalize tys.toList = q
  generalize args.toList = r
  rcases q with _ | ⟨t, _ | ⟨u, q⟩⟩ <;> try (exact lin2_false)
  rcases r with _ | ⟨s, _ | ⟨x, _ | ⟨z, r⟩⟩⟩ <;> try (exact lin2_false)
  dsimp only
  generalize T.und t = d; generalize e s = y
  cases d <;> try (exact lin2_false)
  cases y <;> try (exact lin2_false)
  rename_i m id off n sz
  cases m <;> try (exact lin2_false)
  exact lin2_if (lin_row A fun m k ys => lin2_if (lin2_opt fun _ => lin2_if (lin2_opt fun _ => lin2_ret _ _)))

theorem lin_E (o : Oper) (e : Operand → AVal) (h : List Blk) : Lin2 (aopE A T Sp o e h) := by
  obtain ⟨dst, op, ty, pos, after, guard⟩ := o
  unfold aopE
  cases op <;> dsimp only <;> try (exact lin2_false)
  case store t x y => generalize e x = z; cases z <;> first | exact lin2_false | exact lin2_opt fun _ => lin2_if (lin2_opt fun _ => lin2_ret _ _)
  case alloc => exact lin2_if (lin2_ret _ _)
  case box => exact lin2_opt fun _ => lin2_ret _ _
  case buildSlice t n parts =>
    generalize hu : T.und t = u
    cases u <;> first | exact lin2_false | exact lin2_if (lin2_opt fun _ => lin2_ret _ _)
  case makeSlice t l c =>
    generalize T.und t = u; generalize e l = y; generalize e c = z
    cases u <;> try (exact lin2_false)
    cases y <;> try (exact lin2_false)
    cases z <;> first | exact lin2_false | exact lin2_if (lin2_ret _ _)
  case call c =>
    cases isApp c.callee
    · dsimp only
      cases isCpy c.callee
      rotate_left
      · exact lin_cpy A T
      dsimp only
      generalize callee T e c = q
      rcases q with _ | ⟨f, args⟩
      · exact lin2_false
      · dsimp only
        cases T.mu f
        · exact lin2_opt fun _ => lin2_call fun _ => lin2_ret _ _
        · exact lin2_mut
    · exact lin_appE A T

theorem lin_op (tree : Md) (o : Oper) (s : St) : Lin2 (aop A T Sp tree o s) := by
  unfold aop
  cases cls tree o.op
  · dsimp only
    have hP : ∀ F : (AVal → Prop) → Prop, Lin1 F → Lin2 fun (K : AVal → List Blk → Prop) => F fun v => K v s.heap := by
      intro F hF K hk
      obtain ⟨y, h1, h2⟩ := hF _ hk
      exact ⟨y, s.heap, h1, fun K' hk' => h2 (fun v => K' v s.heap) hk'⟩
    cases o.op <;> first | exact hP _ (lin_P A T o _) | exact hP _ (lin_len A T _ _)
  · intro K hk
    obtain ⟨y, l, h1, h2⟩ := lin_Q A T Sp o _ _ _ hk
    exact ⟨y, freeze s.heap l, h1, fun K' hk' => h2 (fun v l => K' v (freeze s.heap l)) hk'⟩
  · dsimp only
    generalize yieldOf (ev s) o.op = q
    rcases q with _ | ⟨l, args⟩
    · exact lin_E A T Sp o _ _
    · exact lin2_opt fun _ => lin2_yield
  · dsimp only
    unfold aopR
    generalize o.op = p; generalize o.dst = q
    cases p <;> try (exact lin2_false)
    cases q <;> first | exact lin2_false | exact lin2_if (lin2_opt fun _ => lin2_ret _ _)

theorem lin_step (tree : Md) (all : List Oper) (o : Oper) (s : St) : Lin1 (astep A T Sp tree all o s) := by
  have h1 : Lin1 fun (K : St → Prop) => aop A T Sp tree o s fun v h => K (put ⟨s.tmps, h⟩ o.dst v) := by
    intro K hk
    obtain ⟨y, h', h1, h2⟩ := lin_op A T Sp tree o s _ hk
    exact ⟨_, h1, fun K' hk' => h2 (fun v h => K' (put ⟨s.tmps, h⟩ o.dst v)) hk'⟩
  unfold astep
  cases o.guard with
  | none => exact h1
  | some g =>
    obtain ⟨j, want⟩ := g
    dsimp only
    generalize dstOf all j = q
    cases q with
    | none => exact lin_false
    | some d =>
      dsimp only
      generalize lget s.tmps d = r
      rcases r with _ | r
      · exact lin_false
      · cases r <;> try (exact lin_false)
        rotate_right
        · rename_i vs
          cases vs
          · exact lin_ret _
          · exact lin_false
        · rename_i t
          dsimp only
          cases t == want
          · exact lin_ret _
          · exact h1
        · rename_i t
          cases want
          · exact lin_br (lin_ret _) h1
          · exact lin_br h1 (lin_ret _)
end
end Eng
