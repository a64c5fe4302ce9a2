/- The engine, part 6: the pure operations, continued. -/
import Derived.Test.YtlmlganfjnokiaaE5
set_option linter.unusedSimpArgs false
set_option linter.unusedVariables false
namespace Eng
open Go

section
variable {P : Program} {T : Ty} {w : World} {X : Nat → Prop} {ρ : Nat → Option Nat}

theorem optK_inv {α : Type} {x : Option α} {K : α → Prop} (h : optK x K) : ∃ y, x = some y ∧ K y := by
  cases x
  · exact h.elim
  · exact ⟨_, rfl, h⟩

theorem run_int_bin (op : BinOp) (t : TypeId) (k k' : IntKind) (a c : Int) (h1 : isArith op = true) (h2 : rokb op c = true) (h3 : isShift op = true ∨ k = k') :
    (binOp op t (.int k a) (.int k' c)).run P w = .ok (.int k (rbin op k a c)) w := by
  cases op <;> simp [isArith] at h1 <;> simp [isShift] at h3 <;> (try subst h3) <;> simp [rokb] at h2 <;>
    simp [binOp, Op.intArith, Op.intDiv, Op.intBits, Op.shift, rbin, h2] <;> first
    | done
    | (intro hneg; omega)

theorem run_int_cmp (op : BinOp) (t : TypeId) (k : IntKind) (a c : Int) (h1 : isCmp op = true) :
    (binOp op t (.int k a) (.int k c)).run P w = .ok (.bool (rcmp op a c)) w := by
  cases op <;> simp [isCmp] at h1 <;> simp [binOp, Op.intCmp, rcmp]

theorem eqGuard_int (op : BinOp) (t : TypeId) (x y : Operand) (k : IntKind) (n : Int) (v : Value) : eqGuard op t x y (.int k n) v = pure () := by cases op <;> rfl

theorem allB_eq (f : AVal × AVal → Bool) : ∀ l, allB f l = l.all f
  | [] => rfl
  | x :: l => by simp [allB, allB_eq f l]

theorem eqOf_rep (l : List (AVal × AVal)) : Rep w X ρ (.bool (l.all leafEq)) (eqOf Ar.real l) := by
  unfold eqOf
  split
  · rw [allB_eq]; exact .b _
  · exact .sb _
theorem neOf_rep (l : List (AVal × AVal)) : Rep w X ρ (.bool (!(l.all leafEq))) (neOf Ar.real l) := by
  unfold neOf
  split
  · rw [allB_eq]; exact .b _
  · exact .sb _

/-- Two values compared by '==' or '!=' that are no numbers. -/
theorem run_eql_any (op : BinOp) (t : TypeId) (u v : Value) (b : Bool) (hop : op = .eql ∨ op = .neq) (hne : ∀ k n k' n', ¬ (u = .int k n ∧ v = .int k' n'))
    (hlit : (∃ a c, u = .bool a ∧ v = .bool c) ∨ (∃ a c, u = .string a ∧ v = .string c ∧ b = (a.toList == c.toList)) ∨ (∃ a c, u = .agg a ∧ v = .agg c) ∨ (∃ a c, u = .pointer a ∧ v = .pointer c) ∨ (u = .nilIface ∨ v = .nilIface) ∨ (∃ a n m, u = .slice a n m) ∨ u = .nilFunc)
    (h : (Op.equal t u v).run P w = .ok b w) : (binOp op t u v).run P w = .ok (.bool (if op = .eql then b else !b)) w := by
  rcases hop with rfl | rfl <;> rcases hlit with ⟨a, c, rfl, rfl⟩ | ⟨a, c, rfl, rfl, rfl⟩ | ⟨a, c, rfl, rfl⟩ | ⟨a, c, rfl, rfl⟩ | h' | ⟨a, n, m, rfl⟩ | rfl <;>
    first
    | (simp [binOp, h]; done)
    | (simp [binOp, Op.stringOp, beq_toListBytes]; done)
    | (cases v <;> simp [binOp, h]; done)
    | (rcases h' with rfl | rfl
       · cases v <;> simp [binOp, h]
       · cases u <;> simp [binOp, h])
    | skip

theorem leaves_shape {d : Nat} {t : TypeId} {x y : AVal} {l : List (AVal × AVal)} {u v : Value} (h : leaves T d t x y = some l) (hu : Rep w X ρ u x) (hv : Rep w X ρ v y) :
    (∃ k n k' n', u = .int k n ∧ v = .int k' n' ∧ ((∃ k n, x = .i k n) ∨ (∃ k n, x = .s k n)) ∧ ((∃ k n, y = .i k n) ∨ (∃ k n, y = .s k n))) ∨ (∃ a c, u = .bool a ∧ v = .bool c) ∨ (∃ a c, u = .string a ∧ v = .string c ∧ l.all leafEq = (a.toList == c.toList)) ∨ (∃ a c, u = .agg a ∧ v = .agg c) := by
  cases d with
  | zero => simp [leaves] at h
  | succ d =>
    unfold leaves at h
    cases ht : T.und t <;> rw [ht] at h <;> simp only at h <;> try (cases h; done)
    case int k => cases hu <;> cases hv <;> simp at h <;> exact .inl ⟨_, _, _, _, rfl, rfl, by simp, by simp⟩
    case bool => cases hu <;> cases hv <;> simp at h <;> exact .inr (.inl ⟨_, _, rfl, rfl⟩)
    case str =>
      split at h <;> try (cases h; done)
      rename_i a c
      cases hu; cases hv; cases h
      exact .inr (.inr (.inl ⟨a, c, rfl, rfl, by simp [leafEq, beq_toListBytes]⟩))
    case arr n e => cases hu <;> cases hv <;> simp at h <;> exact .inr (.inr (.inr ⟨_, _, rfl, rfl⟩))
    case struct fs => cases hu <;> cases hv <;> simp at h <;> exact .inr (.inr (.inr ⟨_, _, rfl, rfl⟩))

theorem nilEq_shape {x y : AVal} {r : Bool} {u v : Value} (hr : nilEq x y = some r) (hu : Rep w X ρ u x) (hv : Rep w X ρ v y) :
    ∃ a c, u = .pointer a ∧ v = .pointer c ∧ ((a = none ∧ c = none ∧ r = true) ∨ (a = none ∧ ∃ d, c = some d ∧ r = false) ∨ (∃ d, a = some d ∧ c = none ∧ r = false)) := by
  unfold nilEq at hr
  split at hr <;> (try cases hr) <;> cases hu <;> cases hv
  · exact ⟨_, _, rfl, rfl, .inl ⟨rfl, rfl, rfl⟩⟩
  · exact ⟨_, _, rfl, rfl, .inr (.inl ⟨rfl, _, rfl, rfl⟩)⟩
  · exact ⟨_, _, rfl, rfl, .inr (.inr ⟨_, rfl, rfl, rfl⟩)⟩
  · exact ⟨_, _, rfl, rfl, .inr (.inl ⟨rfl, _, rfl, rfl⟩)⟩
  · exact ⟨_, _, rfl, rfl, .inr (.inr ⟨_, rfl, rfl, rfl⟩)⟩

theorem run_eqGuard (hT : TyOk P T) (op : BinOp) (t : TypeId) (xo yo : Operand) (u v : Value) (hk : T.eqok t = true)
    (h : (∃ a c, u = .bool a ∧ v = .bool c) ∨ (∃ a c, u = .string a ∧ v = .string c) ∨ (∃ a c, u = .agg a ∧ v = .agg c)) : (eqGuard op t xo yo u v).run P w = .ok () w := by
  have hq := hT.eqok t hk
  rcases h with ⟨a, c, rfl, rfl⟩ | ⟨a, c, rfl, rfl⟩ | ⟨a, c, rfl, rfl⟩
  · cases op <;> rfl
  · cases op <;> rfl
  · cases op <;> first | rfl | simp [eqGuard, hq]

theorem run_eq_ptr (d : Nat) {t e : TypeId} (hun : P.underlying t = some (.pointer e)) {a c : Option Addr} {r : Bool}
    (h : (a = none ∧ c = none ∧ r = true) ∨ (a = none ∧ ∃ d, c = some d ∧ r = false) ∨ (∃ d, a = some d ∧ c = none ∧ r = false)) :
    (Op.equalIn (d + 1) t (.pointer a) (.pointer c)).run P w = .ok r w := by
  rcases h with ⟨rfl, rfl, rfl⟩ | ⟨rfl, d, rfl, rfl⟩ | ⟨d, rfl, rfl, rfl⟩ <;> simp [Op.equalIn, run_underlying hun]

theorem rokb_of_not {op : BinOp} (h : needsOk op = false) (c : Int) : rokb op c = true := by cases op <;> simp [needsOk] at h <;> rfl

theorem aarith_sound {op : BinOp} {t : TypeId} (ha : isArith op = true) (xo yo : Operand) {u v : Value} {x y : AVal} {K : AVal → Prop} (hu : Rep w X ρ u x) (hv : Rep w X ρ v y) (h : aarith Ar.real op x y K) :
    ∃ r z, (do eqGuard op t xo yo u v; binOp op t u v : Sem Value).run P w = .ok r w ∧ Rep w X ρ r z ∧ K z := by
  have key : ∀ k a k' c, u = .int k a → v = .int k' c → rokb op c = true → (isShift op || decide (k = k')) = true → (do eqGuard op t xo yo u v; binOp op t u v : Sem Value).run P w = .ok (.int k (rbin op k a c)) w := by
    rintro k a k' c rfl rfl h1 h2
    simp only [eqGuard_int, Sem.run_bind, Sem.run_pure, Result.andThen_ok]
    exact run_int_bin op t k k' a c ha h1 (by simpa using h2)
  unfold aarith at h
  split at h
  · cases hu; cases hv
    obtain ⟨h1, h2⟩ := onlyIf_inv h
    rw [Bool.and_eq_true] at h1
    exact ⟨_, _, key _ _ _ _ rfl rfl h1.1 h1.2, .i _ _, h2⟩
  · cases hu; cases hv
    obtain ⟨h1, h2⟩ := onlyIf_inv h
    rw [Bool.and_eq_true] at h1
    exact ⟨_, _, key _ _ _ _ rfl rfl h1.1 h1.2, .s _ _, h2⟩
  · cases hu; cases hv
    obtain ⟨h1, h2⟩ := onlyIf_inv h
    split at h2
    · cases h2 with
      | mk h3 h4 => exact ⟨_, _, key _ _ _ _ rfl rfl h3 h1, .s _ _, h4⟩
    · rename_i hn
      exact ⟨_, _, key _ _ _ _ rfl rfl (rokb_of_not hn _) h1, .s _ _, h2⟩
  · cases hu; cases hv
    obtain ⟨h1, h2⟩ := onlyIf_inv h
    split at h2
    · cases h2 with
      | mk h3 h4 => exact ⟨_, _, key _ _ _ _ rfl rfl h3 h1, .s _ _, h4⟩
    · rename_i hn
      exact ⟨_, _, key _ _ _ _ rfl rfl (rokb_of_not hn _) h1, .s _ _, h2⟩
  · exact h.elim

theorem acmp_sound {op : BinOp} {t : TypeId} (hc : isCmp op = true) (xo yo : Operand) {u v : Value} {x y : AVal} {K : AVal → Prop} (hu : Rep w X ρ u x) (hv : Rep w X ρ v y) (h : acmp Ar.real op x y K) :
    ∃ r z, (do eqGuard op t xo yo u v; binOp op t u v : Sem Value).run P w = .ok r w ∧ Rep w X ρ r z ∧ K z := by
  have key : ∀ k a k' c, u = .int k a → v = .int k' c → decide (k = k') = true → (do eqGuard op t xo yo u v; binOp op t u v : Sem Value).run P w = .ok (.bool (rcmp op a c)) w := by
    rintro k a k' c rfl rfl h1
    simp only [eqGuard_int, Sem.run_bind, Sem.run_pure, Result.andThen_ok]
    obtain rfl : k = k' := by simpa using h1
    exact run_int_cmp op t k a c hc
  unfold acmp at h
  split at h
  · cases hu; cases hv; obtain ⟨h1, h2⟩ := onlyIf_inv h; exact ⟨_, _, key _ _ _ _ rfl rfl h1, .b _, h2⟩
  · cases hu; cases hv; obtain ⟨h1, h2⟩ := onlyIf_inv h; exact ⟨_, _, key _ _ _ _ rfl rfl h1, .sb _, h2⟩
  · cases hu; cases hv; obtain ⟨h1, h2⟩ := onlyIf_inv h; exact ⟨_, _, key _ _ _ _ rfl rfl h1, .sb _, h2⟩
  · cases hu; cases hv; obtain ⟨h1, h2⟩ := onlyIf_inv h; exact ⟨_, _, key _ _ _ _ rfl rfl h1, .sb _, h2⟩
  · exact h.elim

theorem aeql_sound (hT : TyOk P T) {op : BinOp} {t : TypeId} (hop : op = .eql ∨ op = .neq) (xo yo : Operand) {u v : Value} {x y : AVal} {K : AVal → Prop} (hu : Rep w X ρ u x) (hv : Rep w X ρ v y)
    (hn : (isI x && isI y) = false) (h : aeql Ar.real T t x y fun f => K (f (decide (op = .neq)))) :
    ∃ r z, (do eqGuard op t xo yo u v; binOp op t u v : Sem Value).run P w = .ok r w ∧ Rep w X ρ r z ∧ K z := by
  unfold aeql at h
  split at h
  · rename_i hp
    obtain ⟨r, hr, hk⟩ := optK_inv h
    obtain ⟨e, he⟩ : ∃ e, T.und t = .ptr e := by cases hq : T.und t <;> simp [hq, isPtr] at hp; exact ⟨_, rfl⟩
    have hun := hT.ptr t e he
    obtain ⟨a, c, rfl, rfl, hac⟩ := nilEq_shape hr hu hv
    have hrun : (Op.equal t (.pointer a) (.pointer c)).run P w = .ok r w := run_eq_ptr 9999 hun hac
    have hg : (eqGuard op t xo yo (.pointer a) (.pointer c)) = pure () := by cases op <;> rfl
    refine ⟨.bool (if op = .eql then r else !r), _, ?_, ?_, hk⟩
    · simp only [Sem.run_bind, hg, Sem.run_pure, Result.andThen_ok]
      exact run_eql_any op t _ _ _ hop (by simp) (.inr (.inr (.inr (.inl ⟨_, _, rfl, rfl⟩)))) hrun
    · rcases hop with rfl | rfl
      · exact .b _
      · exact .b _
  · obtain ⟨hk', h''⟩ := onlyIf_inv h
    obtain ⟨l, hl, hk⟩ := optK_inv h''
    have hrun : (Op.equal t u v).run P w = .ok (l.all leafEq) w := leaves_run hT 20 t x y l u v hl hu hv _ (by decide)
    have hs := leaves_shape hl hu hv
    rcases hs with ⟨k, n, k', n', _, _, h1, h2⟩ | hs
    · exfalso
      rcases h1 with ⟨_, _, rfl⟩ | ⟨_, _, rfl⟩ <;> rcases h2 with ⟨_, _, rfl⟩ | ⟨_, _, rfl⟩ <;> simp [isI] at hn
    · refine ⟨.bool (if op = .eql then l.all leafEq else !(l.all leafEq)), _, ?_, ?_, hk⟩
      · simp only [Sem.run_bind]
        rw [run_eqGuard hT op t xo yo u v hk' (by rcases hs with h | ⟨a, c, h1, h2, _⟩ | h; exact .inl h; exact .inr (.inl ⟨a, c, h1, h2⟩); exact .inr (.inr h))]
        simp only [Result.andThen_ok]
        refine run_eql_any op t u v _ hop ?_ (by rcases hs with h | h | h; exact .inl h; exact .inr (.inl h); exact .inr (.inr (.inl h))) hrun
        rintro k n k' n' ⟨rfl, rfl⟩
        rcases hs with ⟨_, _, h1, _⟩ | ⟨_, _, h1, _⟩ | ⟨_, _, h1, _⟩ <;> cases h1
      · rcases hop with rfl | rfl
        · exact eqOf_rep l
        · exact neOf_rep l

theorem abin_sound (hT : TyOk P T) {op : BinOp} {t : TypeId} (xo yo : Operand) {u v : Value} {x y : AVal} {K : AVal → Prop} (hu : Rep w X ρ u x) (hv : Rep w X ρ v y) (h : abin Ar.real T op t x y K) :
    ∃ r z, (do eqGuard op t xo yo u v; binOp op t u v : Sem Value).run P w = .ok r w ∧ Rep w X ρ r z ∧ K z := by
  unfold abin at h
  split at h
  · rename_i ha; exact aarith_sound ha xo yo hu hv h
  · split at h
    · obtain ⟨hc, h'⟩ := onlyIf_inv h; exact acmp_sound hc xo yo hu hv h'
    · rename_i hn
      split at h
      · exact aeql_sound hT (.inl rfl) xo yo hu hv hn h
      · exact aeql_sound hT (.inr rfl) xo yo hu hv hn h
      · exact h.elim

theorem aun_sound {op : UnOp} {u : Value} {x : AVal} {K : AVal → Prop} (hu : Rep w X ρ u x) (h : aun Ar.real op x K) :
    ∃ r z, (Op.unary op u).run P w = .ok r w ∧ Rep w X ρ r z ∧ K z := by
  unfold aun at h
  split at h
  · cases hu; refine ⟨_, _, ?_, .b _, h⟩; rfl
  · cases hu; refine ⟨_, _, ?_, .sb _, h⟩; rfl
  · cases hu; refine ⟨_, _, ?_, .i _ _, h⟩; rfl
  · cases hu; refine ⟨_, _, ?_, .s _ _, h⟩; rfl
  · cases hu; refine ⟨_, _, ?_, .i _ _, h⟩; rfl
  · cases hu; refine ⟨_, _, ?_, .s _ _, h⟩; rfl
  · exact h.elim
end
end Eng
