/- The engine, part 17: a function's contract out of its body. -/
import Derived.Test.YtkhipnhdbaahcaaQCE16
import Derived.RangeFuncLeaves
import Derived.IntWalk
set_option linter.unusedSimpArgs false
set_option linter.unusedVariables false
namespace Eng
open Go
section
variable {P : Program} {T : Ty}
theorem undefs_rep {w : World} {X : Nat → Prop} {ρ : Nat → Option Nat} : ∀ n, RepL w X ρ (List.replicate n undef) (undefs n)
 | 0 => .nil
 | n + 1 => by rw [List.replicate_succ]; exact .cons Rep.undef (undefs_rep n)
theorem callFunc_body {f : FuncId} {fn : Func} (hf : P.funcs[f]? = some fn) (hn : (fn.name == "runtime.NumGoroutine") = false) (hb : fn.body.isNone = false) (args : Array Value) (w : World) :
   (callFunc f args).run P w = .ok (.enter f args) w := by
 have h1 : ¬ fn.name = "runtime.NumGoroutine" := by simpa using hn
 have h2 : ¬ fn.body = none := by intro e; rw [e] at hb; cases hb
 simp [callFunc, hf, h1, h2]
theorem leaves_of {ρ : Nat → Option Nat} {h : List Blk} {fn : Func} {tmps : Array Value} {R : Ending → World → Prop} {B : Nat} : ∀ (ds : List Deferred) (w : World), Marks B ρ h ds w → (∀ w', Calm B w w' → ∃ v, (results fn tmps).run P w' = .ok v w' ∧ R (.returned v) w') → LeavesInM (fz none) 1 P fn tmps R ds .returning w
 | [], w, _, hk => by
   simp only [LeavesInM, LeavesIn]
   exact hk w (Calm.refl B w)
 | d :: ds, w, hm, hk => by
   obtain ⟨D, h1, rfl, h3, h4⟩ := hm.is d (by simp)
   have hc : Calm B w (w.putObj D (.deferred none)) := Calm.putObj h1 h3 rfl
   refine ⟨by simp, .inl ⟨D, _, rfl, run_takeDeferred h3, leaves_of (ρ := ρ) (h := h) ds _ ⟨(List.nodup_cons.1 hm.nodup).2, fun d' hd' => ?_⟩ fun w' hc' => hk w' (hc.trans hc')⟩⟩
   obtain ⟨D', e1, e2, e3, e4⟩ := hm.is d' (by simp [hd'])
   refine ⟨D', e1, e2, ?_, e4⟩
   rw [World.putObj_heap_other, e3]
   rintro rfl
   exact (List.nodup_cons.1 hm.nodup).1 (by rw [e2] at hd'; exact hd')
theorem hget_nil (i : Nat) : hget [] i = default := rfl
theorem nil_live {i : Nat} (h : (hget ([] : List Blk) i).live = true) : False := by rw [hget_nil] at h; cases h
theorem enter_rel {X : Nat → Prop} {w : World} {ρ : Nat → Option Nat} {h : List Blk} {vs : List Value} {As : List AVal} (hX : ∀ b, X b → b < w.heap.size) (hh : HRel X ρ h w) (hv : RepL w (XX X ρ h) ρ vs As) (B n : Nat) {Hi : Hist} (hB : B ≤ w.heap.size) (hi : Hi X ρ h w) :
   Rel P B Hi X ρ ⟨app As (undefs (n - As.length)), h⟩ { tmps := vs.toArray ++ Array.replicate (n - vs.toArray.size) undef, defers := [] } w := by
 have hall : RepL w (XX X ρ h) ρ (vs ++ List.replicate (n - vs.length) undef) (app As (undefs (n - As.length))) := by
   rw [app_eq, ← hv.length]
   exact hv.append (undefs_rep _)
 have hlist : (vs.toArray ++ Array.replicate (n - vs.toArray.size) undef).toList = vs ++ List.replicate (n - vs.length) undef := by simp
 refine ⟨hh, ?_, ?_, marks_nil, hX, hB, hi⟩
 . have := hall.length
   rw [← hlist] at this
   simpa using this
 . intro t v x h1 h2
   rw [lget_eq] at h2
   refine hall.at t v x ?_ h2
   rw [← hlist, Array.getElem?_toList]
   exact h1
theorem callsX_of {f : FuncId} {fn : Func} {c : Code} (hf : P.funcs[f]? = some fn) (hb : fn.body = some c) (hn : (fn.name == "runtime.NumGoroutine") = false) {args : Array Value} {w : World} {R : Value → World → Prop}
   (h : CallsIn (fz none) 1 P f args w fun e w' => ∃ v, e = .returned v ∧ R v w') : CallsX P f args w R := by
 unfold CallsX
 rw [callFunc_body hf hn (by rw [hb]; rfl)]
 exact (callsIn_wide (n := 1)).1 h
theorem results_run (hT : TyOk P T) {fn : Func} {X : Nat → Prop} {ρ : Nat → Option Nat} {s : St} {a : Act} {B : Nat} {Hi : Hist} {w : World} (hr : Rel P B Hi X ρ s a w) {l : List AVal} (hl : ares T fn.results.toList s = some l) :
   ∃ us : List Value, (results fn a.tmps).run P w = .ok (if h : us.toArray.size = 1 then us.toArray[0] else .tuple us.toArray) w ∧ RepL w (XX X ρ s.heap) ρ us l := by
 obtain ⟨us, h1, h2⟩ := ares_sound (P := P) hT hr fn.results.toList l hl
 refine ⟨us, ?_, h2⟩
 unfold results
 rw [Array.mapM_eq_mapM_toList]
 simp only [Sem.run_bind, Sem.run_pure, map_eq_pure_bind]
 erw [h1]
 rfl
theorem one_rep {w : World} {X : Nat → Prop} {ρ : Nat → Option Nat} {us : List Value} {l : List AVal} (h : RepL w X ρ us l) : Rep w X ρ (if h : us.toArray.size = 1 then us.toArray[0] else .tuple us.toArray) (one l) := by
 cases h with
 | nil => exact .tup [] [] rfl (fun j v x hv => by simp at hv)
 | cons h1 h2 =>
   cases h2 with
   | nil => exact h1
   | cons h2 h3 => exact (RepL.cons h1 (.cons h2 h3)).tup
theorem specM_of_afunM (hT : TyOk P T) (hm : P.follows .mixedOrders = true) (hd : DrawOK P T) {Sp : SpecT} (hS : SpOK P Sp) (hn0 : Sp.it = false) (hgc : Sp.gc = false) {f : FuncId} {fn : Func} {c : Code} (hf : P.funcs[f]? = some fn) (hb : fn.body = some c) (hn : (fn.name == "runtime.NumGoroutine") = false)
   {N : Nat → Nat} {tr : Nat → Md} (hok : codeOK tr c = true) {h0 : List Blk} {As : List AVal} {r : AVal} {h' : List Blk} (h : afunM Ar.real T Sp N tr fn.ntmps fn.results c h0 As (fun r' k => r' = r ∧ k = h')) : SpecM P f h0 As r h' := by
 intro X w ρ vs hX hh hv
 refine callsX_of hf hb hn (callsIn_of_wp_marks hf hb trivial ?_)
 have hR : Rel P w.heap.size (From X ρ h0 w) X ρ ⟨app As (undefs (fn.ntmps - As.length)), h0⟩ { tmps := vs.toArray ++ Array.replicate (fn.ntmps - vs.toArray.size) undef, defers := [] } w :=
   enter_rel hX hh hv _ _ (Nat.le_refl _) ⟨rfl, Step.refl hh⟩
 unfold afunM at h
 refine wpIn_mono (acode_sound hT hm hd hS c 0 _ _ _ _ none _ _ (From.ok (hS.it hn0)) (.inr ⟨rfl, hn0, fun hf hc => hf.calm hc⟩) (.inr fun h => by rw [hgc] at h; cases h) hok h ⟨⟨X, ρ, hR⟩, .inl hn0⟩) ?_
 rintro e a' w' ⟨s', hk, ⟨X', ρ', hr⟩, _⟩
 obtain ⟨rfl, hst⟩ := hr.hist
 have fin : optK (ares T fn.results.toList s') (fun l => one l = r ∧ s'.heap = h') → LeavesInM (fz none) 1 P fn a'.tmps (fun e w'' => ∃ v, e = .returned v ∧ ∃ ρ', Step X' ρ h0 w ρ' h' w'' ∧ Rep w'' (XX X' ρ' h') ρ' v r) a'.defers .returning w' := by
   intro hk
   obtain ⟨l, hl, rfl, rfl⟩ := optK_inv hk
   refine leaves_of _ _ hr.marks fun w'' hc => ?_
   have hr2 : Rel P 0 (fun _ _ _ _ => True) X' ρ' s' { a' with defers := [] } w'' := ⟨hr.heap.calm hc, hr.size, fun t v x hv hx => (hr.tmps t v x hv hx).calm hc, marks_nil, fun b hb => Nat.lt_of_lt_of_le (hr.lt b hb) hc.size, Nat.zero_le _, trivial⟩
   obtain ⟨us, h1, h2⟩ := results_run hT hr2 hl
   exact ⟨_, h1, _, rfl, ρ', hst.calm hc, one_rep h2⟩
 cases e <;> simp only at hk <;> first
   | exact fin hk
   | exact hk.elim
end
end Eng
set_option linter.unusedSimpArgs false
set_option linter.unusedVariables false
namespace Eng
open Go
def Lin1 {α : Type} (F : (α → Prop) → Prop) : Prop := ∀ K, F K → ∃ y, K y ∧ ∀ K', K' y → F K'
def Lin2 {α β : Type} (F : (α → β → Prop) → Prop) : Prop := ∀ K, F K → ∃ y z, K y z ∧ ∀ K', K' y z → F K'
section
variable {α β γ : Type}
theorem lin_ret (y : α) : Lin1 fun K => K y := fun K h => ⟨y, h, fun _ h => h⟩
theorem lin_false : Lin1 fun (_ : α → Prop) => False := fun K h => h.elim
theorem lin_opt {x : Option γ} {F : γ → (α → Prop) → Prop} (h : ∀ y, Lin1 (F y)) : Lin1 fun K => optK x fun y => F y K := by
 intro K hk
 obtain ⟨y, rfl, hk⟩ := optK_inv hk
 exact h y K hk
theorem lin_if {c : Bool} {F : (α → Prop) → Prop} (h : Lin1 F) : Lin1 fun K => onlyIf c fun _ => F K := by
 intro K hk
 obtain ⟨rfl, hk⟩ := onlyIf_inv hk
 exact h K hk
theorem lin_need {c : Bool} {F : (α → Prop) → Prop} (h : Lin1 F) : Lin1 fun K => Need c fun _ => F K := by
 intro K hk
 cases hk with
 | mk h1 h2 => obtain ⟨y, h3, h4⟩ := h K h2; exact ⟨y, h3, fun K' hk' => .mk h1 (h4 K' hk')⟩
theorem lin_br {t : Bool} {F G : (α → Prop) → Prop} (h : Lin1 F) (h' : Lin1 G) : Lin1 fun K => ABr t (fun _ => F K) (fun _ => G K) := by
 intro K hk
 cases hk with
 | mk hp hq =>
   cases t
   . obtain ⟨y, h3, h4⟩ := h' K (hq rfl); exact ⟨y, h3, fun K' hk' => ABr.f rfl (h4 K' hk')⟩
   . obtain ⟨y, h3, h4⟩ := h K (hp rfl); exact ⟨y, h3, fun K' hk' => ABr.t rfl (h4 K' hk')⟩
theorem lin2_ret (y : α) (z : β) : Lin2 fun K => K y z := fun K h => ⟨y, z, h, fun _ h => h⟩
theorem lin2_false : Lin2 fun (_ : α → β → Prop) => False := fun K h => h.elim
theorem lin2_opt {x : Option γ} {F : γ → (α → β → Prop) → Prop} (h : ∀ y, Lin2 (F y)) : Lin2 fun K => optK x fun y => F y K := by
 intro K hk
 obtain ⟨y, rfl, hk⟩ := optK_inv hk
 exact h y K hk
theorem lin2_if {c : Bool} {F : (α → β → Prop) → Prop} (h : Lin2 F) : Lin2 fun K => onlyIf c fun _ => F K := by
 intro K hk
 obtain ⟨rfl, hk⟩ := onlyIf_inv hk
 exact h K hk
theorem lin2_need {c : Bool} {F : (α → β → Prop) → Prop} (h : Lin2 F) : Lin2 fun K => Need c fun _ => F K := by
 intro K hk
 cases hk with
 | mk h1 h2 => obtain ⟨y, z, h3, h4⟩ := h K h2; exact ⟨y, z, h3, fun K' hk' => .mk h1 (h4 K' hk')⟩
theorem lin2_mut {Sp : SpecT} {f : FuncId} {h : List Blk} {args : List AVal} : Lin2 (AMut Sp f h args) := by
 intro K hk
 cases hk with
 | mk r h' h1 h2 => exact ⟨r, h', h2, fun K' hk' => .mk r h' h1 hk'⟩
theorem lin2_yield {Sp : SpecT} {l : Nat} {h : List Blk} {args : List AVal} : Lin2 (AYield Sp l h args) := by
 intro K hk
 cases hk with
 | mk i h1 h2 h3 h4 h5 => exact ⟨_, _, h5, fun K' hk' => .mk i h1 h2 h3 h4 hk'⟩
theorem lin2_call {Sp : SpecT} {f : FuncId} {args : List AVal} {F : AVal → (α → β → Prop) → Prop} (h : ∀ r, Lin2 (F r)) : Lin2 fun K => ACall Sp f args fun r => F r K := by
 intro K hk
 cases hk with
 | mk r h1 h2 => obtain ⟨y, z, h3, h4⟩ := h r K h2; exact ⟨y, z, h3, fun K' hk' => .mk r h1 (h4 K' hk')⟩
end
section
variable (A : Ar) (T : Ty) (Sp : SpecT)
theorem lin_aidx2 {m : Bool} {x : AVal} {n : Nat} {F G : Nat → (AVal → Prop) → Prop} (h : ∀ k, Lin1 (F k)) (g : ∀ k, Lin1 (G k)) : Lin1 fun K => aidx2 m x n (fun k => F k K) (fun k => G k K) := by
 have hi : ∀ j, Lin1 fun K => AIdx j n (fun k => F k K) (fun k => G k K) := by
   intro j K hk
   cases hk with
   | mk i h1 h2 h3 => obtain ⟨y, h4, h5⟩ := h i K h3; exact ⟨y, h4, fun K' hk' => .mk i h1 h2 (h5 K' hk')⟩
   | sym i h1 h2 h3 => obtain ⟨y, h4, h5⟩ := g i K h3; exact ⟨y, h4, fun K' hk' => .sym i h1 h2 (h5 K' hk')⟩
 cases x <;> first
   | exact lin_false
   | (cases m
      . exact lin_if (h _)
      . exact hi _)
   | exact hi _
theorem lin_aidx {m : Bool} {x : AVal} {n : Nat} {F : Nat → (AVal → Prop) → Prop} (h : ∀ k, Lin1 (F k)) : Lin1 fun K => aidx m x n fun k => F k K := lin_aidx2 h h
theorem lin_aref {cs : List AVal} {i sz : Nat} {F : List AVal → (AVal → Prop) → Prop} (h : ∀ ys, Lin1 (F ys)) : Lin1 fun K => ARef cs i sz fun ys => F ys K := by
 intro K hk
 cases hk with
 | mk ys h1 h2 => obtain ⟨y, h4, h5⟩ := h ys K h2; exact ⟨y, h4, fun K' hk' => .mk ys h1 (h5 K' hk')⟩
theorem lin2_aref {α β : Type} {cs : List AVal} {i sz : Nat} {F : List AVal → (α → β → Prop) → Prop} (h : ∀ ys, Lin2 (F ys)) : Lin2 fun K => ARef cs i sz fun ys => F ys K := by
 intro K hk
 cases hk with
 | mk ys h1 h2 => obtain ⟨y, z, h4, h5⟩ := h ys K h2; exact ⟨y, z, h4, fun K' hk' => .mk ys h1 (h5 K' hk')⟩
theorem lin2_ast {α β : Type} {cs : List AVal} {i : Nat} {ys : List AVal} {F : List AVal → (α → β → Prop) → Prop} (h : ∀ ys, Lin2 (F ys)) : Lin2 fun K => ASt cs i ys fun ds => F ds K := by
 intro K hk
 cases hk with
 | mk ds h1 h2 => obtain ⟨y, z, h4, h5⟩ := h ds K h2; exact ⟨y, z, h4, fun K' hk' => .mk ds h1 (h5 K' hk')⟩
theorem lin_arow {cs : List AVal} {i sz : Nat} {F : List AVal → (AVal → Prop) → Prop} (h : ∀ ys, Lin1 (F ys)) : Lin1 fun K => ARow cs i sz fun ys => F ys K := by
 intro K hk
 cases hk with
 | mk ys h1 h2 => obtain ⟨y, h4, h5⟩ := h ys K h2; exact ⟨y, h4, fun K' hk' => .mk ys h1 (h5 K' hk')⟩
theorem lin_arith {op : BinOp} {x y : AVal} : Lin1 (aarith A op x y) := by
 cases x <;> try (exact lin_false)
 all_goals (cases y <;> try (exact lin_false))
 . exact lin_if (lin_ret _)
 . unfold aarith
   cases hn : needsOk op
   . exact lin_if (lin_ret _)
   . exact lin_if (lin_need (lin_ret _))
 . exact lin_if (lin_ret _)
 . unfold aarith
   cases hn : needsOk op
   . exact lin_if (lin_ret _)
   . exact lin_if (lin_need (lin_ret _))
theorem lin_cmp {op : BinOp} {x y : AVal} : Lin1 (acmp A op x y) := by
 cases x <;> try (exact lin_false)
 all_goals (cases y <;> first | exact lin_false | exact lin_if (lin_ret _))
theorem lin_eql {t : TypeId} {x y : AVal} {b : Bool} : Lin1 fun (K : AVal → Prop) => aeql A T t x y fun f => K (f b) := by
 unfold aeql
 cases isPtr (T.und t)
 . cases isSl (T.und t)
   . exact lin_if (lin_opt fun _ => lin_ret _)
   . exact lin_opt fun _ => lin_ret _
 . exact lin_opt fun _ => lin_ret _
theorem lin_bin {op : BinOp} {t : TypeId} {x y : AVal} : Lin1 (abin A T op t x y) := by
 unfold abin
 cases isArith op
 . cases isI x && isI y
   . cases op <;> first | exact lin_eql A T | exact lin_false
   . exact lin_if (lin_cmp A)
 . exact lin_arith A
theorem lin_un {op : UnOp} {x : AVal} : Lin1 (aun A op x) := by
 unfold aun
 cases op <;> cases x <;> first | exact lin_false | exact lin_ret _
theorem lin_sub1 {lo hi : Option AVal} {n : Nat} {F : Nat → Nat → (AVal → Prop) → Prop} (h : ∀ l r, Lin1 (F l r)) : Lin1 fun K => aopP.asub lo hi n fun l r => F l r K := by
 unfold aopP.asub
 generalize subHi hi n = q
 cases q with
 | none => exact lin_false
 | some r =>
   dsimp only
   generalize subLo lo r = p
   cases p with
   | none => exact lin_false
   | some l => exact h l r
theorem lin_P (o : Oper) (e : Operand → AVal) : Lin1 (aopP A T o e) := by
 obtain ⟨dst, op, ty, pos, after, guard⟩ := o
 unfold aopP
 cases op <;> dsimp only <;> try (exact lin_false)
 case move => exact lin_ret _
 case assign => exact lin_ret _
 case pick c a b => generalize e c = y; cases y <;> first | exact lin_false | exact lin_ret _ | exact lin_br (lin_ret _) (lin_ret _)
 case binOp => exact lin_bin A T
 case unOp => exact lin_un A
 case convert s d x =>
   refine lin_if ?_
   generalize T.und d = u; generalize e x = y
   cases u <;> try (exact lin_false)
   . cases y <;> first | exact lin_false | exact lin_ret _
   . cases y <;> try (exact lin_false)
     rename_i m n cs
     dsimp only
     generalize T.und s = u
     cases u <;> try (exact lin_false)
     rename_i el
     dsimp only
     generalize T.und el = u
     cases u <;> try (exact lin_false)
     rename_i k
     cases k <;> try (exact lin_false)
     cases m
     . exact lin_if (lin_ret _)
     . exact lin_need (lin_ret _)
 case load t x => generalize e x = y; cases y <;> first | exact lin_false | exact lin_opt fun _ => lin_ret _
 case nilCheck x => generalize e x = y; cases y <;> first | exact lin_false | exact lin_ret _ | exact lin_if (lin_ret _)
 case extract x i => generalize e x = y; cases y <;> first | exact lin_false | exact lin_opt fun _ => lin_ret _
 case field t x f =>
   generalize T.und t = u; generalize e x = y
   cases u <;> try (exact lin_false)
   cases y <;> try (exact lin_false)
   rename_i fs cs
   dsimp only
   generalize fs[f]? = q
   cases q <;> first | exact lin_false | exact lin_opt fun _ => lin_ret _
 case index t x ix =>
   generalize T.und t = u; generalize e x = y
   cases u <;> try (exact lin_false)
   . cases y <;> try (exact lin_false)
     rename_i v
     cases v <;> first | exact lin_false | exact lin_aidx fun _ => lin_ret _
   . cases y <;> try (exact lin_false)
     exact lin_aidx fun _ => lin_opt fun _ => lin_ret _
 case fieldAddr t x f =>
   generalize T.und t = u; generalize e x = y
   cases u <;> try (exact lin_false)
   rename_i fs
   dsimp only
   generalize fs[f]? = q
   cases q <;> try (exact lin_false)
   cases y <;> first | exact lin_if lin_false | exact lin_if (lin_ret _)
 case indexAddr t x ix =>
   generalize T.und t = u; generalize e x = y
   cases u <;> try (exact lin_false)
   all_goals (cases y <;> first | exact lin_false | exact lin_if (lin_aidx2 (fun _ => lin_ret _) (fun _ => lin_ret _)) | exact lin_if (lin_aidx2 (fun _ => lin_ret _) (fun _ => lin_aref fun _ => lin_ret _)) | skip)
   rename_i m n cs
   refine lin_if (lin_aidx2 (fun _ => ?_) (fun _ => lin_arow fun _ => lin_ret _))
   cases m
   . exact lin_ret _
   . exact lin_arow fun _ => lin_ret _
 case makeInterface t x => generalize T.und t = u; cases u <;> first | exact lin_false | exact lin_ret _
 case typeAssert x xt t ok =>
   generalize hu : T.und t = u; generalize e x = y
   cases u <;> try (exact lin_false)
   all_goals
     (cases y <;> try (exact lin_false)
      rename_i t' z
      dsimp only
      cases t' == t
      . cases ok <;> first | exact lin_false | exact lin_ret _
      . exact lin_ret _)
 case makeFunc => exact lin_ret _
 case build t parts =>
   generalize buildable T (T.und t) = b
   generalize aopP.fillP T (T.und t) (aopP.partsOf e parts.toList) (mapV (T.zero t)) = q
   cases b <;> cases q <;> first | exact lin_false | exact lin_ret _
 case slice t x lo hi mx =>
   cases mx with
   | some m => exact lin_false
   | none =>
     generalize T.und t = u; generalize e x = y
     cases u <;> try (exact lin_false)
     cases y <;> try (exact lin_false)
     rename_i el m n cs
     cases m
     . exact lin_if (lin_sub1 fun l r => lin_opt fun _ => lin_ret _)
     . exact lin_false
 case sliceToArrayPointer t x =>
   generalize T.und t = u; generalize e x = y
   cases u <;> try (exact lin_false)
   cases y <;> try (exact lin_false)
   . rename_i n el m k cs
     cases m
     . exact lin_if (lin_ret _)
     . exact lin_if (lin_need (lin_ret _))
   . rename_i n el m id off k sz
     cases m
     . exact lin_if (lin_ret _)
     . exact lin_false
theorem lin_aj {t : Bool} {a b : Int} {f : Int → AVal} : Lin1 fun (K : AVal → Prop) => AJ t a b fun v => K (f v) := fun K h => by
 obtain ⟨v, hp, hq, hk⟩ := h
 exact ⟨f v, hk, fun K' h' => .mk v hp hq h'⟩
theorem lin_min (c : Call) (e : Operand → AVal) : Lin1 (amin A c e) := by
 unfold amin
 rcases c.args.toList with _ | ⟨x, _ | ⟨y, _ | ⟨z, l⟩⟩⟩
 . exact lin_false
 . exact lin_false
 . exact lin_opt fun a => lin_opt fun b => lin_aj
 . exact lin_false
theorem lin_len0 (c : Call) (e : Operand → AVal) : Lin1 (alen0 A T c e) := by
 unfold alen0
 generalize c.argTypes[0]? = q
 generalize c.args[0]? = r
 cases q <;> try (exact lin_false)
 cases r <;> try (exact lin_false)
 rename_i t x
 dsimp only
 generalize T.und t = u; generalize e x = y
 cases u <;> try (exact lin_false)
 . cases y <;> try (exact lin_false)
   rename_i z; cases z <;> first | exact lin_false | exact lin_ret _
 . cases y <;> first
     | exact lin_false
     | exact lin_ret _
     | (rename_i z
        cases z <;> try (exact lin_false)
        rename_i a n c
        cases a <;> try (exact lin_false)
        cases n <;> first | exact lin_false | exact lin_ret _)
 . exact lin_ret _
theorem lin_len (c : Call) (e : Operand → AVal) : Lin1 (alen A T c e) := by
 unfold alen
 cases isMin c.callee
 . exact lin_len0 A T c e
 . exact lin_min A c e
theorem lin_sub {α β : Type} {lo hi : Option AVal} {n : Nat} {F : Nat → Nat → (α → β → Prop) → Prop} (h : ∀ l r, Lin2 (F l r)) : Lin2 fun K => aopP.asub lo hi n fun l r => F l r K := by
 unfold aopP.asub
 generalize subHi hi n = q
 cases q with
 | none => exact lin2_false
 | some r =>
   dsimp only
   generalize subLo lo r = p
   cases p with
   | none => exact lin2_false
   | some l => exact h l r
theorem lin_row {α β : Type} {h : List Blk} {sz : Nat} {x : AVal} {F : Bool → Nat → List AVal → (α → β → Prop) → Prop} (hF : ∀ m n ys, Lin2 (F m n ys)) : Lin2 fun K => rowK A h sz x fun m n ys => F m n ys K := by
 unfold rowK
 cases x <;> try (exact lin2_false)
 . rename_i z
   cases z <;> try (exact lin2_false)
   rename_i a n c
   cases a <;> try (exact lin2_false)
   cases n <;> try (exact lin2_false)
   cases c <;> first | exact lin2_false | exact hF _ _ _
 . rename_i m n cs
   cases m
   . exact lin2_if (hF _ _ _)
   . exact lin2_need (hF _ _ _)
 . rename_i m id off n sz'
   cases m
   . exact lin2_if (lin2_opt fun _ => hF _ _ _)
   . exact lin2_false
theorem lin_room {α β : Type} {el : TypeId} {m : Bool} {n : Nat} {F : (α → β → Prop) → Prop} (hF : Lin2 F) : Lin2 fun K => roomK A T el m n fun _ => F K := by
 cases m
 . exact lin2_if hF
 . exact lin2_need hF
theorem lin_appQ {args : Array Operand} {tys : Array TypeId} {e : Operand → AVal} {h : List Blk} : Lin2 (appQ A T args tys e h) := by
 unfold appQ
 generalize tys.toList = q
 generalize args.toList = r
 rcases q with _ | ⟨t, _ | ⟨u, q⟩⟩ <;> try (exact lin2_false)
 rcases r with _ | ⟨s, _ | ⟨x, _ | ⟨z, r⟩⟩⟩ <;> try (exact lin2_false)
 dsimp only
 generalize T.und t = d; generalize e s = y
 cases d <;> try (exact lin2_false)
 cases y <;> try (exact lin2_false)
 . rename_i z
   cases z <;> try (exact lin2_false)
   rename_i a n c
   cases a <;> try (exact lin2_false)
   cases n <;> try (exact lin2_false)
   cases c <;> try (exact lin2_false)
   exact lin2_if (lin_row A fun _ _ _ => lin_room A T (lin2_opt fun _ => lin2_ret _ _))
 . exact lin2_if (lin_row A fun _ _ _ => lin_room A T (lin2_opt fun _ => lin2_ret _ _))
theorem lin_Q (o : Oper) (e : Operand → AVal) (h : List Blk) : Lin2 (aopQ A T Sp o e h) := by
 obtain ⟨dst, op, ty, pos, after, guard⟩ := o
 unfold aopQ
 cases op <;> dsimp only <;> try (exact lin2_false)
 case load t x => generalize e x = y; cases y <;> first | exact lin2_false | exact lin2_opt fun _ => lin2_ret _ _ | exact lin2_if (lin2_opt fun _ => lin2_ret _ _) | exact lin2_if (lin2_aref fun _ => lin2_opt fun _ => lin2_ret _ _)
 case slice t x lo hi mx =>
   generalize T.und t = u; generalize e x = y
   cases mx
   rotate_left
   . rename_i m
     cases u <;> try (exact lin2_false)
     cases y <;> try (exact lin2_false)
     . rename_i z
       cases z <;> try (exact lin2_false)
       rename_i a n c
       cases a <;> try (exact lin2_false)
       cases n <;> try (exact lin2_false)
       cases c <;> try (exact lin2_false)
       exact lin2_if (lin2_ret _ _)
     . exact lin2_if (lin2_ret _ _)
   cases u <;> try (exact lin2_false)
   all_goals (cases y <;> try (exact lin2_false))
   . rename_i m n cs
     cases m
     . exact lin2_if (lin_sub fun _ _ => lin2_opt fun _ => lin2_ret _ _)
     . exact lin2_false
   . rename_i m id off n sz
     cases m
     . exact lin2_if (lin_sub fun _ _ => lin2_ret _ _)
     . exact lin2_false
   . exact lin2_if (lin_sub fun _ _ => lin2_opt fun _ => lin2_ret _ _)
   . exact lin2_if (lin_sub fun _ _ => lin2_ret _ _)
 case alloc => exact lin2_if (lin2_ret _ _)
 case box => exact lin2_opt fun _ => lin2_opt fun _ => lin2_ret _ _
 case buildSlice t n parts =>
   generalize hu : T.und t = u
   cases u <;> first | exact lin2_false | exact lin2_if (lin2_opt fun _ => lin2_opt fun _ => lin2_ret _ _)
 case makeSlice t l c =>
   generalize T.und t = u; generalize e l = y; generalize e c = z
   cases u <;> try (exact lin2_false)
   cases y <;> try (exact lin2_false)
   cases z <;> first | exact lin2_false | exact lin2_if (lin2_ret _ _)
 case call c =>
   cases isApp c.callee
   . dsimp only
     generalize callee T e c = q
     rcases q with _ | ⟨f, args⟩
     . exact lin2_false
     . exact lin2_opt fun _ => lin2_call fun _ => lin2_ret _ _
   . exact lin_appQ A T
theorem lin_appE {args : Array Operand} {tys : Array TypeId} {e : Operand → AVal} {h : List Blk} : Lin2 (appE A T args tys e h) := by
 unfold appE
 generalize tys.toList = q
 generalize args.toList = r
 rcases q with _ | ⟨t, _ | ⟨u, q⟩⟩ <;> try (exact lin2_false)
 rcases r with _ | ⟨s, _ | ⟨x, _ | ⟨z, r⟩⟩⟩ <;> try (exact lin2_false)
 dsimp only
 generalize T.und t = d; generalize e s = y
 cases d <;> try (exact lin2_false)
 refine lin2_if (lin_row A fun m k ys => ?_)
 cases y <;> try (exact lin2_false)
 . rename_i z
   cases z <;> try (exact lin2_false)
   rename_i a n c
   cases a <;> try (exact lin2_false)
   cases n <;> try (exact lin2_false)
   cases c <;> try (exact lin2_false)
   exact lin_room A T (lin2_ret _ _)
 . rename_i m id off n sz
   cases m <;> try (exact lin2_false)
   cases off <;> try (exact lin2_false)
   exact lin2_if (lin_room A T (lin2_ret _ _))
 . exact lin_room A T (lin2_ret _ _)
theorem lin_cpy {args : Array Operand} {tys : Array TypeId} {e : Operand → AVal} {h : List Blk} : Lin2 (cpyE A T args tys e h) := by
 unfold cpyE
 generalize tys.toList = q
 generalize args.toList = r
 rcases q with _ | ⟨t, _ | ⟨u, q⟩⟩ <;> try (exact lin2_false)
 rcases r with _ | ⟨s, _ | ⟨x, _ | ⟨z, r⟩⟩⟩ <;> try (exact lin2_false)
 dsimp only
 generalize T.und t = d; generalize e s = y
 cases d <;> try (exact lin2_false)
 cases y <;> try (exact lin2_false)
 rename_i m id off n sz
 cases m <;> try (exact lin2_false)
 exact lin2_if (lin_row A fun m k ys => lin2_if (lin2_opt fun _ => lin2_if (lin2_opt fun _ => lin2_ret _ _)))
theorem lin_E (o : Oper) (e : Operand → AVal) (h : List Blk) : Lin2 (aopE A T Sp o e h) := by
 obtain ⟨dst, op, ty, pos, after, guard⟩ := o
 unfold aopE
 cases op <;> dsimp only <;> try (exact lin2_false)
 case store t x y => generalize e x = z; cases z <;> first | exact lin2_false | exact lin2_opt fun _ => lin2_if (lin2_opt fun _ => lin2_ret _ _) | exact lin2_opt fun _ => lin2_if (lin2_ast fun _ => lin2_ret _ _)
 case alloc => exact lin2_if (lin2_ret _ _)
 case box => exact lin2_opt fun _ => lin2_ret _ _
 case buildSlice t n parts =>
   generalize hu : T.und t = u
   cases u <;> first | exact lin2_false | exact lin2_if (lin2_opt fun _ => lin2_ret _ _)
 case makeSlice t l c =>
   generalize T.und t = u; generalize e l = y; generalize e c = z
   cases u <;> try (exact lin2_false)
   cases y <;> try (exact lin2_false)
   cases z <;> first | exact lin2_false | exact lin2_if (lin2_ret _ _) | exact lin2_if (lin2_need (lin2_ret _ _))
 case call c =>
   cases isApp c.callee
   . dsimp only
     cases isCpy c.callee
     rotate_left
     . exact lin_cpy A T
     dsimp only
     generalize callee T e c = q
     rcases q with _ | ⟨f, args⟩
     . exact lin2_false
     . dsimp only
       cases T.mu f
       . exact lin2_opt fun _ => lin2_call fun _ => lin2_ret _ _
       . exact lin2_mut
   . exact lin_appE A T
theorem lin_op (tree : Md) (o : Oper) (s : St) : Lin2 (aop A T Sp tree o s) := by
 unfold aop
 cases cls tree o.op
 . dsimp only
   have hP : ∀ F : (AVal → Prop) → Prop, Lin1 F → Lin2 fun (K : AVal → List Blk → Prop) => F fun v => K v s.heap := by
     intro F hF K hk
     obtain ⟨y, h1, h2⟩ := hF _ hk
     exact ⟨y, s.heap, h1, fun K' hk' => h2 (fun v => K' v s.heap) hk'⟩
   cases o.op <;> first | exact hP _ (lin_P A T o _) | exact hP _ (lin_len A T _ _)
 . intro K hk
   obtain ⟨y, l, h1, h2⟩ := lin_Q A T Sp o _ _ _ hk
   exact ⟨y, freeze s.heap l, h1, fun K' hk' => h2 (fun v l => K' v (freeze s.heap l)) hk'⟩
 . dsimp only
   generalize yieldOf (ev s) o.op = q
   rcases q with _ | ⟨l, args⟩
   . exact lin_E A T Sp o _ _
   . exact lin2_opt fun _ => lin2_yield
 . dsimp only
   unfold aopR
   generalize o.op = p; generalize o.dst = q
   cases p <;> try (exact lin2_false)
   cases q <;> first | exact lin2_false | exact lin2_if (lin2_opt fun _ => lin2_ret _ _)
theorem lin_step (tree : Md) (all : List Oper) (o : Oper) (s : St) : Lin1 (astep A T Sp tree all o s) := by
 have h1 : Lin1 fun (K : St → Prop) => aop A T Sp tree o s fun v h => K (put ⟨s.tmps, h⟩ o.dst v) := by
   intro K hk
   obtain ⟨y, h', h1, h2⟩ := lin_op A T Sp tree o s _ hk
   exact ⟨_, h1, fun K' hk' => h2 (fun v h => K' (put ⟨s.tmps, h⟩ o.dst v)) hk'⟩
 unfold astep
 cases o.guard with
 | none => exact h1
 | some g =>
   obtain ⟨j, want⟩ := g
   dsimp only
   generalize dstOf all j = q
   cases q with
   | none => exact lin_false
   | some d =>
     dsimp only
     generalize lget s.tmps d = r
     rcases r with _ | r
     . exact lin_false
     . cases r <;> try (exact lin_false)
       rotate_right
       . rename_i vs
         cases vs
         . exact lin_ret _
         . exact lin_false
       . rename_i t
         dsimp only
         cases t == want
         . exact lin_ret _
         . exact h1
       . rename_i t
         cases want
         . exact lin_br (lin_ret _) h1
         . exact lin_br h1 (lin_ret _)
end
end Eng
set_option linter.unusedSimpArgs false
set_option linter.unusedVariables false
namespace Eng
open Go
section
variable (A : Ar) (T : Ty) (Sp : SpecT)
theorem mapE_congr {e e' : Operand → AVal} : ∀ {l : List Operand}, (∀ x ∈ l, e x = e' x) → l.map e = l.map e'
 | [], _ => rfl
 | x :: l, h => by simp [h x (by simp)]; intro y hy; exact h y (by simp [hy])
theorem parts_congr {e e' : Operand → AVal} : ∀ {l : List (Nat × Operand)}, (∀ p ∈ l, e p.2 = e' p.2) → aopP.partsOf e l = aopP.partsOf e' l
 | [], _ => rfl
 | (i, x) :: l, h => by simp only [aopP.partsOf, h (i, x) (by simp), parts_congr (l := l) fun p hp => h p (by simp [hp])]
theorem congr_P {o : Oper} {e e' : Operand → AVal} (h : ∀ x ∈ o.op.operands, e x = e' x) : aopP A T o e = aopP A T o e' := by
 obtain ⟨dst, op, ty, pos, after, guard⟩ := o
 funext K
 unfold aopP
 cases op <;> simp only [Op.operands] at h <;> dsimp only
 case move x => rw [h x (by simp)]
 case assign x => rw [h x (by simp)]
 case pick c a b => rw [h c (by simp), h a (by simp), h b (by simp)]
 case binOp o t x y yt => rw [h x (by simp), h y (by simp)]
 case unOp o t x => rw [h x (by simp)]
 case convert s d x => rw [h x (by simp)]
 case load t x => rw [h x (by simp)]
 case nilCheck x => rw [h x (by simp)]
 case extract x i => rw [h x (by simp)]
 case field t x f => rw [h x (by simp)]
 case index t x i => rw [h x (by simp), h i (by simp)]
 case fieldAddr t x f => rw [h x (by simp)]
 case indexAddr t x i => rw [h x (by simp), h i (by simp)]
 case makeInterface t x => rw [h x (by simp)]
 case typeAssert x a b c => rw [h x (by simp)]
 case makeFunc f a c => rw [mapE_congr (l := a.toList) fun x hx => h x (by simp at hx ⊢; exact .inl hx), mapE_congr (l := c.toList) fun x hx => h x (by simp at hx ⊢; exact .inr hx)]
 case build t ps => rw [parts_congr (l := ps.toList) fun p hp => h p.2 (by simp; exact ⟨p.1, by simpa using hp⟩)]
 case slice t x lo hi mx =>
   rw [h x (by simp)]
   have h1 : lo.map e = lo.map e' := by cases lo with | none => rfl | some y => simp [h y (by simp)]
   have h2 : hi.map e = hi.map e' := by cases hi with | none => rfl | some y => simp [h y (by simp)]
   rw [h1, h2]
 case sliceToArrayPointer t x => rw [h x (by simp)]
theorem congr_min {c : Call} {e e' : Operand → AVal} (h : ∀ x ∈ (Op.call c).operands, e x = e' x) : amin A c e = amin A c e' := by
 funext K
 unfold amin
 have hm : ∀ x ∈ c.args.toList, e x = e' x := by
   intro x hx
   have : x ∈ c.args := by simpa using hx
   exact h x (by simp [Op.operands, Call.operands, this])
 generalize c.args.toList = l at hm ⊢
 rcases l with _ | ⟨x, _ | ⟨y, _ | ⟨z, l⟩⟩⟩
 . rfl
 . rfl
 . dsimp only
   rw [hm x (by simp), hm y (by simp)]
 . rfl
theorem congr_len0 {c : Call} {e e' : Operand → AVal} (h : ∀ x ∈ (Op.call c).operands, e x = e' x) : alen0 A T c e = alen0 A T c e' := by
 funext K
 unfold alen0
 cases hx : c.args[0]? with
 | none => cases c.argTypes[0]? <;> rfl
 | some x =>
   have : x ∈ c.args := Array.mem_of_getElem? hx
   cases c.argTypes[0]? with
   | none => rfl
   | some t =>
     dsimp only
     rw [h x (by simp [Op.operands, Call.operands, this])]
theorem congr_len {c : Call} {e e' : Operand → AVal} (h : ∀ x ∈ (Op.call c).operands, e x = e' x) : alen A T c e = alen A T c e' := by
 funext K
 unfold alen
 rw [congr_len0 A T h, congr_min A h]
theorem callee_congr {c : Call} {e e' : Operand → AVal} (h : ∀ x ∈ (Op.call c).operands, e x = e' x) : callee T e c = callee T e' c := by
 obtain ⟨cal, args, tys⟩ := c
 have ha : args.toList.map e = args.toList.map e' := mapE_congr fun x hx => h x (by simp [Op.operands, Call.operands]; right; simpa using hx)
 unfold callee
 cases cal with
 | value f => simp only [ha, h f (by simp [Op.operands, Call.operands])]
 | invoke r n => simp only [ha, h r (by simp [Op.operands, Call.operands])]
 | builtin b => rfl
theorem congr_Q {o : Oper} {e e' : Operand → AVal} {hp : List Blk} (h : ∀ x ∈ o.op.operands, e x = e' x) : aopQ A T Sp o e hp = aopQ A T Sp o e' hp := by
 obtain ⟨dst, op, ty, pos, after, guard⟩ := o
 funext K
 unfold aopQ
 cases op <;> simp only [Op.operands] at h <;> dsimp only
 case load t x => rw [h x (by simp)]
 case slice t x lo hi mx =>
   rw [h x (by simp)]
   have h1 : lo.map e = lo.map e' := by cases lo with | none => rfl | some y => simp [h y (by simp)]
   have h2 : hi.map e = hi.map e' := by cases hi with | none => rfl | some y => simp [h y (by simp)]
   rw [h1, h2]
   cases mx with
   | none =>
     generalize T.und t = u
     generalize e' x = y
     cases u <;> first
       | rfl
       | (cases y <;> first
           | rfl
           | (rename_i m _ _; cases m <;> rfl)
           | (rename_i m _ _ _ _; cases m <;> rfl))
   | some m =>
     have h3 : e m = e' m := h m (by simp)
     generalize T.und t = u
     generalize e' x = y
     cases u <;> first
       | rfl
       | (cases y <;> first
           | rfl
           | (dsimp only; rw [h3]; done)
           | (rename_i z; cases z <;> first
               | rfl
               | (rename_i a n c; cases a <;> first
                   | rfl
                   | (cases n <;> first
                       | rfl
                       | (cases c <;> first
                           | rfl
                           | (exact congrArg (fun z => onlyIf (notOther _ && zeroI _ true && zeroI _ false && zeroI (some z) false) fun _ => K .cap0 []) h3))))))
 case box t x => rw [h x (by simp)]
 case buildSlice t n ps => rw [parts_congr (l := ps.toList) fun p hp => h p.2 (by simp; exact ⟨p.1, by simpa using hp⟩)]
 case makeSlice t a b => rw [h a (by simp), h b (by simp)]
 case call c =>
   rw [callee_congr T h]
   have : appQ A T c.args c.argTypes e hp = appQ A T c.args c.argTypes e' hp := by
     obtain ⟨cal, args, tys⟩ := c
     unfold appQ
     funext K
     rcases ha : args.toList with _ | ⟨s, _ | ⟨x, _ | ⟨z, r⟩⟩⟩ <;> rcases tys.toList with _ | ⟨t, _ | ⟨u, q⟩⟩ <;> try rfl
     dsimp only
     rw [h s (by have : s ∈ args.toList := by rw [ha]; simp
                 simp [Call.operands]; right; simpa using this), h x (by have : x ∈ args.toList := by rw [ha]; simp
                                                                         simp [Call.operands]; right; simpa using this)]
   rw [this]
theorem congr_E {o : Oper} {e e' : Operand → AVal} {hp : List Blk} (h : ∀ x ∈ o.op.operands, e x = e' x) : aopE A T Sp o e hp = aopE A T Sp o e' hp := by
 obtain ⟨dst, op, ty, pos, after, guard⟩ := o
 funext K
 unfold aopE
 cases op <;> simp only [Op.operands] at h <;> dsimp only
 case store t x y => rw [h x (by simp), h y (by simp)]
 case box t x => rw [h x (by simp)]
 case buildSlice t n ps => rw [parts_congr (l := ps.toList) fun p hp => h p.2 (by simp; exact ⟨p.1, by simpa using hp⟩)]
 case makeSlice t a b => rw [h a (by simp), h b (by simp)]
 case call c =>
   rw [callee_congr T h]
   have : appE A T c.args c.argTypes e hp = appE A T c.args c.argTypes e' hp := by
     obtain ⟨cal, args, tys⟩ := c
     unfold appE
     funext K
     rcases ha : args.toList with _ | ⟨s, _ | ⟨x, _ | ⟨z, r⟩⟩⟩ <;> rcases tys.toList with _ | ⟨t, _ | ⟨u, q⟩⟩ <;> try rfl
     dsimp only
     rw [h s (by have : s ∈ args.toList := by rw [ha]; simp
                 simp [Call.operands]; right; simpa using this), h x (by have : x ∈ args.toList := by rw [ha]; simp
                                                                         simp [Call.operands]; right; simpa using this)]
   have hcpy : cpyE A T c.args c.argTypes e hp = cpyE A T c.args c.argTypes e' hp := by
     obtain ⟨cal, args, tys⟩ := c
     unfold cpyE
     funext K
     rcases ha : args.toList with _ | ⟨s, _ | ⟨x, _ | ⟨z, r⟩⟩⟩ <;> rcases tys.toList with _ | ⟨t, _ | ⟨u, q⟩⟩ <;> try rfl
     dsimp only
     rw [h s (by have : s ∈ args.toList := by rw [ha]; simp
                 simp [Call.operands]; right; simpa using this), h x (by have : x ∈ args.toList := by rw [ha]; simp
                                                                         simp [Call.operands]; right; simpa using this)]
   rw [this, hcpy]
theorem yield_congr {o : Op} {e e' : Operand → AVal} (h : ∀ x ∈ o.operands, e x = e' x) : yieldOf e o = yieldOf e' o := by
 cases o <;> try rfl
 rename_i c
 obtain ⟨cal, args, tys⟩ := c
 cases cal <;> try rfl
 rename_i g
 simp only [yieldOf]
 rw [h g (by simp [Op.operands, Call.operands])]
 have : args.toList.map e = args.toList.map e' := mapE_congr fun x hx => h x (by simp [Op.operands, Call.operands]; right; simpa using hx)
 rw [this]
theorem snap_freeze (h : List Blk) (l : List Nat) : ∀ d, snap (freeze h l) d = snap h d := by
 intro d
 induction d with
 | zero => rfl
 | succ d ih =>
   funext x
   cases x <;> simp only [snap, ih, freeze_live, freeze_cells]
theorem ids_freeze (h : List Blk) (l : List Nat) : ∀ d, ids (freeze h l) d = ids h d := by
 intro d
 induction d with
 | zero => rfl
 | succ d ih =>
   funext x
   cases x <;> simp only [ids, ih, freeze_live, freeze_cells]
theorem row_freeze (h : List Blk) (l : List Nat) (sz : Nat) (x : AVal) : rowK A (freeze h l) sz x = rowK A h sz x := by
 funext K
 unfold rowK
 simp only [freeze_live, freeze_cells]
theorem held_freeze (h : List Blk) (l : List Nat) (args : List AVal) (r : AVal) : heldBy (freeze h l) args r = heldBy h args r := by
 unfold heldBy; rw [ids_freeze]
theorem Q_freeze {o : Oper} {e : Operand → AVal} {h : List Blk} {l : List Nat} : aopQ A T Sp o e (freeze h l) = aopQ A T Sp o e h := by
 funext K
 unfold aopQ appQ snapRow idsRow
 simp only [freeze_live, freeze_cells, snap_freeze, ids_freeze, row_freeze, held_freeze]
def More (h k : List Blk) : Prop := h.length ≤ k.length ∧ ∀ i, (hget h i).live = true → hget k i = hget h i
theorem More.refl (h : List Blk) : More h h := ⟨Nat.le_refl _, fun _ _ => rfl⟩
theorem More.app (h k : List Blk) : More h (h ++ k) := ⟨by simp, fun i hi => hget_appl _ _ _ (live_lt hi)⟩
theorem More.fill {h : List Blk} {id d : Nat} (hm : hget h id = mark d) (B : Blk) : More h (hset h id B) :=
 ⟨by rw [hset_length]; exact Nat.le_refl _, fun i hi => by
   rw [hget_hset]
   split
   . rename_i e
     obtain ⟨rfl, _⟩ := e
     rw [hm] at hi; cases hi
   . rfl⟩
theorem snapL_app {f g : AVal → Option AVal} {a b : AVal → List Nat} {L : Nat → Prop} (hf : ∀ x y, f x = some y → g x = some y ∧ b x = a x ∧ ∀ i ∈ a x, L i) : ∀ (xs ys : List AVal), snapL f xs = some ys → snapL g xs = some ys ∧ idsL b xs = idsL a xs ∧ ∀ i ∈ idsL a xs, L i
 | [], ys, h => ⟨h, rfl, fun i hi => by simp [idsL] at hi⟩
 | x :: xs, ys, h => by
   simp only [snapL] at h
   split at h <;> try (cases h; done)
   rename_i y ys' h1 h2
   cases h
   obtain ⟨e1, e2, e3⟩ := hf _ _ h1
   obtain ⟨f1, f2, f3⟩ := snapL_app hf xs ys' h2
   refine ⟨by simp only [snapL, e1, f1], by simp only [idsL, e2, f2], fun i hi => ?_⟩
   simp only [idsL, List.mem_append] at hi
   rcases hi with hi | hi
   . exact e3 i hi
   . exact f3 i hi
theorem snap_app {h k : List Blk} (hm : More h k) : ∀ (d : Nat) (x y : AVal), snap h d x = some y → snap k d x = some y ∧ ids k d x = ids h d x ∧ ∀ i ∈ ids h d x, (hget h i).live = true := by
 intro d
 induction d with
 | zero => intro x y hs; simp [snap] at hs
 | succ d ih =>
   intro x y hs
   have hL := fun xs ys => snapL_app (f := snap h d) (g := snap k d) (a := ids h d) (b := ids k d) (L := fun i => (hget h i).live = true) ih xs ys
   cases x <;> simp only [snap] at hs <;> try (cases hs; done)
   case i | s | b | sb | v | lst | ref | cap0 => cases hs; exact ⟨rfl, rfl, fun i hi => by simp [ids] at hi⟩
   case agg cs =>
     cases hc : snapL (snap h d) cs <;> rw [hc] at hs <;> simp at hs
     subst hs
     obtain ⟨h1, h2, h3⟩ := hL _ _ hc
     exact ⟨by simp only [snap, h1, Option.map_some], by simp only [ids, h2], by simpa only [ids] using h3⟩
   case tup cs =>
     cases hc : snapL (snap h d) cs <;> rw [hc] at hs <;> simp at hs
     subst hs
     obtain ⟨h1, h2, h3⟩ := hL _ _ hc
     exact ⟨by simp only [snap, h1, Option.map_some], by simp only [ids, h2], by simpa only [ids] using h3⟩
   case own id off =>
     split at hs <;> try (cases hs; done)
     rename_i hlive
     have hsame := hm.2 _ hlive
     cases hc : snapL (snap h d) (hget h id).cells <;> rw [hc] at hs <;> simp at hs
     subst hs
     obtain ⟨h1, h2, h3⟩ := hL _ _ hc
     refine ⟨by simp only [snap, hsame, hlive, if_true, h1, Option.map_some], by simp only [ids, hsame, h2], fun i hi => ?_⟩
     simp only [ids, List.mem_cons] at hi
     rcases hi with rfl | hi
     . exact hlive
     . exact h3 i hi
   case osl m id off n sz =>
     split at hs <;> try (cases hs; done)
     rename_i hlive
     have hsame := hm.2 _ hlive
     split at hs <;> try (cases hs; done)
     rename_i cs hcs
     cases hc : snapL (snap h d) cs <;> rw [hc] at hs <;> simp at hs
     subst hs
     obtain ⟨h1, h2, h3⟩ := hL _ _ hc
     refine ⟨by simp only [snap, hsame, hlive, if_true, hcs, h1, Option.map_some], by simp only [ids, hsame, hcs, h2], fun i hi => ?_⟩
     simp only [ids, hcs, List.mem_cons] at hi
     rcases hi with rfl | hi
     . exact hlive
     . exact h3 i hi
   case ifc t x =>
     cases hc : snap h d x <;> rw [hc] at hs <;> simp at hs
     subst hs
     obtain ⟨h1, h2, h3⟩ := ih _ _ hc
     exact ⟨by simp only [snap, h1, Option.map_some], by simp only [ids, h2], by simpa only [ids] using h3⟩
   case fn f a c =>
     split at hs <;> try (cases hs; done)
     rename_i a' c' h1 h2
     cases hs
     obtain ⟨e1, e2, e3⟩ := hL _ _ h1
     obtain ⟨f1, f2, f3⟩ := hL _ _ h2
     refine ⟨by simp only [snap, e1, f1], by simp only [ids, e2, f2], fun i hi => ?_⟩
     simp only [ids, List.mem_append] at hi
     rcases hi with hi | hi
     . exact e3 i hi
     . exact f3 i hi
theorem held_app {h k : List Blk} (hm : More h k) {args args' : List AVal} {r : AVal} (hs : snapL (snap h depth) args = some args') : heldBy k args r = heldBy h args r ∧ ∀ i ∈ heldBy h args r, (hget h i).live = true := by
 obtain ⟨h1, h2, h3⟩ := snapL_app (f := snap h depth) (g := snap k depth) (a := ids h depth) (b := ids k depth) (L := fun i => (hget h i).live = true) (snap_app hm depth) _ _ hs
 unfold heldBy
 cases r.flat
 . exact ⟨h2, h3⟩
 . exact ⟨rfl, fun i hi => by cases hi⟩
theorem row_app {h k : List Blk} (hm : More h k) {sz : Nat} {x : AVal} {K : Bool → Nat → List AVal → Prop} (hk : rowK A h sz x K) : rowK A k sz x K := by
 unfold rowK at hk ⊢
 split at hk
 . exact hk
 . exact hk
 . rename_i id off n z
   obtain ⟨h1, h2⟩ := onlyIf_inv hk
   rw [hm.2 _ h1, h1]
   exact h2
 . exact hk.elim
theorem row_mono {h : List Blk} {sz : Nat} {x : AVal} {K K' : Bool → Nat → List AVal → Prop} (hK : ∀ m n ys, K m n ys → K' m n ys) (hk : rowK A h sz x K) : rowK A h sz x K' := by
 unfold rowK at hk ⊢
 split at hk
 . exact hK _ _ _ hk
 . split at hk
   . cases hk with
     | mk h1 h2 => exact .mk h1 (hK _ _ _ h2)
   . obtain ⟨h1, h2⟩ := onlyIf_inv hk
     rw [h1]; exact hK _ _ _ h2
 . obtain ⟨h1, h2⟩ := onlyIf_inv hk
   obtain ⟨cs, h3, h4⟩ := optK_inv h2
   rw [h1]
   show optK _ _
   rw [h3]; exact hK _ _ _ h4
 . exact hk.elim
theorem room_mono {el : TypeId} {m : Bool} {n : Nat} {K K' : Unit → Prop} (hK : K () → K' ()) (hk : roomK A T el m n K) : roomK A T el m n K' := by
 unfold roomK at hk ⊢
 cases m
 . obtain ⟨h1, h2⟩ := onlyIf_inv hk
   dsimp only
   rw [h1]; exact hK h2
 . cases hk with
   | mk h1 h2 => exact .mk h1 (hK h2)
theorem Q_app {o : Oper} {e : Operand → AVal} {h k : List Blk} (hm : More h k) {K : AVal → List Nat → Prop} (hq : aopQ A T Sp o e h K) : aopQ A T Sp o e k fun y l => K y l ∧ ∀ i ∈ l, (hget h i).live = true := by
 have hS := fun xs ys => snapL_app (f := snap h depth) (g := snap k depth) (a := ids h depth) (b := ids k depth) (L := fun i => (hget h i).live = true) (snap_app hm depth) xs ys
 have nil : ∀ i ∈ ([] : List Nat), (hget h i).live = true := fun i hi => by cases hi
 obtain ⟨dst, op, ty, pos, after, guard⟩ := o
 unfold aopQ at hq ⊢
 cases op <;> dsimp only at hq ⊢ <;> try (exact hq.elim)
 case load t x =>
   generalize e x = y at hq ⊢
   cases y <;> (try dsimp only at hq ⊢) <;> try (exact hq.elim)
   . obtain ⟨z, h1, h2⟩ := optK_inv hq
     rw [h1]; exact ⟨h2, nil⟩
   . obtain ⟨hl, hq⟩ := onlyIf_inv hq
     rw [hm.2 _ hl, hl]
     obtain ⟨z, h1, h2⟩ := optK_inv hq
     rw [h1]; exact ⟨h2, nil⟩
   . obtain ⟨hl, hq⟩ := onlyIf_inv hq
     rw [hm.2 _ hl, hl]
     cases hq with
     | mk ys e1 hq =>
       obtain ⟨z, h1, h2⟩ := optK_inv hq
       refine .mk ys e1 ?_
       rw [h1]; exact ⟨h2, nil⟩
 case slice t x lo hi mx =>
   generalize T.und t = u at hq ⊢
   generalize e x = y at hq ⊢
   cases mx
   rotate_left
   . rename_i m
     cases u <;> (try dsimp only at hq ⊢) <;> try (exact hq.elim)
     cases y <;> (try dsimp only at hq ⊢) <;> try (exact hq.elim)
     . rename_i z
       cases z <;> (try dsimp only at hq ⊢) <;> try (exact hq.elim)
       rename_i a n c
       cases a <;> (try dsimp only at hq ⊢) <;> try (exact hq.elim)
       cases n <;> (try dsimp only at hq ⊢) <;> try (exact hq.elim)
       cases c <;> (try dsimp only at hq ⊢) <;> try (exact hq.elim)
       obtain ⟨h1, hq⟩ := onlyIf_inv hq
       change onlyIf _ _
       rw [h1]
       exact ⟨hq, nil⟩
     . obtain ⟨h1, hq⟩ := onlyIf_inv hq
       rw [h1]
       exact ⟨hq, nil⟩
   have sub : ∀ {n : Nat} {F G : Nat → Nat → Prop}, (∀ l r, F l r → G l r) → aopP.asub (lo.map e) (hi.map e) n F → aopP.asub (lo.map e) (hi.map e) n G := by
     intro n F G hFG hf
     unfold aopP.asub at hf ⊢
     split
     . rename_i h1; rw [h1] at hf; exact hf
     . rename_i a h1
       rw [h1] at hf
       dsimp only at hf
       split
       . rename_i h2; rw [h2] at hf; exact hf
       . rename_i b h2; rw [h2] at hf; exact hFG _ _ hf
   cases u <;> (try dsimp only at hq ⊢) <;> try (exact hq.elim)
   all_goals (cases y <;> (try dsimp only at hq ⊢) <;> try (exact hq.elim))
   . rename_i m n cs
     cases m <;> (try dsimp only at hq ⊢) <;> try (exact hq.elim)
     obtain ⟨h1, hq⟩ := onlyIf_inv hq
     rw [h1]
     exact sub (fun l r hf => by obtain ⟨z, h3, h4⟩ := optK_inv hf; rw [h3]; exact ⟨h4, nil⟩) hq
   . rename_i m id off n sz
     cases m <;> (try dsimp only at hq ⊢) <;> try (exact hq.elim)
     obtain ⟨h1, hq⟩ := onlyIf_inv hq
     rw [h1]
     exact sub (fun l r hf => ⟨hf, nil⟩) hq
   . obtain ⟨h1, hq⟩ := onlyIf_inv hq
     rw [h1]
     exact sub (fun l r hf => by obtain ⟨z, h3, h4⟩ := optK_inv hf; rw [h3]; exact ⟨h4, nil⟩) hq
   . rename_i id off
     obtain ⟨h1, hq⟩ := onlyIf_inv hq
     have hl : (hget h id).live = true := by simp at h1; exact h1.1.2
     rw [hm.2 _ hl, h1]
     exact sub (fun l r hf => ⟨hf, nil⟩) hq
 case alloc t =>
   obtain ⟨h1, hq⟩ := onlyIf_inv hq
   rw [h1]; exact ⟨hq, nil⟩
 case box t x =>
   obtain ⟨y, h1, hq⟩ := optK_inv hq
   obtain ⟨cs, h2, hq⟩ := optK_inv hq
   obtain ⟨e1, e2, e3⟩ := snap_app hm depth _ _ h1
   rw [e1]
   show optK y.cells _
   rw [h2, e2]
   exact ⟨hq, e3⟩
 case buildSlice t n parts =>
   generalize T.und t = u at hq ⊢
   cases u <;> (try dsimp only at hq ⊢) <;> try (exact hq.elim)
   obtain ⟨h1, hq⟩ := onlyIf_inv hq
   obtain ⟨cs, h2, hq⟩ := optK_inv hq
   obtain ⟨cs', h3, hq⟩ := optK_inv hq
   obtain ⟨e1, e2, e3⟩ := hS _ _ h3
   rw [h1]
   show optK _ _
   rw [h2]
   show optK (snapL (snap k depth) cs) _
   rw [e1]
   show K _ _ ∧ _
   rw [e2]
   exact ⟨hq, e3⟩
 case makeSlice t l c =>
   generalize T.und t = u at hq ⊢; generalize e l = y at hq ⊢; generalize e c = z at hq ⊢
   cases u <;> (try dsimp only at hq ⊢) <;> try (exact hq.elim)
   cases y <;> (try dsimp only at hq ⊢) <;> try (exact hq.elim)
   cases z <;> (try dsimp only at hq ⊢) <;> try (exact hq.elim)
   obtain ⟨h1, hq⟩ := onlyIf_inv hq
   rw [h1]; exact ⟨hq, nil⟩
 case call c =>
   cases happ : isApp c.callee
   . rw [happ] at hq
     dsimp only at hq ⊢
     generalize callee T e c = q at hq ⊢
     rcases q with _ | ⟨f, args⟩
     . exact hq.elim
     . obtain ⟨args', hs, hq⟩ := optK_inv hq
       obtain ⟨e1, e2, e3⟩ := hS _ _ hs
       dsimp only
       rw [e1]
       cases hq with
       | mk r h1 h2 =>
         obtain ⟨g1, g2⟩ := held_app hm (r := r) hs
         refine .mk r h1 ⟨?_, ?_⟩
         . rw [g1]; exact h2
         . rw [g1]; exact g2
   . rw [happ] at hq
     dsimp only at hq ⊢
     unfold appQ at hq ⊢
     generalize c.argTypes.toList = ts at hq ⊢
     generalize c.args.toList = as at hq ⊢
     rcases ts with _ | ⟨t, _ | ⟨u, q⟩⟩ <;> (try dsimp only at hq ⊢) <;> try (exact hq.elim)
     rcases as with _ | ⟨sx, _ | ⟨x, _ | ⟨z, r⟩⟩⟩ <;> (try dsimp only at hq ⊢) <;> try (exact hq.elim)
     generalize T.und t = ut at hq ⊢
     generalize e sx = y at hq ⊢
     split at hq
     rotate_right
     . exact hq.elim
     all_goals
       obtain ⟨h1, hq⟩ := onlyIf_inv hq
       rw [h1]
       dsimp only [onlyIf]
       refine row_mono A ?_ (row_app A hm hq)
       intro m n ys hr
       refine room_mono A T ?_ hr
       intro hr
       obtain ⟨cs, h2, hr⟩ := optK_inv hr
       have hx : snapRow k (e x) ys = some cs ∧ idsRow k (e x) ys = idsRow h (e x) ys ∧ ∀ i ∈ idsRow h (e x) ys, (hget h i).live = true := by
         generalize e x = z at h2 ⊢
         unfold snapRow at h2 ⊢
         unfold idsRow
         cases z <;> first
           | exact hS _ _ h2
           | exact ⟨h2, rfl, nil⟩
       obtain ⟨e1, e2, e3⟩ := hx
       rw [e1]
       show K _ _ ∧ _
       rw [e2]
       exact ⟨hr, e3⟩
theorem blk_ext {h k : List Blk} (hl : h.length = k.length) (hg : ∀ i, hget h i = hget k i) : h = k := by
 induction h generalizing k with
 | nil => cases k with
   | nil => rfl
   | cons => simp at hl
 | cons x h ih =>
   cases k with
   | nil => simp at hl
   | cons y k =>
     have h0 := hg 0
     simp [hget] at h0
     subst h0
     rw [ih (by simpa using hl) fun i => by have := hg (i + 1); simpa [hget] using this]
theorem freeze_get (l : List Nat) : ∀ (h : List Blk) (i : Nat), (hget (freeze h l) i).wr = ((hget h i).wr && !(decide (i ∈ l) && decide (i < h.length))) := by
 induction l with
 | nil => intro h i; simp [freeze]
 | cons j l ih =>
   intro h i
   rw [freeze, ih, hset_length, hget_hset]
   by_cases e : j = i
   . subst e
     by_cases hlt : j < h.length
     . simp [hlt]
     . simp [hlt]
   . have : ¬ (j = i ∧ j < h.length) := by simp [e]
     rw [if_neg this]
     simp [Ne.symm e]
theorem freeze_comm (h : List Blk) (l k : List Nat) : freeze (freeze h l) k = freeze (freeze h k) l := by
 refine blk_ext (by simp [freeze_length]) fun i => ?_
 have h1 : (hget (freeze (freeze h l) k) i).live = (hget (freeze (freeze h k) l) i).live := by simp [freeze_live]
 have h2 : (hget (freeze (freeze h l) k) i).cells = (hget (freeze (freeze h k) l) i).cells := by simp [freeze_cells]
 have h3 : (hget (freeze (freeze h l) k) i).wr = (hget (freeze (freeze h k) l) i).wr := by
   simp only [freeze_get, freeze_length]
   cases (hget h i).wr <;> cases decide (i ∈ l) <;> cases decide (i ∈ k) <;> cases decide (i < h.length) <;> rfl
 generalize hget (freeze (freeze h l) k) i = a at *
 generalize hget (freeze (freeze h k) l) i = b at *
 cases a; cases b
 simp at h1 h2 h3
 simp [h1, h2, h3]
def gsay : Option AVal → Bool → Option Bool
 | some (.b t), want => some (t == want)
 | some (.sb t), want => some (t == want)
 | some (.tup []), _ => some false
 | _, _ => none
def gd (all : List Oper) (o : Oper) (s : St) : Option Bool :=
 match o.guard with
 | none => some true
 | some (j, want) => match dstOf all j with
   | none => none
   | some d => gsay (lget s.tmps d) want
theorem astep_iff {tree : Md} {all : List Oper} {o : Oper} {s : St} {K : St → Prop} : astep A T Sp tree all o s K ↔
   (gd all o s = some true ∧ aop A T Sp tree o s fun v h => K (put ⟨s.tmps, h⟩ o.dst v)) ∨ (gd all o s = some false ∧ K (put s o.dst (.tup []))) := by
 unfold astep gd
 cases o.guard with
 | none => simp
 | some g =>
   obtain ⟨j, want⟩ := g
   dsimp only
   cases dstOf all j with
   | none => simp
   | some d =>
     dsimp only
     rcases lget s.tmps d with _ | r
     . simp [gsay]
     . cases r <;> try (simp [gsay]; done)
       . rename_i t
         cases h : t == want <;> simp [gsay, h]
       . rename_i t
         cases want <;> cases t <;> simp [gsay] <;> constructor <;> first
           | (intro h; cases h with | mk hp hq => first | exact hp rfl | exact hq rfl)
           | (intro h; exact ABr.t rfl h)
           | (intro h; exact ABr.f rfl h)
       . rename_i vs
         cases vs <;> simp [gsay]
end
end Eng
set_option linter.unusedSimpArgs false
set_option linter.unusedVariables false
namespace Eng
open Go
section
variable {A : Ar} {T : Ty} {Sp : SpecT}
def Out (A : Ar) (T : Ty) (Sp : SpecT) (tree : Md) (all : List Oper) (o : Oper) (s : St) (y : AVal) (h' : List Blk) : Prop :=
 (gd all o s = some true ∧ ∀ K : AVal → List Blk → Prop, K y h' → aop A T Sp tree o s K) ∨ (gd all o s = some false ∧ y = .tup [] ∧ h' = s.heap)
theorem out_of {tree : Md} {all : List Oper} {o : Oper} {s : St} {K : St → Prop} (h : astep A T Sp tree all o s K) : ∃ y h', Out A T Sp tree all o s y h' ∧ K (put ⟨s.tmps, h'⟩ o.dst y) := by
 rcases (astep_iff A T Sp).1 h with ⟨hg, h⟩ | ⟨hg, h⟩
 . obtain ⟨y, h', h1, h2⟩ := lin_op A T Sp tree o s _ h
   exact ⟨y, h', .inl ⟨hg, h2⟩, h1⟩
 . exact ⟨_, s.heap, .inr ⟨hg, rfl, rfl⟩, h⟩
theorem of_out {tree : Md} {all : List Oper} {o : Oper} {s : St} {K : St → Prop} {y : AVal} {h' : List Blk} (h : Out A T Sp tree all o s y h') (hk : K (put ⟨s.tmps, h'⟩ o.dst y)) : astep A T Sp tree all o s K := by
 refine (astep_iff A T Sp).2 ?_
 rcases h with ⟨hg, h⟩ | ⟨hg, rfl, rfl⟩
 . exact .inl ⟨hg, h _ hk⟩
 . exact .inr ⟨hg, hk⟩
structure Alike (all : List Oper) (o : Oper) (s s' : St) : Prop where
 ev : ∀ x ∈ o.op.operands, ev s x = ev s' x
 gd : gd all o s = gd all o s'
theorem put_ev {s : St} {d : Option Tmp} {y : AVal} {h : List Blk} {x : Operand} (hx : ∀ t, x = .tmp t → d ≠ some t) : ev (put ⟨s.tmps, h⟩ d y) x = ev s x := by
 cases x <;> try rfl
 rename_i t
 cases d with
 | none => rfl
 | some d =>
   have := hx t rfl
   simp only [put, ev, lset_eq, lget_eq]
   rw [List.getElem?_set_ne (by simpa using this)]
theorem alike_put {ops : Array Oper} {o j : Oper} {s : St} {y : AVal} {h : List Blk} (hap : j.apart ops o = true) : Alike ops.toList o (put ⟨s.tmps, h⟩ j.dst y) s := by
 have hsp := (Oper.apart_spec hap).1
 refine ⟨fun x hx => put_ev fun t e => ?_, ?_⟩
 . intro hd
   refine hsp t hd ?_
   subst e
   simp only [Oper.looksAt, List.mem_append, List.mem_filterMap]
   exact .inl ⟨.tmp t, by simpa using hx, rfl⟩
 . unfold gd
   cases hg : o.guard with
   | none => rfl
   | some g =>
     obtain ⟨k, want⟩ := g
     dsimp only
     cases hd : dstOf ops.toList k with
     | none => rfl
     | some d =>
       dsimp only
       have : lget (put ⟨s.tmps, h⟩ j.dst y).tmps d = lget s.tmps d := by
         cases hj : j.dst with
         | none => rfl
         | some e =>
           have hne : e ≠ d := by
             rintro rfl
             refine hsp e hj ?_
             simp only [Oper.looksAt, List.mem_append, hg]
             right
             rw [dstOf_eq] at hd
             have : (ops[k]?).bind (·.dst) = some e := by simpa using hd
             simp [this]
           simp only [put, lset_eq, lget_eq]
           rw [List.getElem?_set_ne hne]
       rw [this]
theorem out_p {tree : Md} {all : List Oper} {o : Oper} {s s' : St} {y : AVal} {h' : List Blk} (hc : cls tree o.op = .p) (ha : Alike all o s s') (h : Out A T Sp tree all o s y h') : h' = s.heap ∧ Out A T Sp tree all o s' y s'.heap := by
 rcases h with ⟨hg, h⟩ | ⟨hg, rfl, rfl⟩
 . have key : ∀ (F : (Operand → AVal) → (AVal → Prop) → Prop), (∀ e, Lin1 (F e)) → (F (ev s) = F (ev s')) → (∀ s (K : AVal → List Blk → Prop), aop A T Sp tree o s K = F (ev s) fun v => K v s.heap) → h' = s.heap ∧ Out A T Sp tree all o s' y s'.heap := by
     intro F hF he hop
     have h1 := h (fun v k => v = y ∧ k = h') ⟨rfl, rfl⟩
     rw [hop] at h1
     obtain ⟨v, ⟨rfl, h2⟩, h3⟩ := hF _ _ h1
     refine ⟨h2.symm, .inl ⟨by rw [← ha.gd]; exact hg, fun K hK => ?_⟩⟩
     rw [hop, ← he]
     exact h3 (fun v => K v s'.heap) hK
   cases hop : o.op with
   | call c =>
     refine key (fun e => alen A T c e) (fun e => lin_len A T c e) (congr_len A T (by rw [← hop]; exact ha.ev)) fun s K => ?_
     unfold aop; rw [hc]; simp only [hop]
   | _ =>
     refine key (fun e => aopP A T o e) (fun e => lin_P A T o e) (congr_P A T ha.ev) fun s K => ?_
     unfold aop; rw [hc]; simp only [hop]
 . exact ⟨rfl, .inr ⟨by rw [← ha.gd]; exact hg, rfl, rfl⟩⟩
theorem out_q {tree : Md} {all : List Oper} {o : Oper} {s : St} {y : AVal} {h' : List Blk} (hc : cls tree o.op = .q) (h : Out A T Sp tree all o s y h') :
   ∃ l, h' = freeze s.heap l ∧ ∀ s' k, Alike all o s s' → (s'.heap = freeze s.heap k ∨ freeze s'.heap k = s.heap) → Out A T Sp tree all o s' y (freeze s'.heap l) := by
 rcases h with ⟨hg, h⟩ | ⟨hg, rfl, rfl⟩
 . have hop : ∀ s (K : AVal → List Blk → Prop), aop A T Sp tree o s K = aopQ A T Sp o (ev s) s.heap fun v l => K v (freeze s.heap l) := by
     intro s K; unfold aop; rw [hc]
   have h1 := h (fun v k => v = y ∧ k = h') ⟨rfl, rfl⟩
   rw [hop] at h1
   obtain ⟨v, l, ⟨rfl, h2⟩, h3⟩ := lin_Q A T Sp o _ _ _ h1
   refine ⟨l, h2.symm, fun s' k ha hk => .inl ⟨by rw [← ha.gd]; exact hg, fun K hK => ?_⟩⟩
   rw [hop, ← congr_Q A T Sp ha.ev]
   have := h3 (fun v l => K v (freeze s'.heap l)) hK
   rcases hk with hk | hk
   . rw [hk, Q_freeze]; rw [hk] at this; exact this
   . rw [← hk, Q_freeze] at this; exact this
 . exact ⟨[], rfl, fun s' k ha _ => .inr ⟨by rw [← ha.gd]; exact hg, rfl, rfl⟩⟩
theorem out_same {tree : Md} {all : List Oper} {o : Oper} {s s' : St} {y : AVal} {h' : List Blk} (hh : s'.heap = s.heap) (ha : Alike all o s s') (h : Out A T Sp tree all o s y h') : Out A T Sp tree all o s' y h' := by
 rcases h with ⟨hg, h⟩ | ⟨hg, rfl, rfl⟩
 . refine .inl ⟨by rw [← ha.gd]; exact hg, fun K hK => ?_⟩
   have h1 := h K hK
   unfold aop at h1 ⊢
   cases hc : cls tree o.op
   . rw [hc] at h1
     dsimp only at h1 ⊢
     cases hop : o.op with
     | call c => rw [hop] at h1; dsimp only at h1 ⊢; rw [hh, ← congr_len A T (by rw [← hop]; exact ha.ev)]; exact h1
     | _ => rw [hop] at h1; dsimp only at h1 ⊢; rw [hh, ← congr_P A T ha.ev]; exact h1
   . rw [hc] at h1
     dsimp only at h1 ⊢
     rw [hh, ← congr_Q A T Sp ha.ev]; exact h1
   . rw [hc] at h1
     dsimp only at h1 ⊢
     rw [hh, ← congr_E A T Sp ha.ev, ← yield_congr ha.ev]; exact h1
   . rw [hc] at h1
     dsimp only at h1 ⊢
     rw [hh]; exact h1
 . exact .inr ⟨by rw [← ha.gd]; exact hg, rfl, hh.symm⟩
theorem hset_app (k : List Blk) (B : Blk) : ∀ (h : List Blk) (i : Nat), i < h.length → hset (h ++ k) i B = hset h i B ++ k
 | [], i, hi => by simp at hi
 | x :: h, 0, _ => rfl
 | x :: h, i + 1, hi => by
   show x :: hset (h ++ k) i B = _
   rw [hset_app k B h i (by simpa using hi)]; rfl
theorem freeze_app (k : List Blk) : ∀ (l : List Nat) (h : List Blk), (∀ i ∈ l, i < h.length) → freeze (h ++ k) l = freeze h l ++ k := by
 intro l
 induction l with
 | nil => intro h _; rfl
 | cons i l ih =>
   intro h hl
   have hi := hl i (by simp)
   show freeze (hset (h ++ k) i _) l = _
   rw [hget_appl h k i hi, hset_app k _ h i hi]
   exact ih _ fun j hj => by rw [hset_length]; exact hl j (by simp [hj])
theorem out_qa {tree : Md} {all : List Oper} {o : Oper} {s : St} {y : AVal} {h' : List Blk} (hc : cls tree o.op = .q) (h : Out A T Sp tree all o s y h') :
   ∃ l, h' = freeze s.heap l ∧ (∀ i ∈ l, (hget s.heap i).live = true) ∧ ∀ s', Alike all o s s' → More s.heap s'.heap → Out A T Sp tree all o s' y (freeze s'.heap l) := by
 rcases h with ⟨hg, h⟩ | ⟨hg, rfl, rfl⟩
 . have hop : ∀ s (K : AVal → List Blk → Prop), aop A T Sp tree o s K = aopQ A T Sp o (ev s) s.heap fun v l => K v (freeze s.heap l) := by
     intro s K; unfold aop; rw [hc]
   have h1 := h (fun v k => v = y ∧ k = h') ⟨rfl, rfl⟩
   rw [hop] at h1
   have h1 := Q_app A T Sp (More.refl _) h1
   obtain ⟨v, l, ⟨⟨rfl, h2⟩, hb⟩, h3⟩ := lin_Q A T Sp o _ _ _ h1
   refine ⟨l, h2.symm, hb, fun s' ha hk => .inl ⟨by rw [← ha.gd]; exact hg, fun K hK => ?_⟩⟩
   rw [hop, ← congr_Q A T Sp ha.ev]
   have h4 := Q_app A T Sp hk (h3 (fun a b => a = v ∧ b = l) ⟨rfl, rfl⟩)
   obtain ⟨v', l', ⟨⟨rfl, rfl⟩, _⟩, h5⟩ := lin_Q A T Sp o _ _ _ h4
   exact h5 _ hK
 . exact ⟨[], rfl, (fun _ h => by cases h), fun s' ha _ => .inr ⟨by rw [← ha.gd]; exact hg, rfl, rfl⟩⟩
theorem findRes_congr {d : Nat} : ∀ (h k : List Blk) (i : Nat), h.length = k.length → (∀ j, isMark (hget h j) d = isMark (hget k j) d) → findRes h d i = findRes k d i
 | [], [], _, _, _ => rfl
 | [], _ :: _, _, hl, _ => by simp at hl
 | _ :: _, [], _, hl, _ => by simp at hl
 | x :: h, y :: k, i, hl, hm => by
   have h0 := hm 0
   simp only [hget] at h0
   unfold findRes
   rw [h0, findRes_congr h k (i + 1) (by simpa using hl) fun j => by have := hm (j + 1); simpa only [hget] using this]
theorem isMark_live {b : Blk} {d : Nat} (h : b.live = true) : isMark b d = false := by
 cases hm : isMark b d with
 | false => rfl
 | true => rw [isMark_eq hm] at h; cases h
theorem isMark_mark {d e : Nat} (h : d ≠ e) : isMark (mark d) e = false := by
 show ((d : Int) == (e : Int)) = false
 exact beq_eq_false_iff_ne.2 fun h' => h (by omega)
theorem findRes_hset {h : List Blk} {id d : Nat} {B : Blk} (h1 : isMark (hget h id) d = false) (h2 : isMark B d = false) : findRes (hset h id B) d 0 = findRes h d 0 := by
 refine findRes_congr _ _ _ (hset_length _ _ _) fun j => ?_
 rw [hget_hset]
 split
 . rename_i e; obtain ⟨rfl, _⟩ := e; rw [h1, h2]
 . rfl
theorem findRes_freeze {h : List Blk} {l : List Nat} {d : Nat} (hl : ∀ i ∈ l, (hget h i).live = true) : findRes (freeze h l) d 0 = findRes h d 0 := by
 refine findRes_congr _ _ _ (freeze_length _ _) fun j => ?_
 by_cases hj : j ∈ l
 . rw [isMark_live (hl j hj), isMark_live (by rw [freeze_live]; exact hl j hj)]
 . have h1 := freeze_live l h j
   have h2 := freeze_cells l h j
   have h3 := freeze_get l h j
   simp only [hj, decide_false, Bool.false_and, Bool.not_false, Bool.and_true] at h3
   have : hget (freeze h l) j = hget h j := by
     generalize hget (freeze h l) j = a at *
     generalize hget h j = b at *
     cases a; cases b
     simp at h1 h2 h3
     simp [h1, h2, h3]
   rw [this]
theorem freeze_hset {h : List Blk} {l : List Nat} {id : Nat} {B : Blk} (hi : id ∉ l) : freeze (hset h id B) l = hset (freeze h l) id B := by
 refine blk_ext (by simp [freeze_length, hset_length]) fun j => ?_
 have h1 := freeze_live l (hset h id B) j
 have h2 := freeze_cells l (hset h id B) j
 have h3 := freeze_get l (hset h id B) j
 have k1 := freeze_live l h j
 have k2 := freeze_cells l h j
 have k3 := freeze_get l h j
 rw [hset_length] at h3
 rw [hget_hset, freeze_length]
 rw [hget_hset] at h1 h2 h3
 by_cases e : id = j ∧ id < h.length
 . rw [if_pos e] at h1 h2 h3 ⊢
   obtain ⟨rfl, hlt⟩ := e
   simp only [hi, decide_false, Bool.false_and, Bool.not_false, Bool.and_true] at h3
   generalize hget (freeze (hset h id B) l) id = a at *
   cases a; cases B
   simp at h1 h2 h3
   simp [h1, h2, h3]
 . rw [if_neg e] at h1 h2 h3 ⊢
   rw [← k3] at h3
   rw [← k1] at h1
   rw [← k2] at h2
   generalize hget (freeze (hset h id B) l) j = a at *
   generalize hget (freeze h l) j = b at *
   cases a; cases b
   simp at h1 h2 h3
   simp [h1, h2, h3]
theorem hset_comm {h : List Blk} {i j : Nat} {B C : Blk} (hne : i ≠ j) : hset (hset h i B) j C = hset (hset h j C) i B := by
 refine blk_ext (by simp [hset_length]) fun k => ?_
 simp only [hget_hset, hset_length]
 by_cases e1 : j = k ∧ j < h.length
 . rw [if_pos e1, if_neg (by rintro ⟨rfl, _⟩; exact hne e1.1.symm), if_pos e1]
 . rw [if_neg e1]
   by_cases e2 : i = k ∧ i < h.length
   . rw [if_pos e2, if_pos e2]
   . rw [if_neg e2, if_neg e2, if_neg e1]
theorem out_fill {tree : Md} {all : List Oper} {o : Oper} {s : St} {y : AVal} {h' : List Blk} (hc : cls tree o.op = .r) (h : Out A T Sp tree all o s y h') :
   (∃ d id B, o.dst = some d ∧ B.live = true ∧ findRes s.heap d 0 = some id ∧ h' = hset s.heap id B ∧ ∀ s', Alike all o s s' → findRes s'.heap d 0 = some id → Out A T Sp tree all o s' y (hset s'.heap id B)) ∨
   (h' = s.heap ∧ ∀ s', Alike all o s s' → Out A T Sp tree all o s' y s'.heap) := by
 rcases h with ⟨hg, h⟩ | ⟨hg, rfl, rfl⟩
 . have hop : ∀ s (K : AVal → List Blk → Prop), aop A T Sp tree o s K = aopR T o s.heap K := by
     intro s K; unfold aop; rw [hc]
   have h1 := h (fun v k => v = y ∧ k = h') ⟨rfl, rfl⟩
   rw [hop] at h1
   unfold aopR at h1
   split at h1 <;> try (exact h1.elim)
   rename_i t d h2 h3
   obtain ⟨h4, h5⟩ := onlyIf_inv h1
   obtain ⟨id, h6, rfl, rfl⟩ := optK_inv h5
   refine .inl ⟨d, id, _, h3, rfl, h6, rfl, fun s' ha hf => .inl ⟨by rw [← ha.gd]; exact hg, fun K hK => ?_⟩⟩
   rw [hop]
   unfold aopR
   rw [h2, h3]
   dsimp only
   rw [h4]
   show optK _ _
   rw [hf]
   exact hK
 . exact .inr ⟨rfl, fun s' ha => .inr ⟨by rw [← ha.gd]; exact hg, rfl, rfl⟩⟩
theorem out_alloc {tree : Md} {all : List Oper} {o : Oper} {s : St} {y : AVal} {h' : List Blk} (hc : cls tree o.op = .e) (hi : isAlloc o.op = true) (h : Out A T Sp tree all o s y h') :
   ∃ k, h' = s.heap ++ k ∧ ∀ s', Alike all o s s' → s'.heap.length = s.heap.length → Out A T Sp tree all o s' y (s'.heap ++ k) := by
 rcases h with ⟨hg, h⟩ | ⟨hg, rfl, rfl⟩
 . cases hop : o.op <;> rw [hop] at hi <;> try (cases hi; done)
   rename_i t
   have hop' : ∀ s (K : AVal → List Blk → Prop), aop A T Sp tree o s K = onlyIf (notOther (T.und t)) fun _ => K (.own s.heap.length 0) (s.heap ++ [⟨true, true, mapV (T.zero t)⟩]) := by
     intro s K; unfold aop; rw [hc]; dsimp only; rw [hop]; unfold aopE; rw [hop]; rfl
   have h1 := h (fun v k => v = y ∧ k = h') ⟨rfl, rfl⟩
   rw [hop'] at h1
   obtain ⟨h2, rfl, rfl⟩ := onlyIf_inv h1
   refine ⟨_, rfl, fun s' ha hl => .inl ⟨by rw [← ha.gd]; exact hg, fun K hK => ?_⟩⟩
   rw [hop', h2]
   show K _ _
   rw [hl]
   exact hK
 . exact ⟨[], by simp, fun s' ha _ => .inr ⟨by rw [← ha.gd]; exact hg, rfl, by simp⟩⟩
theorem findRes_more {N : Blk} {d : Nat} (hN : isMark N d = false) : ∀ (h : List Blk) (i : Nat), findRes (h ++ [N]) d i = findRes h d i
 | [], i => by
   show (match isMark N d with | true => some i | false => findRes [] d (i + 1)) = none
   rw [hN]; rfl
 | b :: h, i => by
   show (match isMark b d with | true => some i | false => findRes (h ++ [N]) d (i + 1)) = (match isMark b d with | true => some i | false => findRes h d (i + 1))
   rw [findRes_more hN h (i + 1)]
theorem row_const {h : List Blk} {sz : Nat} {x : AVal} {Q : Prop} (hk : rowK A h sz x fun _ _ _ => Q) : Q := by
 unfold rowK at hk
 split at hk
 . exact hk
 . split at hk
   . cases hk with
     | mk _ h2 => exact h2
   . exact (onlyIf_inv hk).2
 . obtain ⟨_, h2⟩ := onlyIf_inv hk
   obtain ⟨_, _, h3⟩ := optK_inv h2
   exact h3
 . exact hk.elim
theorem room_const {el : TypeId} {m : Bool} {n : Nat} {Q : Prop} (hk : roomK A T el m n fun _ => Q) : Q := by
 unfold roomK at hk
 cases m
 . exact (onlyIf_inv hk).2
 . cases hk with
   | mk _ h2 => exact h2
theorem out_app {tree : Md} {all : List Oper} {o : Oper} {s : St} {y : AVal} {h' : List Blk} (hc : cls tree o.op = .e) (ha : isAppOp o.op = true) (h : Out A T Sp tree all o s y h') :
   (∀ d, findRes h' d 0 = findRes s.heap d 0) ∧ ∀ s' id B d, Alike all o s s' → hget s.heap id = mark d → id < s.heap.length → s'.heap = hset s.heap id B → Out A T Sp tree all o s' y (hset h' id B) := by
 rcases h with ⟨hg, h⟩ | ⟨hg, rfl, rfl⟩
 . obtain ⟨dst, op, ty, pos, after, guard⟩ := o
   cases op <;> try (cases ha; done)
   rename_i c
   obtain ⟨cal, args, tys⟩ := c
   cases cal <;> try (cases ha; done)
   rename_i b
   cases b <;> try (cases ha; done)
   have hop : ∀ s (K : AVal → List Blk → Prop), aop A T Sp tree ⟨dst, .call ⟨.builtin .append, args, tys⟩, ty, pos, after, guard⟩ s K = appE A T args tys (ev s) s.heap K := by
     intro s K; unfold aop; rw [hc]; rfl
   have h1 := h (fun v k => v = y ∧ k = h') ⟨rfl, rfl⟩
   rw [hop] at h1
   have hcongr : ∀ s', (∀ x ∈ (Op.call ⟨.builtin .append, args, tys⟩).operands, ev s x = ev s' x) → ∀ hp K, appE A T args tys (ev s) hp K = appE A T args tys (ev s') hp K := by
     intro s' he hp K
     unfold appE
     rcases ha : args.toList with _ | ⟨a0, _ | ⟨a1, _ | ⟨z, r⟩⟩⟩ <;> rcases tys.toList with _ | ⟨t, _ | ⟨u, q⟩⟩ <;> try rfl
     dsimp only
     rw [he a0 (by have : a0 ∈ args.toList := by rw [ha]; simp
                   simp [Op.operands, Call.operands]; simpa using this), he a1 (by have : a1 ∈ args.toList := by rw [ha]; simp
                                                                                   simp [Op.operands, Call.operands]; simpa using this)]
   have key : (∀ d, findRes h' d 0 = findRes s.heap d 0) ∧ ∀ id B d, hget s.heap id = mark d → id < s.heap.length → ∀ K : AVal → List Blk → Prop, K y (hset h' id B) → appE A T args tys (ev s) (hset s.heap id B) K := by
     unfold appE at h1 ⊢
     generalize tys.toList = tl at h1 ⊢
     generalize args.toList = al at h1 ⊢
     rcases tl with _ | ⟨t, _ | ⟨u, q⟩⟩
     . exact h1.elim
     . exact h1.elim
     rcases al with _ | ⟨a0, _ | ⟨a1, _ | ⟨z, r⟩⟩⟩
     . exact h1.elim
     . exact h1.elim
     rotate_left
     . exact h1.elim
     dsimp only at h1 ⊢
     generalize ev s a0 = x0 at h1 ⊢
     generalize ev s a1 = x1 at h1 ⊢
     cases hu : T.und t <;> rw [hu] at h1 <;> dsimp only at h1 ⊢ <;> try (exact h1.elim)
     rename_i el
     obtain ⟨hb, h2⟩ := onlyIf_inv h1
     have more : ∀ (id : Nat) (B N : Blk) (h0 : List Blk), id < h0.length → hset (h0 ++ [N]) id B = hset h0 id B ++ [N] := fun id B N h0 hi => hset_app [N] B h0 id hi
     have base : ∀ (m : Bool) (k : Nat) (ys : List AVal) (N : Blk) (h0 : List Blk), N.live = true → (∀ d, findRes h0 d 0 = findRes s.heap d 0) → h' = h0 ++ [N] → ∀ d, findRes h' d 0 = findRes s.heap d 0 := by
       intro m k ys N h0 hN hf he d
       rw [he, findRes_more (isMark_live hN), hf d]
     refine ⟨row_const (row_mono A (fun m k ys hF => ?_) h2), fun id B d hm hi K hK => ?_⟩
     . split at hF
       . exact room_const (room_mono A T (K' := fun _ => ∀ d, findRes h' d 0 = findRes s.heap d 0) (fun ⟨_, e⟩ => base m k ys _ _ rfl (fun _ => rfl) e.symm) hF)
       . exact room_const (room_mono A T (K' := fun _ => ∀ d, findRes h' d 0 = findRes s.heap d 0) (fun ⟨_, e⟩ => base m k ys _ _ rfl (fun _ => rfl) e.symm) hF)
       . obtain ⟨hc1, hF⟩ := onlyIf_inv hF
         simp only [Bool.and_eq_true] at hc1
         exact room_const (room_mono A T (K' := fun _ => ∀ d, findRes h' d 0 = findRes s.heap d 0) (fun ⟨_, e⟩ => base m k ys _ _ rfl (fun d => findRes_hset (isMark_live hc1.1.1.1.1.1) rfl) e.symm) hF)
       . exact hF.elim
     . rw [hb]
       have only : ∀ {Q : Unit → Prop}, Q () → onlyIf true Q := fun h => h
       refine only ?_
       refine row_app A (More.fill hm B) (row_mono A (fun m k ys hF => ?_) h2)
       split at hF
       . refine room_mono A T (fun ⟨e1, e2⟩ => ?_) hF
         rw [hset_length, ← more id B _ _ hi, e1, e2]; exact hK
       . refine room_mono A T (fun ⟨e1, e2⟩ => ?_) hF
         rw [hset_length, ← more id B _ _ hi, e1, e2]; exact hK
       . rename_i id0 n0 sz0
         obtain ⟨hc1, hF⟩ := onlyIf_inv hF
         have hne : id ≠ id0 := by
           rintro rfl
           simp only [Bool.and_eq_true] at hc1
           have := hc1.1.1.1.1.1
           rw [hm] at this; cases this
         have hg0 : hget (hset s.heap id B) id0 = hget s.heap id0 := by rw [hget_hset, if_neg (fun h => hne h.1)]
         rw [hg0, hc1]
         refine only ?_
         refine room_mono A T (fun ⟨e1, e2⟩ => ?_) hF
         rw [hset_length, hset_comm hne, ← more id B _ _ (by rw [hset_length]; exact hi), e1, e2]; exact hK
       . exact hF.elim
   refine ⟨key.1, fun s' id B d hal hl hi hs' => .inl ⟨by rw [← hal.gd]; exact hg, fun K hK => ?_⟩⟩
   rw [hop, ← hcongr s' hal.ev, hs']
   exact key.2 id B d hl hi K hK
 . exact ⟨fun _ => rfl, fun s' id B d hal _ _ hs' => .inr ⟨by rw [← hal.gd]; exact hg, rfl, hs'.symm⟩⟩
theorem out_new {tree : Md} {all : List Oper} {o : Oper} {s : St} {y : AVal} {h' : List Blk} (hc : cls tree o.op = .e) (ha : isNewOp o.op = true) (h : Out A T Sp tree all o s y h') :
   (∀ d, findRes h' d 0 = findRes s.heap d 0) ∧ ∀ s' id B d, Alike all o s s' → hget s.heap id = mark d → id < s.heap.length → s'.heap = hset s.heap id B → Out A T Sp tree all o s' y (hset h' id B) := by
 rcases h with ⟨hg, h⟩ | ⟨hg, rfl, rfl⟩
 . cases hop : o.op <;> rw [hop] at ha <;> try (cases ha; done)
   rename_i t n parts
   have hp : parts.toList = [] := List.isEmpty_iff.1 ha
   have hop' : ∀ s (K : AVal → List Blk → Prop), aop A T Sp tree o s K = (match T.und t with
       | .slice el => onlyIf (notOther (T.und el) && decide (n * T.size el ≤ 16777216)) fun _ => optK (aopP.fillP T (.arr n el) [] (reps n (mapV (T.zero el)))) fun cs =>
           K (.osl false s.heap.length 0 n (T.size el)) (s.heap ++ [⟨true, true, cs⟩])
       | _ => False) := by
     intro s K; unfold aop; rw [hc]; dsimp only; rw [hop]; unfold aopE; rw [hop]; dsimp only; rw [hp]; rfl
   have h1 := h (fun v k => v = y ∧ k = h') ⟨rfl, rfl⟩
   rw [hop'] at h1
   cases hu : T.und t <;> rw [hu] at h1 <;> dsimp only at h1 <;> try (exact h1.elim)
   rename_i el
   obtain ⟨h2, h3⟩ := onlyIf_inv h1
   obtain ⟨cs, h4, rfl, rfl⟩ := optK_inv h3
   refine ⟨fun d => findRes_more (isMark_live rfl) _ _, fun s' id B d hal hm hi hs' => .inl ⟨by rw [← hal.gd]; exact hg, fun K hK => ?_⟩⟩
   rw [hop', hu]
   dsimp only
   rw [h2]
   have only : ∀ {Q : Unit → Prop}, Q () → onlyIf true Q := fun h => h
   refine only ?_
   rw [h4]
   show K (.osl false s'.heap.length 0 n (T.size el)) (s'.heap ++ [⟨true, true, cs⟩])
   rw [hs', hset_length]
   rw [hset_app [⟨true, true, cs⟩] B s.heap id hi] at hK
   exact hK
 . exact ⟨fun _ => rfl, fun s' id B d hal _ _ hs' => .inr ⟨by rw [← hal.gd]; exact hg, rfl, hs'.symm⟩⟩
theorem put_put {tm : List AVal} {h h' k : List Blk} {d e : Option Tmp} {x y : AVal} (hne : ∀ t, d = some t → e ≠ some t) :
   put ⟨(put ⟨tm, h⟩ d x).tmps, k⟩ e y = put ⟨(put ⟨tm, h'⟩ e y).tmps, k⟩ d x := by
 cases d with
 | none => cases e <;> rfl
 | some t =>
   cases e with
   | none => rfl
   | some u =>
     have : t ≠ u := fun e => hne t rfl (e ▸ rfl)
     simp only [put, lset_eq]
     rw [List.set_comm _ _ this]
theorem swap {tree : Md} {ops : Array Oper} {j i : Oper} (hi : indep tree ops j i = true) {s : St} {K : St → Prop} (h : astep A T Sp tree ops.toList j s fun s' => astep A T Sp tree ops.toList i s' K) :
   astep A T Sp tree ops.toList i s fun s' => astep A T Sp tree ops.toList j s' K := by
 simp only [indep, Bool.and_eq_true] at hi
 obtain ⟨⟨h1, h2⟩, hcl⟩ := hi
 have hd : ∀ t, j.dst = some t → i.dst ≠ some t := (Oper.apart_spec h1).2.1
 obtain ⟨yj, hj, oj, h⟩ := out_of h
 obtain ⟨yi, hi, oi, hk⟩ := out_of h
 rw [put_put (h' := hj) hd] at hk
 have ai : ∀ h, Alike ops.toList i (put ⟨s.tmps, h⟩ j.dst yj) s := fun h => alike_put h1
 have aj : ∀ h, Alike ops.toList j s (put ⟨s.tmps, h⟩ i.dst yi) := fun h => by
   have := alike_put (s := s) (h := h) (y := yi) h2
   exact ⟨fun x hx => (this.ev x hx).symm, this.gd.symm⟩
 have tm : ∀ h h', (put ⟨s.tmps, h⟩ i.dst yi).tmps = (put ⟨s.tmps, h'⟩ i.dst yi).tmps := fun h h' => by cases i.dst <;> rfl
 have fin : ∀ hi', Out A T Sp tree ops.toList i s yi hi' → Out A T Sp tree ops.toList j (put ⟨s.tmps, hi'⟩ i.dst yi) yj hi → astep A T Sp tree ops.toList i s fun s' => astep A T Sp tree ops.toList j s' K := by
   intro hi' o1 o2
   refine of_out o1 (of_out o2 ?_)
   rw [tm hi' hj]
   exact hk
 have casej : cls tree j.op = .p → astep A T Sp tree ops.toList i s fun s' => astep A T Sp tree ops.toList j s' K := by
   intro hc
   obtain ⟨rfl, h4⟩ := out_p hc (aj hi) oj
   have o1 : Out A T Sp tree ops.toList i s yi hi := out_same (by rw [put_heap]) (ai _) oi
   rw [put_heap] at h4
   exact fin hi o1 h4
 have casei : cls tree i.op = .p → astep A T Sp tree ops.toList i s fun s' => astep A T Sp tree ops.toList j s' K := by
   intro hc
   obtain ⟨h3, h4⟩ := out_p hc (ai hj) oi
   rw [put_heap] at h3
   subst h3
   exact fin s.heap h4 (out_same (by rw [put_heap]) (aj _) oj)
 have caseq : cls tree j.op = .q → cls tree i.op = .q → astep A T Sp tree ops.toList i s fun s' => astep A T Sp tree ops.toList j s' K := by
   intro hcj hci
   obtain ⟨l1, rfl, hq1⟩ := out_q hcj oj
   obtain ⟨l2, h3, hq2⟩ := out_q hci oi
   rw [put_heap] at h3
   have h3' : hi = freeze (freeze s.heap l1) l2 := h3
   subst h3'
   have o1 : Out A T Sp tree ops.toList i s yi (freeze s.heap l2) := hq2 s l1 (ai _) (.inr (by rw [put_heap]))
   have o2 := hq1 (put ⟨s.tmps, freeze s.heap l2⟩ i.dst yi) l2 (aj _) (.inl (by rw [put_heap]))
   rw [put_heap] at o2
   refine fin _ o1 ?_
   rw [freeze_comm s.heap l1 l2]
   exact o2
 have casea : cls tree j.op = .q → cls tree i.op = .e → isAlloc i.op = true → astep A T Sp tree ops.toList i s fun s' => astep A T Sp tree ops.toList j s' K := by
   intro hcj hci hal
   obtain ⟨l1, rfl, hb, hq1⟩ := out_qa hcj oj
   obtain ⟨k, h3, hq2⟩ := out_alloc hci hal oi
   rw [put_heap] at h3
   have h3' : hi = freeze s.heap l1 ++ k := h3
   subst h3'
   have o1 : Out A T Sp tree ops.toList i s yi (s.heap ++ k) := hq2 s (ai _) (by rw [put_heap]; exact (freeze_length _ _).symm)
   have o2 := hq1 (put ⟨s.tmps, s.heap ++ k⟩ i.dst yi) (aj _) (by rw [put_heap]; exact More.app _ _)
   rw [put_heap] at o2
   refine fin _ o1 ?_
   rw [← freeze_app _ _ _ fun i hi => live_lt (hb i hi)]
   exact o2
 have caseqr : cls tree j.op = .q → cls tree i.op = .r → astep A T Sp tree ops.toList i s fun s' => astep A T Sp tree ops.toList j s' K := by
   intro hcj hci
   obtain ⟨l1, rfl, hb, hq1⟩ := out_qa hcj oj
   rcases out_fill hci oi with ⟨d, id, B, e1, e2, e3, e4, e5⟩ | ⟨e1, e2⟩
   . rw [put_heap] at e3 e4
     have e3' : findRes (freeze s.heap l1) d 0 = some id := e3
     have e4' : hi = hset (freeze s.heap l1) id B := e4
     subst e4'
     rw [findRes_freeze hb] at e3'
     obtain ⟨f1, f2⟩ := findRes_at e3'
     have hnl : id ∉ l1 := fun h => by have := hb id h; rw [f2] at this; cases this
     have o1 : Out A T Sp tree ops.toList i s yi (hset s.heap id B) := e5 s (ai _) e3'
     have o2 := hq1 (put ⟨s.tmps, hset s.heap id B⟩ i.dst yi) (aj _) (by rw [put_heap]; exact More.fill f2 B)
     rw [put_heap] at o2
     refine fin _ o1 ?_
     rw [← freeze_hset hnl]
     exact o2
   . rw [put_heap] at e1
     subst e1
     have o1 : Out A T Sp tree ops.toList i s yi s.heap := e2 s (ai _)
     have o2 := hq1 (put ⟨s.tmps, s.heap⟩ i.dst yi) (aj _) (by rw [put_heap]; exact More.refl _)
     rw [put_heap] at o2
     exact fin _ o1 o2
 have caserr : cls tree j.op = .r → cls tree i.op = .r → astep A T Sp tree ops.toList i s fun s' => astep A T Sp tree ops.toList j s' K := by
   intro hcj hci
   rcases out_fill hcj oj with ⟨dj, idj, Bj, a1, a2, a3, a4, a5⟩ | ⟨a1, a2⟩
   . subst a4
     rcases out_fill hci oi with ⟨d, id, B, e1, e2, e3, e4, e5⟩ | ⟨e1, e2⟩
     . rw [put_heap] at e3 e4
       have e3' : findRes (hset s.heap idj Bj) d 0 = some id := e3
       have e4' : hi = hset (hset s.heap idj Bj) id B := e4
       subst e4'
       have hdd : dj ≠ d := fun e => hd dj a1 (e ▸ e1)
       obtain ⟨g1, g2⟩ := findRes_at a3
       rw [findRes_hset (by rw [g2]; exact isMark_mark hdd) (isMark_live a2)] at e3'
       obtain ⟨f1, f2⟩ := findRes_at e3'
       have hii : idj ≠ id := by
         rintro rfl
         rw [g2] at f2
         have h5 := isMark_mark hdd
         rw [f2] at h5
         have h6 : isMark (mark d) d = true := by show ((d : Int) == (d : Int)) = true; simp
         rw [h6] at h5; cases h5
       have o1 : Out A T Sp tree ops.toList i s yi (hset s.heap id B) := e5 s (ai _) e3'
       have o2 := a5 (put ⟨s.tmps, hset s.heap id B⟩ i.dst yi) (aj _) (by
         rw [put_heap]
         show findRes (hset s.heap id B) dj 0 = _
         rw [findRes_hset (by rw [f2]; exact isMark_mark (Ne.symm hdd)) (isMark_live e2)]
         exact a3)
       rw [put_heap] at o2
       refine fin _ o1 ?_
       rw [hset_comm hii]
       exact o2
     . rw [put_heap] at e1
       subst e1
       have o1 : Out A T Sp tree ops.toList i s yi s.heap := e2 s (ai _)
       have o2 := a5 (put ⟨s.tmps, s.heap⟩ i.dst yi) (aj _) (by rw [put_heap]; exact a3)
       rw [put_heap] at o2
       exact fin _ o1 o2
   . subst a1
     have o1 : Out A T Sp tree ops.toList i s yi hi := out_same (by rw [put_heap]) (ai _) oi
     have o2 := a2 (put ⟨s.tmps, hi⟩ i.dst yi) (aj _)
     rw [put_heap] at o2
     exact fin _ o1 o2
 have caseer : cls tree j.op = .e → cls tree i.op = .r → (isAppOp j.op || isNewOp j.op) = true → astep A T Sp tree ops.toList i s fun s' => astep A T Sp tree ops.toList j s' K := by
   intro hcj hci hap
   obtain ⟨hfr, hq1⟩ := (Bool.or_eq_true _ _ ▸ hap : isAppOp j.op = true ∨ isNewOp j.op = true).elim (fun hap => out_app hcj hap oj) (fun hap => out_new hcj hap oj)
   rcases out_fill hci oi with ⟨d, id, B, e1, e2, e3, e4, e5⟩ | ⟨e1, e2⟩
   . rw [put_heap] at e3 e4
     have e3' : findRes hj d 0 = some id := e3
     have e4' : hi = hset hj id B := e4
     subst e4'
     rw [hfr d] at e3'
     obtain ⟨f1, f2⟩ := findRes_at e3'
     have o1 : Out A T Sp tree ops.toList i s yi (hset s.heap id B) := e5 s (ai _) e3'
     have o2 := hq1 (put ⟨s.tmps, hset s.heap id B⟩ i.dst yi) id B d (aj _) f2 f1 (by rw [put_heap])
     exact fin _ o1 o2
   . rw [put_heap] at e1
     subst e1
     have o1 : Out A T Sp tree ops.toList i s yi s.heap := e2 s (ai _)
     have o2 : Out A T Sp tree ops.toList j (put ⟨s.tmps, s.heap⟩ i.dst yi) yj hi := out_same (by rw [put_heap]) (aj _) oj
     exact fin _ o1 o2
 cases hcj : cls tree j.op <;> cases hci : cls tree i.op <;> rw [hcj, hci] at hcl <;> first
   | exact casej hcj
   | exact casei hci
   | exact caseq hcj hci
   | exact casea hcj hci hcl
   | exact caseqr hcj hci
   | exact caserr hcj hci
   | exact caseer hcj hci hcl
   | cases hcl
end
end Eng
set_option linter.unusedSimpArgs false
set_option linter.unusedVariables false
namespace Eng
open Go
section
variable {A : Ar} {T : Ty} {Sp : SpecT} {P : Program}
theorem astep_mono {tree : Md} {all : List Oper} {o : Oper} {s : St} {K K' : St → Prop} (h : astep A T Sp tree all o s K) (hk : ∀ s, K s → K' s) : astep A T Sp tree all o s K' := by
 obtain ⟨s', h1, h2⟩ := lin_step A T Sp tree all o s K h
 exact h2 K' (hk s' h1)
theorem front {tree : Md} {ops : Array Oper} {i : Oper} {K : St → Prop} : ∀ (r1 r2 : List Oper) (s : St), (∀ j ∈ r1, indep tree ops j i = true) → aops A T Sp tree ops.toList (r1 ++ i :: r2) s K → aops A T Sp tree ops.toList (i :: (r1 ++ r2)) s K
 | [], _, _, _, h => h
 | j :: r1, r2, s, hi, h => by
   have h1 : astep A T Sp tree ops.toList j s fun s1 => astep A T Sp tree ops.toList i s1 fun s2 => aops A T Sp tree ops.toList (r1 ++ r2) s2 K :=
     astep_mono h fun s1 h' => front r1 r2 s1 (fun k hk => hi k (by simp [hk])) h'
   exact swap (hi j (by simp)) h1
def rest (ops : Array Oper) (listed : Array Bool) : List Nat := (List.range ops.size).filter fun i => !listed.getD i true
def Closed (ops : Array Oper) (listed : Array Bool) : Prop := ∀ i o, ops[i]? = some o → listed.getD i true = true → ∀ e ∈ o.after, Region.binds .any e = true → listed.getD e.on false = true
theorem anc_listed {ops : Array Oper} {listed : Array Bool} (hs : listed.size = ops.size) (hc : Closed ops listed) : ∀ (d i j : Nat), anc ops d i j = true → (∀ o, ops[i]? = some o → ∀ e ∈ o.after, Region.binds .any e = true → listed.getD e.on false = true) → listed.getD j false = true := by
 intro d
 induction d with
 | zero => intro i j h; simp [anc] at h
 | succ d ih =>
   intro i j h hi
   simp only [anc] at h
   split at h
   . cases h
   . rename_i o ho
     rw [List.any_eq_true] at h
     obtain ⟨e, he, h⟩ := h
     simp only [Bool.and_eq_true, Bool.or_eq_true, beq_iff_eq] at h
     have hl := hi o ho e (by simpa using he) h.1
     rcases h.2 with rfl | h2
     . exact hl
     . refine ih e.on j h2 fun o' ho' e' he' hb' => ?_
       have hlt : e.on < listed.size := by
         rcases Nat.lt_or_ge e.on listed.size with h' | h'
         . exact h'
         . simp [Array.getD, Nat.not_lt.2 h'] at hl
       exact hc e.on o' ho' (by simp [Array.getD, hlt] at hl ⊢; exact hl) e' he' hb'
theorem draw_ok (hT : TyOk P T) : DrawOK P T := by
 intro Sp B Hi r hS hHi tree ops K Q ds hok hds hn s a w hd hr hq
 have hok' : ∀ (y : Oper) (iy : Nat), ops[iy]? = some y → (∀ e ∈ y.after, Region.binds .any e = true → e.on < iy) ∧ ∀ (x : Oper) (ix : Nat), ops[ix]? = some x → ix < iy → indep tree ops x y = true ∨ anc ops 3 iy ix = true := by
   intro y iy hy
   simp only [okDraw, List.all_eq_true] at hok
   have hm : ∀ (x : Oper) (ix : Nat), ops[ix]? = some x → (x, ix) ∈ ops.toList.zipIdx := by
     intro x ix hx
     rw [List.mem_zipIdx_iff_getElem?]
     simpa using hx
   have h1 := hok (y, iy) (hm y iy hy)
   simp only [Bool.and_eq_true, List.all_eq_true, Bool.or_eq_true, Bool.not_eq_true', decide_eq_true_eq, decide_eq_false_iff_not] at h1
   refine ⟨fun e he hb => ?_, fun x ix hx hlt => ?_⟩
   . have := h1.1 e (by simpa using he)
     rcases this with h' | h'
     . rw [hb] at h'; cases h'
     . exact h'
   . have := h1.2 (x, ix) (hm x ix hx)
     rcases this with (h' | h') | h'
     . exact absurd hlt h'
     . exact .inl h'
     . exact .inr h'
 have key : ∀ (fuel : Nat) (listed : Array Bool) (s : St) (a : Act) (w : World), listed.size = ops.size → (rest ops listed).length = fuel → Closed ops listed → a.defers = ds → RelE P B Hi s a w →
     aops Ar.real T Sp tree ops.toList ((rest ops listed).map fun i => ops.getD i default) s K → wpAnyIn (fz r) 1 P .any ops Q fuel listed a w := by
   intro fuel
   induction fuel with
   | zero =>
     intro listed s a w hs hl hc hd hr hq
     have h0 : rest ops listed = [] := List.eq_nil_of_length_eq_zero hl
     rw [h0] at hq
     refine ⟨?_, hn s a w hd hq hr⟩
     unfold rest at h0
     unfold Region.ready
     rw [List.filter_eq_nil_iff] at h0 ⊢
     intro i hi h'
     refine h0 i hi ?_
     simp only [Bool.and_eq_true] at h'
     exact h'.1
   | succ fuel ih =>
     intro listed s a w hs hl hc hd hr hq
     have hsorted : (rest ops listed).Pairwise (· < ·) := List.Pairwise.filter _ (List.pairwise_lt_range)
     have hmem : ∀ i, i ∈ rest ops listed ↔ i < ops.size ∧ listed.getD i true = false := by
       intro i; simp [rest]
     refine ⟨fun hrd => ?_, fun i hi => ?_⟩
     . exfalso
       obtain ⟨i, r, hir⟩ : ∃ i r, rest ops listed = i :: r := by
         cases hq' : rest ops listed with
         | nil => rw [hq'] at hl; simp at hl
         | cons i r => exact ⟨i, r, rfl⟩
       have him : i ∈ rest ops listed := by rw [hir]; simp
       obtain ⟨h1, h2⟩ := (hmem i).1 him
       have ho : ops[i]? = some ops[i] := Array.getElem?_eq_getElem h1
       have : i ∈ Region.ready .any ops listed := by
         unfold Region.ready
         rw [List.mem_filter]
         refine ⟨by simpa using h1, ?_⟩
         rw [h2, ho]
         simp only [Bool.not_false, Bool.true_and, Option.map_some, Option.getD_some, Array.all_eq_true_iff_forall_mem]
         intro e he
         cases hb : Region.binds .any e with
         | false => rfl
         | true =>
           have hlt := (hok' _ i ho).1 e he hb
           simp only [Bool.not_true, Bool.false_or]
           have hnot : e.on ∉ rest ops listed := by
             intro hin
             rw [hir] at hin hsorted
             rcases List.mem_cons.1 hin with h' | h'
             . omega
             . have := (List.pairwise_cons.1 hsorted).1 _ h'; omega
           have hlt' : e.on < listed.size := by omega
           have : listed.getD e.on true = true := by
             cases hq : listed.getD e.on true with
             | true => rfl
             | false => exact absurd ((hmem e.on).2 ⟨by omega, hq⟩) hnot
           simp [Array.getD, hlt'] at this ⊢
           exact this
       rw [hrd] at this
       cases this
     . obtain ⟨h1, o, ho, h3⟩ := mem_ready.1 hi
       have hlt : i < ops.size := (Array.getElem?_eq_some_iff.1 ho).1
       obtain ⟨r1, r2, hr12⟩ := List.append_of_mem ((hmem i).2 ⟨hlt, h1⟩)
       rw [hr12] at hsorted hq hl
       obtain ⟨hp1, hp2, hp3⟩ := List.pairwise_append.1 hsorted
       have hlow : ∀ j ∈ r1, j < i := fun j hj => hp3 j hj i (by simp)
       have hhigh : ∀ j ∈ r2, i < j := fun j hj => (List.pairwise_cons.1 hp2).1 j hj
       have hrest : rest ops (listed.setIfInBounds i true) = r1 ++ r2 := by
         have e1 : rest ops (listed.setIfInBounds i true) = (rest ops listed).filter fun j => decide (j ≠ i) := by
           unfold rest
           rw [List.filter_filter]
           apply List.filter_congr
           intro j hj
           by_cases e : j = i
           . subst e
             have : j < listed.size := by omega
             simp [this]
           . have := getD_set_ne (listed := listed) (i := i) (j := j) true (fun e' => e e'.symm)
             rw [this]; simp [e]
         rw [e1, hr12, List.filter_append, List.filter_cons]
         have f1 : r1.filter (fun j => decide (j ≠ i)) = r1 := List.filter_eq_self.2 fun j hj => by have := hlow j hj; simp; omega
         have f2 : r2.filter (fun j => decide (j ≠ i)) = r2 := List.filter_eq_self.2 fun j hj => by have := hhigh j hj; simp; omega
         rw [f1, f2]; simp
       have hgo : ops.getD i default = o := by simp [Array.getD, hlt]; have := ho; simp [Array.getElem?_eq_getElem hlt] at this; exact this
       rw [List.map_append, List.map_cons, hgo] at hq
       have hind : ∀ j ∈ r1.map (fun i => ops.getD i default), indep tree ops j o = true := by
         intro x hx
         obtain ⟨j, hj, rfl⟩ := List.mem_map.1 hx
         have hjr : j ∈ rest ops listed := by rw [hr12]; simp [hj]
         obtain ⟨hj1, hj2⟩ := (hmem j).1 hjr
         have hoj : ops[j]? = some (ops.getD j default) := by simp [Array.getD, hj1]
         rcases (hok' o i ho).2 _ j hoj (hlow j hj) with h' | h'
         . exact h'
         . exfalso
           have := anc_listed hs hc 3 i j h' fun o' ho' e he hb => by rw [ho] at ho'; cases ho'; exact h3 e he hb
           have hjs : j < listed.size := by omega
           simp [Array.getD, hjs] at this hj2
           rw [this] at hj2; cases hj2
       have hq' := front _ _ s hind hq
       refine astep_sound hT hS hHi r ho hr (by rw [hd]; exact hds) hq' fun s' a' w' hd' hk hr' => ?_
       refine ih (listed.setIfInBounds i true) s' a' w' (by simp [hs]) (by rw [hrest]; simp at hl ⊢; omega) ?_ (hd'.trans hd) hr' (by rw [hrest, List.map_append]; exact hk)
       intro k ok hok1 hk1 e he hb
       by_cases e1 : k = i
       . subst e1
         rw [ho] at hok1; cases hok1
         exact getD_set_true (h3 e he hb)
       . have : listed.getD k true = true := by
           rw [← getD_set_ne (listed := listed) (i := i) (j := k) true (fun e' => e1 e'.symm)]; exact hk1
         exact getD_set_true (hc k ok hok1 this e he hb)
 have hrep : ∀ i, i < ops.size → (Array.replicate ops.size false).getD i true = false := by
   intro i hi; simp [Array.getD, hi]
 have hall : rest ops (Array.replicate ops.size false) = List.range ops.size := by
   unfold rest
   rw [List.filter_eq_self]
   intro i hi
   rw [hrep i (by simpa using hi)]; rfl
 refine key ops.size _ s a w (by simp) (by rw [hall]; simp) (fun i o ho h => ?_) hd hr ?_
 . have hlt : i < ops.size := (Array.getElem?_eq_some_iff.1 ho).1
   rw [hrep i hlt] at h; cases h
 . rw [hall]
   have : (List.range ops.size).map (fun i => ops.getD i default) = ops.toList := by
     apply List.ext_getElem?
     intro i
     by_cases hi : i < ops.size
     . simp [hi, Array.getD]
     . simp [hi]
   rw [this]
   exact hq
end
end Eng
set_option linter.unusedSimpArgs false
set_option linter.unusedVariables false
namespace Eng
open Go
def valEq : Value → Value → Bool
 | .int k n, .int k' n' => decide (k = k') && n == n'
 | .bool a, .bool b => a == b
 | .string a, .string b => a.data.toList.isEmpty && b.data.toList.isEmpty
 | .pointer none, .pointer none => true
 | .slice none n c, .slice none n' c' => n == n' && c == c'
 | .map none, .map none => true
 | .chan none, .chan none => true
 | .nilFunc, .nilFunc => true
 | .nilIface, .nilIface => true
 | _, _ => false
theorem valEq_eq {a b : Value} (h : valEq a b = true) : a = b := by
 unfold valEq at h
 split at h <;> simp at h
 . rw [h.1, h.2]
 . rw [h]
 . rename_i a b
   obtain ⟨⟨a⟩⟩ := a; obtain ⟨⟨b⟩⟩ := b
   simp at h; rw [h.1, h.2]
 . rfl
 . rw [h.1, h.2]
 . rfl
 . rfl
 . rfl
 . rfl
def valsEq : List Value → List Value → Bool
 | [], [] => true
 | a :: l, b :: k => valEq a b && valsEq l k
 | _, _ => false
theorem valsEq_eq : ∀ {l k : List Value}, valsEq l k = true → l = k
 | [], [], _ => rfl
 | a :: l, b :: k, h => by
   simp only [valsEq, Bool.and_eq_true] at h
   rw [valEq_eq h.1, valsEq_eq h.2]
 | [], _ :: _, h => by cases h
 | _ :: _, [], h => by cases h
def descOk (P : Program) (T : Ty) (t : TypeId) : Bool :=
 match T.und t, P.underlying t with
 | .int k, some (.int k') => decide (k = k')
 | .bool, some .bool => true
 | .str, some .string => true
 | .ptr e, some (.pointer e') => e == e'
 | .slice e, some (.slice e') => e == e'
 | .arr n e, some (.array n' e') => n == n' && e == e'
 | .struct fs, some (.struct gs) => decide (gs.toList.map (fun f => (f.offset, f.type, f.name)) = fs) && !P.stoodInHeld t && gs.toList.all fun f => (P.info? f.type).isSome
 | .iface ms, some (.interface ns) => decide (ns.toList = ms)
 | .other, _ => true
 | _, _ => false
def zeroOk (T : Ty) (t : TypeId) (z : Value) : Bool :=
 match isAgg (T.und t), z with
 | true, .agg cs => valsEq cs.toList (T.zero t)
 | false, z => oneV z && valsEq [z] (T.zero t)
 | _, _ => false
def infoOk (P : Program) (T : Ty) (t : TypeId) : Bool :=
 match T.und t with
 | .other => true
 | _ => match P.info? t with
   | some i => i.size == T.size t && i.bytes == T.bytes t && (match i.zero with | some z => zeroOk T t z | none => false)
   | none => false
def tyAt (P : Program) (T : Ty) (t : TypeId) : Bool :=
 descOk P T t && infoOk P T t && (!T.eqok t || !P.eqGuardType P.depth t)
theorem tyOk_of {P : Program} {T : Ty} (n : Nat) (h : (List.range n).all (tyAt P T) = true) (hbig : ∀ t, n ≤ t → T.und t = .other) (hother : ∀ t, T.und t = .other → T.size t = 0) (hz : ∀ t, (T.zero t).length = T.size t)
   (heq : ∀ t, n ≤ t → T.eqok t = false) (hm : ∀ t name f, T.meth t name = some f → ∀ v w, (method (P.types.size + Made.depth) t v name).run P w = .ok (f, v) w ∧ (nilAhead (P.types.size + Made.depth) t v name).run P w = .ok (some false) w) : TyOk P T := by
 have hat : ∀ t, T.und t ≠ .other → descOk P T t = true ∧ infoOk P T t = true := by
   intro t ht
   have hlt : t < n := by
     rcases Nat.lt_or_ge t n with h' | h'
     . exact h'
     . exact absurd (hbig t h') ht
   have := List.all_eq_true.1 h t (by simpa using hlt)
   simp only [tyAt, Bool.and_eq_true] at this
   exact this.1
 refine ⟨?_, ?_, ?_, ?_, ?_, ?_, ?_, ?_, ?_, hother, hz, ?_, hm⟩
 . intro t k ht
   have := (hat t (by rw [ht]; simp)).1
   unfold descOk at this; rw [ht] at this
   split at this <;> simp_all
 . intro t ht
   have := (hat t (by rw [ht]; simp)).1
   unfold descOk at this; rw [ht] at this
   split at this <;> simp_all
 . intro t ht
   have := (hat t (by rw [ht]; simp)).1
   unfold descOk at this; rw [ht] at this
   split at this <;> simp_all
 . intro t e ht
   have := (hat t (by rw [ht]; simp)).1
   unfold descOk at this; rw [ht] at this
   split at this <;> simp_all
 . intro t e ht
   have := (hat t (by rw [ht]; simp)).1
   unfold descOk at this; rw [ht] at this
   split at this <;> simp_all
 . intro t m e ht
   have := (hat t (by rw [ht]; simp)).1
   unfold descOk at this; rw [ht] at this
   split at this <;> simp_all
 . intro t fs ht
   have := (hat t (by rw [ht]; simp)).1
   unfold descOk at this; rw [ht] at this
   cases hu : P.underlying t with
   | none => rw [hu] at this; simp at this
   | some d =>
     rw [hu] at this
     cases d <;> simp only [reduceCtorEq] at this
     rename_i gs
     simp only [Bool.and_eq_true, decide_eq_true_eq, Bool.not_eq_true', List.all_eq_true] at this
     exact ⟨gs, rfl, this.1.1, this.1.2, this.2⟩
 . intro t ms ht
   have := (hat t (by rw [ht]; simp)).1
   unfold descOk at this; rw [ht] at this
   cases hu : P.underlying t with
   | none => rw [hu] at this; simp at this
   | some d =>
     rw [hu] at this
     cases d <;> simp only [reduceCtorEq] at this
     rename_i gs
     simp only [decide_eq_true_eq] at this
     rw [← this]
 . intro t ht
   have h2 := (hat t ht).2
   unfold infoOk at h2
   have h3 : (match P.info? t with
     | some i => i.size == T.size t && i.bytes == T.bytes t && (match i.zero with | some z => zeroOk T t z | none => false)
     | none => false) = true := by
     cases hu : T.und t <;> rw [hu] at h2 <;> first | exact h2 | exact absurd hu ht
   cases hi : P.info? t with
   | none => rw [hi] at h3; simp at h3
   | some i =>
     rw [hi] at h3
     simp only [Bool.and_eq_true, beq_iff_eq] at h3
     cases hzz : i.zero with
     | none => rw [hzz] at h3; simp at h3
     | some z =>
       rw [hzz] at h3
       obtain ⟨⟨h4, h5⟩, h6⟩ := h3
       refine ⟨i, rfl, h4, h5, z, hzz, ?_⟩
       unfold zeroOk at h6
       cases ha : isAgg (T.und t) with
       | true =>
         rw [ha] at h6
         cases z <;> simp only [reduceCtorEq] at h6
         rename_i cs
         have := valsEq_eq h6
         exact ⟨by simpa [Value.cells] using this, fun _ => by rw [← this], fun h' => by cases h'⟩
       | false =>
         rw [ha] at h6
         simp only [Bool.and_eq_true] at h6
         have := valsEq_eq h6.2
         refine ⟨?_, fun h' => (by cases h'), fun _ => h6.1⟩
         cases z <;> first | (simp [oneV] at h6; done) | (simp only [Value.cells]; exact this)
 . intro t ht
   have hlt : t < n := by
     rcases Nat.lt_or_ge t n with h' | h'
     . exact h'
     . rw [heq t h'] at ht; cases ht
   have := List.all_eq_true.1 h t (by simpa using hlt)
   simp only [tyAt, Bool.and_eq_true, Bool.or_eq_true, Bool.not_eq_true'] at this
   rcases this.2 with h' | h'
   . rw [ht] at h'; cases h'
   . exact h'
def methAt (P : Program) (x : TypeId × String × FuncId) : Bool :=
 match P.info? x.1 with
 | some i => match i.methods.find? (fun m => m.name == x.2.1), P.underlying x.1 with
   | some m, some (.struct _) => m.path.toList.isEmpty && (match m.func with | some (f, false) => f == x.2.2 | _ => false)
   | _, _ => false
 | none => false
def lookM (t : TypeId) (name : String) : List (TypeId × String × FuncId) → Option FuncId
 | [] => none
 | x :: l => match x.1 == t && x.2.1 == name with
   | true => some x.2.2
   | false => lookM t name l
theorem lookM_mem {t : TypeId} {name : String} {f : FuncId} : ∀ {l : List (TypeId × String × FuncId)}, lookM t name l = some f → (t, name, f) ∈ l
 | [], h => by cases h
 | x :: l, h => by
   unfold lookM at h
   split at h
   . rename_i hx
     simp only [Bool.and_eq_true, beq_iff_eq] at hx
     cases h
     obtain ⟨a, b, c⟩ := x
     obtain ⟨rfl, rfl⟩ := hx
     exact List.mem_cons_self ..
   . exact List.mem_cons_of_mem _ (lookM_mem h)
theorem meth_of {P : Program} {ms : List (TypeId × String × FuncId)} (h : ms.all (methAt P) = true) : ∀ t name f, lookM t name ms = some f → ∀ v w, (method (P.types.size + Made.depth) t v name).run P w = .ok (f, v) w ∧ (nilAhead (P.types.size + Made.depth) t v name).run P w = .ok (some false) w := by
 intro t name f hl v w
 have hm := List.all_eq_true.1 h _ (lookM_mem hl)
 obtain ⟨k, hk⟩ : ∃ k, P.types.size + Made.depth = k + 1 := ⟨P.types.size + 99, rfl⟩
 rw [hk]
 unfold methAt at hm
 simp only at hm
 split at hm
 . rename_i i hi
   split at hm
   . rename_i m fs hf hu
     simp only [Bool.and_eq_true, List.isEmpty_iff] at hm
     obtain ⟨hp, hf2⟩ := hm
     split at hf2
     . rename_i g hg
       simp only [beq_iff_eq] at hf2
       subst hf2
       constructor
       . simp only [method, typeInfo, underlying, receiverAt, follow, Place.get, Sem.run_bind, run_program, hi, hf, hp, hg, hu, Sem.run_pure, Result.andThen_ok]
       . simp only [nilAhead, typeInfo, underlying, followBlind, Sem.run_bind, run_program, hi, hf, hp, hg, hu, Sem.run_pure, Result.andThen_ok]
     . cases hf2
   . cases hm
 . cases hm
end Eng
namespace Eng
open Go
set_option exponentiation.threshold 2000
theorem wrap_u64 (n : Int) : IntKind.u64.wrap n = n % 18446744073709551616 := by
 simp [IntKind.wrap, IntKind.signed, IntKind.bits]
theorem wrap_u8 (n : Int) : IntKind.u8.wrap n = n % 256 := by
 simp [IntKind.wrap, IntKind.signed, IntKind.bits]
theorem wrap_i64 (n : Int) (h : -9223372036854775808 ≤ n ∧ n < 9223372036854775808) : IntKind.i64.wrap n = n := by
 simp [IntKind.wrap, IntKind.signed, IntKind.bits]
 split <;> omega
theorem u_add (a b : Nat) : rbin .add .u64 (Int.ofNat a) (Int.ofNat b) = Int.ofNat ((a + b) % 18446744073709551616) := by
 show IntKind.u64.wrap _ = _
 rw [wrap_u64]
 simp only [Int.ofNat_eq_natCast]
 omega
theorem u_mul (a b : Nat) : rbin .mul .u64 (Int.ofNat a) (Int.ofNat b) = Int.ofNat ((a * b) % 18446744073709551616) := by
 show IntKind.u64.wrap _ = _
 rw [wrap_u64]
 simp only [Int.ofNat_eq_natCast]
 omega
theorem u_sub (a b : Nat) (h : b ≤ 18446744073709551616) : rbin .sub .u64 (Int.ofNat a) (Int.ofNat b) = Int.ofNat ((a + 18446744073709551616 - b) % 18446744073709551616) := by
 show IntKind.u64.wrap _ = _
 rw [wrap_u64]
 simp only [Int.ofNat_eq_natCast]
 omega
theorem u_shr (a k : Nat) (hk : k ≤ 64) : rbin .shr .u64 (Int.ofNat a) (Int.ofNat k) = Int.ofNat (a / 2 ^ k) := by
 show Int.fdiv (Int.ofNat a) (2 ^ (min (Int.ofNat k).toNat IntKind.u64.bits)) = _
 have : min (Int.ofNat k).toNat IntKind.u64.bits = k := by simp [IntKind.bits]; omega
 rw [this, Int.fdiv_eq_ediv_of_nonneg _ (by exact Int.le_of_lt (Int.pow_pos (by omega)))]
 simp only [Int.ofNat_eq_natCast]
 rw [Int.natCast_ediv]
 simp
theorem u_shl (a k : Nat) (hk : k ≤ 64) : rbin .shl .u64 (Int.ofNat a) (Int.ofNat k) = Int.ofNat (a * 2 ^ k % 18446744073709551616) := by
 show IntKind.u64.wrap ((Int.ofNat a) * (2 ^ (min (Int.ofNat k).toNat IntKind.u64.bits))) = _
 have : min (Int.ofNat k).toNat IntKind.u64.bits = k := by simp [IntKind.bits]; omega
 rw [this, wrap_u64]
 simp only [Int.ofNat_eq_natCast]
 rw [Int.natCast_emod, Int.natCast_mul]
 simp
theorem bv_nat (a : Nat) : (BitVec.ofInt 64 (Int.ofNat a)).toNat = a % 18446744073709551616 := by
 simp
theorem u_and (a b : Nat) (ha : a < 18446744073709551616) (hb : b < 18446744073709551616) : rbin .and .u64 (Int.ofNat a) (Int.ofNat b) = Int.ofNat (a &&& b) := by
 show IntKind.u64.wrap (((BitVec.ofInt IntKind.u64.bits (Int.ofNat a) &&& BitVec.ofInt IntKind.u64.bits (Int.ofNat b)).toNat : Nat) : Int) = _
 have h : (BitVec.ofInt IntKind.u64.bits (Int.ofNat a) &&& BitVec.ofInt IntKind.u64.bits (Int.ofNat b)).toNat = a &&& b := by
   rw [BitVec.toNat_and]
   show (BitVec.ofInt 64 (Int.ofNat a)).toNat &&& (BitVec.ofInt 64 (Int.ofNat b)).toNat = _
   rw [bv_nat, bv_nat, Nat.mod_eq_of_lt ha, Nat.mod_eq_of_lt hb]
 rw [h, wrap_u64]
 have : a &&& b ≤ a := Nat.and_le_left
 simp only [Int.ofNat_eq_natCast]
 omega
theorem u_or (a b : Nat) (ha : a < 18446744073709551616) (hb : b < 18446744073709551616) : rbin .or .u64 (Int.ofNat a) (Int.ofNat b) = Int.ofNat (a ||| b) := by
 show IntKind.u64.wrap (((BitVec.ofInt IntKind.u64.bits (Int.ofNat a) ||| BitVec.ofInt IntKind.u64.bits (Int.ofNat b)).toNat : Nat) : Int) = _
 have h : (BitVec.ofInt IntKind.u64.bits (Int.ofNat a) ||| BitVec.ofInt IntKind.u64.bits (Int.ofNat b)).toNat = a ||| b := by
   rw [BitVec.toNat_or]
   show (BitVec.ofInt 64 (Int.ofNat a)).toNat ||| (BitVec.ofInt 64 (Int.ofNat b)).toNat = _
   rw [bv_nat, bv_nat, Nat.mod_eq_of_lt ha, Nat.mod_eq_of_lt hb]
 rw [h, wrap_u64]
 have : a ||| b < 2 ^ 64 := Nat.or_lt_two_pow (by simpa using ha) (by simpa using hb)
 simp only [Int.ofNat_eq_natCast]
 omega
theorem u_mask (a k : Nat) (hk : k ≤ 64) (ha : a < 18446744073709551616) : rbin .and .u64 (Int.ofNat a) (Int.ofNat (2 ^ k - 1)) = Int.ofNat (a % 2 ^ k) := by
 have h : 2 ^ k ≤ 2 ^ 64 := Nat.pow_le_pow_right (by omega) hk
 have h0 := Nat.two_pow_pos k
 rw [u_and _ _ ha (by have : (2:Nat)^64 = 18446744073709551616 := by decide
                      omega), Nat.and_two_pow_sub_one_eq_mod]
theorem u_or_add (a b k : Nat) (ha : a < 2 ^ k) (hs : 2 ^ k * b < 18446744073709551616) (hk : k ≤ 64) : rbin .or .u64 (Int.ofNat a) (Int.ofNat (2 ^ k * b)) = Int.ofNat (a + 2 ^ k * b) := by
 have h : 2 ^ k ≤ 2 ^ 64 := Nat.pow_le_pow_right (by omega) hk
 rw [u_or _ _ (by have : (2:Nat)^64 = 18446744073709551616 := by decide
                  omega) hs, Nat.or_comm, ← Nat.two_pow_add_eq_or_of_lt ha, Nat.add_comm]
end Eng
set_option linter.unusedSimpArgs false
set_option linter.unusedVariables false
namespace Eng
open Go
section
variable {w : World} {X : Nat → Prop}
theorem outs_sim1 {w0 : World} {Y : Nat → Prop} {d : Nat} {N : List Nat} {v : Value} {x y : AVal} (h : simD d x y) (ho : Outs w0 w Y N [v] [x]) {vs : List Value} {ys : List AVal} {M : List Nat} (hs : Outs w0 w Y M vs ys) : Outs w0 w Y (N ++ M) (v :: vs) (y :: ys) := by
 cases ho with
 | tree _ _ hr hs' => cases hs'; exact .tree _ _ (rep_sim d h hr) hs
 | new m n sz cap b us cs hb hb' hn hr ht ht' hu hs' =>
   cases hs'
   cases d with
   | zero => exact h.elim
   | succ d =>
     cases y <;> simp only [simD] at h
     obtain ⟨rfl, rfl, h⟩ := h
     exact .new _ _ _ cap b us _ hb hb' hn hr ht ht' (rep_simL (ρ := noρ) (rep_sim d) h hu) hs
 | new0 m sz a hs' =>
   cases hs'
   cases d with
   | zero => exact h.elim
   | succ d =>
     cases y <;> simp only [simD] at h
     obtain ⟨rfl, rfl, h⟩ := h
     have := simL_len h
     rename_i ds
     cases ds with
     | nil => exact .new0 _ _ _ hs
     | cons => simp at this
theorem outs_split {w0 : World} {Y : Nat → Prop} {N : List Nat} {v : Value} {x : AVal} {vs : List Value} {xs : List AVal} (ho : Outs w0 w Y N (v :: vs) (x :: xs)) : ∃ N1 N2, N = N1 ++ N2 ∧ Outs w0 w Y N1 [v] [x] ∧ Outs w0 w Y N2 vs xs := by
 cases ho with
 | tree _ _ hr hs => exact ⟨[], _, rfl, .tree _ _ hr .nil, hs⟩
 | new m n sz cap b us cs hb hb' hn hr ht ht' hu hs => exact ⟨[b], _, rfl, .new m n sz cap b us cs hb hb' hn hr ht ht' hu .nil, hs⟩
 | new0 m sz a hs => exact ⟨[], _, rfl, .new0 m sz a .nil, hs⟩
theorem outs_sim {w0 : World} {Y : Nat → Prop} {d : Nat} : ∀ {xs ys : List AVal} {vs : List Value} {N : List Nat}, simL (simD d) xs ys → Outs w0 w Y N vs xs → Outs w0 w Y N vs ys
 | [], ys, vs, N, h, ho => by
   have := simL_len h
   cases ys with
   | nil => exact ho
   | cons => simp at this
 | x :: xs, ys, vs, N, h, ho => by
   have hl := simL_len h
   cases ys with
   | nil => simp at hl
   | cons y ys =>
     have h1 : simD d x y := simL_at h 0 x y rfl rfl
     have h2 : simL (simD d) xs ys := by
       cases xs with
       | nil => cases ys with
         | nil => trivial
         | cons => simp at hl
       | cons a xs => cases ys with
         | nil => simp at hl
         | cons b ys => exact h.2
     cases vs with
     | nil => cases ho
     | cons v vs =>
       obtain ⟨N1, N2, rfl, o1, o2⟩ := outs_split ho
       exact outs_sim1 h1 o1 (outs_sim h2 o2)
theorem OutR.sim {w0 : World} {v : Value} {r r' : AVal} (h : Sim r r') (ho : OutR w0 w X v r) : OutR w0 w X v r' := by
 rcases ho with ⟨N, vs, xs, rfl, rfl, hN, ho⟩ | ⟨N, hN, ho⟩
 . have key : ∀ d, simD d (.tup xs) r' → OutR w0 w X (.tuple vs.toArray) r' := by
     intro d h
     cases d with
     | zero => exact h.elim
     | succ d =>
       cases r' <;> simp only [simD] at h
       . exact .inl ⟨N, vs, _, rfl, rfl, hN, outs_sim h ho⟩
       . exact .inr ⟨[], .nil, .tree _ _ (.any _) .nil⟩
   exact key _ h
 . refine .inr ⟨N, hN, ?_⟩
   have := outs_sim1 h ho .nil
   simpa using this
end
theorem Spec.sim {P : Program} {f : FuncId} {As As' : List AVal} {r r' : AVal} (h : Spec P f As r) (ha : SimL As' As) (hr : Sim r r') : Spec P f As' r' := fun X w vs hX hv =>
 (h X w vs hX (hv.sim ha)).mono fun v w' ⟨h1, h2⟩ => ⟨h1, h2.sim hr⟩
theorem Spec.args {P : Program} {f : FuncId} {As As' : List AVal} {r : AVal} (h : Spec P f As r) (ha : SimL As' As) : Spec P f As' r := fun X w vs hX hv => h X w vs hX (hv.sim ha)
theorem Spec.res {P : Program} {f : FuncId} {As : List AVal} {r r' : AVal} (h : Spec P f As r) (hr : Sim r r') : Spec P f As r' := fun X w vs hX hv =>
 (h X w vs hX hv).mono fun v w' ⟨h1, h2⟩ => ⟨h1, h2.sim hr⟩
theorem SeqSp.args {P : Program} {f : FuncId} {As As' : List AVal} {n : Nat} {xs : Nat → List AVal} (h : SeqSp P f As n xs) (ha : SimL As' As) : SeqSp P f As' n xs :=
 ⟨h.1, fun X w vs l J h1 h2 => h.2 X w vs l J h1 (h2.sim ha)⟩
section
variable {P : Program} {T : Ty}
theorem spec_of_afunK (hT : TyOk P T) (hm : P.follows .mixedOrders = true) (hd : DrawOK P T) {Sp : SpecT} (hS : SpOK P Sp) (hn0 : Sp.it = false) {f : FuncId} {fn : Func} {c : Code} (hf : P.funcs[f]? = some fn) (hb : fn.body = some c) (hn : (fn.name == "runtime.NumGoroutine") = false)
   {N : Nat → Nat} {tr : Nat → Md} (hok : codeOK tr c = true) {As : List AVal} {r : AVal} {K : AVal → Prop} (h : afun Ar.real T Sp N tr fn.ntmps fn.results c As K) (hK : ∀ x, K x → Sim x r) : Spec P f As r := by
 intro X w vs hX hv
 refine callsX_of hf hb hn (callsIn_of_wp_marks hf hb trivial ?_)
 have hxx : ∀ b, XX X noρ [] b → X b := by
   rintro b (hb | ⟨i, h1, _⟩)
   . exact hb
   . exact (nil_live h1).elim
 have hh : HRel X noρ [] w := ⟨fun i j b h1 => (nil_live h1).elim, fun i h1 => (nil_live h1).elim, fun _ _ => rfl, fun _ _ _ => rfl⟩
 have hR : Rel P w.heap.size (From X noρ [] w) X noρ ⟨app As (undefs (fn.ntmps - As.length)), []⟩ { tmps := vs.toArray ++ Array.replicate (fn.ntmps - vs.toArray.size) undef, defers := [] } w :=
   enter_rel hX hh (hv.weaken hxx) _ _ (Nat.le_refl _) ⟨rfl, Step.refl hh⟩
 unfold afun at h
 refine wpIn_mono (acode_sound hT hm hd hS c 0 _ _ _ _ none _ _ (From.ok (hS.it hn0)) (.inr ⟨rfl, hn0, fun hf hc => hf.calm hc⟩) (.inr fun _ => From.gc (fun _ => rfl) (fun _ => rfl) rfl) hok h ⟨⟨X, noρ, hR⟩, .inl hn0⟩) ?_
 rintro e a' w' ⟨s', hk, ⟨X', ρ, hr⟩, _⟩
 obtain ⟨rfl, hst⟩ := hr.hist
 have fin : optK (ares T fn.results.toList s') (fun l => optK (outL s'.heap l) fun l => K (one l)) → LeavesInM (fz none) 1 P fn a'.tmps (fun e w'' => ∃ v, e = .returned v ∧ Ext (fun _ => False) w w'' ∧ OutR w w'' X' v r) a'.defers .returning w' := by
   intro hk
   obtain ⟨l, hl, hk⟩ := optK_inv hk
   obtain ⟨l', hl', hk⟩ := optK_inv hk
   refine leaves_of _ _ hr.marks fun w'' hc => ?_
   have hst := hst.calm hc
   have hr2 : Rel P 0 (fun _ _ _ _ => True) X' ρ s' { a' with defers := [] } w'' := ⟨hr.heap.calm hc, hr.size, fun t v x hv hx => (hr.tmps t v x hv hx).calm hc, marks_nil, fun b hb => Nat.lt_of_lt_of_le (hr.lt b hb) hc.size, Nat.zero_le _, trivial⟩
   obtain ⟨us, h1, h2⟩ := results_run hT hr2 hl
   obtain ⟨N, hN, ho⟩ := outL_sound (w0 := w) hr2.heap (fun i b h1 h2 h3 => by rcases hst.new i b h1 h2 h3 with h' | ⟨j, j1, _⟩; exact h'; exact (nil_live j1).elim) hl' h2
   refine ⟨_, h1, _, rfl, hst.ext.mono fun b ⟨i, i1, _⟩ => nil_live i1, OutR.sim (hK _ hk) ?_⟩
   have hlen : us.length = l'.length := by
     clear h1 h2
     have : ∀ {N : List Nat} {Y : Nat → Prop} {us : List Value} {l' : List AVal}, Outs w w'' Y N us l' → us.length = l'.length := by
       intro N Y us l' ho
       induction ho with
       | nil => rfl
       | tree _ _ _ _ ih => simp [ih]
       | new _ _ _ _ _ _ _ _ _ _ _ _ _ _ _ ih => simp [ih]
       | new0 _ _ _ _ ih => simp [ih]
     exact this ho
   by_cases h1 : us.length = 1
   . obtain ⟨u, rfl⟩ : ∃ u, us = [u] := by
       cases us with
       | nil => simp at h1
       | cons u us => cases us with
         | nil => exact ⟨u, rfl⟩
         | cons => simp at h1
     obtain ⟨x, rfl⟩ : ∃ x, l' = [x] := by
       cases l' with
       | nil => simp at hlen
       | cons u us => cases us with
         | nil => exact ⟨u, rfl⟩
         | cons => simp at hlen
     exact .inr ⟨N, hN, ho⟩
   . have h2 : one l' = .tup l' := by
       cases l' with
       | nil => rfl
       | cons u us' => cases us' with
         | nil => simp at hlen; exact absurd hlen h1
         | cons => rfl
     rw [h2, dif_neg (by simpa using h1)]
     exact .inl ⟨N, us, l', rfl, rfl, hN, ho⟩
 cases e <;> simp only at hk <;> first
   | exact fin hk
   | exact hk.elim
end
end Eng
