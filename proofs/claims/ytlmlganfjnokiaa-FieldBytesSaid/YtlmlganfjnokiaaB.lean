import Derived.Test.YtlmlganfjnokiaaT
import Derived.Laws.Externs
set_option linter.unusedVariables false
set_option linter.unusedSimpArgs false
namespace Go.Proofs.Ytlmlganfjnokiaa
open Go Eng
set_option maxRecDepth 100000
set_option exponentiation.threshold 2000
abbrev Sp (f : FuncId) (As : List AVal) (r : AVal) : Prop := Eng.Spec Try.prog f As r
noncomputable def bodyOf (f : Func) : Code := f.body.getD .skip

/-- A contract out of a walk. The arithmetic and the contracts stand behind names, that the walk does not open them. -/
theorem mk {f : FuncId} {fn : Func} {As : List AVal} {r : AVal} (hf : Try.prog.funcs[f]? = some fn) (hb : fn.body = some (bodyOf fn)) (hn : (fn.name == "runtime.NumGoroutine") = false) (Nl : Nat → Nat) (tr : Nat → Md)
    (hok : codeOK tr (bodyOf fn) = true) (h : ∀ (A : Ar) (S : SpecT), A = Ar.real → S = specs Try.prog → afun A TT S Nl tr fn.ntmps fn.results (bodyOf fn) As (fun x => Sim x r)) : Sp f As r :=
  spec_of_afunK (P := Try.prog) (T := TT) TT.ok TT.mixed (draw_ok (P := Try.prog) (T := TT) TT.ok) (Sp := specs Try.prog) ⟨fun _ _ _ h => h, fun _ _ _ _ _ h => h, fun _ _ _ _ h => h, fun _ => rfl⟩ rfl hf hb hn (N := Nl) (tr := tr) hok (h Ar.real _ rfl rfl) fun _ h => h
theorem mkM {f : FuncId} {fn : Func} {h0 h1 : List Blk} {As : List AVal} {r : AVal} (hf : Try.prog.funcs[f]? = some fn) (hb : fn.body = some (bodyOf fn)) (hn : (fn.name == "runtime.NumGoroutine") = false) (Nl : Nat → Nat) (tr : Nat → Md)
    (hok : codeOK tr (bodyOf fn) = true) (h : ∀ (A : Ar) (S : SpecT), A = Ar.real → S = specs Try.prog → afunM A TT S Nl tr fn.ntmps fn.results (bodyOf fn) h0 As (fun r' k => r' = r ∧ k = h1)) : SpecM Try.prog f h0 As r h1 :=
  specM_of_afunM (P := Try.prog) (T := TT) TT.ok TT.mixed (draw_ok (P := Try.prog) (T := TT) TT.ok) (Sp := specs Try.prog) ⟨fun _ _ _ h => h, fun _ _ _ _ _ h => h, fun _ _ _ _ h => h, fun _ => rfl⟩ rfl hf hb hn (N := Nl) (tr := tr) hok (h Ar.real _ rfl rfl)
theorem mkI {f : FuncId} {fn : Func} {cap : List AVal} {n : Nat} {xs : Nat → List AVal} (hf : Try.prog.funcs[f]? = some fn) (hb : fn.body = some (bodyOf fn)) (hn : (fn.name == "runtime.NumGoroutine") = false) (Nl : Nat → Nat) (tr : Nat → Md)
    (hok : codeOK tr (bodyOf fn) = true) (hnr : noRange (bodyOf fn) = true) (h : ∀ (A : Ar) (S : SpecT), A = Ar.real → S.n = n → S.xs = xs → afunI A TT S Nl tr fn.ntmps fn.results (bodyOf fn) S.l cap (fun k => k = ghost n)) : SeqSp Try.prog f cap n xs :=
  seq_of_afunI (P := Try.prog) (T := TT) TT.ok TT.mixed (draw_ok (P := Try.prog) (T := TT) TT.ok) hf hb hn (N := Nl) (tr := tr) hok hnr fun l => h Ar.real { specs Try.prog with l := l, n := n, xs := xs, it := true } rfl rfl rfl
theorem cf {S : SpecT} (hS : S = specs Try.prog) {f : FuncId} {As : List AVal} {r : AVal} (h : Sp f As r) : S.fn f As r := by subst hS; exact h
theorem cm {S : SpecT} (hS : S = specs Try.prog) {f : FuncId} {h0 h1 : List Blk} {As : List AVal} {r : AVal} (h : SpecM Try.prog f h0 As r h1) : S.mu f h0 As r h1 := by subst hS; exact h
theorem cs {S : SpecT} (hS : S = specs Try.prog) {f : FuncId} {cap : List AVal} {n : Nat} {xs : Nat → List AVal} (h : SeqSp Try.prog f cap n xs) : S.seq f cap n xs := by subst hS; exact h
def L0 : Nat → Nat := fun _ => 20
def R0 : Nat → Md := fun _ => .own
def R1 : Nat → Md := fun _ => .mid
def R2 : Nat → Md := fun _ => .all
/-- A contract whose arguments are told otherwise. -/
theorem cg {S : SpecT} (hS : S = specs Try.prog) {f : FuncId} {As As' : List AVal} {r : AVal} (h : Sp f As r) (ha : SimL As' As) : S.fn f As' r := by subst hS; exact Spec.args h ha
theorem cmp_lit {A : Ar} (hA : A = Ar.real) {op : BinOp} {x y : Int} {t : Bool} (h : rcmp op x y = t) : A.cmp op x y = t := by rw [hA]; exact h

/-- A word, known or by a term. -/
inductive IsU : AVal → Int → Prop where
  | i (n : Int) : IsU (.i .u64 n) n
  | s (n : Int) : IsU (.s .u64 n) n
theorem IsU.rep {w : World} {X : Nat → Prop} {ρ : Nat → Option Nat} {v : Value} {x : AVal} {n : Int} (h : Rep w X ρ v x) (hu : IsU x n) : v = .int .u64 n := by
  cases hu with
  | i => exact h.i_inv
  | s => exact h.s_inv

theorem three_args {w : World} {X : Nat → Prop} {vs : List Value} {a b c : AVal} {x y z : Int} (h : RepL w X noρ vs [a, b, c]) (ha : IsU a x) (hb : IsU b y) (hc : IsU c z) : vs = [.int .u64 x, .int .u64 y, .int .u64 z] := by
  cases h with
  | cons h1 h => cases h with
    | cons h2 h => cases h with
      | cons h3 h => cases h with
        | nil => rw [ha.rep h1, hb.rep h2, hc.rep h3]

theorem out_pair {w0 w : World} {X : Nat → Prop} (o k : Int) : OutR w0 w X (.tuple #[.int .u64 o, .int .u64 k]) (.tup [.s .u64 o, .s .u64 k]) :=
  .inl ⟨[], [.int .u64 o, .int .u64 k], _, rfl, rfl, .nil, .tree _ _ (.s _ _) (.tree _ _ (.s _ _) .nil)⟩

theorem add64S {a b c : AVal} {x y z : Int} (ha : IsU a x) (hb : IsU b y) (hc : IsU c z) (hx : 0 ≤ x) (hy : 0 ≤ y) (hz : 0 ≤ z ∧ z ≤ 1) (o k : Int) (h : o + 18446744073709551616 * k = x + y + z) (ho : 0 ≤ o ∧ o < 18446744073709551616) :
    Sp 105 [a, b, c] (.tup [.s .u64 o, .s .u64 k]) := by
  intro X w vs hX hv
  rw [three_args hv ha hb hc]
  unfold CallsX
  rw [run_callFunc_extern Try.func105 (by kernel_rfl) (by kernel_rfl) (by kernel_rfl) (e := add64Entry) (by kernel_rfl), run_add64 x y z hx hy hz.1 hz.2]
  simp only [Result.andThen]
  obtain rfl : o = (x + y + z) % 18446744073709551616 := by omega
  obtain rfl : k = (x + y + z) / 18446744073709551616 := by omega
  exact ⟨Ext.refl _ w, out_pair _ _⟩
def sub64E : Array Value → Sem Value := fun args => do
  let (x, y, b) ← Extern.MathBitsCarry.three "Sub64" args
  pure (Extern.MathBitsCarry.pair ((x + Extern.MathBitsCarry.m64 - y - b) % Extern.MathBitsCarry.m64) (if x < y + b then 1 else 0))
theorem run_sub64 {P : Program} (x y b : Nat) (hb : b ≤ 1) (w : World) :
    (sub64E #[.int .u64 x, .int .u64 y, .int .u64 b]).run P w =
      .ok (.tuple #[.int .u64 (((x + 18446744073709551616 - y - b) % 18446744073709551616 : Nat) : Int), .int .u64 ((if x < y + b then 1 else 0 : Nat) : Int)]) w := by
  have : b = 0 ∨ b = 1 := by omega
  rcases this with rfl | rfl <;> rfl
theorem sub64S {a b c : AVal} {x y z : Int} (ha : IsU a x) (hb : IsU b y) (hc : IsU c z) (hx : 0 ≤ x ∧ x < 18446744073709551616) (hy : 0 ≤ y ∧ y < 18446744073709551616) (hz : 0 ≤ z ∧ z ≤ 1) (o k : Int) (h : o - 18446744073709551616 * k = x - y - z) (ho : 0 ≤ o ∧ o < 18446744073709551616) :
    Sp 104 [a, b, c] (.tup [.s .u64 o, .s .u64 k]) := by
  intro X w vs hX hv
  rw [three_args hv ha hb hc]
  unfold CallsX
  obtain ⟨x, rfl⟩ : ∃ n : Nat, x = n := ⟨x.toNat, by omega⟩
  obtain ⟨y, rfl⟩ : ∃ n : Nat, y = n := ⟨y.toNat, by omega⟩
  obtain ⟨z, rfl⟩ : ∃ n : Nat, z = n := ⟨z.toNat, by omega⟩
  rw [run_callFunc_extern Try.func104 (by kernel_rfl) (by kernel_rfl) (by kernel_rfl) (e := sub64E) (by kernel_rfl), run_sub64 x y z (by omega)]
  simp only [Result.andThen]
  have h1 : o = (((x + 18446744073709551616 - y - z) % 18446744073709551616 : Nat) : Int) := by omega
  have h2 : k = ((if x < y + z then 1 else 0 : Nat) : Int) := by split <;> omega
  rw [← h1, ← h2]
  exact ⟨Ext.refl _ w, out_pair _ _⟩

/-- A number's words. -/
abbrev Lim := Nat → Nat → Int
def limR : Lim := fun a i => ((a / 2 ^ (64 * i) % 2 ^ 64 : Nat) : Int)
def u4 (lim : Lim) (a : Nat) : AVal := .agg [.s .u64 (lim a 0), .s .u64 (lim a 1), .s .u64 (lim a 2), .s .u64 (lim a 3)]
def u6 (lim : Lim) (a : Nat) : AVal := .agg [.s .u64 (lim a 0), .s .u64 (lim a 1), .s .u64 (lim a 2), .s .u64 (lim a 3), .s .u64 (lim a 4), .s .u64 (lim a 5)]
theorem lim_range {lim : Lim} (hl : lim = limR) (a i : Nat) : 0 ≤ lim a i ∧ lim a i < 18446744073709551616 := by
  subst hl
  unfold limR
  generalize a / 2 ^ (64 * i) = q
  omega
theorem lim_mod {lim : Lim} (hl : lim = limR) (a : Nat) : lim a 0 = ((a % 18446744073709551616 : Nat) : Int) := by subst hl; simp [limR]
theorem lim_succ {lim : Lim} (hl : lim = limR) (a i : Nat) : lim a (i + 1) = lim (a / 18446744073709551616) i := by
  subst hl
  unfold limR
  rw [show 64 * (i + 1) = 64 + 64 * i by omega, Nat.pow_add, ← Nat.div_div_eq_div_mul]
theorem uniq {x y p q : Int} (hx : 0 ≤ x ∧ x < 18446744073709551616) (hy : 0 ≤ y ∧ y < 18446744073709551616) (h : x + 18446744073709551616 * p = y + 18446744073709551616 * q) : x = y ∧ p = q := by omega
theorem split1 {lim : Lim} (hl : lim = limR) (a : Nat) : (a : Int) = lim a 0 + 18446744073709551616 * ((a / 18446744073709551616 : Nat) : Int) := by
  rw [lim_mod hl]; omega
theorem split4 {lim : Lim} (hl : lim = limR) (a : Nat) (ha : a < 2 ^ 256) : (a : Int) = lim a 0 + 18446744073709551616 * (lim a 1 + 18446744073709551616 * (lim a 2 + 18446744073709551616 * lim a 3)) := by
  rw [split1 hl a, lim_succ hl a 0, split1 hl (a / 18446744073709551616), lim_succ hl a 1, lim_succ hl _ 0, split1 hl (a / 18446744073709551616 / 18446744073709551616), lim_succ hl a 2, lim_succ hl _ 1, lim_succ hl _ 0,
    lim_mod hl (a / 18446744073709551616 / 18446744073709551616 / 18446744073709551616), Nat.mod_eq_of_lt (a := a / 18446744073709551616 / 18446744073709551616 / 18446744073709551616)]
  rw [Nat.div_div_eq_div_mul, Nat.div_div_eq_div_mul]
  exact Nat.div_lt_of_lt_mul (by simpa using ha)
theorem split6 {lim : Lim} (hl : lim = limR) (a : Nat) (ha : a < 2 ^ 384) : (a : Int) = lim a 0 + 18446744073709551616 * (lim a 1 + 18446744073709551616 * (lim a 2 + 18446744073709551616 * (lim a 3 + 18446744073709551616 * (lim a 4 + 18446744073709551616 * lim a 5)))) := by
  have h : a / 18446744073709551616 / 18446744073709551616 < 2 ^ 256 := by
    rw [Nat.div_div_eq_div_mul]
    exact Nat.div_lt_of_lt_mul (by simpa using ha)
  have := split4 hl _ h
  rw [split1 hl a, lim_succ hl a 0, split1 hl (a / 18446744073709551616), this]
  simp only [← lim_succ hl]
theorem lim_of4 {lim : Lim} (hl : lim = limR) {a : Nat} (ha : a < 2 ^ 256) {x0 x1 x2 x3 : Int} (h0 : 0 ≤ x0 ∧ x0 < 18446744073709551616) (h1 : 0 ≤ x1 ∧ x1 < 18446744073709551616) (h2 : 0 ≤ x2 ∧ x2 < 18446744073709551616)
    (h : (a : Int) = x0 + 18446744073709551616 * (x1 + 18446744073709551616 * (x2 + 18446744073709551616 * x3))) : lim a 0 = x0 ∧ lim a 1 = x1 ∧ lim a 2 = x2 ∧ lim a 3 = x3 := by
  rw [split4 hl a ha] at h
  obtain ⟨e0, h⟩ := uniq (lim_range hl a 0) h0 h
  obtain ⟨e1, h⟩ := uniq (lim_range hl a 1) h1 h
  obtain ⟨e2, h⟩ := uniq (lim_range hl a 2) h2 h
  exact ⟨e0, e1, e2, h⟩
theorem lim_of6 {lim : Lim} (hl : lim = limR) {a : Nat} (ha : a < 2 ^ 384) {x0 x1 x2 x3 x4 x5 : Int} (h0 : 0 ≤ x0 ∧ x0 < 18446744073709551616) (h1 : 0 ≤ x1 ∧ x1 < 18446744073709551616) (h2 : 0 ≤ x2 ∧ x2 < 18446744073709551616)
    (h3 : 0 ≤ x3 ∧ x3 < 18446744073709551616) (h4 : 0 ≤ x4 ∧ x4 < 18446744073709551616)
    (h : (a : Int) = x0 + 18446744073709551616 * (x1 + 18446744073709551616 * (x2 + 18446744073709551616 * (x3 + 18446744073709551616 * (x4 + 18446744073709551616 * x5))))) : lim a 0 = x0 ∧ lim a 1 = x1 ∧ lim a 2 = x2 ∧ lim a 3 = x3 ∧ lim a 4 = x4 ∧ lim a 5 = x5 := by
  rw [split6 hl a ha] at h
  obtain ⟨e0, h⟩ := uniq (lim_range hl a 0) h0 h
  obtain ⟨e1, h⟩ := uniq (lim_range hl a 1) h1 h
  obtain ⟨e2, h⟩ := uniq (lim_range hl a 2) h2 h
  obtain ⟨e3, h⟩ := uniq (lim_range hl a 3) h3 h
  obtain ⟨e4, h⟩ := uniq (lim_range hl a 4) h4 h
  exact ⟨e0, e1, e2, e3, e4, h⟩
theorem carry {x y z : Int} (hx : 0 ≤ x ∧ x < 18446744073709551616) (hy : 0 ≤ y ∧ y < 18446744073709551616) (hz : 0 ≤ z ∧ z ≤ 1) : ∃ o k : Int, o + 18446744073709551616 * k = x + y + z ∧ (0 ≤ o ∧ o < 18446744073709551616) ∧ 0 ≤ k ∧ k ≤ 1 :=
  ⟨(x + y + z) % 18446744073709551616, (x + y + z) / 18446744073709551616, by omega, by omega, by omega⟩
theorem borrow {x y z : Int} (hx : 0 ≤ x ∧ x < 18446744073709551616) (hy : 0 ≤ y ∧ y < 18446744073709551616) (hz : 0 ≤ z ∧ z ≤ 1) : ∃ o k : Int, o - 18446744073709551616 * k = x - y - z ∧ (0 ≤ o ∧ o < 18446744073709551616) ∧ 0 ≤ k ∧ k ≤ 1 :=
  ⟨(x - y - z) % 18446744073709551616, -((x - y - z) / 18446744073709551616), by omega, by omega, by omega⟩
end Go.Proofs.Ytlmlganfjnokiaa
