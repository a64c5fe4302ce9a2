import Derived.Laws.Externs
import Derived.Test.YtmholgclgamnnaaGreatQYT
import Derived.Test.YtmholgclgamnnaaGreatRows
import Derived.WalkKit
import Derived.ProofKit
import Derived.OpenShut
import Derived.ShutString
import Derived.ChangeOld
import Derived.Below
import Derived.Carry
import Derived.SizedLaws
import Derived.ChangeSlices
import Derived.Lib.Mul64
section
set_option linter.unusedVariables false
set_option linter.unusedSimpArgs false
namespace Go.Proofs.YtmholgclgamnnaaGreat
open Go Eng
set_option maxRecDepth 100000
set_option exponentiation.threshold 2000
abbrev Sp (f : FuncId) (As : List AVal) (r : AVal) : Prop := Eng.Spec Tryz.prog f As r
noncomputable def bodyOf (f : Func) : Code := f.body.getD .skip

/-- A contract out of a walk. The arithmetic and the contracts stand behind names, that the walk does not open them. -/
theorem mk {f : FuncId} {fn : Func} {As : List AVal} {r : AVal} (hf : Tryz.prog.funcs[f]? = some fn) (hb : fn.body = some (bodyOf fn)) (hn : (fn.name == "runtime.NumGoroutine") = false) (Nl : Nat → Nat) (tr : Nat → Md)
    (hok : codeOK tr (bodyOf fn) = true) (h : ∀ (A : Ar) (S : SpecT), A = Ar.real → S = specs Tryz.prog → afun A TT S Nl tr fn.ntmps fn.results (bodyOf fn) As (fun x => Sim x r)) : Sp f As r :=
  spec_of_afunK (P := Tryz.prog) (T := TT) TT.ok TT.mixed (draw_ok (P := Tryz.prog) (T := TT) TT.ok) (Sp := specs Tryz.prog) ⟨fun _ _ _ h => h, fun _ _ _ _ _ h => h, fun _ _ _ _ h => h, fun _ => rfl⟩ rfl hf hb hn (N := Nl) (tr := tr) hok (h Ar.real _ rfl rfl) fun _ h => h
theorem mkM {f : FuncId} {fn : Func} {h0 h1 : List Blk} {As : List AVal} {r : AVal} (hf : Tryz.prog.funcs[f]? = some fn) (hb : fn.body = some (bodyOf fn)) (hn : (fn.name == "runtime.NumGoroutine") = false) (Nl : Nat → Nat) (tr : Nat → Md)
    (hok : codeOK tr (bodyOf fn) = true) (h : ∀ (A : Ar) (S : SpecT), A = Ar.real → S = specs Tryz.prog → afunM A TT S Nl tr fn.ntmps fn.results (bodyOf fn) h0 As (fun r' k => r' = r ∧ k = h1)) : SpecM Tryz.prog f h0 As r h1 :=
  specM_of_afunM (P := Tryz.prog) (T := TT) TT.ok TT.mixed (draw_ok (P := Tryz.prog) (T := TT) TT.ok) (Sp := specs Tryz.prog) ⟨fun _ _ _ h => h, fun _ _ _ _ _ h => h, fun _ _ _ _ h => h, fun _ => rfl⟩ rfl hf hb hn (N := Nl) (tr := tr) hok (h Ar.real _ rfl rfl)
theorem mkI {f : FuncId} {fn : Func} {cap : List AVal} {n : Nat} {xs : Nat → List AVal} (hf : Tryz.prog.funcs[f]? = some fn) (hb : fn.body = some (bodyOf fn)) (hn : (fn.name == "runtime.NumGoroutine") = false) (Nl : Nat → Nat) (tr : Nat → Md)
    (hok : codeOK tr (bodyOf fn) = true) (hnr : noRange (bodyOf fn) = true) (h : ∀ (A : Ar) (S : SpecT), A = Ar.real → S.n = n → S.xs = xs → afunI A TT S Nl tr fn.ntmps fn.results (bodyOf fn) S.l cap (fun k => k = ghost n)) : SeqSp Tryz.prog f cap n xs :=
  seq_of_afunI (P := Tryz.prog) (T := TT) TT.ok TT.mixed (draw_ok (P := Tryz.prog) (T := TT) TT.ok) hf hb hn (N := Nl) (tr := tr) hok hnr fun l => h Ar.real { specs Tryz.prog with l := l, n := n, xs := xs, it := true } rfl rfl rfl
theorem cf {S : SpecT} (hS : S = specs Tryz.prog) {f : FuncId} {As : List AVal} {r : AVal} (h : Sp f As r) : S.fn f As r := by subst hS; exact h
theorem cm {S : SpecT} (hS : S = specs Tryz.prog) {f : FuncId} {h0 h1 : List Blk} {As : List AVal} {r : AVal} (h : SpecM Tryz.prog f h0 As r h1) : S.mu f h0 As r h1 := by subst hS; exact h
theorem cs {S : SpecT} (hS : S = specs Tryz.prog) {f : FuncId} {cap : List AVal} {n : Nat} {xs : Nat → List AVal} (h : SeqSp Tryz.prog f cap n xs) : S.seq f cap n xs := by subst hS; exact h
def L0 : Nat → Nat := fun _ => 20
def R0 : Nat → Md := fun _ => .own
def R1 : Nat → Md := fun _ => .mid
/-- A contract whose arguments are told otherwise. -/
theorem cg {S : SpecT} (hS : S = specs Tryz.prog) {f : FuncId} {As As' : List AVal} {r : AVal} (h : Sp f As r) (ha : SimL As' As) : S.fn f As' r := by subst hS; exact Spec.args h ha
theorem cmp_lit {A : Ar} (hA : A = Ar.real) {op : BinOp} {x y : Int} {t : Bool} (h : rcmp op x y = t) : A.cmp op x y = t := by rw [hA]; exact h

/-- A word, known or by a term. -/
inductive IsU : AVal → Int → Prop where
  | i (n : Int) : IsU (.i .u64 n) n
  | s (n : Int) : IsU (.s .u64 n) n
theorem IsU.rep {w : World} {X : Nat → Prop} {ρ : Nat → Option Nat} {v : Value} {x : AVal} {n : Int} (h : Rep w X ρ v x) (hu : IsU x n) : v = .int .u64 n := by
  cases hu with
  | i => exact h.i_inv
  | s => exact h.s_inv

theorem three_args {w : World} {X : Nat → Prop} {vs : List Value} {a b c : AVal} {x y z : Int} (h : RepL w X noρ vs [a, b, c]) (ha : IsU a x) (hb : IsU b y) (hc : IsU c z) : vs = [.int .u64 x, .int .u64 y, .int .u64 z] := by
  cases h with
  | cons h1 h => cases h with
    | cons h2 h => cases h with
      | cons h3 h => cases h with
        | nil => rw [ha.rep h1, hb.rep h2, hc.rep h3]

theorem out_pair {w0 w : World} {X : Nat → Prop} (o k : Int) : OutR w0 w X (.tuple #[.int .u64 o, .int .u64 k]) (.tup [.s .u64 o, .s .u64 k]) :=
  .inl ⟨[], [.int .u64 o, .int .u64 k], _, rfl, rfl, .nil, .tree _ _ (.s _ _) (.tree _ _ (.s _ _) .nil)⟩

theorem add64S {a b c : AVal} {x y z : Int} (ha : IsU a x) (hb : IsU b y) (hc : IsU c z) (hx : 0 ≤ x) (hy : 0 ≤ y) (hz : 0 ≤ z ∧ z ≤ 1) (o k : Int) (h : o + 18446744073709551616 * k = x + y + z) (ho : 0 ≤ o ∧ o < 18446744073709551616) :
    Sp 216 [a, b, c] (.tup [.s .u64 o, .s .u64 k]) := by
  intro X w vs hX hv
  rw [three_args hv ha hb hc]
  unfold CallsX
  rw [run_callFunc_extern Tryz.func216 (by kernel_rfl) (by kernel_rfl) (by kernel_rfl) (e := add64Entry) (by kernel_rfl), run_add64 x y z hx hy hz.1 hz.2]
  simp only [Result.andThen]
  obtain rfl : o = (x + y + z) % 18446744073709551616 := by omega
  obtain rfl : k = (x + y + z) / 18446744073709551616 := by omega
  exact ⟨Ext.refl _ w, out_pair _ _⟩
def sub64E : Array Value → Sem Value := fun args => do
  let (x, y, b) ← Extern.MathBitsCarry.three "Sub64" args
  pure (Extern.MathBitsCarry.pair ((x + Extern.MathBitsCarry.m64 - y - b) % Extern.MathBitsCarry.m64) (if x < y + b then 1 else 0))
theorem run_sub64 {P : Program} (x y b : Nat) (hb : b ≤ 1) (w : World) :
    (sub64E #[.int .u64 x, .int .u64 y, .int .u64 b]).run P w =
      .ok (.tuple #[.int .u64 (((x + 18446744073709551616 - y - b) % 18446744073709551616 : Nat) : Int), .int .u64 ((if x < y + b then 1 else 0 : Nat) : Int)]) w := by
  have : b = 0 ∨ b = 1 := by omega
  rcases this with rfl | rfl <;> rfl
theorem sub64S {a b c : AVal} {x y z : Int} (ha : IsU a x) (hb : IsU b y) (hc : IsU c z) (hx : 0 ≤ x ∧ x < 18446744073709551616) (hy : 0 ≤ y ∧ y < 18446744073709551616) (hz : 0 ≤ z ∧ z ≤ 1) (o k : Int) (h : o - 18446744073709551616 * k = x - y - z) (ho : 0 ≤ o ∧ o < 18446744073709551616) :
    Sp 221 [a, b, c] (.tup [.s .u64 o, .s .u64 k]) := by
  intro X w vs hX hv
  rw [three_args hv ha hb hc]
  unfold CallsX
  obtain ⟨x, rfl⟩ : ∃ n : Nat, x = n := ⟨x.toNat, by omega⟩
  obtain ⟨y, rfl⟩ : ∃ n : Nat, y = n := ⟨y.toNat, by omega⟩
  obtain ⟨z, rfl⟩ : ∃ n : Nat, z = n := ⟨z.toNat, by omega⟩
  rw [run_callFunc_extern Tryz.func221 (by kernel_rfl) (by kernel_rfl) (by kernel_rfl) (e := sub64E) (by kernel_rfl), run_sub64 x y z (by omega)]
  simp only [Result.andThen]
  have h1 : o = (((x + 18446744073709551616 - y - z) % 18446744073709551616 : Nat) : Int) := by omega
  have h2 : k = ((if x < y + z then 1 else 0 : Nat) : Int) := by split <;> omega
  rw [← h1, ← h2]
  exact ⟨Ext.refl _ w, out_pair _ _⟩

/-- A number's words. -/
abbrev Lim := Nat → Nat → Int
def limR : Lim := fun a i => ((a / 2 ^ (64 * i) % 2 ^ 64 : Nat) : Int)
def u4 (lim : Lim) (a : Nat) : AVal := .agg [.s .u64 (lim a 0), .s .u64 (lim a 1), .s .u64 (lim a 2), .s .u64 (lim a 3)]
def u6 (lim : Lim) (a : Nat) : AVal := .agg [.s .u64 (lim a 0), .s .u64 (lim a 1), .s .u64 (lim a 2), .s .u64 (lim a 3), .s .u64 (lim a 4), .s .u64 (lim a 5)]
theorem lim_range {lim : Lim} (hl : lim = limR) (a i : Nat) : 0 ≤ lim a i ∧ lim a i < 18446744073709551616 := by
  subst hl
  unfold limR
  generalize a / 2 ^ (64 * i) = q
  omega
theorem lim_mod {lim : Lim} (hl : lim = limR) (a : Nat) : lim a 0 = ((a % 18446744073709551616 : Nat) : Int) := by subst hl; simp [limR]
theorem lim_succ {lim : Lim} (hl : lim = limR) (a i : Nat) : lim a (i + 1) = lim (a / 18446744073709551616) i := by
  subst hl
  unfold limR
  rw [show 64 * (i + 1) = 64 + 64 * i by omega, Nat.pow_add, ← Nat.div_div_eq_div_mul]
theorem uniq {x y p q : Int} (hx : 0 ≤ x ∧ x < 18446744073709551616) (hy : 0 ≤ y ∧ y < 18446744073709551616) (h : x + 18446744073709551616 * p = y + 18446744073709551616 * q) : x = y ∧ p = q := by omega
theorem split1 {lim : Lim} (hl : lim = limR) (a : Nat) : (a : Int) = lim a 0 + 18446744073709551616 * ((a / 18446744073709551616 : Nat) : Int) := by
  rw [lim_mod hl]; omega
theorem split4 {lim : Lim} (hl : lim = limR) (a : Nat) (ha : a < 2 ^ 256) : (a : Int) = lim a 0 + 18446744073709551616 * (lim a 1 + 18446744073709551616 * (lim a 2 + 18446744073709551616 * lim a 3)) := by
  rw [split1 hl a, lim_succ hl a 0, split1 hl (a / 18446744073709551616), lim_succ hl a 1, lim_succ hl _ 0, split1 hl (a / 18446744073709551616 / 18446744073709551616), lim_succ hl a 2, lim_succ hl _ 1, lim_succ hl _ 0,
    lim_mod hl (a / 18446744073709551616 / 18446744073709551616 / 18446744073709551616), Nat.mod_eq_of_lt (a := a / 18446744073709551616 / 18446744073709551616 / 18446744073709551616)]
  rw [Nat.div_div_eq_div_mul, Nat.div_div_eq_div_mul]
  exact Nat.div_lt_of_lt_mul (by simpa using ha)
theorem split6 {lim : Lim} (hl : lim = limR) (a : Nat) (ha : a < 2 ^ 384) : (a : Int) = lim a 0 + 18446744073709551616 * (lim a 1 + 18446744073709551616 * (lim a 2 + 18446744073709551616 * (lim a 3 + 18446744073709551616 * (lim a 4 + 18446744073709551616 * lim a 5)))) := by
  have h : a / 18446744073709551616 / 18446744073709551616 < 2 ^ 256 := by
    rw [Nat.div_div_eq_div_mul]
    exact Nat.div_lt_of_lt_mul (by simpa using ha)
  have := split4 hl _ h
  rw [split1 hl a, lim_succ hl a 0, split1 hl (a / 18446744073709551616), this]
  simp only [← lim_succ hl]
theorem lim_of4 {lim : Lim} (hl : lim = limR) {a : Nat} (ha : a < 2 ^ 256) {x0 x1 x2 x3 : Int} (h0 : 0 ≤ x0 ∧ x0 < 18446744073709551616) (h1 : 0 ≤ x1 ∧ x1 < 18446744073709551616) (h2 : 0 ≤ x2 ∧ x2 < 18446744073709551616)
    (h : (a : Int) = x0 + 18446744073709551616 * (x1 + 18446744073709551616 * (x2 + 18446744073709551616 * x3))) : lim a 0 = x0 ∧ lim a 1 = x1 ∧ lim a 2 = x2 ∧ lim a 3 = x3 := by
  rw [split4 hl a ha] at h
  obtain ⟨e0, h⟩ := uniq (lim_range hl a 0) h0 h
  obtain ⟨e1, h⟩ := uniq (lim_range hl a 1) h1 h
  obtain ⟨e2, h⟩ := uniq (lim_range hl a 2) h2 h
  exact ⟨e0, e1, e2, h⟩
theorem lim_of6 {lim : Lim} (hl : lim = limR) {a : Nat} (ha : a < 2 ^ 384) {x0 x1 x2 x3 x4 x5 : Int} (h0 : 0 ≤ x0 ∧ x0 < 18446744073709551616) (h1 : 0 ≤ x1 ∧ x1 < 18446744073709551616) (h2 : 0 ≤ x2 ∧ x2 < 18446744073709551616)
    (h3 : 0 ≤ x3 ∧ x3 < 18446744073709551616) (h4 : 0 ≤ x4 ∧ x4 < 18446744073709551616)
    (h : (a : Int) = x0 + 18446744073709551616 * (x1 + 18446744073709551616 * (x2 + 18446744073709551616 * (x3 + 18446744073709551616 * (x4 + 18446744073709551616 * x5))))) : lim a 0 = x0 ∧ lim a 1 = x1 ∧ lim a 2 = x2 ∧ lim a 3 = x3 ∧ lim a 4 = x4 ∧ lim a 5 = x5 := by
  rw [split6 hl a ha] at h
  obtain ⟨e0, h⟩ := uniq (lim_range hl a 0) h0 h
  obtain ⟨e1, h⟩ := uniq (lim_range hl a 1) h1 h
  obtain ⟨e2, h⟩ := uniq (lim_range hl a 2) h2 h
  obtain ⟨e3, h⟩ := uniq (lim_range hl a 3) h3 h
  obtain ⟨e4, h⟩ := uniq (lim_range hl a 4) h4 h
  exact ⟨e0, e1, e2, e3, e4, h⟩
theorem carry {x y z : Int} (hx : 0 ≤ x ∧ x < 18446744073709551616) (hy : 0 ≤ y ∧ y < 18446744073709551616) (hz : 0 ≤ z ∧ z ≤ 1) : ∃ o k : Int, o + 18446744073709551616 * k = x + y + z ∧ (0 ≤ o ∧ o < 18446744073709551616) ∧ 0 ≤ k ∧ k ≤ 1 :=
  ⟨(x + y + z) % 18446744073709551616, (x + y + z) / 18446744073709551616, by omega, by omega, by omega⟩
theorem borrow {x y z : Int} (hx : 0 ≤ x ∧ x < 18446744073709551616) (hy : 0 ≤ y ∧ y < 18446744073709551616) (hz : 0 ≤ z ∧ z ≤ 1) : ∃ o k : Int, o - 18446744073709551616 * k = x - y - z ∧ (0 ≤ o ∧ o < 18446744073709551616) ∧ 0 ≤ k ∧ k ≤ 1 :=
  ⟨(x - y - z) % 18446744073709551616, -((x - y - z) / 18446744073709551616), by omega, by omega, by omega⟩
end Go.Proofs.YtmholgclgamnnaaGreat
end
section
set_option linter.unusedVariables false
set_option linter.unusedSimpArgs false
namespace Go.Proofs.YtmholgclgamnnaaGreat
open Go Eng
set_option maxRecDepth 100000
set_option exponentiation.threshold 2000
theorem own : ownKnob Tryz.prog.godebug = none := by kernel_rfl
theorem laidOut : laidOutB Tryz.prog = true := by kernel_rfl
/-- A law's call, by its contract. -/
theorem calls_of {f : FuncId} {fn : Func} (hf : Tryz.prog.funcs[f]? = some fn) (hb : fn.body.isNone = false) (hn : (fn.name == "runtime.NumGoroutine") = false) {As : List AVal} {W : World} {vs : List Value}
    (hS : Sp f As (.sb true)) (hv : RepL W (fun _ => False) noρ vs As) : Calls Tryz.prog f vs.toArray W fun e W' => e = .returned (.bool true) ∧ Go.RowKit.Below W.heap.size W W' := by
  have h := hS (fun _ => False) W vs (fun _ h => h.elim) hv
  unfold CallsX at h
  rw [callFunc_body hf hn hb] at h
  refine Calls.mono h fun e W' ⟨v, he, hx, ho⟩ => ?_
  have hvb : v = .bool true := by
    rcases ho with ⟨N, vs, xs, _, h2, _⟩ | ⟨N, _, ho⟩
    · cases h2
    · cases ho with
      | tree _ _ hr _ => exact hr.sb_inv
  subst hvb
  exact ⟨he, ⟨hx.os, hx.tape, hx.output, hx.size, fun k hk => hx.block k hk fun h => h⟩⟩
end Go.Proofs.YtmholgclgamnnaaGreat
end
section
set_option linter.unusedVariables false
set_option linter.unusedSimpArgs false
namespace Go.Proofs.YtmholgclgamnnaaGreat
open Go Eng
set_option maxRecDepth 100000
set_option exponentiation.threshold 2000
theorem sum4 {a0 b0 o0 k1 a1 b1 o1 k2 a2 b2 o2 k3 a3 b3 o3 k4 : Int} {a b o k : Nat} (sa : (a : Int) = a0 + 18446744073709551616 * (a1 + 18446744073709551616 * (a2 + 18446744073709551616 * (a3)))) (sb : (b : Int) = b0 + 18446744073709551616 * (b1 + 18446744073709551616 * (b2 + 18446744073709551616 * (b3)))) (h : o + 2 ^ 256 * k = a + b) (ho : o < 2 ^ 256)
    (e0 : o0 + 18446744073709551616 * k1 = a0 + b0 + 0) (e1 : o1 + 18446744073709551616 * k2 = a1 + b1 + k1) (e2 : o2 + 18446744073709551616 * k3 = a2 + b2 + k2) (e3 : o3 + 18446744073709551616 * k4 = a3 + b3 + k3) (r0 : 0 ≤ o0 ∧ o0 < 18446744073709551616) (r1 : 0 ≤ o1 ∧ o1 < 18446744073709551616) (r2 : 0 ≤ o2 ∧ o2 < 18446744073709551616) (r3 : 0 ≤ o3 ∧ o3 < 18446744073709551616) :
    (o : Int) = o0 + 18446744073709551616 * (o1 + 18446744073709551616 * (o2 + 18446744073709551616 * (o3))) ∧ (k : Int) = k4 := by
  have hh : (o : Int) + 115792089237316195423570985008687907853269984665640564039457584007913129639936 * (k : Int) = (a : Int) + (b : Int) := by omega
  have ho' : (o : Int) < 115792089237316195423570985008687907853269984665640564039457584007913129639936 := by omega
  have ho2 : (0 : Int) ≤ o := by omega
  clear h ho
  rw [sa, sb] at hh
  clear sa sb
  omega
theorem dif4 {a0 b0 o0 k1 a1 b1 o1 k2 a2 b2 o2 k3 a3 b3 o3 k4 : Int} {a b o k : Nat} (sa : (a : Int) = a0 + 18446744073709551616 * (a1 + 18446744073709551616 * (a2 + 18446744073709551616 * (a3)))) (sb : (b : Int) = b0 + 18446744073709551616 * (b1 + 18446744073709551616 * (b2 + 18446744073709551616 * (b3)))) (h : o + b = a + 2 ^ 256 * k) (ho : o < 2 ^ 256)
    (e0 : o0 - 18446744073709551616 * k1 = a0 - b0 - 0) (e1 : o1 - 18446744073709551616 * k2 = a1 - b1 - k1) (e2 : o2 - 18446744073709551616 * k3 = a2 - b2 - k2) (e3 : o3 - 18446744073709551616 * k4 = a3 - b3 - k3) (r0 : 0 ≤ o0 ∧ o0 < 18446744073709551616) (r1 : 0 ≤ o1 ∧ o1 < 18446744073709551616) (r2 : 0 ≤ o2 ∧ o2 < 18446744073709551616) (r3 : 0 ≤ o3 ∧ o3 < 18446744073709551616) :
    (o : Int) = o0 + 18446744073709551616 * (o1 + 18446744073709551616 * (o2 + 18446744073709551616 * (o3))) ∧ (k : Int) = k4 := by
  have hh : (o : Int) + (b : Int) = (a : Int) + 115792089237316195423570985008687907853269984665640564039457584007913129639936 * (k : Int) := by omega
  have ho' : (o : Int) < 115792089237316195423570985008687907853269984665640564039457584007913129639936 := by omega
  have ho2 : (0 : Int) ≤ o := by omega
  clear h ho
  rw [sa, sb] at hh
  clear sa sb
  omega
theorem plus4 {lim : Lim} (hl : lim = limR) (a b o k : Nat) (ha : a < 2 ^ 256) (hb : b < 2 ^ 256) (h : o + 2 ^ 256 * k = a + b) (ho : o < 2 ^ 256) :
    Sp 209 [u4 lim a, u4 lim b] (.tup [u4 lim o, .s .u64 k]) := by
  have la := fun i => lim_range hl a i
  have lb := fun i => lim_range hl b i
  obtain ⟨o0, k1, e0, r0, q1⟩ := carry (la 0) (lb 0) (z := 0) (by omega)
  obtain ⟨o1, k2, e1, r1, q2⟩ := carry (la 1) (lb 1) q1
  obtain ⟨o2, k3, e2, r2, q3⟩ := carry (la 2) (lb 2) q2
  obtain ⟨o3, k4, e3, r3, q4⟩ := carry (la 3) (lb 3) q3
  have hs := sum4 (split4 hl a ha) (split4 hl b hb) h ho e0 e1 e2 e3 r0 r1 r2 r3
  have hf := lim_of4 hl ho r0 r1 r2 hs.1
  refine mk Tryz.func209 rfl rfl L0 R0 (by decide +kernel) fun A S hA hS => ?_
  unfold bodyOf Tryz.f209
  cbv
  refine ACall.mk (.tup [.s .u64 o0, .s .u64 k1]) (cf hS (add64S (.s _) (.s _) (.i _) (la 0).1 (lb 0).1 (by omega) _ _ e0 r0)) ?_
  cbv
  refine ACall.mk (.tup [.s .u64 o1, .s .u64 k2]) (cf hS (add64S (.s _) (.s _) (.s _) (la 1).1 (lb 1).1 q1 _ _ e1 r1)) ?_
  cbv
  refine ACall.mk (.tup [.s .u64 o2, .s .u64 k3]) (cf hS (add64S (.s _) (.s _) (.s _) (la 2).1 (lb 2).1 q2 _ _ e2 r2)) ?_
  cbv
  refine ACall.mk (.tup [.s .u64 o3, .s .u64 k4]) (cf hS (add64S (.s _) (.s _) (.s _) (la 3).1 (lb 3).1 q3 _ _ e3 r3)) ?_
  cbv
  obtain ⟨f0, f1, f2, f3⟩ := hf
  exact ⟨⟨f0.symm, f1.symm, f2.symm, f3.symm⟩, hs.2.symm⟩
theorem minus4 {lim : Lim} (hl : lim = limR) (a b o k : Nat) (ha : a < 2 ^ 256) (hb : b < 2 ^ 256) (h : o + b = a + 2 ^ 256 * k) (ho : o < 2 ^ 256) :
    Sp 210 [u4 lim a, u4 lim b] (.tup [u4 lim o, .s .u64 k]) := by
  have la := fun i => lim_range hl a i
  have lb := fun i => lim_range hl b i
  obtain ⟨o0, k1, e0, r0, q1⟩ := borrow (la 0) (lb 0) (z := 0) (by omega)
  obtain ⟨o1, k2, e1, r1, q2⟩ := borrow (la 1) (lb 1) q1
  obtain ⟨o2, k3, e2, r2, q3⟩ := borrow (la 2) (lb 2) q2
  obtain ⟨o3, k4, e3, r3, q4⟩ := borrow (la 3) (lb 3) q3
  have hs := dif4 (split4 hl a ha) (split4 hl b hb) h ho e0 e1 e2 e3 r0 r1 r2 r3
  have hf := lim_of4 hl ho r0 r1 r2 hs.1
  refine mk Tryz.func210 rfl rfl L0 R0 (by decide +kernel) fun A S hA hS => ?_
  unfold bodyOf Tryz.f210
  cbv
  refine ACall.mk (.tup [.s .u64 o0, .s .u64 k1]) (cf hS (sub64S (.s _) (.s _) (.i _) (la 0) (lb 0) (by omega) _ _ e0 r0)) ?_
  cbv
  refine ACall.mk (.tup [.s .u64 o1, .s .u64 k2]) (cf hS (sub64S (.s _) (.s _) (.s _) (la 1) (lb 1) q1 _ _ e1 r1)) ?_
  cbv
  refine ACall.mk (.tup [.s .u64 o2, .s .u64 k3]) (cf hS (sub64S (.s _) (.s _) (.s _) (la 2) (lb 2) q2 _ _ e2 r2)) ?_
  cbv
  refine ACall.mk (.tup [.s .u64 o3, .s .u64 k4]) (cf hS (sub64S (.s _) (.s _) (.s _) (la 3) (lb 3) q3 _ _ e3 r3)) ?_
  cbv
  obtain ⟨f0, f1, f2, f3⟩ := hf
  exact ⟨⟨f0.symm, f1.symm, f2.symm, f3.symm⟩, hs.2.symm⟩
theorem sum6 {a0 b0 o0 k1 a1 b1 o1 k2 a2 b2 o2 k3 a3 b3 o3 k4 a4 b4 o4 k5 a5 b5 o5 k6 : Int} {a b o k : Nat} (sa : (a : Int) = a0 + 18446744073709551616 * (a1 + 18446744073709551616 * (a2 + 18446744073709551616 * (a3 + 18446744073709551616 * (a4 + 18446744073709551616 * (a5)))))) (sb : (b : Int) = b0 + 18446744073709551616 * (b1 + 18446744073709551616 * (b2 + 18446744073709551616 * (b3 + 18446744073709551616 * (b4 + 18446744073709551616 * (b5)))))) (h : o + 2 ^ 384 * k = a + b) (ho : o < 2 ^ 384)
    (e0 : o0 + 18446744073709551616 * k1 = a0 + b0 + 0) (e1 : o1 + 18446744073709551616 * k2 = a1 + b1 + k1) (e2 : o2 + 18446744073709551616 * k3 = a2 + b2 + k2) (e3 : o3 + 18446744073709551616 * k4 = a3 + b3 + k3) (e4 : o4 + 18446744073709551616 * k5 = a4 + b4 + k4) (e5 : o5 + 18446744073709551616 * k6 = a5 + b5 + k5) (r0 : 0 ≤ o0 ∧ o0 < 18446744073709551616) (r1 : 0 ≤ o1 ∧ o1 < 18446744073709551616) (r2 : 0 ≤ o2 ∧ o2 < 18446744073709551616) (r3 : 0 ≤ o3 ∧ o3 < 18446744073709551616) (r4 : 0 ≤ o4 ∧ o4 < 18446744073709551616) (r5 : 0 ≤ o5 ∧ o5 < 18446744073709551616) :
    (o : Int) = o0 + 18446744073709551616 * (o1 + 18446744073709551616 * (o2 + 18446744073709551616 * (o3 + 18446744073709551616 * (o4 + 18446744073709551616 * (o5))))) ∧ (k : Int) = k6 := by
  have hh : (o : Int) + 39402006196394479212279040100143613805079739270465446667948293404245721771497210611414266254884915640806627990306816 * (k : Int) = (a : Int) + (b : Int) := by omega
  have ho' : (o : Int) < 39402006196394479212279040100143613805079739270465446667948293404245721771497210611414266254884915640806627990306816 := by omega
  have ho2 : (0 : Int) ≤ o := by omega
  clear h ho
  rw [sa, sb] at hh
  clear sa sb
  omega
theorem dif6 {a0 b0 o0 k1 a1 b1 o1 k2 a2 b2 o2 k3 a3 b3 o3 k4 a4 b4 o4 k5 a5 b5 o5 k6 : Int} {a b o k : Nat} (sa : (a : Int) = a0 + 18446744073709551616 * (a1 + 18446744073709551616 * (a2 + 18446744073709551616 * (a3 + 18446744073709551616 * (a4 + 18446744073709551616 * (a5)))))) (sb : (b : Int) = b0 + 18446744073709551616 * (b1 + 18446744073709551616 * (b2 + 18446744073709551616 * (b3 + 18446744073709551616 * (b4 + 18446744073709551616 * (b5)))))) (h : o + b = a + 2 ^ 384 * k) (ho : o < 2 ^ 384)
    (e0 : o0 - 18446744073709551616 * k1 = a0 - b0 - 0) (e1 : o1 - 18446744073709551616 * k2 = a1 - b1 - k1) (e2 : o2 - 18446744073709551616 * k3 = a2 - b2 - k2) (e3 : o3 - 18446744073709551616 * k4 = a3 - b3 - k3) (e4 : o4 - 18446744073709551616 * k5 = a4 - b4 - k4) (e5 : o5 - 18446744073709551616 * k6 = a5 - b5 - k5) (r0 : 0 ≤ o0 ∧ o0 < 18446744073709551616) (r1 : 0 ≤ o1 ∧ o1 < 18446744073709551616) (r2 : 0 ≤ o2 ∧ o2 < 18446744073709551616) (r3 : 0 ≤ o3 ∧ o3 < 18446744073709551616) (r4 : 0 ≤ o4 ∧ o4 < 18446744073709551616) (r5 : 0 ≤ o5 ∧ o5 < 18446744073709551616) :
    (o : Int) = o0 + 18446744073709551616 * (o1 + 18446744073709551616 * (o2 + 18446744073709551616 * (o3 + 18446744073709551616 * (o4 + 18446744073709551616 * (o5))))) ∧ (k : Int) = k6 := by
  have hh : (o : Int) + (b : Int) = (a : Int) + 39402006196394479212279040100143613805079739270465446667948293404245721771497210611414266254884915640806627990306816 * (k : Int) := by omega
  have ho' : (o : Int) < 39402006196394479212279040100143613805079739270465446667948293404245721771497210611414266254884915640806627990306816 := by omega
  have ho2 : (0 : Int) ≤ o := by omega
  clear h ho
  rw [sa, sb] at hh
  clear sa sb
  omega
theorem plus6 {lim : Lim} (hl : lim = limR) (a b o k : Nat) (ha : a < 2 ^ 384) (hb : b < 2 ^ 384) (h : o + 2 ^ 384 * k = a + b) (ho : o < 2 ^ 384) :
    Sp 193 [u6 lim a, u6 lim b] (.tup [u6 lim o, .s .u64 k]) := by
  have la := fun i => lim_range hl a i
  have lb := fun i => lim_range hl b i
  obtain ⟨o0, k1, e0, r0, q1⟩ := carry (la 0) (lb 0) (z := 0) (by omega)
  obtain ⟨o1, k2, e1, r1, q2⟩ := carry (la 1) (lb 1) q1
  obtain ⟨o2, k3, e2, r2, q3⟩ := carry (la 2) (lb 2) q2
  obtain ⟨o3, k4, e3, r3, q4⟩ := carry (la 3) (lb 3) q3
  obtain ⟨o4, k5, e4, r4, q5⟩ := carry (la 4) (lb 4) q4
  obtain ⟨o5, k6, e5, r5, q6⟩ := carry (la 5) (lb 5) q5
  have hs := sum6 (split6 hl a ha) (split6 hl b hb) h ho e0 e1 e2 e3 e4 e5 r0 r1 r2 r3 r4 r5
  have hf := lim_of6 hl ho r0 r1 r2 r3 r4 hs.1
  refine mk Tryz.func193 rfl rfl L0 R0 (by decide +kernel) fun A S hA hS => ?_
  unfold bodyOf Tryz.f193
  cbv
  refine ACall.mk (.tup [.s .u64 o0, .s .u64 k1]) (cf hS (add64S (.s _) (.s _) (.i _) (la 0).1 (lb 0).1 (by omega) _ _ e0 r0)) ?_
  cbv
  refine ACall.mk (.tup [.s .u64 o1, .s .u64 k2]) (cf hS (add64S (.s _) (.s _) (.s _) (la 1).1 (lb 1).1 q1 _ _ e1 r1)) ?_
  cbv
  refine ACall.mk (.tup [.s .u64 o2, .s .u64 k3]) (cf hS (add64S (.s _) (.s _) (.s _) (la 2).1 (lb 2).1 q2 _ _ e2 r2)) ?_
  cbv
  refine ACall.mk (.tup [.s .u64 o3, .s .u64 k4]) (cf hS (add64S (.s _) (.s _) (.s _) (la 3).1 (lb 3).1 q3 _ _ e3 r3)) ?_
  cbv
  refine ACall.mk (.tup [.s .u64 o4, .s .u64 k5]) (cf hS (add64S (.s _) (.s _) (.s _) (la 4).1 (lb 4).1 q4 _ _ e4 r4)) ?_
  cbv
  refine ACall.mk (.tup [.s .u64 o5, .s .u64 k6]) (cf hS (add64S (.s _) (.s _) (.s _) (la 5).1 (lb 5).1 q5 _ _ e5 r5)) ?_
  cbv
  obtain ⟨f0, f1, f2, f3, f4, f5⟩ := hf
  exact ⟨⟨f0.symm, f1.symm, f2.symm, f3.symm, f4.symm, f5.symm⟩, hs.2.symm⟩
theorem minus6 {lim : Lim} (hl : lim = limR) (a b o k : Nat) (ha : a < 2 ^ 384) (hb : b < 2 ^ 384) (h : o + b = a + 2 ^ 384 * k) (ho : o < 2 ^ 384) :
    Sp 200 [u6 lim a, u6 lim b] (.tup [u6 lim o, .s .u64 k]) := by
  have la := fun i => lim_range hl a i
  have lb := fun i => lim_range hl b i
  obtain ⟨o0, k1, e0, r0, q1⟩ := borrow (la 0) (lb 0) (z := 0) (by omega)
  obtain ⟨o1, k2, e1, r1, q2⟩ := borrow (la 1) (lb 1) q1
  obtain ⟨o2, k3, e2, r2, q3⟩ := borrow (la 2) (lb 2) q2
  obtain ⟨o3, k4, e3, r3, q4⟩ := borrow (la 3) (lb 3) q3
  obtain ⟨o4, k5, e4, r4, q5⟩ := borrow (la 4) (lb 4) q4
  obtain ⟨o5, k6, e5, r5, q6⟩ := borrow (la 5) (lb 5) q5
  have hs := dif6 (split6 hl a ha) (split6 hl b hb) h ho e0 e1 e2 e3 e4 e5 r0 r1 r2 r3 r4 r5
  have hf := lim_of6 hl ho r0 r1 r2 r3 r4 hs.1
  refine mk Tryz.func200 rfl rfl L0 R0 (by decide +kernel) fun A S hA hS => ?_
  unfold bodyOf Tryz.f200
  cbv
  refine ACall.mk (.tup [.s .u64 o0, .s .u64 k1]) (cf hS (sub64S (.s _) (.s _) (.i _) (la 0) (lb 0) (by omega) _ _ e0 r0)) ?_
  cbv
  refine ACall.mk (.tup [.s .u64 o1, .s .u64 k2]) (cf hS (sub64S (.s _) (.s _) (.s _) (la 1) (lb 1) q1 _ _ e1 r1)) ?_
  cbv
  refine ACall.mk (.tup [.s .u64 o2, .s .u64 k3]) (cf hS (sub64S (.s _) (.s _) (.s _) (la 2) (lb 2) q2 _ _ e2 r2)) ?_
  cbv
  refine ACall.mk (.tup [.s .u64 o3, .s .u64 k4]) (cf hS (sub64S (.s _) (.s _) (.s _) (la 3) (lb 3) q3 _ _ e3 r3)) ?_
  cbv
  refine ACall.mk (.tup [.s .u64 o4, .s .u64 k5]) (cf hS (sub64S (.s _) (.s _) (.s _) (la 4) (lb 4) q4 _ _ e4 r4)) ?_
  cbv
  refine ACall.mk (.tup [.s .u64 o5, .s .u64 k6]) (cf hS (sub64S (.s _) (.s _) (.s _) (la 5) (lb 5) q5 _ _ e5 r5)) ?_
  cbv
  obtain ⟨f0, f1, f2, f3, f4, f5⟩ := hf
  exact ⟨⟨f0.symm, f1.symm, f2.symm, f3.symm, f4.symm, f5.symm⟩, hs.2.symm⟩
end Go.Proofs.YtmholgclgamnnaaGreat
end
section
set_option linter.unusedVariables false
set_option linter.unusedSimpArgs false
namespace Go.Proofs.YtmholgclgamnnaaGreat
open Go Eng
set_option maxRecDepth 100000
set_option exponentiation.threshold 2000

theorem shr32 (a : Nat) : rbin .shr .u64 (Int.ofNat a) 32 = Int.ofNat (a / 4294967296) := u_shr a 32 (by omega)
theorem and32 (a : Nat) (ha : a < 18446744073709551616) : rbin .and .u64 (Int.ofNat a) 4294967295 = Int.ofNat (a % 4294967296) := u_mask a 32 (by omega) ha

theorem mul64S (x y hi lo : Nat) (hx : x < 2 ^ 64) (hy : y < 2 ^ 64) (h : lo + 2 ^ 64 * hi = x * y) (hlo : lo < 2 ^ 64) : Sp 229 [.s .u64 x, .s .u64 y] (.tup [.s .u64 hi, .s .u64 lo]) := by
  refine mk Tryz.func229 rfl rfl L0 R0 (by decide +kernel) fun A S hA hS => ?_
  unfold bodyOf Tryz.f229
  cbv
  subst hA
  dsimp only [Ar.real]
  clear hS S
  obtain ⟨h1, h2, h3, h4⟩ := Go.Lib.mul64_hi x y (by simpa using hx) (by simpa using hy)
  have ex : x * y % 18446744073709551616 = lo := by omega
  have eh : x * y / 18446744073709551616 = hi := by omega
  have ha := Go.Lib.half_mul_le (a := x / 4294967296) (b := y / 4294967296) (by omega) (by omega)
  have hb := Go.Lib.half_mul_le (a := x / 4294967296) (b := y % 4294967296) (by omega) (by omega)
  have hc := Go.Lib.half_mul_le (a := x % 4294967296) (b := y / 4294967296) (by omega) (by omega)
  have hd := Go.Lib.half_mul_le (a := x % 4294967296) (b := y % 4294967296) (by omega) (by omega)
  rw [and32 x (by simpa using hx), and32 y (by simpa using hy)]
  simp only [shr32, u_mul]
  rw [Nat.mod_eq_of_lt (show x / 4294967296 * (y / 4294967296) < _ by omega), Nat.mod_eq_of_lt (show x / 4294967296 * (y % 4294967296) < _ by omega), Nat.mod_eq_of_lt (show x % 4294967296 * (y / 4294967296) < _ by omega), Nat.mod_eq_of_lt h1]
  simp only [shr32, u_add]
  rw [Nat.mod_eq_of_lt h2, and32 _ h2]
  simp only [shr32, u_add]
  rw [Nat.mod_eq_of_lt h3, ex]
  rw [← Nat.add_mod_mod, Nat.add_mod_mod] at *
  rw [Nat.mod_add_mod, h4, eh, Nat.mod_eq_of_lt (by omega)]
  exact ⟨rfl, rfl⟩
theorem less_dif {n a b d : Nat} (ha : a < n) (hb : b < n) (t : Bool) (ht : t = decide (a < b)) (hd : d = if a < b then a + n - b else a - b) : ∃ k : Nat, d + b = a + n * k ∧ d < n ∧ k = (if t then 1 else 0) := by
  by_cases h : a < b
  · rw [if_pos h] at hd
    rw [ht, decide_eq_true h]
    exact ⟨1, by omega, by omega, rfl⟩
  · rw [if_neg h] at hd
    rw [ht, decide_eq_false h]
    exact ⟨0, by omega, by omega, rfl⟩
theorem less4S {lim : Lim} (hl : lim = limR) (a b : Nat) (ha : a < 2 ^ 256) (hb : b < 2 ^ 256) (t : Bool) (ht : t = decide (a < b)) : Sp 180 [u4 lim a, u4 lim b] (.sb t) := by
  obtain ⟨d, hd⟩ : ∃ d, d = if a < b then a + 2 ^ 256 - b else a - b := ⟨_, rfl⟩
  obtain ⟨k, h1, h2, h3⟩ := less_dif ha hb t ht hd
  refine mk Tryz.func180 rfl rfl L0 R0 (by decide +kernel) fun A S hA hS => ?_
  unfold bodyOf Tryz.f180
  cbv
  refine ACall.mk (.tup [u4 lim d, .s .u64 k]) (cf hS (minus4 hl a b d k ha hb h1 h2)) ?_
  cbv
  subst hA
  cases t <;> simp at h3 <;> subst h3 <;> rfl
theorem none4S : Sp 169 [] (.agg [.i .u64 0, .i .u64 0, .i .u64 0, .i .u64 0]) := by
  refine mk Tryz.func169 rfl rfl L0 R0 (by decide +kernel) fun A S hA hS => ?_
  unfold bodyOf Tryz.f169
  cbv
theorem less6S {lim : Lim} (hl : lim = limR) (a b : Nat) (ha : a < 2 ^ 384) (hb : b < 2 ^ 384) (t : Bool) (ht : t = decide (a < b)) : Sp 160 [u6 lim a, u6 lim b] (.sb t) := by
  obtain ⟨d, hd⟩ : ∃ d, d = if a < b then a + 2 ^ 384 - b else a - b := ⟨_, rfl⟩
  obtain ⟨k, h1, h2, h3⟩ := less_dif ha hb t ht hd
  refine mk Tryz.func160 rfl rfl L0 R0 (by decide +kernel) fun A S hA hS => ?_
  unfold bodyOf Tryz.f160
  cbv
  refine ACall.mk (.tup [u6 lim d, .s .u64 k]) (cf hS (minus6 hl a b d k ha hb h1 h2)) ?_
  cbv
  subst hA
  cases t <;> simp at h3 <;> subst h3 <;> rfl
theorem none6S : Sp 153 [] (.agg [.i .u64 0, .i .u64 0, .i .u64 0, .i .u64 0, .i .u64 0, .i .u64 0]) := by
  refine mk Tryz.func153 rfl rfl L0 R0 (by decide +kernel) fun A S hA hS => ?_
  unfold bodyOf Tryz.f153
  cbv
/-- x y and two more. -/
theorem stepN {Z C : AVal} (x y z c hi lo : Nat) (hx : x < 18446744073709551616) (hy : y < 18446744073709551616) (hz : z < 18446744073709551616) (hc : c < 18446744073709551616) (hZ : IsU Z z) (hC : IsU C c)
    (h : lo + 18446744073709551616 * hi = x * y + z + c) (hlo : lo < 18446744073709551616) : Sp 222 [.s .u64 x, .s .u64 y, Z, C] (.tup [.s .u64 hi, .s .u64 lo]) := by
  have hxy : x * y ≤ 18446744073709551615 * 18446744073709551615 := Nat.mul_le_mul (by omega) (by omega)
  obtain ⟨p, hp⟩ : ∃ p, p = x * y := ⟨_, rfl⟩
  rw [← hp] at hxy h
  obtain ⟨h0, eh0⟩ : ∃ n, n = p / 18446744073709551616 := ⟨_, rfl⟩
  obtain ⟨l0, el0⟩ : ∃ n, n = p % 18446744073709551616 := ⟨_, rfl⟩
  obtain ⟨l1, k1, e1, r1, q1⟩ := carry (x := l0) (y := z) (z := 0) (by omega) (by omega) (by omega)
  obtain ⟨l2, k2, e2, r2, q2⟩ := carry (x := l1) (y := c) (z := 0) r1 (by omega) (by omega)
  obtain ⟨k1, rfl⟩ : ∃ n : Nat, k1 = n := ⟨k1.toNat, by omega⟩
  obtain ⟨k2, rfl⟩ : ∃ n : Nat, k2 = n := ⟨k2.toNat, by omega⟩
  have hm := mul64S x y h0 l0 (by omega) (by omega) (by omega) (by omega)
  have hfin : l2 = lo ∧ h0 + k1 + k2 = hi := by omega
  have hhi : h0 + k1 + k2 < 18446744073709551616 := by omega
  clear eh0 el0 hxy h
  cases hZ <;> cases hC
  all_goals
    refine mk Tryz.func222 rfl rfl L0 R0 (by decide +kernel) fun A S hA hS => ?_
    unfold bodyOf Tryz.f222
    cbv
    refine ACall.mk (.tup [.s .u64 h0, .s .u64 l0]) (cf hS hm) ?_
    cbv
    refine ACall.mk (.tup [.s .u64 l1, .s .u64 k1]) (cf hS (add64S (.s _) (by first | exact .i _ | exact .s _) (.i _) (by exact Int.natCast_nonneg _) (by exact Int.natCast_nonneg _) (by omega) _ _ e1 r1)) ?_
    cbv
    refine ACall.mk (.tup [.s .u64 l2, .s .u64 k2]) (cf hS (add64S (.s _) (by first | exact .i _ | exact .s _) (.i _) r1.1 (by exact Int.natCast_nonneg _) (by omega) _ _ e2 r2)) ?_
    cbv
    subst hA
    dsimp only [Ar.real]
    rw [u_add, u_add, Nat.mod_eq_of_lt (by omega), Nat.mod_eq_of_lt (by omega), hfin.2, hfin.1]
    exact ⟨rfl, rfl⟩
theorem stepS {Z C : AVal} (x y z c hi lo : Int) (hx : 0 ≤ x ∧ x < 18446744073709551616) (hy : 0 ≤ y ∧ y < 18446744073709551616) (hz : 0 ≤ z ∧ z < 18446744073709551616) (hc : 0 ≤ c ∧ c < 18446744073709551616) (hZ : IsU Z z) (hC : IsU C c)
    (h : lo + 18446744073709551616 * hi = x * y + z + c) (hlo : 0 ≤ lo ∧ lo < 18446744073709551616) : Sp 222 [.s .u64 x, .s .u64 y, Z, C] (.tup [.s .u64 hi, .s .u64 lo]) := by
  obtain ⟨x, rfl⟩ : ∃ n : Nat, x = n := ⟨x.toNat, by omega⟩
  obtain ⟨y, rfl⟩ : ∃ n : Nat, y = n := ⟨y.toNat, by omega⟩
  obtain ⟨z, rfl⟩ : ∃ n : Nat, z = n := ⟨z.toNat, by omega⟩
  obtain ⟨c, rfl⟩ : ∃ n : Nat, c = n := ⟨c.toNat, by omega⟩
  obtain ⟨lo, rfl⟩ : ∃ n : Nat, lo = n := ⟨lo.toNat, by omega⟩
  have hxy : (0 : Int) ≤ (x : Int) * (y : Int) := Int.mul_nonneg (by omega) (by omega)
  obtain ⟨hi, rfl⟩ : ∃ n : Nat, hi = n := ⟨hi.toNat, by omega⟩
  refine stepN x y z c hi lo (by omega) (by omega) (by omega) (by omega) hZ hC ?_ (by omega)
  rw [← Int.natCast_mul] at h
  omega
theorem steps {x y z c : Int} (hx : 0 ≤ x ∧ x < 18446744073709551616) (hy : 0 ≤ y ∧ y < 18446744073709551616) (hz : 0 ≤ z ∧ z < 18446744073709551616) (hc : 0 ≤ c ∧ c < 18446744073709551616) :
    ∃ lo hi : Int, lo + 18446744073709551616 * hi = x * y + z + c ∧ (0 ≤ lo ∧ lo < 18446744073709551616) ∧ 0 ≤ hi ∧ hi < 18446744073709551616 := by
  have h1 : (0 : Int) ≤ x * y := Int.mul_nonneg hx.1 hy.1
  have h2 : x * y ≤ 18446744073709551615 * 18446744073709551615 := Int.mul_le_mul (by omega) (by omega) hy.1 (by omega)
  obtain ⟨p, hp⟩ : ∃ p, p = x * y := ⟨_, rfl⟩
  rw [← hp] at h1 h2 ⊢
  exact ⟨(p + z + c) % 18446744073709551616, (p + z + c) / 18446744073709551616, by omega, by omega, by omega, by omega⟩
end Go.Proofs.YtmholgclgamnnaaGreat
end
