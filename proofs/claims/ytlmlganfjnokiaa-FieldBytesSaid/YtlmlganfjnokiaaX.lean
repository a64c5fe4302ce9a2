import Derived.Test.YtlmlganfjnokiaaB
import Derived.Test.YtlmlganfjnokiaaRows
import Derived.WalkKit
import Derived.ProofKit
import Derived.OpenShut
import Derived.ShutString
import Derived.ChangeOld
import Derived.Below
import Derived.Carry
import Derived.SizedLaws
import Derived.ChangeSlices
set_option linter.unusedVariables false
set_option linter.unusedSimpArgs false
namespace Go.Proofs.Ytlmlganfjnokiaa
open Go Eng
set_option maxRecDepth 100000
set_option exponentiation.threshold 2000
theorem own : ownKnob Try.prog.godebug = none := by kernel_rfl
theorem laidOut : laidOutB Try.prog = true := by kernel_rfl
/-- A law's call, by its contract. -/
theorem calls_of {f : FuncId} {fn : Func} (hf : Try.prog.funcs[f]? = some fn) (hb : fn.body.isNone = false) (hn : (fn.name == "runtime.NumGoroutine") = false) {As : List AVal} {W : World} {vs : List Value}
    (hS : Sp f As (.sb true)) (hv : RepL W (fun _ => False) noρ vs As) : Calls Try.prog f vs.toArray W fun e W' => e = .returned (.bool true) ∧ Go.RowKit.Below W.heap.size W W' := by
  have h := hS (fun _ => False) W vs (fun _ h => h.elim) hv
  unfold CallsX at h
  rw [callFunc_body hf hn hb] at h
  refine Calls.mono h fun e W' ⟨v, he, hx, ho⟩ => ?_
  have hvb : v = .bool true := by
    rcases ho with ⟨N, vs, xs, _, h2, _⟩ | ⟨N, _, ho⟩
    · cases h2
    · cases ho with
      | tree _ _ hr _ => exact hr.sb_inv
  subst hvb
  exact ⟨he, ⟨hx.os, hx.tape, hx.output, hx.size, fun k hk => hx.block k hk fun h => h⟩⟩
/-- An argument of words alone. -/
theorem open_words {W : World} {base : Nat} {t : TypeId} {n : Nat} {e : TypeId} {v : Value} (hu : Try.prog.underlying t = some (.array n e)) (hts : Try.prog.cellTypes Try.prog.depth t = some (List.replicate n e))
    (he : Try.prog.underlying e = some (.int .u64)) (hsz : Try.prog.cellsOf t = n) (h : Value.okWide Try.prog W .any base t v) : ∃ zs : List Int, v = .agg (zs.map (Value.int .u64)).toArray ∧ zs.length = n ∧ ∀ z ∈ zs, 0 ≤ z ∧ z < 18446744073709551616 := by
  unfold Value.okWide at h
  rw [hu] at h
  obtain ⟨cs, rfl, hcs, ts, h1, ⟨k, hk⟩, h2⟩ := h
  rw [hts] at h1
  cases h1
  rw [List.length_replicate] at h2
  rw [hsz] at hcs
  have each : ∀ (i : Nat) (v : Value), cs[i]? = some v → ∃ z : Int, v = .int .u64 z ∧ 0 ≤ z ∧ z < 18446744073709551616 := by
    intro i v hi
    obtain ⟨u, hu1, hu2⟩ := h2 i v hi
    have hue : u = e := by
      rw [List.getElem?_replicate] at hu1
      split at hu1
      · cases hu1; rfl
      · cases hu1
    subst hue
    unfold Cell.okWide at hu2
    rw [he] at hu2
    unfold Cell.ok at hu2
    rw [he] at hu2
    cases v <;> simp only at hu2 <;> try (exact hu2.elim)
    rename_i k' z
    obtain ⟨rfl, hz⟩ := hu2
    have h3 : (0 : Int) ≤ z ∧ z ≤ 18446744073709551615 := hz
    exact ⟨z, rfl, h3.1, by omega⟩
  have key : ∀ (l : List Value), (∀ (i : Nat) (v : Value), l[i]? = some v → ∃ z : Int, v = .int .u64 z ∧ 0 ≤ z ∧ z < 18446744073709551616) → ∃ zs : List Int, l = zs.map (Value.int .u64) ∧ ∀ z ∈ zs, 0 ≤ z ∧ z < 18446744073709551616 := by
    intro l
    induction l with
    | nil => intro _; exact ⟨[], rfl, fun _ h => by cases h⟩
    | cons x l ih =>
      intro hl
      obtain ⟨z, rfl, hz⟩ := hl 0 x rfl
      obtain ⟨zs, rfl, hzs⟩ := ih fun i v hi => hl (i + 1) v (by simpa using hi)
      exact ⟨z :: zs, rfl, fun y hy => by
        rcases List.mem_cons.1 hy with rfl | hy
        · exact hz
        · exact hzs y hy⟩
  obtain ⟨zs, h3, h4⟩ := key cs.toList fun i v hi => each i v (by simpa using hi)
  refine ⟨zs, by rw [← h3], ?_, h4⟩
  have := congrArg List.length h3
  simp at this
  omega
theorem open_u4 {W : World} {X : Nat → Prop} {base : Nat} {t : TypeId} {e : TypeId} {v : Value} (hu : Try.prog.underlying t = some (.array 4 e)) (hts : Try.prog.cellTypes Try.prog.depth t = some (List.replicate 4 e))
    (he : Try.prog.underlying e = some (.int .u64)) (hsz : Try.prog.cellsOf t = 4) (h : Value.okWide Try.prog W .any base t v) : ∃ a : Nat, a < 2 ^ 256 ∧ Rep W X noρ v (u4 limR a) := by
  obtain ⟨zs, rfl, hl, hz⟩ := open_words hu hts he hsz h
  obtain ⟨z0, z1, z2, z3, rfl⟩ : ∃ z0 z1 z2 z3 : Int, zs = [z0, z1, z2, z3] := by
    match zs, hl with
    | [z0, z1, z2, z3], _ => exact ⟨z0, z1, z2, z3, rfl⟩
  have r0 := hz z0 (by simp)
  have r1 := hz z1 (by simp)
  have r2 := hz z2 (by simp)
  have r3 := hz z3 (by simp)
  obtain ⟨a, ha⟩ : ∃ a : Nat, (a : Int) = z0 + 18446744073709551616 * (z1 + 18446744073709551616 * (z2 + 18446744073709551616 * (z3))) := ⟨(z0 + 18446744073709551616 * (z1 + 18446744073709551616 * (z2 + 18446744073709551616 * (z3)))).toNat, Int.toNat_of_nonneg (by omega)⟩
  have han : a < 2 ^ 256 := by omega
  obtain ⟨e0, e1, e2, e3⟩ := lim_of4 rfl han r0 r1 r2 ha
  refine ⟨a, han, ?_⟩
  unfold u4
  rw [e0, e1, e2, e3]
  exact RepL.agg (vs := [.int .u64 z0, .int .u64 z1, .int .u64 z2, .int .u64 z3]) (.cons (.s _ _) (.cons (.s _ _) (.cons (.s _ _) (.cons (.s _ _) (.nil)))))
theorem open_u6 {W : World} {X : Nat → Prop} {base : Nat} {t : TypeId} {e : TypeId} {v : Value} (hu : Try.prog.underlying t = some (.array 6 e)) (hts : Try.prog.cellTypes Try.prog.depth t = some (List.replicate 6 e))
    (he : Try.prog.underlying e = some (.int .u64)) (hsz : Try.prog.cellsOf t = 6) (h : Value.okWide Try.prog W .any base t v) : ∃ a : Nat, a < 2 ^ 384 ∧ Rep W X noρ v (u6 limR a) := by
  obtain ⟨zs, rfl, hl, hz⟩ := open_words hu hts he hsz h
  obtain ⟨z0, z1, z2, z3, z4, z5, rfl⟩ : ∃ z0 z1 z2 z3 z4 z5 : Int, zs = [z0, z1, z2, z3, z4, z5] := by
    match zs, hl with
    | [z0, z1, z2, z3, z4, z5], _ => exact ⟨z0, z1, z2, z3, z4, z5, rfl⟩
  have r0 := hz z0 (by simp)
  have r1 := hz z1 (by simp)
  have r2 := hz z2 (by simp)
  have r3 := hz z3 (by simp)
  have r4 := hz z4 (by simp)
  have r5 := hz z5 (by simp)
  obtain ⟨a, ha⟩ : ∃ a : Nat, (a : Int) = z0 + 18446744073709551616 * (z1 + 18446744073709551616 * (z2 + 18446744073709551616 * (z3 + 18446744073709551616 * (z4 + 18446744073709551616 * (z5))))) := ⟨(z0 + 18446744073709551616 * (z1 + 18446744073709551616 * (z2 + 18446744073709551616 * (z3 + 18446744073709551616 * (z4 + 18446744073709551616 * (z5)))))).toNat, Int.toNat_of_nonneg (by omega)⟩
  have han : a < 2 ^ 384 := by omega
  obtain ⟨e0, e1, e2, e3, e4, e5⟩ := lim_of6 rfl han r0 r1 r2 r3 r4 ha
  refine ⟨a, han, ?_⟩
  unfold u6
  rw [e0, e1, e2, e3, e4, e5]
  exact RepL.agg (vs := [.int .u64 z0, .int .u64 z1, .int .u64 z2, .int .u64 z3, .int .u64 z4, .int .u64 z5]) (.cons (.s _ _) (.cons (.s _ _) (.cons (.s _ _) (.cons (.s _ _) (.cons (.s _ _) (.cons (.s _ _) (.nil)))))))
end Go.Proofs.Ytlmlganfjnokiaa
