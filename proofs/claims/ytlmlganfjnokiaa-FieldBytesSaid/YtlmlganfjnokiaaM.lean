import Derived.Test.YtlmlganfjnokiaaL
import Derived.Test.YtlmlganfjnokiaaK
set_option linter.unusedVariables false
set_option linter.unusedSimpArgs false
namespace Go.Proofs.Ytlmlganfjnokiaa
open Go Eng
set_option maxRecDepth 100000
set_option exponentiation.threshold 2000
/-- A contract out of a walk that comes to the very answer. -/
theorem mkE {f : FuncId} {fn : Func} {As : List AVal} {r : AVal} (hf : Try.prog.funcs[f]? = some fn) (hb : fn.body = some (bodyOf fn)) (hn : (fn.name == "runtime.NumGoroutine") = false) (Nl : Nat → Nat) (tr : Nat → Md)
    (hok : codeOK tr (bodyOf fn) = true) (h : ∀ (A : Ar) (S : SpecT), A = Ar.real → S = specs Try.prog → afun A TT S Nl tr fn.ntmps fn.results (bodyOf fn) As (fun x => x = r)) : Sp f As r :=
  spec_of_afun (P := Try.prog) (T := TT) TT.ok TT.mixed (draw_ok (P := Try.prog) (T := TT) TT.ok) (Sp := specs Try.prog) ⟨fun _ _ _ h => h, fun _ _ _ _ _ h => h, fun _ _ _ _ h => h, fun _ => rfl⟩ rfl hf hb hn (N := Nl) (tr := tr) hok (h Ar.real _ rfl rfl)
theorem digitsS {row : List AVal} {n : Nat} : Sp 90 [.lst true n row] (.fn (.func 108) [] [.ref [.lst true n row] 0]) := by
  refine mkE Try.func90 rfl rfl LN R0 (by decide +kernel) fun A S hA hS => ?_
  unfold bodyOf Try.f90
  cbv
theorem bitAt_eq (e n i : Nat) (hi : i < 64 * n) : bitAt (limR e) n i = e / 2 ^ (64 * n - 1 - i) % 2 := by
  unfold bitAt limR
  obtain ⟨k, hk⟩ : ∃ k, k = 64 * n - 1 - i := ⟨_, rfl⟩
  rw [← hk, Int.toNat_natCast]
  obtain ⟨r, hr⟩ : ∃ r, r = k % 64 := ⟨_, rfl⟩
  rw [← hr]
  have hr64 : r < 64 := by omega
  have e1 : k = 64 * (k / 64) + r := by omega
  have e2 : e / 2 ^ k = e / 2 ^ (64 * (k / 64)) / 2 ^ r := by
    rw [Nat.div_div_eq_div_mul, ← Nat.pow_add, ← e1]
  rw [e2]
  generalize e / 2 ^ (64 * (k / 64)) = x
  rw [show (2 : Nat) ^ 64 = 2 ^ r * 2 ^ (64 - r) by rw [← Nat.pow_add]; congr 1; omega, Nat.mod_mul_right_div_self, Nat.mod_mod_of_dvd]
  exact Nat.dvd_trans (by decide) (Nat.pow_dvd_pow 2 (show 1 ≤ 64 - r by omega))
/-- A power, a digit more. -/
theorem pow_step (m a e j : Nat) : a ^ (e / 2 ^ j) % m = if e / 2 ^ j % 2 = 1 then a ^ (e / 2 ^ (j + 1)) % m * (a ^ (e / 2 ^ (j + 1)) % m) % m * a % m else a ^ (e / 2 ^ (j + 1)) % m * (a ^ (e / 2 ^ (j + 1)) % m) % m := by
  have e1 : e / 2 ^ (j + 1) = e / 2 ^ j / 2 := by rw [Nat.pow_succ, Nat.div_div_eq_div_mul]
  rw [e1]
  generalize e / 2 ^ j = x
  have sq : a ^ (x / 2) % m * (a ^ (x / 2) % m) % m = a ^ (2 * (x / 2)) % m := by
    rw [← Nat.mul_mod, ← Nat.pow_add]; congr 2; omega
  rw [sq]
  split
  · rw [Nat.mod_mul_mod, ← Nat.pow_succ]; congr 2; omega
  · congr 2; omega
theorem bit_eq {A : Ar} (hA : A = Ar.real) (t : Nat) : A.cmp .eql (t : Int) 1 = decide (t = 1) := by
  rw [i_eq hA]
  by_cases h : t = 1
  · subst h; rfl
  · rw [decide_eq_false h, decide_eq_false (by omega)]
/-- The memory of Exp. -/
def expH4 (H : H5) (m a x : Nat) : List Blk := [⟨true, true, [.ref (R4 H m) 0]⟩, ⟨true, true, [.s .u64 (H.lim (H.mf 256 m a) 0), .s .u64 (H.lim (H.mf 256 m a) 1), .s .u64 (H.lim (H.mf 256 m a) 2), .s .u64 (H.lim (H.mf 256 m a) 3)]⟩, ⟨true, true, [.i .u64 0, .i .u64 0, .i .u64 0, .i .u64 0]⟩, ⟨true, true, [.s .u64 (H.lim (H.mf 256 m x) 0), .s .u64 (H.lim (H.mf 256 m x) 1), .s .u64 (H.lim (H.mf 256 m x) 2), .s .u64 (H.lim (H.mf 256 m x) 3)]⟩]
theorem ExpS4 {H : H5} (hH : H = H5.real) {m a : Nat} (hR : Mod 256 m) (ha : a < m) {row : List AVal} {e k : Nat} (hrow : IsRow row (limR e) k) (hk : k < 1000) (he : e < 2 ^ (64 * k)) :
    Sp 38 [.ref (R4 H m) 0, el4 H m a, .lst true k row] (el4 H m (H.pow m a e)) := by
  obtain ⟨t, ht⟩ : ∃ t : Nat → Nat, t = bitAt (limR e) k := ⟨_, rfl⟩
  obtain ⟨x, hx⟩ : ∃ x : Nat → Nat, x = fun i => H.pow m a (e / 2 ^ (64 * k - i)) := ⟨_, rfl⟩
  have hx0 : x 0 = 1 := by
    rw [hx, hH]
    show a ^ (e / 2 ^ (64 * k)) % m = 1
    rw [Nat.div_eq_of_lt he, Nat.pow_zero, Nat.mod_eq_of_lt hR.one]
  have hxs : ∀ i, i < 64 * k → x (i + 1) = if t i = 1 then H.mul m (H.mul m (x i) (x i)) a else H.mul m (x i) (x i) := by
    intro i hi
    rw [hx, ht, bitAt_eq e k i hi, hH]
    show a ^ (e / 2 ^ (64 * k - (i + 1))) % m = if e / 2 ^ (64 * k - 1 - i) % 2 = 1 then a ^ (e / 2 ^ (64 * k - i)) % m * (a ^ (e / 2 ^ (64 * k - i)) % m) % m * a % m else a ^ (e / 2 ^ (64 * k - i)) % m * (a ^ (e / 2 ^ (64 * k - i)) % m) % m
    rw [show 64 * k - (i + 1) = 64 * k - 1 - i by omega, show 64 * k - i = 64 * k - 1 - i + 1 by omega]
    exact pow_step m a e _
  have hxe : x (64 * k) = H.pow m a e := by rw [hx]; show H.pow m a (e / 2 ^ (64 * k - 64 * k)) = _; rw [Nat.sub_self, Nat.pow_zero, Nat.div_one]
  have hd := digitsI hrow hk (fun i _ => lim_range rfl e i) (fun i => [.s .u64 (t i : Nat)]) (fun i _ => by rw [ht])
  refine mk Try.func38 rfl rfl LN R1 (by decide +kernel) fun A S hA hS => ?_
  unfold bodyOf Try.f38
  cbv
  refine ACall.mk _ (cf hS (isS4 (H := H) m)) ?_
  cbv
  refine ACall.mk _ (cf hS digitsS) ?_
  cbv
  refine .mk _ _ (cs hS hd) (fun i _ => rfl) (fun i => expH4 H m a (x i)) ?_ ?_ ?_
  · rw [hx0]; cbv
  · intro i hi
    have hst := hxs i hi
    have hb := bit_eq hA (t i)
    generalize x (i + 1) = y at hst ⊢
    generalize x i = xi at hst ⊢
    generalize t i = ti at hst hb ⊢
    cbv
    refine ACall.mk _ (cf hS (mulE4 hH hR (a := xi) (b := xi))) ?_
    cbv
    by_cases h1 : ti = 1
    · rw [if_pos h1] at hst
      rw [decide_eq_true h1] at hb
      refine ABr.t hb ?_
      cbv
      refine ACall.mk _ (cf hS (mulE4 hH hR (a := H.mul m xi xi) (b := a))) ?_
      rw [hst]
      cbv
    · rw [if_neg h1] at hst
      rw [decide_eq_false h1] at hb
      rw [hst]
      refine ABr.f hb ?_
      cbv
  · rw [hxe]
    cbv
/-- The memory of Exp. -/
def expH6 (H : H5) (m a x : Nat) : List Blk := [⟨true, true, [.ref (R6 H m) 0]⟩, ⟨true, true, [.s .u64 (H.lim (H.mf 384 m a) 0), .s .u64 (H.lim (H.mf 384 m a) 1), .s .u64 (H.lim (H.mf 384 m a) 2), .s .u64 (H.lim (H.mf 384 m a) 3), .s .u64 (H.lim (H.mf 384 m a) 4), .s .u64 (H.lim (H.mf 384 m a) 5)]⟩, ⟨true, true, [.i .u64 0, .i .u64 0, .i .u64 0, .i .u64 0, .i .u64 0, .i .u64 0]⟩, ⟨true, true, [.s .u64 (H.lim (H.mf 384 m x) 0), .s .u64 (H.lim (H.mf 384 m x) 1), .s .u64 (H.lim (H.mf 384 m x) 2), .s .u64 (H.lim (H.mf 384 m x) 3), .s .u64 (H.lim (H.mf 384 m x) 4), .s .u64 (H.lim (H.mf 384 m x) 5)]⟩]
theorem ExpS6 {H : H5} (hH : H = H5.real) {m a : Nat} (hR : Mod 384 m) (ha : a < m) {row : List AVal} {e k : Nat} (hrow : IsRow row (limR e) k) (hk : k < 1000) (he : e < 2 ^ (64 * k)) :
    Sp 60 [.ref (R6 H m) 0, el6 H m a, .lst true k row] (el6 H m (H.pow m a e)) := by
  obtain ⟨t, ht⟩ : ∃ t : Nat → Nat, t = bitAt (limR e) k := ⟨_, rfl⟩
  obtain ⟨x, hx⟩ : ∃ x : Nat → Nat, x = fun i => H.pow m a (e / 2 ^ (64 * k - i)) := ⟨_, rfl⟩
  have hx0 : x 0 = 1 := by
    rw [hx, hH]
    show a ^ (e / 2 ^ (64 * k)) % m = 1
    rw [Nat.div_eq_of_lt he, Nat.pow_zero, Nat.mod_eq_of_lt hR.one]
  have hxs : ∀ i, i < 64 * k → x (i + 1) = if t i = 1 then H.mul m (H.mul m (x i) (x i)) a else H.mul m (x i) (x i) := by
    intro i hi
    rw [hx, ht, bitAt_eq e k i hi, hH]
    show a ^ (e / 2 ^ (64 * k - (i + 1))) % m = if e / 2 ^ (64 * k - 1 - i) % 2 = 1 then a ^ (e / 2 ^ (64 * k - i)) % m * (a ^ (e / 2 ^ (64 * k - i)) % m) % m * a % m else a ^ (e / 2 ^ (64 * k - i)) % m * (a ^ (e / 2 ^ (64 * k - i)) % m) % m
    rw [show 64 * k - (i + 1) = 64 * k - 1 - i by omega, show 64 * k - i = 64 * k - 1 - i + 1 by omega]
    exact pow_step m a e _
  have hxe : x (64 * k) = H.pow m a e := by rw [hx]; show H.pow m a (e / 2 ^ (64 * k - 64 * k)) = _; rw [Nat.sub_self, Nat.pow_zero, Nat.div_one]
  have hd := digitsI hrow hk (fun i _ => lim_range rfl e i) (fun i => [.s .u64 (t i : Nat)]) (fun i _ => by rw [ht])
  refine mk Try.func60 rfl rfl LN R1 (by decide +kernel) fun A S hA hS => ?_
  unfold bodyOf Try.f60
  cbv
  refine ACall.mk _ (cf hS (isS6 (H := H) m)) ?_
  cbv
  refine ACall.mk _ (cf hS digitsS) ?_
  cbv
  refine .mk _ _ (cs hS hd) (fun i _ => rfl) (fun i => expH6 H m a (x i)) ?_ ?_ ?_
  · rw [hx0]; cbv
  · intro i hi
    have hst := hxs i hi
    have hb := bit_eq hA (t i)
    generalize x (i + 1) = y at hst ⊢
    generalize x i = xi at hst ⊢
    generalize t i = ti at hst hb ⊢
    cbv
    refine ACall.mk _ (cf hS (mulE6 hH hR (a := xi) (b := xi))) ?_
    cbv
    by_cases h1 : ti = 1
    · rw [if_pos h1] at hst
      rw [decide_eq_true h1] at hb
      refine ABr.t hb ?_
      cbv
      refine ACall.mk _ (cf hS (mulE6 hH hR (a := H.mul m xi xi) (b := a))) ?_
      rw [hst]
      cbv
    · rw [if_neg h1] at hst
      rw [decide_eq_false h1] at hb
      rw [hst]
      refine ABr.f hb ?_
      cbv
  · rw [hxe]
    cbv
end Go.Proofs.Ytlmlganfjnokiaa
