import Derived.Test.YtlmlganfjnokiaaW
import Derived.Test.YtlmlganfjnokiaaQ
set_option linter.unusedVariables false
set_option linter.unusedSimpArgs false
namespace Go.Proofs.Ytlmlganfjnokiaa
open Go Eng NT
set_option maxRecDepth 100000
set_option exponentiation.threshold 2000
theorem pr_inv {p x : Nat} (hp : Pr p) (hx : x < p) (h0 : x ≠ 0) (h2 : 2 < p) : x * (x ^ (p - 2) % p) % p = 1 % p := by
  have hd : ¬ p ∣ x := fun h => by have := Nat.le_of_dvd (Nat.pos_of_ne_zero h0) h; omega
  have := fermat hp hd
  rw [Nat.mul_mod_mod, Nat.mul_comm, ← Nat.pow_succ, show (p - 2).succ = p - 1 by omega, this, Nat.mod_eq_of_lt (by omega)]
theorem pr_root {p x : Nat} (hp : Pr p) (h2 : 2 < p) (h3 : p % 4 = 3) : ((x * x % p) ^ ((p + 1) / 4) % p) * ((x * x % p) ^ ((p + 1) / 4) % p) % p = x * x % p := by
  obtain ⟨k, rfl⟩ : ∃ k, p = 4 * k + 3 := ⟨p / 4, by omega⟩
  rw [← Nat.mul_mod, show (4 * k + 3 + 1) / 4 = k + 1 by omega, ← Nat.mul_pow, Nat.pow_mod, ← Nat.mul_mod, ← Nat.pow_mod]
  by_cases hd : (4 * k + 3) ∣ x
  · obtain ⟨y, rfl⟩ := hd
    have e1 : ∀ n : Nat, ((4 * k + 3) * n) % (4 * k + 3) = 0 := fun n => Nat.mul_mod_right _ _
    rw [Nat.mul_assoc (4 * k + 3) y, Nat.mul_assoc, Nat.mul_pow, Nat.pow_succ, Nat.mul_comm _ (4 * k + 3), Nat.mul_assoc, Nat.mul_assoc, e1, e1]
  · have := fermat hp hd
    rw [show 4 * k + 3 - 1 = 4 * k + 2 by omega] at this
    have e : (x * x * (x * x)) ^ (k + 1) = x ^ (4 * k + 2) * (x * x) := by
      rw [show x * x * (x * x) = x ^ 4 by simp only [Nat.pow_succ, Nat.pow_zero, Nat.one_mul, Nat.mul_assoc], ← Nat.pow_mul, show 4 * (k + 1) = 4 * k + 2 + 1 + 1 by omega, Nat.pow_succ, Nat.pow_succ, Nat.mul_assoc]
    rw [e, Nat.mul_mod, this, Nat.one_mul, Nat.mod_mod]
theorem primesS {H : H5} (hH : H = H5.real) : Sp 26 [] (.new false 5 4 [.s .u64 (H.lim secpP 0), .s .u64 (H.lim secpP 1), .s .u64 (H.lim secpP 2), .s .u64 (H.lim secpP 3), .s .u64 (H.lim secpN 0), .s .u64 (H.lim secpN 1), .s .u64 (H.lim secpN 2), .s .u64 (H.lim secpN 3),
    .s .u64 (H.lim bnP 0), .s .u64 (H.lim bnP 1), .s .u64 (H.lim bnP 2), .s .u64 (H.lim bnP 3), .s .u64 (H.lim bnR 0), .s .u64 (H.lim bnR 1), .s .u64 (H.lim bnR 2), .s .u64 (H.lim bnR 3), .s .u64 (H.lim blsR 0), .s .u64 (H.lim blsR 1), .s .u64 (H.lim blsR 2), .s .u64 (H.lim blsR 3)]) := by
  refine mk Try.func26 rfl rfl L0 R0 (by decide +kernel) fun A S hA hS => ?_
  unfold bodyOf Try.f26
  cbv
  refine ACall.mk _ (cf hS (SecpPS hH)) ?_
  cbv
  refine ACall.mk _ (cf hS (SecpNS hH)) ?_
  cbv
  refine ACall.mk _ (cf hS (BnPS hH)) ?_
  cbv
  refine ACall.mk _ (cf hS (BnRS hH)) ?_
  cbv
  refine ACall.mk _ (cf hS (BlsRS hH)) ?_
  cbv
def thePrimes : List Nat := [secpP, secpN, bnP, bnR, blsR]
theorem prime_each : ∀ p ∈ thePrimes, Pr p ∧ p < 2 ^ 256 ∧ p % 2 = 1 ∧ 2 < p := by
  intro p hp
  simp only [thePrimes, List.mem_cons, List.not_mem_nil, or_false] at hp
  rcases hp with rfl | rfl | rfl | rfl | rfl
  · exact ⟨prime_secpP, by decide, by decide, by decide⟩
  · exact ⟨prime_secpN, by decide, by decide, by decide⟩
  · exact ⟨prime_bnP, by decide, by decide, by decide⟩
  · exact ⟨prime_bnR, by decide, by decide, by decide⟩
  · exact ⟨prime_blsR, by decide, by decide, by decide⟩
/-- What is asked of the field of one prime. -/
theorem inv_facts4 {H : H5} (hH : H = H5.real) {p a x y r : Nat} (hp : Pr p) (h1 : p < 2 ^ 256) (h2 : p % 2 = 1) (h3 : 2 < p) (ha : a < 2 ^ 256) (hx : x = H.mod p a) (hy : y = H.mul p x x) (hr : r = H.pow p y ((p + 1) / 4)) :
    Sp 27 [u4 H.lim p] (.tup [.ref (R4 H p) 0, .i .i64 0]) ∧ Sp 28 [.ref (R4 H p) 0, u4 H.lim a] (el4 H p x) ∧
    Sp 28 [.ref (R4 H p) 0, .agg [.s .u64 0, .s .u64 0, .s .u64 0, .s .u64 0]] (el4 H p 0) ∧ Sp 28 [.ref (R4 H p) 0, .agg [.s .u64 1, .s .u64 0, .s .u64 0, .s .u64 0]] (el4 H p (H.mod p 1)) ∧
    (x = 0 → Sp 29 [.ref (R4 H p) 0, el4 H p x] (el4 H p 0)) ∧ (∃ v, Sp 29 [.ref (R4 H p) 0, el4 H p x] (el4 H p v) ∧ (x ≠ 0 → Sp 30 [.ref (R4 H p) 0, el4 H p x, el4 H p v] (el4 H p (H.mod p 1)))) ∧
    Sp 30 [.ref (R4 H p) 0, el4 H p x, el4 H p x] (el4 H p y) ∧
    ((H.mul p r r = y ∧ Sp 31 [.ref (R4 H p) 0, el4 H p y] (.tup [el4 H p r, .b true]) ∧ Sp 30 [.ref (R4 H p) 0, el4 H p r, el4 H p r] (el4 H p y)) ∨ (p % 4 ≠ 3 ∧ Sp 31 [.ref (R4 H p) 0, el4 H p y] (.tup [u4 H.lim 0, .b false]))) := by
  have hR : Mod 256 p := ⟨h1, h2, by omega⟩
  have hpos := hR.pos
  have xm : x < p := by rw [hx, hH]; exact Nat.mod_lt _ hpos
  have ym : y < p := by rw [hy, hH]; exact Nat.mod_lt _ hpos
  have i0 := InS4 hH hR (a := 0) (by omega)
  have i1 := InS4 hH hR (a := 1) (by omega)
  have l0 : u4 H.lim 0 = .agg [.s .u64 0, .s .u64 0, .s .u64 0, .s .u64 0] := by rw [hH]; rfl
  have l1 : u4 H.lim 1 = .agg [.s .u64 1, .s .u64 0, .s .u64 0, .s .u64 0] := by rw [hH]; rfl
  rw [l0, show H.mod p 0 = 0 by rw [hH]; exact Nat.zero_mod p] at i0
  rw [l1] at i1
  have iv := InvS4 hH hR xm
  have ix := InS4 hH hR ha
  rw [← hx] at ix
  have mx := MulS4 hH hR (a := x) (b := x)
  rw [← hy] at mx
  have rt := RootS4 hH hR ym r hr
  have mr := MulS4 hH hR (a := r) (b := r)
  refine ⟨MakeS4 hH hR, ix, i0, i1, fun h => ?_, ⟨_, iv, fun h => ?_⟩, mx, ?_⟩
  · have : H.pow p x (p - 2) = 0 := by
      rw [h, hH]
      show 0 ^ (p - 2) % p = 0
      rw [Nat.zero_pow (by omega), Nat.zero_mod]
    rw [this] at iv
    exact iv
  · have hm := MulS4 hH hR (a := x) (b := H.pow p x (p - 2))
    rw [show H.mul p x (H.pow p x (p - 2)) = H.mod p 1 by rw [hH]; exact pr_inv hp xm h h3] at hm
    exact hm
  · by_cases h : H.mul p r r = y
    · rw [h] at mr
      exact .inl ⟨h, rt.1 h, mr⟩
    · refine .inr ⟨fun h4 => h ?_, rt.2 h⟩
      rw [hr, hy, hH]
      exact pr_root hp h3 h4
/-- Whether an element is nought. -/
theorem is_zero4 {H : H5} (hH : H = H5.real) {A : Ar} (hA : A = Ar.real) {p x : Nat} (h1 : p < 2 ^ 256) (h2 : p % 2 = 1) (h3 : 2 < p) (hx : x < p) : A.eqs [(.s .u64 (H.lim (H.mf 256 p x) 0), .s .u64 (H.lim (H.mf 256 p 0) 0)), (.s .u64 (H.lim (H.mf 256 p x) 1), .s .u64 (H.lim (H.mf 256 p 0) 1)), (.s .u64 (H.lim (H.mf 256 p x) 2), .s .u64 (H.lim (H.mf 256 p 0) 2)), (.s .u64 (H.lim (H.mf 256 p x) 3), .s .u64 (H.lim (H.mf 256 p 0) 3))] = decide (x = 0) := by
  have hpos : 0 < p := by omega
  rw [eqs4 hA (H5.hlim hH) _ _ (by rw [hH]; exact Nat.lt_trans (mf_lt hpos) h1) (by rw [hH]; exact Nat.lt_trans (mf_lt hpos) h1)]
  by_cases h : x = 0
  · rw [h, decide_eq_true rfl, decide_eq_true rfl]
  · rw [decide_eq_false h, decide_eq_false]
    rw [hH]
    exact fun h' => h (mf_inj h2 hx hpos h')
theorem nsame4 {A : Ar} (hA : A = Ar.real) {lim : Lim} {a b : Nat} (h : a = b) : A.not (A.eqs [(.s .u64 (lim a 0), .s .u64 (lim b 0)), (.s .u64 (lim a 1), .s .u64 (lim b 1)), (.s .u64 (lim a 2), .s .u64 (lim b 2)), (.s .u64 (lim a 3), .s .u64 (lim b 3))]) = false := by
  rw [a_not hA, same4 hA h]; rfl
/-- What is asked of the field of one prime. -/
theorem inv_facts6 {H : H5} (hH : H = H5.real) {p a x y r : Nat} (hp : Pr p) (h1 : p < 2 ^ 384) (h2 : p % 2 = 1) (h3 : 2 < p) (ha : a < 2 ^ 384) (hx : x = H.mod p a) (hy : y = H.mul p x x) (hr : r = H.pow p y ((p + 1) / 4)) :
    Sp 32 [u6 H.lim p] (.tup [.ref (R6 H p) 0, .i .i64 0]) ∧ Sp 33 [.ref (R6 H p) 0, u6 H.lim a] (el6 H p x) ∧
    Sp 33 [.ref (R6 H p) 0, .agg [.s .u64 0, .s .u64 0, .s .u64 0, .s .u64 0, .s .u64 0, .s .u64 0]] (el6 H p 0) ∧ Sp 33 [.ref (R6 H p) 0, .agg [.s .u64 1, .s .u64 0, .s .u64 0, .s .u64 0, .s .u64 0, .s .u64 0]] (el6 H p (H.mod p 1)) ∧
    (x = 0 → Sp 36 [.ref (R6 H p) 0, el6 H p x] (el6 H p 0)) ∧ (∃ v, Sp 36 [.ref (R6 H p) 0, el6 H p x] (el6 H p v) ∧ (x ≠ 0 → Sp 35 [.ref (R6 H p) 0, el6 H p x, el6 H p v] (el6 H p (H.mod p 1)))) ∧
    Sp 35 [.ref (R6 H p) 0, el6 H p x, el6 H p x] (el6 H p y) ∧
    ((H.mul p r r = y ∧ Sp 34 [.ref (R6 H p) 0, el6 H p y] (.tup [el6 H p r, .b true]) ∧ Sp 35 [.ref (R6 H p) 0, el6 H p r, el6 H p r] (el6 H p y)) ∨ (p % 4 ≠ 3 ∧ Sp 34 [.ref (R6 H p) 0, el6 H p y] (.tup [u6 H.lim 0, .b false]))) := by
  have hR : Mod 384 p := ⟨h1, h2, by omega⟩
  have hpos := hR.pos
  have xm : x < p := by rw [hx, hH]; exact Nat.mod_lt _ hpos
  have ym : y < p := by rw [hy, hH]; exact Nat.mod_lt _ hpos
  have i0 := InS6 hH hR (a := 0) (by omega)
  have i1 := InS6 hH hR (a := 1) (by omega)
  have l0 : u6 H.lim 0 = .agg [.s .u64 0, .s .u64 0, .s .u64 0, .s .u64 0, .s .u64 0, .s .u64 0] := by rw [hH]; rfl
  have l1 : u6 H.lim 1 = .agg [.s .u64 1, .s .u64 0, .s .u64 0, .s .u64 0, .s .u64 0, .s .u64 0] := by rw [hH]; rfl
  rw [l0, show H.mod p 0 = 0 by rw [hH]; exact Nat.zero_mod p] at i0
  rw [l1] at i1
  have iv := InvS6 hH hR xm
  have ix := InS6 hH hR ha
  rw [← hx] at ix
  have mx := MulS6 hH hR (a := x) (b := x)
  rw [← hy] at mx
  have rt := RootS6 hH hR ym r hr
  have mr := MulS6 hH hR (a := r) (b := r)
  refine ⟨MakeS6 hH hR, ix, i0, i1, fun h => ?_, ⟨_, iv, fun h => ?_⟩, mx, ?_⟩
  · have : H.pow p x (p - 2) = 0 := by
      rw [h, hH]
      show 0 ^ (p - 2) % p = 0
      rw [Nat.zero_pow (by omega), Nat.zero_mod]
    rw [this] at iv
    exact iv
  · have hm := MulS6 hH hR (a := x) (b := H.pow p x (p - 2))
    rw [show H.mul p x (H.pow p x (p - 2)) = H.mod p 1 by rw [hH]; exact pr_inv hp xm h h3] at hm
    exact hm
  · by_cases h : H.mul p r r = y
    · rw [h] at mr
      exact .inl ⟨h, rt.1 h, mr⟩
    · refine .inr ⟨fun h4 => h ?_, rt.2 h⟩
      rw [hr, hy, hH]
      exact pr_root hp h3 h4
/-- Whether an element is nought. -/
theorem is_zero6 {H : H5} (hH : H = H5.real) {A : Ar} (hA : A = Ar.real) {p x : Nat} (h1 : p < 2 ^ 384) (h2 : p % 2 = 1) (h3 : 2 < p) (hx : x < p) : A.eqs [(.s .u64 (H.lim (H.mf 384 p x) 0), .s .u64 (H.lim (H.mf 384 p 0) 0)), (.s .u64 (H.lim (H.mf 384 p x) 1), .s .u64 (H.lim (H.mf 384 p 0) 1)), (.s .u64 (H.lim (H.mf 384 p x) 2), .s .u64 (H.lim (H.mf 384 p 0) 2)), (.s .u64 (H.lim (H.mf 384 p x) 3), .s .u64 (H.lim (H.mf 384 p 0) 3)), (.s .u64 (H.lim (H.mf 384 p x) 4), .s .u64 (H.lim (H.mf 384 p 0) 4)), (.s .u64 (H.lim (H.mf 384 p x) 5), .s .u64 (H.lim (H.mf 384 p 0) 5))] = decide (x = 0) := by
  have hpos : 0 < p := by omega
  rw [eqs6 hA (H5.hlim hH) _ _ (by rw [hH]; exact Nat.lt_trans (mf_lt hpos) h1) (by rw [hH]; exact Nat.lt_trans (mf_lt hpos) h1)]
  by_cases h : x = 0
  · rw [h, decide_eq_true rfl, decide_eq_true rfl]
  · rw [decide_eq_false h, decide_eq_false]
    rw [hH]
    exact fun h' => h (mf_inj h2 hx hpos h')
theorem nsame6 {A : Ar} (hA : A = Ar.real) {lim : Lim} {a b : Nat} (h : a = b) : A.not (A.eqs [(.s .u64 (lim a 0), .s .u64 (lim b 0)), (.s .u64 (lim a 1), .s .u64 (lim b 1)), (.s .u64 (lim a 2), .s .u64 (lim b 2)), (.s .u64 (lim a 3), .s .u64 (lim b 3)), (.s .u64 (lim a 4), .s .u64 (lim b 4)), (.s .u64 (lim a 5), .s .u64 (lim b 5))]) = false := by
  rw [a_not hA, same6 hA h]; rfl
theorem rem4 {A : Ar} (hA : A = Ar.real) {lim : Lim} (hl : lim = limR) (p : Nat) : A.cmp .eql (A.bin .rem .u64 (lim p 0) 4) 3 = decide (p % 4 = 3) := by
  have h : A.bin .rem .u64 (lim p 0) 4 = ((p % 4 : Nat) : Int) := by
    rw [lim_mod hl, hA]
    show (((p % 18446744073709551616 : Nat) : Int).tmod 4) = _
    rw [Int.tmod_eq_emod_of_nonneg (by omega)]
    omega
  rw [h, i_eq hA]
  by_cases h' : p % 4 = 3
  · rw [decide_eq_true h', decide_eq_true (by omega)]
  · rw [decide_eq_false h', decide_eq_false (by omega)]
set_option maxHeartbeats 8000000 in
theorem invertsS {H : H5} (hH : H = H5.real) (a b : Nat) (ha : a < 2 ^ 256) (hb : b < 2 ^ 384) : Sp 4 [u4 H.lim a, u6 H.lim b] (.sb true) := by
  have hl := H5.hlim hH
  have ps := primesS hH
  obtain ⟨P, hP⟩ : ∃ P : Nat → Nat, P = fun i => thePrimes.getD i 0 := ⟨_, rfl⟩
  rw [show secpP = P 0 by rw [hP]; rfl, show secpN = P 1 by rw [hP]; rfl, show bnP = P 2 by rw [hP]; rfl, show bnR = P 3 by rw [hP]; rfl, show blsR = P 4 by rw [hP]; rfl] at ps
  have hq : ∀ i, i < 5 → Pr (P i) ∧ P i < 2 ^ 256 ∧ P i % 2 = 1 ∧ 2 < P i := by
    intro i hi
    refine prime_each _ ?_
    rw [hP]
    rcases (by omega : i = 0 ∨ i = 1 ∨ i = 2 ∨ i = 3 ∨ i = 4) with rfl | rfl | rfl | rfl | rfl <;> simp [thePrimes]
  clear hP
  refine mk Try.func4 rfl rfl LN R1 (by decide +kernel) fun A S hA hS => ?_
  unfold bodyOf Try.f4
  cbv
  refine ACall.mk _ (cf hS (awakeS hH)) ?_
  cbv
  refine ABr.f ((a_not hA true).trans rfl) ?_
  cbv
  refine ACall.mk _ (cf hS ps) ?_
  cbv
  refine .inv (α := Nat) (fun i => ⟨[u4 H.lim a, u6 H.lim b, .own 0 0, .own 1 0, .b false, .any, .any, .any, .any, .any, .any, .any, .any, .any, .any, .any, .any, .any, .any, .any, .any, .lst false 5 [.s .u64 (H.lim (P 0) 0), .s .u64 (H.lim (P 0) 1), .s .u64 (H.lim (P 0) 2), .s .u64 (H.lim (P 0) 3), .s .u64 (H.lim (P 1) 0), .s .u64 (H.lim (P 1) 1), .s .u64 (H.lim (P 1) 2), .s .u64 (H.lim (P 1) 3),
      .s .u64 (H.lim (P 2) 0), .s .u64 (H.lim (P 2) 1), .s .u64 (H.lim (P 2) 2), .s .u64 (H.lim (P 2) 3), .s .u64 (H.lim (P 3) 0), .s .u64 (H.lim (P 3) 1), .s .u64 (H.lim (P 3) 2), .s .u64 (H.lim (P 3) 3), .s .u64 (H.lim (P 4) 0), .s .u64 (H.lim (P 4) 1), .s .u64 (H.lim (P 4) 2), .s .u64 (H.lim (P 4) 3)], .i .i64 5, .i .i64 (i : Nat), .any, .any, .any, .any, .any, .any, .any, .any, .any, .any, .any, .any, .any, .any, .any, .any, .any, .any, .any, .any, .any, .any, .any, .any, .any, .any, .any, .any, .any, .any, .any, .any, .any, .any, .any, .any, .any, .any, .any, .any, .any, .any, .any, .any, .any, .any, .any, .any, .any, .any, .any, .any, .any, .any, .any, .any, .any, .any, .any, .any, .any, .any, .any, .any, .any, .any, .any, .any, .any, .any, .any, .any, .any, .any, .any, .any, .any, .any, .any, .any, .any, .any, .any, .any, .any, .any, .any, .any, .any, .any, .any, .any, .any, .any, .any, .any, .any, .any, .any, .any, .any, .any, .any, .any, .any, .any, .any, .any, .any, .any, .any, .any, .any, .any],
      ⟨true, true, [.s .u64 (H.lim a 0), .s .u64 (H.lim a 1), .s .u64 (H.lim a 2), .s .u64 (H.lim a 3)]⟩ :: ⟨true, true, [.s .u64 (H.lim b 0), .s .u64 (H.lim b 1), .s .u64 (H.lim b 2), .s .u64 (H.lim b 3), .s .u64 (H.lim b 4), .s .u64 (H.lim b 5)]⟩ :: List.replicate (6 * i) ⟨false, true, []⟩⟩)
      (fun i => i ≤ 5) (fun i => 5 - i) 0 ?_ (Nat.zero_le _) ?_
  · cbv
    repeat' constructor
  intro i hi
  by_cases hlt : i < 5
  · obtain ⟨q1, q2, q3, q4⟩ := hq i hlt
    clear hq
    obtain ⟨x, hx⟩ : ∃ x, x = H.mod (P i) a := ⟨_, rfl⟩
    obtain ⟨y, hy⟩ : ∃ y, y = H.mul (P i) x x := ⟨_, rfl⟩
    obtain ⟨r, hr⟩ : ∃ r, r = H.pow (P i) y ((P i + 1) / 4) := ⟨_, rfl⟩
    have xm : x < P i := by rw [hx, hH]; exact Nat.mod_lt _ (by omega)
    have zt := is_zero4 hH hA q2 q3 q4 xm
    have rt := rem4 hA hl (P i)
    have hdec : 5 - (i + 1) < 5 - i := by omega
    have hle : i + 1 ≤ 5 := hlt
    obtain ⟨k1, ix, i0, i1, iv0, ⟨v, iv, mv⟩, mx, rr⟩ := inv_facts4 hH q1 q2 q3 q4 ha hx hy hr
    clear hx hy hr q1 q2 q3 q4
    by_cases hx0 : x = 0
    · have iv0 := iv0 hx0
      rw [decide_eq_true hx0] at zt
      clear mv iv mx rr rt
      rcases (by omega : i = 0 ∨ i = 1 ∨ i = 2 ∨ i = 3 ∨ i = 4) with rfl | rfl | rfl | rfl | rfl
      all_goals
        cbv
        refine ACall.mk _ (cf hS k1) ?_
        cbv
        repeat (first
          | (refine ACall.mk _ (cf hS ix) ?_; cbv)
          | (refine ACall.mk _ (cg hS i0 ?_) ?_; (focus (cbv; done)); cbv)
          | (refine ACall.mk _ (cg hS i1 ?_) ?_; (focus (cbv; done)); cbv)
          | (refine ABr.t zt ?_; cbv)
          | (refine ACall.mk _ (cf hS iv0) ?_; cbv)
          | (refine ABr.f (nsame4 hA rfl) ?_; cbv))
        refine ⟨_, ?_, hle, hdec⟩
        cbv
        repeat' constructor
    · have mv := mv hx0
      rw [decide_eq_false hx0] at zt
      rcases rr with ⟨rq, r1, r2⟩ | ⟨rq, r1⟩
      · have rc : (A.cmp .eql (A.bin .rem .u64 (H.lim (P i) 0) 4) 3 = true) ∨ (A.cmp .eql (A.bin .rem .u64 (H.lim (P i) 0) 4) 3 = false) := by
          cases A.cmp .eql (A.bin .rem .u64 (H.lim (P i) 0) 4) 3 <;> simp
        clear rt rq iv0
        rcases (by omega : i = 0 ∨ i = 1 ∨ i = 2 ∨ i = 3 ∨ i = 4) with rfl | rfl | rfl | rfl | rfl
        all_goals
          rcases rc with rc | rc
          all_goals
            cbv
            refine ACall.mk _ (cf hS k1) ?_
            cbv
            repeat (first
              | (refine ACall.mk _ (cf hS ix) ?_; cbv)
              | (refine ACall.mk _ (cg hS i0 ?_) ?_; (focus (cbv; done)); cbv)
              | (refine ACall.mk _ (cg hS i1 ?_) ?_; (focus (cbv; done)); cbv)
              | (refine ABr.f zt ?_; cbv)
              | (refine ABr.t rc ?_; cbv)
              | (refine ABr.f rc ?_; cbv)
              | (refine ACall.mk _ (cf hS iv) ?_; cbv)
              | (refine ACall.mk _ (cf hS mv) ?_; cbv)
              | (refine ACall.mk _ (cf hS mx) ?_; cbv)
              | (refine ACall.mk _ (cf hS r1) ?_; cbv)
              | (refine ACall.mk _ (cf hS r2) ?_; cbv)
              | (refine ABr.f (nsame4 hA rfl) ?_; cbv))
            refine ⟨_, ?_, hle, hdec⟩
            cbv
            repeat' constructor
      · have rc : A.cmp .eql (A.bin .rem .u64 (H.lim (P i) 0) 4) 3 = false := rt.trans (decide_eq_false rq)
        clear rt rq iv0
        rcases (by omega : i = 0 ∨ i = 1 ∨ i = 2 ∨ i = 3 ∨ i = 4) with rfl | rfl | rfl | rfl | rfl
        all_goals
          cbv
          refine ACall.mk _ (cf hS k1) ?_
          cbv
          repeat (first
            | (refine ACall.mk _ (cf hS ix) ?_; cbv)
            | (refine ACall.mk _ (cg hS i0 ?_) ?_; (focus (cbv; done)); cbv)
            | (refine ACall.mk _ (cg hS i1 ?_) ?_; (focus (cbv; done)); cbv)
            | (refine ABr.f zt ?_; cbv)
            | (refine ABr.f rc ?_; cbv)
            | (refine ACall.mk _ (cf hS iv) ?_; cbv)
            | (refine ACall.mk _ (cf hS mv) ?_; cbv)
            | (refine ACall.mk _ (cf hS mx) ?_; cbv)
            | (refine ACall.mk _ (cf hS r1) ?_; cbv)
            | (refine ABr.f (nsame4 hA rfl) ?_; cbv))
          refine ⟨_, ?_, hle, hdec⟩
          cbv
          repeat' constructor
  · obtain rfl : i = 5 := by omega
    have hB : blsP < 2 ^ 384 ∧ blsP % 2 = 1 ∧ 2 < blsP ∧ blsP % 4 = 3 := by decide +kernel
    obtain ⟨p, hp⟩ : ∃ p, p = blsP := ⟨_, rfl⟩
    have bp := BlsPS hH
    have pr : Pr blsP := prime_blsP
    rw [← hp] at hB bp pr
    obtain ⟨q2, q3, q4, q5⟩ := hB
    obtain ⟨x, hx⟩ : ∃ x, x = H.mod p b := ⟨_, rfl⟩
    obtain ⟨y, hy⟩ : ∃ y, y = H.mul p x x := ⟨_, rfl⟩
    obtain ⟨r, hr⟩ : ∃ r, r = H.pow p y ((p + 1) / 4) := ⟨_, rfl⟩
    have xm : x < p := by rw [hx, hH]; exact Nat.mod_lt _ (by omega)
    have zt := is_zero6 hH hA q2 q3 q4 xm
    obtain ⟨k1, ix, i0, i1, iv0, ⟨v, iv, mv⟩, mx, rr⟩ := inv_facts6 hH pr q2 q3 q4 hb hx hy hr
    rcases rr with ⟨rq, r1, r2⟩ | ⟨rq, r1⟩
    · clear hx hy hr q2 q3 q4 pr rq hp
      have zc : (A.eqs [(.s .u64 (H.lim (H.mf 384 p x) 0), .s .u64 (H.lim (H.mf 384 p 0) 0)), (.s .u64 (H.lim (H.mf 384 p x) 1), .s .u64 (H.lim (H.mf 384 p 0) 1)), (.s .u64 (H.lim (H.mf 384 p x) 2), .s .u64 (H.lim (H.mf 384 p 0) 2)), (.s .u64 (H.lim (H.mf 384 p x) 3), .s .u64 (H.lim (H.mf 384 p 0) 3)),
          (.s .u64 (H.lim (H.mf 384 p x) 4), .s .u64 (H.lim (H.mf 384 p 0) 4)), (.s .u64 (H.lim (H.mf 384 p x) 5), .s .u64 (H.lim (H.mf 384 p 0) 5))] = true) ∨
          (A.eqs [(.s .u64 (H.lim (H.mf 384 p x) 0), .s .u64 (H.lim (H.mf 384 p 0) 0)), (.s .u64 (H.lim (H.mf 384 p x) 1), .s .u64 (H.lim (H.mf 384 p 0) 1)), (.s .u64 (H.lim (H.mf 384 p x) 2), .s .u64 (H.lim (H.mf 384 p 0) 2)), (.s .u64 (H.lim (H.mf 384 p x) 3), .s .u64 (H.lim (H.mf 384 p 0) 3)),
          (.s .u64 (H.lim (H.mf 384 p x) 4), .s .u64 (H.lim (H.mf 384 p 0) 4)), (.s .u64 (H.lim (H.mf 384 p x) 5), .s .u64 (H.lim (H.mf 384 p 0) 5))] = false ∧ Sp 35 [.ref (R6 H p) 0, el6 H p x, el6 H p v] (el6 H p (H.mod p 1))) := by
        by_cases h : x = 0
        · exact .inl (zt.trans (decide_eq_true h))
        · exact .inr ⟨zt.trans (decide_eq_false h), mv h⟩
      clear zt mv iv0
      clear hlt
      all_goals
       rcases zc with zc | ⟨zc, mv⟩
       all_goals
        cbv
        refine ACall.mk _ (cf hS bp) ?_
        cbv
        refine ACall.mk _ (cf hS k1) ?_
        cbv
        repeat (first
          | (refine ACall.mk _ (cf hS ix) ?_; cbv)
          | (refine ACall.mk _ (cg hS i0 ?_) ?_; (focus (cbv; done)); cbv)
          | (refine ACall.mk _ (cg hS i1 ?_) ?_; (focus (cbv; done)); cbv)
          | (refine ABr.f zc ?_; cbv)
          | (refine ABr.t zc ?_; cbv)
          | (refine ACall.mk _ (cf hS mx) ?_; cbv)
          | (refine ACall.mk _ (cf hS r1) ?_; cbv)
          | (refine ACall.mk _ (cf hS r2) ?_; cbv)
          | (refine ACall.mk _ (cf hS iv) ?_; cbv)
          | (refine ACall.mk _ (cf hS mv) ?_; cbv)
          | (refine ABr.t (same6 hA rfl) ?_; cbv)
          | (refine ABr.f (nsame6 hA rfl) ?_; cbv))
        all_goals exact same6 hA rfl
    · exact absurd q5 rq
end Go.Proofs.Ytlmlganfjnokiaa
