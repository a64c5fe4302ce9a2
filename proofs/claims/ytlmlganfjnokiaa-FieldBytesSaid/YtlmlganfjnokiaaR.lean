import Derived.Test.YtlmlganfjnokiaaO
set_option linter.unusedVariables false
set_option linter.unusedSimpArgs false
namespace Go.Proofs.Ytlmlganfjnokiaa
open Go Eng
set_option maxRecDepth 100000
set_option exponentiation.threshold 2000
def RRoot : Nat → Md := fun r => match r with | 6 => .own | _ => .mid
theorem primes4_pr {m : Nat} (h : m ∈ primes4) : NT.Pr m := by
  simp only [primes4, List.mem_cons, List.not_mem_nil, or_false] at h
  rcases h with rfl | rfl | rfl | rfl | rfl
  · exact NT.prime_secpP
  · exact NT.prime_secpN
  · exact NT.prime_bnP
  · exact NT.prime_bnR
  · exact NT.prime_blsR
theorem primes6_pr {m : Nat} (h : m ∈ primes6) : NT.Pr m := by
  simp only [primes6, List.mem_cons, List.not_mem_nil, or_false] at h
  subst h
  exact NT.prime_blsP
theorem pr_coprime {m a : Nat} (hp : NT.Pr m) (h0 : a ≠ 0) (ha : a < m) : Nat.Coprime a m :=
  hp.coprime fun h => by have := Nat.le_of_dvd (by omega) h; omega
/-- What the search for an inverse is worth. -/
theorem inv_mf {m a z b : Nat} (hp : NT.Pr m) (h0 : a ≠ 0) (ha : a < m) (hz : a * 2 ^ b % m * z % m = 1) : z * 2 ^ b % m = a ^ (m - 2) % m := by
  have hc := pr_coprime hp h0 ha
  have h1 := hp.1
  refine NT.cancel hc ?_
  have hf := NT.fermat hp (a := a) (fun h => by have := Nat.le_of_dvd (by omega) h; omega)
  rw [show a * a ^ (m - 2) = a ^ (m - 1) by rw [← Nat.pow_succ']; congr 1; omega, hf, ← hz, Nat.mod_mul_mod]
  congr 1
  simp only [Nat.mul_assoc, Nat.mul_left_comm, Nat.mul_comm]
theorem mf_coprime {m b : Nat} (hm : m % 2 = 1) : Nat.Coprime (2 ^ b) m := Nat.Coprime.pow_left _ (two_coprime hm)
theorem mf_inj {m b x y : Nat} (hm : m % 2 = 1) (hx : x < m) (hy : y < m) (h : x * 2 ^ b % m = y * 2 ^ b % m) : x = y := by
  rw [Nat.mul_comm x, Nat.mul_comm y] at h
  have := NT.cancel (mf_coprime hm) h
  rwa [Nat.mod_eq_of_lt hx, Nat.mod_eq_of_lt hy] at this
theorem limR_quarter (n i : Nat) : limR (n / 4) i = limR n i / 4 + 4611686018427387904 * (limR n (i + 1) % 4) := by
  unfold limR
  obtain ⟨q, hq⟩ : ∃ q, q = n / 2 ^ (64 * i) := ⟨_, rfl⟩
  have h1 : n / 4 / 2 ^ (64 * i) = q / 4 := by rw [hq, Nat.div_div_eq_div_mul, Nat.mul_comm 4, ← Nat.div_div_eq_div_mul]
  have h2 : n / 2 ^ (64 * (i + 1)) = q / 18446744073709551616 := by rw [hq, Nat.div_div_eq_div_mul, show (18446744073709551616 : Nat) = 2 ^ 64 from rfl, ← Nat.pow_add]; rfl
  rw [h1, h2, ← hq]
  omega
/-- A word's quarter, and the two bits above. -/
theorem quarter_word {A : Ar} (hA : A = Ar.real) {x y : Int} (hx : 0 ≤ x ∧ x < 18446744073709551616) (hy : 0 ≤ y ∧ y < 18446744073709551616) : A.bin .or .u64 (A.bin .shr .u64 x 2) (A.bin .shl .u64 y 62) = x / 4 + 4611686018427387904 * (y % 4) := by
  obtain ⟨a, rfl⟩ : ∃ n : Nat, x = n := ⟨x.toNat, by omega⟩
  obtain ⟨b, rfl⟩ : ∃ n : Nat, y = n := ⟨y.toNat, by omega⟩
  rw [hA]
  show rbin .or .u64 (rbin .shr .u64 (Int.ofNat a) (Int.ofNat 2)) (rbin .shl .u64 (Int.ofNat b) (Int.ofNat 62)) = _
  have e : b * 2 ^ 62 % 18446744073709551616 = 2 ^ 62 * (b % 4) := by omega
  rw [u_shr a 2 (by omega), u_shl _ 62 (by omega), e, u_or_add _ _ 62 (by omega) (by omega) (by omega)]
  show ((a / 2 ^ 2 + 2 ^ 62 * (b % 4) : Nat) : Int) = _
  omega
theorem shr_two {A : Ar} (hA : A = Ar.real) {x : Int} (hx : 0 ≤ x) : A.bin .shr .u64 x 2 = x / 4 := by
  obtain ⟨a, rfl⟩ : ∃ n : Nat, x = n := ⟨x.toNat, by omega⟩
  rw [hA]
  show rbin .shr .u64 (Int.ofNat a) (Int.ofNat 2) = _
  rw [u_shr a 2 (by omega)]
  show ((a / 2 ^ 2 : Nat) : Int) = _
  omega
theorem row4 (lim : Lim) (hl : lim = limR) (e : Nat) : IsRow [.s .u64 (lim e 0), .s .u64 (lim e 1), .s .u64 (lim e 2), .s .u64 (lim e 3)] (limR e) 4 := by
  subst hl
  refine ⟨rfl, fun i hi => ?_⟩
  rcases (by omega : i = 0 ∨ i = 1 ∨ i = 2 ∨ i = 3) with rfl | rfl | rfl | rfl <;> rfl
theorem zeq4 {A : Ar} (hA : A = Ar.real) {lim : Lim} (hl : lim = limR) {x : Nat} (hx : x < 2 ^ 256) : A.eqs [(.s .u64 (lim x 0), .i .u64 0), (.s .u64 (lim x 1), .i .u64 0), (.s .u64 (lim x 2), .i .u64 0), (.s .u64 (lim x 3), .i .u64 0)] = decide (x = 0) := by
  rw [eqs_real hA]
  simp only [List.all_cons, List.all_nil, leafEq_si, Bool.and_true]
  have e := split4 hl x hx
  have hr := fun i => lim_range hl x i
  have r0 := hr 0
  have r1 := hr 1
  have r2 := hr 2
  have r3 := hr 3
  clear hr
  by_cases h : x = 0
  · rw [decide_eq_true h]
    simp only [Bool.and_eq_true, decide_eq_true_eq]
    refine ⟨?_, ?_, ?_, ?_⟩ <;> omega
  · rw [decide_eq_false h]
    refine Bool.eq_false_iff.2 fun h' => h ?_
    simp only [Bool.and_eq_true, decide_eq_true_eq] at h'
    omega
theorem InvS4 {H : H5} (hH : H = H5.real) {m a : Nat} (hR : Mod 256 m) (ha : a < m) : Sp 29 [.ref (R4 H m) 0, el4 H m a] (el4 H m (H.pow m a (m - 2))) := by
  have hl := H5.hlim hH
  have hlim := hR.lt
  have h1m := hR.one
  have hodd := hR.odd
  obtain ⟨x, hx⟩ : ∃ x, x = H.mf 256 m a := ⟨_, rfl⟩
  have hx' : x = a * 2 ^ 256 % m := by rw [hx, hH]; rfl
  have hxm : x < m := by rw [hx']; exact Nat.mod_lt _ hR.pos
  have hx0 : x = 0 ↔ a = 0 := by
    rw [hx']
    constructor
    · intro h; exact mf_inj hodd ha hR.pos (h.trans (by rw [Nat.zero_mul, Nat.zero_mod]))
    · rintro rfl; rw [Nat.zero_mul, Nat.zero_mod]
  obtain ⟨e, he⟩ : ∃ e, e = m - 2 := ⟨_, rfl⟩
  have l20 : H.lim 2 0 = 2 := by rw [hH]; rfl
  have l2s : ∀ i, i < 4 - 1 → H.lim 2 (i + 1) = 0 := by
    intro i hi; rw [hH]; show ((2 / 2 ^ (64 * (i + 1)) % 2 ^ 64 : Nat) : Int) = 0
    rw [Nat.div_eq_of_lt (Nat.lt_of_lt_of_le (show 2 < 2 ^ 2 by decide) (Nat.pow_le_pow_right (by omega) (by omega)))]; rfl
  have c2 := minus4 hl m 2 e 0 hlim (by omega) (by omega) (by omega)
  have c3 := wordsS4 (H := H) e
  have c4 := ExpS4 hH hR ha (row4 H.lim hl e) (by omega) (by omega : e < 2 ^ (64 * 4))
  unfold el4 at c4 ⊢
  rw [← hx] at c4 ⊢
  have hfast : (A : Ar) → A = Ar.real → A.cmp .eql ((H.fast4 m : Nat) : Int) 1 = decide (m ∈ primes4) := by
    intro A hA
    rw [i_eq hA, hH]
    show decide (((if m ∈ primes4 then 1 else 0 : Nat) : Int) = 1) = _
    by_cases h : m ∈ primes4
    · rw [if_pos h, decide_eq_true h]; rfl
    · rw [if_neg h, decide_eq_false h]; rfl
  rw [← he]
  refine mk Try.func29 rfl rfl LN R1 (by decide +kernel) fun A S hA hS => ?_
  have hfast := hfast A hA
  unfold bodyOf Try.f29
  cbv
  refine ACall.mk _ (cf hS (isS4 (H := H) m)) ?_
  cbv
  have c1 := less4S hl x m (Nat.lt_trans hxm hlim) hlim true (decide_eq_true hxm).symm
  have tail : Sp 77 [u4 H.lim m, .agg [.i .u64 2, .i .u64 0, .i .u64 0, .i .u64 0]] (.tup [u4 H.lim e, .s .u64 (0 : Nat)]) := Spec.args c2 (by
    cbv
    repeat' (first | exact l20.symm | exact (l2s _ (by omega)).symm | constructor))
  by_cases hp : m ∈ primes4
  · rw [decide_eq_true hp] at hfast
    have hpr := primes4_pr hp
    have ez := zeq4 hA hl (Nat.lt_trans hxm hlim)
    by_cases h0 : a = 0
    · rw [decide_eq_true (hx0.2 h0)] at ez
      have nz := (a_not hA (A.eqs [(.s .u64 (H.lim x 0), .i .u64 0), (.s .u64 (H.lim x 1), .i .u64 0), (.s .u64 (H.lim x 2), .i .u64 0), (.s .u64 (H.lim x 3), .i .u64 0)])).trans (by rw [ez]; rfl : _ = false)
      repeat (first | (refine ABr.t (by assumption) ?_; cbv) | (refine ABr.f (by assumption) ?_; cbv))
      refine ACall.mk _ (cf hS c1) ?_
      cbv
      repeat (first | (refine ABr.t (by assumption) ?_; cbv) | (refine ABr.f (by assumption) ?_; cbv) | (refine ABr.t rfl ?_; cbv))
      refine ACall.mk _ (cf hS none4S) ?_
      cbv
      repeat (first | (refine ABr.t (by assumption) ?_; cbv) | (refine ABr.f (by assumption) ?_; cbv) | (refine ABr.t rfl ?_; cbv))
      refine ACall.mk _ (cf hS tail) ?_
      cbv
      refine ACall.mk _ (cf hS c3) ?_
      cbv
      refine ACall.mk _ (cg hS c4 (by cbv)) ?_
      cbv
    · rw [decide_eq_false (fun h => h0 (hx0.1 h))] at ez
      have nz := (a_not hA (A.eqs [(.s .u64 (H.lim x 0), .i .u64 0), (.s .u64 (H.lim x 1), .i .u64 0), (.s .u64 (H.lim x 2), .i .u64 0), (.s .u64 (H.lim x 3), .i .u64 0)])).trans (by rw [ez]; rfl : _ = true)
      have hxc := pr_coprime hpr (fun h => h0 (hx0.1 h)) hxm
      obtain ⟨z, hzm, hxz⟩ := NT.inv_mod hxc h1m
      have hinv := inv_mf hpr h0 ha (by rw [← hx']; exact hxz)
      obtain ⟨r1, hr1⟩ : ∃ r1, r1 = z * 2 ^ 256 % m := ⟨_, rfl⟩
      obtain ⟨r2, hr2⟩ : ∃ r2, r2 = H.mf 256 m (H.pow m a e) := ⟨_, rfl⟩
      have hr2' : r2 = a ^ e % m * 2 ^ 256 % m := by rw [hr2, hH]; rfl
      obtain ⟨tw, htw⟩ : ∃ tw, tw = H.mf (2 * 256) m 1 := ⟨_, rfl⟩
      have htw' : tw = 2 ^ (2 * 256) % m := by rw [htw, hH]; show 1 * 2 ^ (2 * 256) % m = _; rw [Nat.one_mul]
      have htm : tw < m := by rw [htw']; exact Nat.mod_lt _ hR.pos
      have hr1m : r1 < m := by rw [hr1]; exact Nat.mod_lt _ hR.pos
      have hr2m : r2 < m := by rw [hr2']; exact Nat.mod_lt _ hR.pos
      have g1 := gcdS4 hH hR (by have := hx0.1; omega) hxm hxc hzm hxz
      have g2 := mulS4 hl hR (inv := H.minv m) (by rw [hH]; rfl) (H.fast4 m) (H.mf 256 m 1) tw z tw r1 (Nat.lt_trans hzm hlim) (Nat.lt_trans htm hlim) (.inl hzm) hr1m (by
        rw [hr1, htw', Nat.mul_mod_mod, Nat.mod_mul_mod, Nat.mul_assoc, ← Nat.pow_add])
      have g3 := mulS4 hl hR (inv := H.minv m) (by rw [hH]; rfl) (H.fast4 m) (H.mf 256 m 1) tw r1 tw r2 (Nat.lt_trans hr1m hlim) (Nat.lt_trans htm hlim) (.inl hr1m) hr2m (by
        rw [hr2', htw', hr1, hinv, ← he, Nat.mul_mod_mod, Nat.mod_mul_mod, Nat.mul_assoc, ← Nat.pow_add])
      rw [htw] at g2 g3
      repeat (first | (refine ABr.t (by assumption) ?_; cbv) | (refine ABr.f (by assumption) ?_; cbv))
      refine ACall.mk _ (cf hS c1) ?_
      cbv
      repeat (first | (refine ABr.t (by assumption) ?_; cbv) | (refine ABr.f (by assumption) ?_; cbv) | (refine ABr.t rfl ?_; cbv))
      refine ACall.mk _ (cf hS none4S) ?_
      cbv
      repeat (first | (refine ABr.t (by assumption) ?_; cbv) | (refine ABr.f (by assumption) ?_; cbv) | (refine ABr.t rfl ?_; cbv))
      refine ACall.mk _ (cf hS g1) ?_
      cbv
      refine ACall.mk _ (cf hS g2) ?_
      cbv
      refine ACall.mk _ (cf hS g3) ?_
      rw [hr2]
      cbv
  · rw [decide_eq_false hp] at hfast
    repeat (refine ABr.f hfast ?_; cbv)
    refine ACall.mk _ (cf hS tail) ?_
    cbv
    refine ACall.mk _ (cf hS c3) ?_
    cbv
    refine ACall.mk _ (cg hS c4 (by cbv)) ?_
    cbv
theorem row6 (lim : Lim) (hl : lim = limR) (e : Nat) : IsRow [.s .u64 (lim e 0), .s .u64 (lim e 1), .s .u64 (lim e 2), .s .u64 (lim e 3), .s .u64 (lim e 4), .s .u64 (lim e 5)] (limR e) 6 := by
  subst hl
  refine ⟨rfl, fun i hi => ?_⟩
  rcases (by omega : i = 0 ∨ i = 1 ∨ i = 2 ∨ i = 3 ∨ i = 4 ∨ i = 5) with rfl | rfl | rfl | rfl | rfl | rfl <;> rfl
theorem zeq6 {A : Ar} (hA : A = Ar.real) {lim : Lim} (hl : lim = limR) {x : Nat} (hx : x < 2 ^ 384) : A.eqs [(.s .u64 (lim x 0), .i .u64 0), (.s .u64 (lim x 1), .i .u64 0), (.s .u64 (lim x 2), .i .u64 0), (.s .u64 (lim x 3), .i .u64 0), (.s .u64 (lim x 4), .i .u64 0), (.s .u64 (lim x 5), .i .u64 0)] = decide (x = 0) := by
  rw [eqs_real hA]
  simp only [List.all_cons, List.all_nil, leafEq_si, Bool.and_true]
  have e := split6 hl x hx
  have hr := fun i => lim_range hl x i
  have r0 := hr 0
  have r1 := hr 1
  have r2 := hr 2
  have r3 := hr 3
  have r4 := hr 4
  have r5 := hr 5
  clear hr
  by_cases h : x = 0
  · rw [decide_eq_true h]
    simp only [Bool.and_eq_true, decide_eq_true_eq]
    refine ⟨?_, ?_, ?_, ?_, ?_, ?_⟩ <;> omega
  · rw [decide_eq_false h]
    refine Bool.eq_false_iff.2 fun h' => h ?_
    simp only [Bool.and_eq_true, decide_eq_true_eq] at h'
    omega
theorem InvS6 {H : H5} (hH : H = H5.real) {m a : Nat} (hR : Mod 384 m) (ha : a < m) : Sp 36 [.ref (R6 H m) 0, el6 H m a] (el6 H m (H.pow m a (m - 2))) := by
  have hl := H5.hlim hH
  have hlim := hR.lt
  have h1m := hR.one
  have hodd := hR.odd
  obtain ⟨x, hx⟩ : ∃ x, x = H.mf 384 m a := ⟨_, rfl⟩
  have hx' : x = a * 2 ^ 384 % m := by rw [hx, hH]; rfl
  have hxm : x < m := by rw [hx']; exact Nat.mod_lt _ hR.pos
  have hx0 : x = 0 ↔ a = 0 := by
    rw [hx']
    constructor
    · intro h; exact mf_inj hodd ha hR.pos (h.trans (by rw [Nat.zero_mul, Nat.zero_mod]))
    · rintro rfl; rw [Nat.zero_mul, Nat.zero_mod]
  obtain ⟨e, he⟩ : ∃ e, e = m - 2 := ⟨_, rfl⟩
  have l20 : H.lim 2 0 = 2 := by rw [hH]; rfl
  have l2s : ∀ i, i < 6 - 1 → H.lim 2 (i + 1) = 0 := by
    intro i hi; rw [hH]; show ((2 / 2 ^ (64 * (i + 1)) % 2 ^ 64 : Nat) : Int) = 0
    rw [Nat.div_eq_of_lt (Nat.lt_of_lt_of_le (show 2 < 2 ^ 2 by decide) (Nat.pow_le_pow_right (by omega) (by omega)))]; rfl
  have c2 := minus6 hl m 2 e 0 hlim (by omega) (by omega) (by omega)
  have c3 := wordsS6 (H := H) e
  have c4 := ExpS6 hH hR ha (row6 H.lim hl e) (by omega) (by omega : e < 2 ^ (64 * 6))
  unfold el6 at c4 ⊢
  rw [← hx] at c4 ⊢
  have hfast : (A : Ar) → A = Ar.real → A.cmp .eql ((H.fast6 m : Nat) : Int) 1 = decide (m ∈ primes6) := by
    intro A hA
    rw [i_eq hA, hH]
    show decide (((if m ∈ primes6 then 1 else 0 : Nat) : Int) = 1) = _
    by_cases h : m ∈ primes6
    · rw [if_pos h, decide_eq_true h]; rfl
    · rw [if_neg h, decide_eq_false h]; rfl
  rw [← he]
  refine mk Try.func36 rfl rfl LN R1 (by decide +kernel) fun A S hA hS => ?_
  have hfast := hfast A hA
  unfold bodyOf Try.f36
  cbv
  refine ACall.mk _ (cf hS (isS6 (H := H) m)) ?_
  cbv
  have c1 := less6S hl x m (Nat.lt_trans hxm hlim) hlim true (decide_eq_true hxm).symm
  have tail : Sp 89 [u6 H.lim m, .agg [.i .u64 2, .i .u64 0, .i .u64 0, .i .u64 0, .i .u64 0, .i .u64 0]] (.tup [u6 H.lim e, .s .u64 (0 : Nat)]) := Spec.args c2 (by
    cbv
    repeat' (first | exact l20.symm | exact (l2s _ (by omega)).symm | constructor))
  by_cases hp : m ∈ primes6
  · rw [decide_eq_true hp] at hfast
    have hpr := primes6_pr hp
    have ez := zeq6 hA hl (Nat.lt_trans hxm hlim)
    by_cases h0 : a = 0
    · rw [decide_eq_true (hx0.2 h0)] at ez
      have nz := (a_not hA (A.eqs [(.s .u64 (H.lim x 0), .i .u64 0), (.s .u64 (H.lim x 1), .i .u64 0), (.s .u64 (H.lim x 2), .i .u64 0), (.s .u64 (H.lim x 3), .i .u64 0), (.s .u64 (H.lim x 4), .i .u64 0), (.s .u64 (H.lim x 5), .i .u64 0)])).trans (by rw [ez]; rfl : _ = false)
      repeat (first | (refine ABr.t (by assumption) ?_; cbv) | (refine ABr.f (by assumption) ?_; cbv))
      refine ACall.mk _ (cf hS c1) ?_
      cbv
      repeat (first | (refine ABr.t (by assumption) ?_; cbv) | (refine ABr.f (by assumption) ?_; cbv) | (refine ABr.t rfl ?_; cbv))
      refine ACall.mk _ (cf hS none6S) ?_
      cbv
      repeat (first | (refine ABr.t (by assumption) ?_; cbv) | (refine ABr.f (by assumption) ?_; cbv) | (refine ABr.t rfl ?_; cbv))
      refine ACall.mk _ (cf hS tail) ?_
      cbv
      refine ACall.mk _ (cf hS c3) ?_
      cbv
      refine ACall.mk _ (cg hS c4 (by cbv)) ?_
      cbv
    · rw [decide_eq_false (fun h => h0 (hx0.1 h))] at ez
      have nz := (a_not hA (A.eqs [(.s .u64 (H.lim x 0), .i .u64 0), (.s .u64 (H.lim x 1), .i .u64 0), (.s .u64 (H.lim x 2), .i .u64 0), (.s .u64 (H.lim x 3), .i .u64 0), (.s .u64 (H.lim x 4), .i .u64 0), (.s .u64 (H.lim x 5), .i .u64 0)])).trans (by rw [ez]; rfl : _ = true)
      have hxc := pr_coprime hpr (fun h => h0 (hx0.1 h)) hxm
      obtain ⟨z, hzm, hxz⟩ := NT.inv_mod hxc h1m
      have hinv := inv_mf hpr h0 ha (by rw [← hx']; exact hxz)
      obtain ⟨r1, hr1⟩ : ∃ r1, r1 = z * 2 ^ 384 % m := ⟨_, rfl⟩
      obtain ⟨r2, hr2⟩ : ∃ r2, r2 = H.mf 384 m (H.pow m a e) := ⟨_, rfl⟩
      have hr2' : r2 = a ^ e % m * 2 ^ 384 % m := by rw [hr2, hH]; rfl
      obtain ⟨tw, htw⟩ : ∃ tw, tw = H.mf (2 * 384) m 1 := ⟨_, rfl⟩
      have htw' : tw = 2 ^ (2 * 384) % m := by rw [htw, hH]; show 1 * 2 ^ (2 * 384) % m = _; rw [Nat.one_mul]
      have htm : tw < m := by rw [htw']; exact Nat.mod_lt _ hR.pos
      have hr1m : r1 < m := by rw [hr1]; exact Nat.mod_lt _ hR.pos
      have hr2m : r2 < m := by rw [hr2']; exact Nat.mod_lt _ hR.pos
      have g1 := gcdS6 hH hR (by have := hx0.1; omega) hxm hxc hzm hxz
      have g2 := mulS6 hl hR (inv := H.minv m) (by rw [hH]; rfl) (H.fast6 m) (H.mf 384 m 1) tw z tw r1 (Nat.lt_trans hzm hlim) (Nat.lt_trans htm hlim) (.inl hzm) hr1m (by
        rw [hr1, htw', Nat.mul_mod_mod, Nat.mod_mul_mod, Nat.mul_assoc, ← Nat.pow_add])
      have g3 := mulS6 hl hR (inv := H.minv m) (by rw [hH]; rfl) (H.fast6 m) (H.mf 384 m 1) tw r1 tw r2 (Nat.lt_trans hr1m hlim) (Nat.lt_trans htm hlim) (.inl hr1m) hr2m (by
        rw [hr2', htw', hr1, hinv, ← he, Nat.mul_mod_mod, Nat.mod_mul_mod, Nat.mul_assoc, ← Nat.pow_add])
      rw [htw] at g2 g3
      repeat (first | (refine ABr.t (by assumption) ?_; cbv) | (refine ABr.f (by assumption) ?_; cbv))
      refine ACall.mk _ (cf hS c1) ?_
      cbv
      repeat (first | (refine ABr.t (by assumption) ?_; cbv) | (refine ABr.f (by assumption) ?_; cbv) | (refine ABr.t rfl ?_; cbv))
      refine ACall.mk _ (cf hS none6S) ?_
      cbv
      repeat (first | (refine ABr.t (by assumption) ?_; cbv) | (refine ABr.f (by assumption) ?_; cbv) | (refine ABr.t rfl ?_; cbv))
      refine ACall.mk _ (cf hS g1) ?_
      cbv
      refine ACall.mk _ (cf hS g2) ?_
      cbv
      refine ACall.mk _ (cf hS g3) ?_
      rw [hr2]
      cbv
  · rw [decide_eq_false hp] at hfast
    repeat (refine ABr.f hfast ?_; cbv)
    refine ACall.mk _ (cf hS tail) ?_
    cbv
    refine ACall.mk _ (cf hS c3) ?_
    cbv
    refine ACall.mk _ (cg hS c4 (by cbv)) ?_
    cbv
end Go.Proofs.Ytlmlganfjnokiaa
