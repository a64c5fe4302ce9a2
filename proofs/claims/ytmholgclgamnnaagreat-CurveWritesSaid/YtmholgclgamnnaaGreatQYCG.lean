import Derived.Test.YtmholgclgamnnaaGreatQYO
import Derived.Test.YtmholgclgamnnaaGreatQYCB
section
set_option linter.unusedVariables false
set_option linter.unusedSimpArgs false
namespace Go.Proofs.YtmholgclgamnnaaGreat
open Go Eng
set_option maxRecDepth 100000
set_option exponentiation.threshold 2000
theorem primes4_pr {m : Nat} (h : m ∈ primes4) : NT.Pr m := by
  simp only [primes4, List.mem_cons, List.not_mem_nil, or_false] at h
  rcases h with rfl | rfl | rfl | rfl | rfl
  · exact NT.prime_secpP
  · exact NT.prime_secpN
  · exact NT.prime_bnP
  · exact NT.prime_bnR
  · exact NT.prime_blsR
theorem primes6_pr {m : Nat} (h : m ∈ primes6) : NT.Pr m := by
  simp only [primes6, List.mem_cons, List.not_mem_nil, or_false] at h
  subst h
  exact NT.prime_blsP
theorem pr_coprime {m a : Nat} (hp : NT.Pr m) (h0 : a ≠ 0) (ha : a < m) : Nat.Coprime a m :=
  hp.coprime fun h => by have := Nat.le_of_dvd (by omega) h; omega
/-- What the search for an inverse is worth. -/
theorem inv_mf {m a z b : Nat} (hp : NT.Pr m) (h0 : a ≠ 0) (ha : a < m) (hz : a * 2 ^ b % m * z % m = 1) : z * 2 ^ b % m = a ^ (m - 2) % m := by
  have hc := pr_coprime hp h0 ha
  have h1 := hp.1
  refine NT.cancel hc ?_
  have hf := NT.fermat hp (a := a) (fun h => by have := Nat.le_of_dvd (by omega) h; omega)
  rw [show a * a ^ (m - 2) = a ^ (m - 1) by rw [← Nat.pow_succ']; congr 1; omega, hf, ← hz, Nat.mod_mul_mod]
  congr 1
  simp only [Nat.mul_assoc, Nat.mul_left_comm, Nat.mul_comm]
theorem mf_coprime {m b : Nat} (hm : m % 2 = 1) : Nat.Coprime (2 ^ b) m := Nat.Coprime.pow_left _ (two_coprime hm)
theorem mf_inj {m b x y : Nat} (hm : m % 2 = 1) (hx : x < m) (hy : y < m) (h : x * 2 ^ b % m = y * 2 ^ b % m) : x = y := by
  rw [Nat.mul_comm x, Nat.mul_comm y] at h
  have := NT.cancel (mf_coprime hm) h
  rwa [Nat.mod_eq_of_lt hx, Nat.mod_eq_of_lt hy] at this
theorem row4 (lim : Lim) (hl : lim = limR) (e : Nat) : IsRow [.s .u64 (lim e 0), .s .u64 (lim e 1), .s .u64 (lim e 2), .s .u64 (lim e 3)] (limR e) 4 := by
  subst hl
  refine ⟨rfl, fun i hi => ?_⟩
  rcases (by omega : i = 0 ∨ i = 1 ∨ i = 2 ∨ i = 3) with rfl | rfl | rfl | rfl <;> rfl
theorem zeq4 {A : Ar} (hA : A = Ar.real) {lim : Lim} (hl : lim = limR) {x : Nat} (hx : x < 2 ^ 256) : A.eqs [(.s .u64 (lim x 0), .i .u64 0), (.s .u64 (lim x 1), .i .u64 0), (.s .u64 (lim x 2), .i .u64 0), (.s .u64 (lim x 3), .i .u64 0)] = decide (x = 0) := by
  rw [eqs_real hA]
  simp only [List.all_cons, List.all_nil, leafEq_si, Bool.and_true]
  have e := split4 hl x hx
  have hr := fun i => lim_range hl x i
  have r0 := hr 0
  have r1 := hr 1
  have r2 := hr 2
  have r3 := hr 3
  clear hr
  by_cases h : x = 0
  · rw [decide_eq_true h]
    simp only [Bool.and_eq_true, decide_eq_true_eq]
    refine ⟨?_, ?_, ?_, ?_⟩ <;> omega
  · rw [decide_eq_false h]
    refine Bool.eq_false_iff.2 fun h' => h ?_
    simp only [Bool.and_eq_true, decide_eq_true_eq] at h'
    omega
theorem InvS4 {H : H5} (hH : H = H5.real) {m a : Nat} (hR : Mod 256 m) (ha : a < m) : Sp 177 [.ref (R4 H m) 0, el4 H m a] (el4 H m (H.pow m a (m - 2))) := by
  have hl := H5.hlim hH
  have hlim := hR.lt
  have h1m := hR.one
  have hodd := hR.odd
  obtain ⟨x, hx⟩ : ∃ x, x = H.mf 256 m a := ⟨_, rfl⟩
  have hx' : x = a * 2 ^ 256 % m := by rw [hx, hH]; rfl
  have hxm : x < m := by rw [hx']; exact Nat.mod_lt _ hR.pos
  have hx0 : x = 0 ↔ a = 0 := by
    rw [hx']
    constructor
    · intro h; exact mf_inj hodd ha hR.pos (h.trans (by rw [Nat.zero_mul, Nat.zero_mod]))
    · rintro rfl; rw [Nat.zero_mul, Nat.zero_mod]
  obtain ⟨e, he⟩ : ∃ e, e = m - 2 := ⟨_, rfl⟩
  have l20 : H.lim 2 0 = 2 := by rw [hH]; rfl
  have l2s : ∀ i, i < 4 - 1 → H.lim 2 (i + 1) = 0 := by
    intro i hi; rw [hH]; show ((2 / 2 ^ (64 * (i + 1)) % 2 ^ 64 : Nat) : Int) = 0
    rw [Nat.div_eq_of_lt (Nat.lt_of_lt_of_le (show 2 < 2 ^ 2 by decide) (Nat.pow_le_pow_right (by omega) (by omega)))]; rfl
  have c2 := minus4 hl m 2 e 0 hlim (by omega) (by omega) (by omega)
  have c3 := wordsS4 (H := H) e
  have c4 := ExpS4 hH hR ha (row4 H.lim hl e) (by omega) (by omega : e < 2 ^ (64 * 4))
  unfold el4 at c4 ⊢
  rw [← hx] at c4 ⊢
  have hfast : (A : Ar) → A = Ar.real → A.cmp .eql ((H.fast4 m : Nat) : Int) 1 = decide (m ∈ primes4) := by
    intro A hA
    rw [i_eq hA, hH]
    show decide (((if m ∈ primes4 then 1 else 0 : Nat) : Int) = 1) = _
    by_cases h : m ∈ primes4
    · rw [if_pos h, decide_eq_true h]; rfl
    · rw [if_neg h, decide_eq_false h]; rfl
  rw [← he]
  refine mk Tryz.func177 rfl rfl LN R1 (by decide +kernel) fun A S hA hS => ?_
  have hfast := hfast A hA
  unfold bodyOf Tryz.f177
  cbv
  refine ACall.mk _ (cf hS (isS4 (H := H) m)) ?_
  cbv
  have c1 := less4S hl x m (Nat.lt_trans hxm hlim) hlim true (decide_eq_true hxm).symm
  have tail : Sp 210 [u4 H.lim m, .agg [.i .u64 2, .i .u64 0, .i .u64 0, .i .u64 0]] (.tup [u4 H.lim e, .s .u64 (0 : Nat)]) := Spec.args c2 (by
    cbv
    repeat' (first | exact l20.symm | exact (l2s _ (by omega)).symm | constructor))
  by_cases hp : m ∈ primes4
  · rw [decide_eq_true hp] at hfast
    have hpr := primes4_pr hp
    have ez := zeq4 hA hl (Nat.lt_trans hxm hlim)
    by_cases h0 : a = 0
    · rw [decide_eq_true (hx0.2 h0)] at ez
      have nz := (a_not hA (A.eqs [(.s .u64 (H.lim x 0), .i .u64 0), (.s .u64 (H.lim x 1), .i .u64 0), (.s .u64 (H.lim x 2), .i .u64 0), (.s .u64 (H.lim x 3), .i .u64 0)])).trans (by rw [ez]; rfl : _ = false)
      repeat (first | (refine ABr.t (by assumption) ?_; cbv) | (refine ABr.f (by assumption) ?_; cbv))
      refine ACall.mk _ (cf hS c1) ?_
      cbv
      repeat (first | (refine ABr.t (by assumption) ?_; cbv) | (refine ABr.f (by assumption) ?_; cbv) | (refine ABr.t rfl ?_; cbv))
      refine ACall.mk _ (cf hS none4S) ?_
      cbv
      repeat (first | (refine ABr.t (by assumption) ?_; cbv) | (refine ABr.f (by assumption) ?_; cbv) | (refine ABr.t rfl ?_; cbv))
      refine ACall.mk _ (cf hS tail) ?_
      cbv
      refine ACall.mk _ (cf hS c3) ?_
      cbv
      refine ACall.mk _ (cg hS c4 (by cbv)) ?_
      cbv
    · rw [decide_eq_false (fun h => h0 (hx0.1 h))] at ez
      have nz := (a_not hA (A.eqs [(.s .u64 (H.lim x 0), .i .u64 0), (.s .u64 (H.lim x 1), .i .u64 0), (.s .u64 (H.lim x 2), .i .u64 0), (.s .u64 (H.lim x 3), .i .u64 0)])).trans (by rw [ez]; rfl : _ = true)
      have hxc := pr_coprime hpr (fun h => h0 (hx0.1 h)) hxm
      obtain ⟨z, hzm, hxz⟩ := NT.inv_mod hxc h1m
      have hinv := inv_mf hpr h0 ha (by rw [← hx']; exact hxz)
      obtain ⟨r1, hr1⟩ : ∃ r1, r1 = z * 2 ^ 256 % m := ⟨_, rfl⟩
      obtain ⟨r2, hr2⟩ : ∃ r2, r2 = H.mf 256 m (H.pow m a e) := ⟨_, rfl⟩
      have hr2' : r2 = a ^ e % m * 2 ^ 256 % m := by rw [hr2, hH]; rfl
      obtain ⟨tw, htw⟩ : ∃ tw, tw = H.mf (2 * 256) m 1 := ⟨_, rfl⟩
      have htw' : tw = 2 ^ (2 * 256) % m := by rw [htw, hH]; show 1 * 2 ^ (2 * 256) % m = _; rw [Nat.one_mul]
      have htm : tw < m := by rw [htw']; exact Nat.mod_lt _ hR.pos
      have hr1m : r1 < m := by rw [hr1]; exact Nat.mod_lt _ hR.pos
      have hr2m : r2 < m := by rw [hr2']; exact Nat.mod_lt _ hR.pos
      have g1 := gcdS4 hH hR (by have := hx0.1; omega) hxm hxc hzm hxz
      have g2 := mulS4 hl hR (inv := H.minv m) (by rw [hH]; rfl) (H.fast4 m) (H.mf 256 m 1) tw z tw r1 (Nat.lt_trans hzm hlim) (Nat.lt_trans htm hlim) (.inl hzm) hr1m (by
        rw [hr1, htw', Nat.mul_mod_mod, Nat.mod_mul_mod, Nat.mul_assoc, ← Nat.pow_add])
      have g3 := mulS4 hl hR (inv := H.minv m) (by rw [hH]; rfl) (H.fast4 m) (H.mf 256 m 1) tw r1 tw r2 (Nat.lt_trans hr1m hlim) (Nat.lt_trans htm hlim) (.inl hr1m) hr2m (by
        rw [hr2', htw', hr1, hinv, ← he, Nat.mul_mod_mod, Nat.mod_mul_mod, Nat.mul_assoc, ← Nat.pow_add])
      rw [htw] at g2 g3
      repeat (first | (refine ABr.t (by assumption) ?_; cbv) | (refine ABr.f (by assumption) ?_; cbv))
      refine ACall.mk _ (cf hS c1) ?_
      cbv
      repeat (first | (refine ABr.t (by assumption) ?_; cbv) | (refine ABr.f (by assumption) ?_; cbv) | (refine ABr.t rfl ?_; cbv))
      refine ACall.mk _ (cf hS none4S) ?_
      cbv
      repeat (first | (refine ABr.t (by assumption) ?_; cbv) | (refine ABr.f (by assumption) ?_; cbv) | (refine ABr.t rfl ?_; cbv))
      refine ACall.mk _ (cf hS g1) ?_
      cbv
      refine ACall.mk _ (cf hS g2) ?_
      cbv
      refine ACall.mk _ (cf hS g3) ?_
      rw [hr2]
      cbv
  · rw [decide_eq_false hp] at hfast
    repeat (refine ABr.f hfast ?_; cbv)
    refine ACall.mk _ (cf hS tail) ?_
    cbv
    refine ACall.mk _ (cf hS c3) ?_
    cbv
    refine ACall.mk _ (cg hS c4 (by cbv)) ?_
    cbv
theorem row6 (lim : Lim) (hl : lim = limR) (e : Nat) : IsRow [.s .u64 (lim e 0), .s .u64 (lim e 1), .s .u64 (lim e 2), .s .u64 (lim e 3), .s .u64 (lim e 4), .s .u64 (lim e 5)] (limR e) 6 := by
  subst hl
  refine ⟨rfl, fun i hi => ?_⟩
  rcases (by omega : i = 0 ∨ i = 1 ∨ i = 2 ∨ i = 3 ∨ i = 4 ∨ i = 5) with rfl | rfl | rfl | rfl | rfl | rfl <;> rfl
theorem zeq6 {A : Ar} (hA : A = Ar.real) {lim : Lim} (hl : lim = limR) {x : Nat} (hx : x < 2 ^ 384) : A.eqs [(.s .u64 (lim x 0), .i .u64 0), (.s .u64 (lim x 1), .i .u64 0), (.s .u64 (lim x 2), .i .u64 0), (.s .u64 (lim x 3), .i .u64 0), (.s .u64 (lim x 4), .i .u64 0), (.s .u64 (lim x 5), .i .u64 0)] = decide (x = 0) := by
  rw [eqs_real hA]
  simp only [List.all_cons, List.all_nil, leafEq_si, Bool.and_true]
  have e := split6 hl x hx
  have hr := fun i => lim_range hl x i
  have r0 := hr 0
  have r1 := hr 1
  have r2 := hr 2
  have r3 := hr 3
  have r4 := hr 4
  have r5 := hr 5
  clear hr
  by_cases h : x = 0
  · rw [decide_eq_true h]
    simp only [Bool.and_eq_true, decide_eq_true_eq]
    refine ⟨?_, ?_, ?_, ?_, ?_, ?_⟩ <;> omega
  · rw [decide_eq_false h]
    refine Bool.eq_false_iff.2 fun h' => h ?_
    simp only [Bool.and_eq_true, decide_eq_true_eq] at h'
    omega
theorem InvS6 {H : H5} (hH : H = H5.real) {m a : Nat} (hR : Mod 384 m) (ha : a < m) : Sp 248 [.ref (R6 H m) 0, el6 H m a] (el6 H m (H.pow m a (m - 2))) := by
  have hl := H5.hlim hH
  have hlim := hR.lt
  have h1m := hR.one
  have hodd := hR.odd
  obtain ⟨x, hx⟩ : ∃ x, x = H.mf 384 m a := ⟨_, rfl⟩
  have hx' : x = a * 2 ^ 384 % m := by rw [hx, hH]; rfl
  have hxm : x < m := by rw [hx']; exact Nat.mod_lt _ hR.pos
  have hx0 : x = 0 ↔ a = 0 := by
    rw [hx']
    constructor
    · intro h; exact mf_inj hodd ha hR.pos (h.trans (by rw [Nat.zero_mul, Nat.zero_mod]))
    · rintro rfl; rw [Nat.zero_mul, Nat.zero_mod]
  obtain ⟨e, he⟩ : ∃ e, e = m - 2 := ⟨_, rfl⟩
  have l20 : H.lim 2 0 = 2 := by rw [hH]; rfl
  have l2s : ∀ i, i < 6 - 1 → H.lim 2 (i + 1) = 0 := by
    intro i hi; rw [hH]; show ((2 / 2 ^ (64 * (i + 1)) % 2 ^ 64 : Nat) : Int) = 0
    rw [Nat.div_eq_of_lt (Nat.lt_of_lt_of_le (show 2 < 2 ^ 2 by decide) (Nat.pow_le_pow_right (by omega) (by omega)))]; rfl
  have c2 := minus6 hl m 2 e 0 hlim (by omega) (by omega) (by omega)
  have c3 := wordsS6 (H := H) e
  have c4 := ExpS6 hH hR ha (row6 H.lim hl e) (by omega) (by omega : e < 2 ^ (64 * 6))
  unfold el6 at c4 ⊢
  rw [← hx] at c4 ⊢
  have hfast : (A : Ar) → A = Ar.real → A.cmp .eql ((H.fast6 m : Nat) : Int) 1 = decide (m ∈ primes6) := by
    intro A hA
    rw [i_eq hA, hH]
    show decide (((if m ∈ primes6 then 1 else 0 : Nat) : Int) = 1) = _
    by_cases h : m ∈ primes6
    · rw [if_pos h, decide_eq_true h]; rfl
    · rw [if_neg h, decide_eq_false h]; rfl
  rw [← he]
  refine mk Tryz.func248 rfl rfl LN R1 (by decide +kernel) fun A S hA hS => ?_
  have hfast := hfast A hA
  unfold bodyOf Tryz.f248
  cbv
  refine ACall.mk _ (cf hS (isS6 (H := H) m)) ?_
  cbv
  have c1 := less6S hl x m (Nat.lt_trans hxm hlim) hlim true (decide_eq_true hxm).symm
  have tail : Sp 200 [u6 H.lim m, .agg [.i .u64 2, .i .u64 0, .i .u64 0, .i .u64 0, .i .u64 0, .i .u64 0]] (.tup [u6 H.lim e, .s .u64 (0 : Nat)]) := Spec.args c2 (by
    cbv
    repeat' (first | exact l20.symm | exact (l2s _ (by omega)).symm | constructor))
  by_cases hp : m ∈ primes6
  · rw [decide_eq_true hp] at hfast
    have hpr := primes6_pr hp
    have ez := zeq6 hA hl (Nat.lt_trans hxm hlim)
    by_cases h0 : a = 0
    · rw [decide_eq_true (hx0.2 h0)] at ez
      have nz := (a_not hA (A.eqs [(.s .u64 (H.lim x 0), .i .u64 0), (.s .u64 (H.lim x 1), .i .u64 0), (.s .u64 (H.lim x 2), .i .u64 0), (.s .u64 (H.lim x 3), .i .u64 0), (.s .u64 (H.lim x 4), .i .u64 0), (.s .u64 (H.lim x 5), .i .u64 0)])).trans (by rw [ez]; rfl : _ = false)
      repeat (first | (refine ABr.t (by assumption) ?_; cbv) | (refine ABr.f (by assumption) ?_; cbv))
      refine ACall.mk _ (cf hS c1) ?_
      cbv
      repeat (first | (refine ABr.t (by assumption) ?_; cbv) | (refine ABr.f (by assumption) ?_; cbv) | (refine ABr.t rfl ?_; cbv))
      refine ACall.mk _ (cf hS none6S) ?_
      cbv
      repeat (first | (refine ABr.t (by assumption) ?_; cbv) | (refine ABr.f (by assumption) ?_; cbv) | (refine ABr.t rfl ?_; cbv))
      refine ACall.mk _ (cf hS tail) ?_
      cbv
      refine ACall.mk _ (cf hS c3) ?_
      cbv
      refine ACall.mk _ (cg hS c4 (by cbv)) ?_
      cbv
    · rw [decide_eq_false (fun h => h0 (hx0.1 h))] at ez
      have nz := (a_not hA (A.eqs [(.s .u64 (H.lim x 0), .i .u64 0), (.s .u64 (H.lim x 1), .i .u64 0), (.s .u64 (H.lim x 2), .i .u64 0), (.s .u64 (H.lim x 3), .i .u64 0), (.s .u64 (H.lim x 4), .i .u64 0), (.s .u64 (H.lim x 5), .i .u64 0)])).trans (by rw [ez]; rfl : _ = true)
      have hxc := pr_coprime hpr (fun h => h0 (hx0.1 h)) hxm
      obtain ⟨z, hzm, hxz⟩ := NT.inv_mod hxc h1m
      have hinv := inv_mf hpr h0 ha (by rw [← hx']; exact hxz)
      obtain ⟨r1, hr1⟩ : ∃ r1, r1 = z * 2 ^ 384 % m := ⟨_, rfl⟩
      obtain ⟨r2, hr2⟩ : ∃ r2, r2 = H.mf 384 m (H.pow m a e) := ⟨_, rfl⟩
      have hr2' : r2 = a ^ e % m * 2 ^ 384 % m := by rw [hr2, hH]; rfl
      obtain ⟨tw, htw⟩ : ∃ tw, tw = H.mf (2 * 384) m 1 := ⟨_, rfl⟩
      have htw' : tw = 2 ^ (2 * 384) % m := by rw [htw, hH]; show 1 * 2 ^ (2 * 384) % m = _; rw [Nat.one_mul]
      have htm : tw < m := by rw [htw']; exact Nat.mod_lt _ hR.pos
      have hr1m : r1 < m := by rw [hr1]; exact Nat.mod_lt _ hR.pos
      have hr2m : r2 < m := by rw [hr2']; exact Nat.mod_lt _ hR.pos
      have g1 := gcdS6 hH hR (by have := hx0.1; omega) hxm hxc hzm hxz
      have g2 := mulS6 hl hR (inv := H.minv m) (by rw [hH]; rfl) (H.fast6 m) (H.mf 384 m 1) tw z tw r1 (Nat.lt_trans hzm hlim) (Nat.lt_trans htm hlim) (.inl hzm) hr1m (by
        rw [hr1, htw', Nat.mul_mod_mod, Nat.mod_mul_mod, Nat.mul_assoc, ← Nat.pow_add])
      have g3 := mulS6 hl hR (inv := H.minv m) (by rw [hH]; rfl) (H.fast6 m) (H.mf 384 m 1) tw r1 tw r2 (Nat.lt_trans hr1m hlim) (Nat.lt_trans htm hlim) (.inl hr1m) hr2m (by
        rw [hr2', htw', hr1, hinv, ← he, Nat.mul_mod_mod, Nat.mod_mul_mod, Nat.mul_assoc, ← Nat.pow_add])
      rw [htw] at g2 g3
      repeat (first | (refine ABr.t (by assumption) ?_; cbv) | (refine ABr.f (by assumption) ?_; cbv))
      refine ACall.mk _ (cf hS c1) ?_
      cbv
      repeat (first | (refine ABr.t (by assumption) ?_; cbv) | (refine ABr.f (by assumption) ?_; cbv) | (refine ABr.t rfl ?_; cbv))
      refine ACall.mk _ (cf hS none6S) ?_
      cbv
      repeat (first | (refine ABr.t (by assumption) ?_; cbv) | (refine ABr.f (by assumption) ?_; cbv) | (refine ABr.t rfl ?_; cbv))
      refine ACall.mk _ (cf hS g1) ?_
      cbv
      refine ACall.mk _ (cf hS g2) ?_
      cbv
      refine ACall.mk _ (cf hS g3) ?_
      rw [hr2]
      cbv
  · rw [decide_eq_false hp] at hfast
    repeat (refine ABr.f hfast ?_; cbv)
    refine ACall.mk _ (cf hS tail) ?_
    cbv
    refine ACall.mk _ (cf hS c3) ?_
    cbv
    refine ACall.mk _ (cg hS c4 (by cbv)) ?_
    cbv
end Go.Proofs.YtmholgclgamnnaaGreat
end
section
set_option linter.unusedVariables false
set_option linter.unusedSectionVars false
set_option linter.unusedSimpArgs false
namespace Go.Proofs.YtmholgclgamnnaaGreat
open Go Eng
set_option maxRecDepth 100000
set_option exponentiation.threshold 2000
set_option maxHeartbeats 4000000
/-- A prime as a modulus. -/
structure PrM (b p : Nat) : Prop extends Mod b p where
  pr : NT.Pr p
  two : 2 < p
  four : p % 4 = 3
theorem PrM.ne {b p : Nat} (h : PrM b p) : (1 : Nat) % p = 1 := Nat.mod_eq_of_lt h.one
section
variable {p : Nat} [NeZero p]
theorem fin_sub (a c : Fin p) : (a.val + p - c.val) % p = (a - c).val := by
  rw [Fin.sub_def]
  show _ = (p - c.val + a.val) % p
  have := c.isLt
  congr 1
  omega
/-- The prime field's elements, those of the field over it. -/
def K1_4 (H : H5) (p : Nat) [NeZero p] : Kd (Fin p) := ⟨Cv.ops1 Cv.inv1, fun a i => H.lim (H.mf 256 p a.val) i⟩
def K2_4 (H : H5) (p : Nat) [NeZero p] : Kd (Cv.F2 p) := ⟨Cv.ops2 Cv.inv2, fun a i => if i < 4 then H.lim (H.mf 256 p a.a.val) i else H.lim (H.mf 256 p a.b.val) (i - 4)⟩
theorem simR4 (H : H5) (m : Nat) : ∀ d, simL (simD (d + 1)) (R4 H m) (R4 H m) := by
  intro d
  unfold R4 ring4
  simp [simL, simD, onlyIf]
theorem add1_4 {H : H5} (hH : H = H5.real) (hp : PrM 256 p) (a c : Fin p) : Sp 262 [.agg [.ref (R4 H p) 0], el4 H p a.val, el4 H p c.val] (el4 H p (a + c).val) := by
  have h := AddS4 hH hp.toMod (a := a.val) (b := c.val)
  have e : H.add p a.val c.val = (a + c).val := by rw [hH]; exact (Fin.val_add a c).symm
  rw [e] at h
  refine mk Tryz.func262 rfl rfl L0 R1 (by decide +kernel) fun A S hA hS => ?_
  unfold bodyOf Tryz.f262
  cbv
  refine ACall.mk _ (cf hS h) ?_
  cbv
theorem sub1_4 {H : H5} (hH : H = H5.real) (hp : PrM 256 p) (a c : Fin p) : Sp 265 [.agg [.ref (R4 H p) 0], el4 H p a.val, el4 H p c.val] (el4 H p (a - c).val) := by
  have h := SubS4 hH hp.toMod c.isLt (a := a.val) (b := c.val)
  have e : H.sub p a.val c.val = (a - c).val := by rw [hH]; exact fin_sub a c
  rw [e] at h
  refine mk Tryz.func265 rfl rfl L0 R1 (by decide +kernel) fun A S hA hS => ?_
  unfold bodyOf Tryz.f265
  cbv
  refine ACall.mk _ (cf hS h) ?_
  cbv
theorem mul1_4 {H : H5} (hH : H = H5.real) (hp : PrM 256 p) (a c : Fin p) : Sp 264 [.agg [.ref (R4 H p) 0], el4 H p a.val, el4 H p c.val] (el4 H p (a * c).val) := by
  have h := MulS4 hH hp.toMod (a := a.val) (b := c.val)
  have e : H.mul p a.val c.val = (a * c).val := by rw [hH]; exact (Fin.val_mul a c).symm
  rw [e] at h
  refine mk Tryz.func264 rfl rfl L0 R1 (by decide +kernel) fun A S hA hS => ?_
  unfold bodyOf Tryz.f264
  cbv
  refine ACall.mk _ (cf hS h) ?_
  cbv
theorem inv1_4 {H : H5} (hH : H = H5.real) (hp : PrM 256 p) (a : Fin p) : Sp 263 [.agg [.ref (R4 H p) 0], el4 H p a.val] (el4 H p (Cv.inv1 a).val) := by
  have h := InvS4 hH hp.toMod a.isLt
  have e : H.pow p a.val (p - 2) = (Cv.inv1 a).val := by rw [hH]; rfl
  rw [e] at h
  refine mk Tryz.func263 rfl rfl L0 R1 (by decide +kernel) fun A S hA hS => ?_
  unfold bodyOf Tryz.f263
  cbv
  refine ACall.mk _ (cf hS h) ?_
  cbv
theorem mf_zero4 {H : H5} (hH : H = H5.real) : ∀ i, H.lim (H.mf 256 p ((0 : Fin p).val)) i = 0 := by
  intro i
  rw [hH, Cv.val_zero]
  show limR (0 * 2 ^ 256 % p) i = 0
  rw [Nat.zero_mul, Nat.zero_mod]
  unfold limR
  rw [Nat.zero_div]; rfl
theorem el_inj4 {H : H5} (hH : H = H5.real) (hp : PrM 256 p) (a c : Fin p) (h : H.lim (H.mf 256 p a.val) 0 = H.lim (H.mf 256 p c.val) 0 ∧ H.lim (H.mf 256 p a.val) 1 = H.lim (H.mf 256 p c.val) 1 ∧ H.lim (H.mf 256 p a.val) 2 = H.lim (H.mf 256 p c.val) 2 ∧ H.lim (H.mf 256 p a.val) 3 = H.lim (H.mf 256 p c.val) 3) : a = c := by
  have hl := H5.hlim hH
  have h1 : ∀ x : Fin p, H.mf 256 p x.val < 2 ^ 256 := fun x => by rw [hH]; exact Nat.lt_trans (mf_lt hp.pos) hp.lt
  have e := lim_inj4 hl (h1 a) (h1 c) h
  rw [hH] at e
  exact Fin.ext (mf_inj hp.odd a.isLt c.isLt e)
theorem ok1_4 {H : H5} (hH : H = H5.real) (hp : PrM 256 p) : Okb4 (K1_4 H p) (R4 H p) where
  add := add1_4 hH hp
  sub := sub1_4 hH hp
  mul := mul1_4 hH hp
  inv := inv1_4 hH hp
  zero i _ := mf_zero4 hH i
  sim := simR4 H p
  inj a c h := el_inj4 hH hp a c h
/-- The prime field's elements, those of the field over it. -/
def K1_6 (H : H5) (p : Nat) [NeZero p] : Kd (Fin p) := ⟨Cv.ops1 Cv.inv1, fun a i => H.lim (H.mf 384 p a.val) i⟩
def K2_6 (H : H5) (p : Nat) [NeZero p] : Kd (Cv.F2 p) := ⟨Cv.ops2 Cv.inv2, fun a i => if i < 6 then H.lim (H.mf 384 p a.a.val) i else H.lim (H.mf 384 p a.b.val) (i - 6)⟩
theorem simR6 (H : H5) (m : Nat) : ∀ d, simL (simD (d + 1)) (R6 H m) (R6 H m) := by
  intro d
  unfold R6 ring6
  simp [simL, simD, onlyIf]
theorem add1_6 {H : H5} (hH : H = H5.real) (hp : PrM 384 p) (a c : Fin p) : Sp 251 [.agg [.ref (R6 H p) 0], el6 H p a.val, el6 H p c.val] (el6 H p (a + c).val) := by
  have h := AddS6 hH hp.toMod (a := a.val) (b := c.val)
  have e : H.add p a.val c.val = (a + c).val := by rw [hH]; exact (Fin.val_add a c).symm
  rw [e] at h
  refine mk Tryz.func251 rfl rfl L0 R1 (by decide +kernel) fun A S hA hS => ?_
  unfold bodyOf Tryz.f251
  cbv
  refine ACall.mk _ (cf hS h) ?_
  cbv
theorem sub1_6 {H : H5} (hH : H = H5.real) (hp : PrM 384 p) (a c : Fin p) : Sp 254 [.agg [.ref (R6 H p) 0], el6 H p a.val, el6 H p c.val] (el6 H p (a - c).val) := by
  have h := SubS6 hH hp.toMod c.isLt (a := a.val) (b := c.val)
  have e : H.sub p a.val c.val = (a - c).val := by rw [hH]; exact fin_sub a c
  rw [e] at h
  refine mk Tryz.func254 rfl rfl L0 R1 (by decide +kernel) fun A S hA hS => ?_
  unfold bodyOf Tryz.f254
  cbv
  refine ACall.mk _ (cf hS h) ?_
  cbv
theorem mul1_6 {H : H5} (hH : H = H5.real) (hp : PrM 384 p) (a c : Fin p) : Sp 253 [.agg [.ref (R6 H p) 0], el6 H p a.val, el6 H p c.val] (el6 H p (a * c).val) := by
  have h := MulS6 hH hp.toMod (a := a.val) (b := c.val)
  have e : H.mul p a.val c.val = (a * c).val := by rw [hH]; exact (Fin.val_mul a c).symm
  rw [e] at h
  refine mk Tryz.func253 rfl rfl L0 R1 (by decide +kernel) fun A S hA hS => ?_
  unfold bodyOf Tryz.f253
  cbv
  refine ACall.mk _ (cf hS h) ?_
  cbv
theorem inv1_6 {H : H5} (hH : H = H5.real) (hp : PrM 384 p) (a : Fin p) : Sp 252 [.agg [.ref (R6 H p) 0], el6 H p a.val] (el6 H p (Cv.inv1 a).val) := by
  have h := InvS6 hH hp.toMod a.isLt
  have e : H.pow p a.val (p - 2) = (Cv.inv1 a).val := by rw [hH]; rfl
  rw [e] at h
  refine mk Tryz.func252 rfl rfl L0 R1 (by decide +kernel) fun A S hA hS => ?_
  unfold bodyOf Tryz.f252
  cbv
  refine ACall.mk _ (cf hS h) ?_
  cbv
theorem mf_zero6 {H : H5} (hH : H = H5.real) : ∀ i, H.lim (H.mf 384 p ((0 : Fin p).val)) i = 0 := by
  intro i
  rw [hH, Cv.val_zero]
  show limR (0 * 2 ^ 384 % p) i = 0
  rw [Nat.zero_mul, Nat.zero_mod]
  unfold limR
  rw [Nat.zero_div]; rfl
theorem el_inj6 {H : H5} (hH : H = H5.real) (hp : PrM 384 p) (a c : Fin p) (h : H.lim (H.mf 384 p a.val) 0 = H.lim (H.mf 384 p c.val) 0 ∧ H.lim (H.mf 384 p a.val) 1 = H.lim (H.mf 384 p c.val) 1 ∧ H.lim (H.mf 384 p a.val) 2 = H.lim (H.mf 384 p c.val) 2 ∧ H.lim (H.mf 384 p a.val) 3 = H.lim (H.mf 384 p c.val) 3 ∧ H.lim (H.mf 384 p a.val) 4 = H.lim (H.mf 384 p c.val) 4 ∧ H.lim (H.mf 384 p a.val) 5 = H.lim (H.mf 384 p c.val) 5) : a = c := by
  have hl := H5.hlim hH
  have h1 : ∀ x : Fin p, H.mf 384 p x.val < 2 ^ 384 := fun x => by rw [hH]; exact Nat.lt_trans (mf_lt hp.pos) hp.lt
  have e := lim_inj6 hl (h1 a) (h1 c) h
  rw [hH] at e
  exact Fin.ext (mf_inj hp.odd a.isLt c.isLt e)
theorem ok1_6 {H : H5} (hH : H = H5.real) (hp : PrM 384 p) : Okb6 (K1_6 H p) (R6 H p) where
  add := add1_6 hH hp
  sub := sub1_6 hH hp
  mul := mul1_6 hH hp
  inv := inv1_6 hH hp
  zero i _ := mf_zero6 hH i
  sim := simR6 H p
  inj a c h := el_inj6 hH hp a c h
end
end Go.Proofs.YtmholgclgamnnaaGreat
end
section
set_option linter.unusedVariables false
set_option linter.unusedSectionVars false
set_option linter.unusedSimpArgs false
namespace Go.Proofs.YtmholgclgamnnaaGreat
open Go Eng
set_option maxRecDepth 100000
set_option exponentiation.threshold 2000
set_option maxHeartbeats 4000000
section
variable {p : Nat} [NeZero p]
theorem AddF4 {H : H5} (hH : H = H5.real) (hp : PrM 256 p) (a c : Fin p) : Sp 176 [.ref (R4 H p) 0, el4 H p a.val, el4 H p c.val] (el4 H p (a + c).val) := by
  have h := AddS4 hH hp.toMod (a := a.val) (b := c.val)
  have e : H.add p a.val c.val = (a + c).val := by rw [hH]; exact (Fin.val_add a c).symm
  rw [e] at h; exact h
theorem SubF4 {H : H5} (hH : H = H5.real) (hp : PrM 256 p) (a c : Fin p) : Sp 174 [.ref (R4 H p) 0, el4 H p a.val, el4 H p c.val] (el4 H p (a - c).val) := by
  have h := SubS4 hH hp.toMod c.isLt (a := a.val) (b := c.val)
  have e : H.sub p a.val c.val = (a - c).val := by rw [hH]; exact fin_sub a c
  rw [e] at h; exact h
theorem MulF4 {H : H5} (hH : H = H5.real) (hp : PrM 256 p) (a c : Fin p) : Sp 175 [.ref (R4 H p) 0, el4 H p a.val, el4 H p c.val] (el4 H p (a * c).val) := by
  have h := MulS4 hH hp.toMod (a := a.val) (b := c.val)
  have e : H.mul p a.val c.val = (a * c).val := by rw [hH]; exact (Fin.val_mul a c).symm
  rw [e] at h; exact h
theorem NegF4 {H : H5} (hH : H = H5.real) (hp : PrM 256 p) (a : Fin p) : Sp 178 [.ref (R4 H p) 0, el4 H p a.val] (el4 H p (0 - a).val) := by
  have h := NegS4 hH hp.toMod a.isLt
  have e : H.sub p 0 a.val = (0 - a).val := by rw [hH]; exact fin_sub 0 a
  rw [e] at h; exact h
theorem InvF4 {H : H5} (hH : H = H5.real) (hp : PrM 256 p) (a : Fin p) : Sp 177 [.ref (R4 H p) 0, el4 H p a.val] (el4 H p (Cv.inv1 a).val) := by
  have h := InvS4 hH hp.toMod a.isLt
  have e : H.pow p a.val (p - 2) = (Cv.inv1 a).val := by rw [hH]; rfl
  rw [e] at h; exact h
/-- The pair's cells. -/
def el2_4 (H : H5) (p a b : Nat) : AVal := .agg [.s .u64 (H.lim (H.mf 256 p a) 0), .s .u64 (H.lim (H.mf 256 p a) 1), .s .u64 (H.lim (H.mf 256 p a) 2), .s .u64 (H.lim (H.mf 256 p a) 3), .s .u64 (H.lim (H.mf 256 p b) 0), .s .u64 (H.lim (H.mf 256 p b) 1), .s .u64 (H.lim (H.mf 256 p b) 2), .s .u64 (H.lim (H.mf 256 p b) 3)]
theorem add2_4 {H : H5} (hH : H = H5.real) (hp : PrM 256 p) (a b c d : Fin p) : Sp 260 [.agg [.ref (R4 H p) 0], el2_4 H p a.val b.val, el2_4 H p c.val d.val] (el2_4 H p (a + c).val (b + d).val) := by
  have h1 := AddF4 hH hp a c
  have h2 := AddF4 hH hp b d
  generalize a + c = x at *
  generalize b + d = y at *
  refine mk Tryz.func260 rfl rfl L0 R1 (by decide +kernel) fun A S hA hS => ?_
  unfold bodyOf Tryz.f260
  cbv
  refine ACall.mk _ (cf hS h1) ?_
  cbv
  refine ACall.mk _ (cf hS h2) ?_
  cbv
theorem sub2_4 {H : H5} (hH : H = H5.real) (hp : PrM 256 p) (a b c d : Fin p) : Sp 261 [.agg [.ref (R4 H p) 0], el2_4 H p a.val b.val, el2_4 H p c.val d.val] (el2_4 H p (a - c).val (b - d).val) := by
  have h1 := SubF4 hH hp a c
  have h2 := SubF4 hH hp b d
  generalize a - c = x at *
  generalize b - d = y at *
  refine mk Tryz.func261 rfl rfl L0 R1 (by decide +kernel) fun A S hA hS => ?_
  unfold bodyOf Tryz.f261
  cbv
  refine ACall.mk _ (cf hS h1) ?_
  cbv
  refine ACall.mk _ (cf hS h2) ?_
  cbv
theorem mul2_4 {H : H5} (hH : H = H5.real) (hp : PrM 256 p) (a b c d : Fin p) : Sp 103 [.agg [.ref (R4 H p) 0], el2_4 H p a.val b.val, el2_4 H p c.val d.val] (el2_4 H p (a * c - b * d).val (a * d + b * c).val) := by
  have h1 := MulF4 hH hp a c
  have h2 := MulF4 hH hp b d
  have h3 := MulF4 hH hp a d
  have h4 := MulF4 hH hp b c
  generalize a * c = x at *
  generalize b * d = y at *
  generalize a * d = z at *
  generalize b * c = w at *
  have h5 := SubF4 hH hp x y
  have h6 := AddF4 hH hp z w
  generalize x - y = u at *
  generalize z + w = v at *
  refine mk Tryz.func103 rfl rfl L0 R1 (by decide +kernel) fun A S hA hS => ?_
  unfold bodyOf Tryz.f103
  cbv
  refine ACall.mk _ (cf hS h1) ?_
  cbv
  refine ACall.mk _ (cf hS h2) ?_
  cbv
  refine ACall.mk _ (cf hS h5) ?_
  cbv
  refine ACall.mk _ (cf hS h3) ?_
  cbv
  refine ACall.mk _ (cf hS h4) ?_
  cbv
  refine ACall.mk _ (cf hS h6) ?_
  cbv
theorem inv2_4 {H : H5} (hH : H = H5.real) (hp : PrM 256 p) (a b : Fin p) : Sp 104 [.agg [.ref (R4 H p) 0], el2_4 H p a.val b.val] (el2_4 H p (a * Cv.inv1 (a * a + b * b)).val (0 - b * Cv.inv1 (a * a + b * b)).val) := by
  have h1 := MulF4 hH hp a a
  have h2 := MulF4 hH hp b b
  generalize a * a = x at *
  generalize b * b = y at *
  have h3 := AddF4 hH hp x y
  generalize x + y = z at *
  have h4 := InvF4 hH hp z
  generalize Cv.inv1 z = i at *
  have h5 := MulF4 hH hp a i
  have h6 := MulF4 hH hp b i
  generalize a * i = u at *
  generalize b * i = v at *
  have h7 := NegF4 hH hp v
  generalize 0 - v = w at *
  refine mk Tryz.func104 rfl rfl L0 R1 (by decide +kernel) fun A S hA hS => ?_
  unfold bodyOf Tryz.f104
  cbv
  refine ACall.mk _ (cf hS h1) ?_
  cbv
  refine ACall.mk _ (cf hS h2) ?_
  cbv
  refine ACall.mk _ (cf hS h3) ?_
  cbv
  refine ACall.mk _ (cf hS h4) ?_
  cbv
  refine ACall.mk _ (cf hS h5) ?_
  cbv
  refine ACall.mk _ (cf hS h6) ?_
  cbv
  refine ACall.mk _ (cf hS h7) ?_
  cbv
theorem ok2_4 {H : H5} (hH : H = H5.real) (hp : PrM 256 p) : Okt4 (K2_4 H p) (R4 H p) where
  add x y := add2_4 hH hp x.a x.b y.a y.b
  sub x y := sub2_4 hH hp x.a x.b y.a y.b
  mul x y := mul2_4 hH hp x.a x.b y.a y.b
  inv x := inv2_4 hH hp x.a x.b
  zero i hi := by
    show (if i < 4 then _ else _) = (0 : Int)
    split
    · exact mf_zero4 hH i
    · exact mf_zero4 hH _
  sim := simR4 H p
  inj x y h := by
    obtain ⟨xa, xb⟩ := x
    obtain ⟨ya, yb⟩ := y
    have e1 := el_inj4 hH hp xa ya
    have e2 := el_inj4 hH hp xb yb
    obtain ⟨h0, h1, h2, h3, h4, h5, h6, h7⟩ := h
    rw [e1 ⟨h0, h1, h2, h3⟩, e2 ⟨h4, h5, h6, h7⟩]
end
end Go.Proofs.YtmholgclgamnnaaGreat
end
