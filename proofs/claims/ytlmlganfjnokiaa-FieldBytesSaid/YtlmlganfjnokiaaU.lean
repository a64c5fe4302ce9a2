import Derived.Test.YtlmlganfjnokiaaR
set_option linter.unusedVariables false
set_option linter.unusedSimpArgs false
namespace Go.Proofs.Ytlmlganfjnokiaa
open Go Eng
set_option maxRecDepth 100000
set_option exponentiation.threshold 2000
theorem lim_app4 {a t : Nat} (ha : a < 2 ^ 256) (ht : t < 2 ^ 64) : (∀ i, i < 4 → limR (a + 2 ^ 256 * t) i = limR a i) ∧ limR (a + 2 ^ 256 * t) 4 = (t : Int) := by
  constructor
  · intro i hi
    unfold limR
    congr 1
    rw [show 2 ^ 256 * t = 2 ^ (64 * i) * (2 ^ 64 * (2 ^ (256 - 64 * i - 64) * t)) by
      rw [← Nat.mul_assoc, ← Nat.mul_assoc, ← Nat.pow_add, ← Nat.pow_add]; congr 2; omega]
    rw [Nat.add_mul_div_left _ _ (Nat.two_pow_pos _), Nat.add_mul_mod_self_left]
  · unfold limR
    congr 1
    show (a + 2 ^ 256 * t) / 2 ^ 256 % 2 ^ 64 = t
    rw [Nat.add_mul_div_left _ _ (Nat.two_pow_pos _), Nat.div_eq_of_lt ha]
    omega
theorem neqs4 {A : Ar} (hA : A = Ar.real) {lim : Lim} (hl : lim = limR) (a b : Nat) (ha : a < 2 ^ 256) (hb : b < 2 ^ 256) : A.not (A.eqs [(.s .u64 (lim a 0), .s .u64 (lim b 0)), (.s .u64 (lim a 1), .s .u64 (lim b 1)), (.s .u64 (lim a 2), .s .u64 (lim b 2)), (.s .u64 (lim a 3), .s .u64 (lim b 3))]) = !decide (a = b) := by
  rw [a_not hA, eqs4 hA hl a b ha hb]
theorem rowl4 (lim : Lim) (hl : lim = limR) (e : Nat) : IsRow [.s .u64 (lim e 0), .s .u64 (lim e 1), .s .u64 (lim e 2), .s .u64 (lim e 3), .s .u64 (lim e 4)] (limR e) (4 + 1) := by
  subst hl
  refine ⟨rfl, fun i hi => ?_⟩
  rcases (by omega : i = 0 ∨ i = 1 ∨ i = 2 ∨ i = 3 ∨ i = 4) with rfl | rfl | rfl | rfl | rfl <;> rfl
theorem RootS4 {H : H5} (hH : H = H5.real) {m a : Nat} (hR : Mod 256 m) (ha : a < m) (r : Nat) (hr : r = H.pow m a ((m + 1) / 4)) :
    (H.mul m r r = a → Sp 31 [.ref (R4 H m) 0, el4 H m a] (.tup [el4 H m r, .b true])) ∧ (H.mul m r r ≠ a → Sp 31 [.ref (R4 H m) 0, el4 H m a] (.tup [u4 H.lim 0, .b false])) := by
  have hl := H5.hlim hH
  have hlim := hR.lt
  have h1m := hR.one
  have hodd := hR.odd
  obtain ⟨e, he⟩ : ∃ e, e = (m + 1) % 2 ^ 256 := ⟨_, rfl⟩
  obtain ⟨c, hc⟩ : ∃ c, c = (m + 1) / 2 ^ 256 := ⟨_, rfl⟩
  obtain ⟨q, hq⟩ : ∃ q, q = (m + 1) / 4 := ⟨_, rfl⟩
  have hN : m + 1 = e + 2 ^ 256 * c := by omega
  have hc1 : c ≤ 1 := by omega
  have he1 : e < 2 ^ 256 := by omega
  obtain ⟨ha1, ha2⟩ := lim_app4 he1 (show c < 2 ^ 64 by omega)
  rw [← hN] at ha1 ha2
  have le := fun i => lim_range hl e i
  have hcr : (0 : Int) ≤ (c : Int) ∧ (c : Int) < 18446744073709551616 := by omega
  rw [← hq] at hr
  have l0 : ∀ i, H.lim 0 i = 0 := by intro i; rw [hH]; show ((0 / 2 ^ (64 * i) % 2 ^ 64 : Nat) : Int) = 0; rw [Nat.zero_div]; rfl
  have l10 : H.lim 1 0 = 1 := by rw [hH]; rfl
  have l1s : ∀ i, i < 4 - 1 → H.lim 1 (i + 1) = 0 := by
    intro i hi; rw [hH]; show ((1 / 2 ^ (64 * (i + 1)) % 2 ^ 64 : Nat) : Int) = 0
    rw [Nat.div_eq_of_lt (Nat.one_lt_two_pow (by omega))]; rfl
  have cp := plus4 hl m 1 e c hlim (by omega) (by omega) he1
  have cp : Sp 79 [u4 H.lim m, .agg [.i .u64 1, .i .u64 0, .i .u64 0, .i .u64 0]] (.tup [u4 H.lim e, .s .u64 c]) := Spec.args cp (by
    cbv
    repeat' (first | exact l10.symm | exact (l1s _ (by omega)).symm | constructor))
  have cw := wordsS4 (H := H) e
  have ce := ExpS4 hH hR ha (rowl4 H.lim hl q) (by omega) (show q < 2 ^ (64 * (4 + 1)) by omega)
  rw [← hr] at ce
  have cm := mulE4 hH hR (a := r) (b := r)
  obtain ⟨s, hs⟩ : ∃ s, s = H.mul m r r := ⟨_, rfl⟩
  rw [← hs] at cm ⊢
  have hsm : s < m := by rw [hs, hH]; exact Nat.mod_lt _ hR.pos
  have hinj : H.mf 256 m s = H.mf 256 m a → s = a := by rw [hH]; exact mf_inj hodd hsm ha
  have hb1 : H.mf 256 m s < 2 ^ 256 := by refine Nat.lt_trans ?_ hlim; rw [hH]; exact mf_lt hR.pos
  have hb2 : H.mf 256 m a < 2 ^ 256 := by refine Nat.lt_trans ?_ hlim; rw [hH]; exact mf_lt hR.pos
  have words : ∀ (A : Ar), A = Ar.real → A.bin .or .u64 (A.bin .shr .u64 (H.lim e 0) 2) (A.bin .shl .u64 (H.lim e 1) 62) = H.lim q 0 ∧ A.bin .or .u64 (A.bin .shr .u64 (H.lim e 1) 2) (A.bin .shl .u64 (H.lim e 2) 62) = H.lim q 1 ∧ A.bin .or .u64 (A.bin .shr .u64 (H.lim e 2) 2) (A.bin .shl .u64 (H.lim e 3) 62) = H.lim q 2 ∧ A.bin .or .u64 (A.bin .shr .u64 (H.lim e 3) 2) (A.bin .shl .u64 (c : Int) 62) = H.lim q 3 ∧ A.bin .shr .u64 (c : Int) 2 = H.lim q 4 := by
    intro A hA
    have hqi : ∀ i, H.lim q i = limR (m + 1) i / 4 + 4611686018427387904 * (limR (m + 1) (i + 1) % 4) := by intro i; rw [hl, hq]; exact limR_quarter _ _
    have htop : limR (m + 1) (4 + 1) = 0 := by
      unfold limR
      rw [Nat.div_eq_of_lt (by omega)]; rfl
    refine ⟨?_, ?_, ?_, ?_, ?_⟩
    · rw [quarter_word hA (le 0) (le 1), hqi, ha1 0 (by omega), ha1 1 (by omega), hl]
    · rw [quarter_word hA (le 1) (le 2), hqi, ha1 1 (by omega), ha1 2 (by omega), hl]
    · rw [quarter_word hA (le 2) (le 3), hqi, ha1 2 (by omega), ha1 3 (by omega), hl]
    · rw [quarter_word hA (le 3) hcr, hqi, ha1 3 (by omega), ha2, hl]
    · rw [shr_two hA hcr.1, hqi, ha2, htop]; rfl
  constructor
  · intro hsa
    refine mk Try.func31 rfl rfl L0 RRoot (by decide +kernel) fun A S hA hS => ?_
    have hw := words A hA
    have hne := (neqs4 hA hl _ _ hb1 hb2).trans (by rw [hsa, decide_eq_true rfl]; rfl : _ = false)
    unfold bodyOf Try.f31
    cbv
    refine ACall.mk _ (cf hS (isS4 (H := H) m)) ?_
    cbv
    refine ACall.mk _ (cf hS cp) ?_
    cbv
    refine ACall.mk _ (cf hS cw) ?_
    cbv
    refine ACall.mk _ (cg hS ce (by cbv; exact hw)) ?_
    cbv
    refine ACall.mk _ (cf hS cm) ?_
    cbv
    refine ABr.f hne ?_
    cbv
  · intro hsa
    refine mk Try.func31 rfl rfl L0 RRoot (by decide +kernel) fun A S hA hS => ?_
    have hw := words A hA
    have hne := (neqs4 hA hl _ _ hb1 hb2).trans (by rw [decide_eq_false (fun h => hsa (hinj h))]; rfl : _ = true)
    unfold bodyOf Try.f31
    cbv
    refine ACall.mk _ (cf hS (isS4 (H := H) m)) ?_
    cbv
    refine ACall.mk _ (cf hS cp) ?_
    cbv
    refine ACall.mk _ (cf hS cw) ?_
    cbv
    refine ACall.mk _ (cg hS ce (by cbv; exact hw)) ?_
    cbv
    refine ACall.mk _ (cf hS cm) ?_
    cbv
    refine ABr.t hne ?_
    cbv
    refine ACall.mk _ (cf hS none4S) ?_
    cbv
    repeat' (first | exact (l0 _).symm | constructor)
theorem lim_app6 {a t : Nat} (ha : a < 2 ^ 384) (ht : t < 2 ^ 64) : (∀ i, i < 6 → limR (a + 2 ^ 384 * t) i = limR a i) ∧ limR (a + 2 ^ 384 * t) 6 = (t : Int) := by
  constructor
  · intro i hi
    unfold limR
    congr 1
    rw [show 2 ^ 384 * t = 2 ^ (64 * i) * (2 ^ 64 * (2 ^ (384 - 64 * i - 64) * t)) by
      rw [← Nat.mul_assoc, ← Nat.mul_assoc, ← Nat.pow_add, ← Nat.pow_add]; congr 2; omega]
    rw [Nat.add_mul_div_left _ _ (Nat.two_pow_pos _), Nat.add_mul_mod_self_left]
  · unfold limR
    congr 1
    show (a + 2 ^ 384 * t) / 2 ^ 384 % 2 ^ 64 = t
    rw [Nat.add_mul_div_left _ _ (Nat.two_pow_pos _), Nat.div_eq_of_lt ha]
    omega
theorem neqs6 {A : Ar} (hA : A = Ar.real) {lim : Lim} (hl : lim = limR) (a b : Nat) (ha : a < 2 ^ 384) (hb : b < 2 ^ 384) : A.not (A.eqs [(.s .u64 (lim a 0), .s .u64 (lim b 0)), (.s .u64 (lim a 1), .s .u64 (lim b 1)), (.s .u64 (lim a 2), .s .u64 (lim b 2)), (.s .u64 (lim a 3), .s .u64 (lim b 3)), (.s .u64 (lim a 4), .s .u64 (lim b 4)), (.s .u64 (lim a 5), .s .u64 (lim b 5))]) = !decide (a = b) := by
  rw [a_not hA, eqs6 hA hl a b ha hb]
theorem rowl6 (lim : Lim) (hl : lim = limR) (e : Nat) : IsRow [.s .u64 (lim e 0), .s .u64 (lim e 1), .s .u64 (lim e 2), .s .u64 (lim e 3), .s .u64 (lim e 4), .s .u64 (lim e 5), .s .u64 (lim e 6)] (limR e) (6 + 1) := by
  subst hl
  refine ⟨rfl, fun i hi => ?_⟩
  rcases (by omega : i = 0 ∨ i = 1 ∨ i = 2 ∨ i = 3 ∨ i = 4 ∨ i = 5 ∨ i = 6) with rfl | rfl | rfl | rfl | rfl | rfl | rfl <;> rfl
theorem RootS6 {H : H5} (hH : H = H5.real) {m a : Nat} (hR : Mod 384 m) (ha : a < m) (r : Nat) (hr : r = H.pow m a ((m + 1) / 4)) :
    (H.mul m r r = a → Sp 34 [.ref (R6 H m) 0, el6 H m a] (.tup [el6 H m r, .b true])) ∧ (H.mul m r r ≠ a → Sp 34 [.ref (R6 H m) 0, el6 H m a] (.tup [u6 H.lim 0, .b false])) := by
  have hl := H5.hlim hH
  have hlim := hR.lt
  have h1m := hR.one
  have hodd := hR.odd
  obtain ⟨e, he⟩ : ∃ e, e = (m + 1) % 2 ^ 384 := ⟨_, rfl⟩
  obtain ⟨c, hc⟩ : ∃ c, c = (m + 1) / 2 ^ 384 := ⟨_, rfl⟩
  obtain ⟨q, hq⟩ : ∃ q, q = (m + 1) / 4 := ⟨_, rfl⟩
  have hN : m + 1 = e + 2 ^ 384 * c := by omega
  have hc1 : c ≤ 1 := by omega
  have he1 : e < 2 ^ 384 := by omega
  obtain ⟨ha1, ha2⟩ := lim_app6 he1 (show c < 2 ^ 64 by omega)
  rw [← hN] at ha1 ha2
  have le := fun i => lim_range hl e i
  have hcr : (0 : Int) ≤ (c : Int) ∧ (c : Int) < 18446744073709551616 := by omega
  rw [← hq] at hr
  have l0 : ∀ i, H.lim 0 i = 0 := by intro i; rw [hH]; show ((0 / 2 ^ (64 * i) % 2 ^ 64 : Nat) : Int) = 0; rw [Nat.zero_div]; rfl
  have l10 : H.lim 1 0 = 1 := by rw [hH]; rfl
  have l1s : ∀ i, i < 6 - 1 → H.lim 1 (i + 1) = 0 := by
    intro i hi; rw [hH]; show ((1 / 2 ^ (64 * (i + 1)) % 2 ^ 64 : Nat) : Int) = 0
    rw [Nat.div_eq_of_lt (Nat.one_lt_two_pow (by omega))]; rfl
  have cp := plus6 hl m 1 e c hlim (by omega) (by omega) he1
  have cp : Sp 85 [u6 H.lim m, .agg [.i .u64 1, .i .u64 0, .i .u64 0, .i .u64 0, .i .u64 0, .i .u64 0]] (.tup [u6 H.lim e, .s .u64 c]) := Spec.args cp (by
    cbv
    repeat' (first | exact l10.symm | exact (l1s _ (by omega)).symm | constructor))
  have cw := wordsS6 (H := H) e
  have ce := ExpS6 hH hR ha (rowl6 H.lim hl q) (by omega) (show q < 2 ^ (64 * (6 + 1)) by omega)
  rw [← hr] at ce
  have cm := mulE6 hH hR (a := r) (b := r)
  obtain ⟨s, hs⟩ : ∃ s, s = H.mul m r r := ⟨_, rfl⟩
  rw [← hs] at cm ⊢
  have hsm : s < m := by rw [hs, hH]; exact Nat.mod_lt _ hR.pos
  have hinj : H.mf 384 m s = H.mf 384 m a → s = a := by rw [hH]; exact mf_inj hodd hsm ha
  have hb1 : H.mf 384 m s < 2 ^ 384 := by refine Nat.lt_trans ?_ hlim; rw [hH]; exact mf_lt hR.pos
  have hb2 : H.mf 384 m a < 2 ^ 384 := by refine Nat.lt_trans ?_ hlim; rw [hH]; exact mf_lt hR.pos
  have words : ∀ (A : Ar), A = Ar.real → A.bin .or .u64 (A.bin .shr .u64 (H.lim e 0) 2) (A.bin .shl .u64 (H.lim e 1) 62) = H.lim q 0 ∧ A.bin .or .u64 (A.bin .shr .u64 (H.lim e 1) 2) (A.bin .shl .u64 (H.lim e 2) 62) = H.lim q 1 ∧ A.bin .or .u64 (A.bin .shr .u64 (H.lim e 2) 2) (A.bin .shl .u64 (H.lim e 3) 62) = H.lim q 2 ∧ A.bin .or .u64 (A.bin .shr .u64 (H.lim e 3) 2) (A.bin .shl .u64 (H.lim e 4) 62) = H.lim q 3 ∧ A.bin .or .u64 (A.bin .shr .u64 (H.lim e 4) 2) (A.bin .shl .u64 (H.lim e 5) 62) = H.lim q 4 ∧ A.bin .or .u64 (A.bin .shr .u64 (H.lim e 5) 2) (A.bin .shl .u64 (c : Int) 62) = H.lim q 5 ∧ A.bin .shr .u64 (c : Int) 2 = H.lim q 6 := by
    intro A hA
    have hqi : ∀ i, H.lim q i = limR (m + 1) i / 4 + 4611686018427387904 * (limR (m + 1) (i + 1) % 4) := by intro i; rw [hl, hq]; exact limR_quarter _ _
    have htop : limR (m + 1) (6 + 1) = 0 := by
      unfold limR
      rw [Nat.div_eq_of_lt (by omega)]; rfl
    refine ⟨?_, ?_, ?_, ?_, ?_, ?_, ?_⟩
    · rw [quarter_word hA (le 0) (le 1), hqi, ha1 0 (by omega), ha1 1 (by omega), hl]
    · rw [quarter_word hA (le 1) (le 2), hqi, ha1 1 (by omega), ha1 2 (by omega), hl]
    · rw [quarter_word hA (le 2) (le 3), hqi, ha1 2 (by omega), ha1 3 (by omega), hl]
    · rw [quarter_word hA (le 3) (le 4), hqi, ha1 3 (by omega), ha1 4 (by omega), hl]
    · rw [quarter_word hA (le 4) (le 5), hqi, ha1 4 (by omega), ha1 5 (by omega), hl]
    · rw [quarter_word hA (le 5) hcr, hqi, ha1 5 (by omega), ha2, hl]
    · rw [shr_two hA hcr.1, hqi, ha2, htop]; rfl
  constructor
  · intro hsa
    refine mk Try.func34 rfl rfl L0 RRoot (by decide +kernel) fun A S hA hS => ?_
    have hw := words A hA
    have hne := (neqs6 hA hl _ _ hb1 hb2).trans (by rw [hsa, decide_eq_true rfl]; rfl : _ = false)
    unfold bodyOf Try.f34
    cbv
    refine ACall.mk _ (cf hS (isS6 (H := H) m)) ?_
    cbv
    refine ACall.mk _ (cf hS cp) ?_
    cbv
    refine ACall.mk _ (cf hS cw) ?_
    cbv
    refine ACall.mk _ (cg hS ce (by cbv; exact hw)) ?_
    cbv
    refine ACall.mk _ (cf hS cm) ?_
    cbv
    refine ABr.f hne ?_
    cbv
  · intro hsa
    refine mk Try.func34 rfl rfl L0 RRoot (by decide +kernel) fun A S hA hS => ?_
    have hw := words A hA
    have hne := (neqs6 hA hl _ _ hb1 hb2).trans (by rw [decide_eq_false (fun h => hsa (hinj h))]; rfl : _ = true)
    unfold bodyOf Try.f34
    cbv
    refine ACall.mk _ (cf hS (isS6 (H := H) m)) ?_
    cbv
    refine ACall.mk _ (cf hS cp) ?_
    cbv
    refine ACall.mk _ (cf hS cw) ?_
    cbv
    refine ACall.mk _ (cg hS ce (by cbv; exact hw)) ?_
    cbv
    refine ACall.mk _ (cf hS cm) ?_
    cbv
    refine ABr.t hne ?_
    cbv
    refine ACall.mk _ (cf hS none6S) ?_
    cbv
    repeat' (first | exact (l0 _).symm | constructor)
end Go.Proofs.Ytlmlganfjnokiaa
