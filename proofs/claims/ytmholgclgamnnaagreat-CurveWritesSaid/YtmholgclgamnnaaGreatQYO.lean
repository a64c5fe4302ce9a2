import Derived.Test.YtmholgclgamnnaaGreatQYQ
set_option linter.unusedVariables false
set_option linter.unusedSimpArgs false
namespace Go.Proofs.YtmholgclgamnnaaGreat
open Go Eng
set_option maxRecDepth 100000
set_option exponentiation.threshold 2000

def R34 : Nat → Md := fun r => match r with | 3 => .res [14] | 4 => .res [] | _ => .mid
theorem add_cancel {p q u m : Nat} (h : (p + u) % m = (q + u) % m) : p % m = q % m := by
  have h1 : ((p : Int) + u) % m = ((q : Int) + u) % m := by
    have := congrArg (fun n : Nat => (n : Int)) h
    simpa using this
  have h2 : (p : Int) % m = (q : Int) % m := by
    have := Int.emod_emod_of_dvd
    rw [Int.emod_eq_emod_iff_emod_sub_eq_zero] at h1 ⊢
    rwa [show (p : Int) + u - (q + u) = p - q by omega] at h1
  have h3 : ((p % m : Nat) : Int) = ((q % m : Nat) : Int) := by simpa using h2
  omega
/-- What holds in the search for an inverse. -/
structure GI (m a u v x y : Nat) : Prop where
  u0 : 0 < u
  v0 : 0 < v
  um : u ≤ m
  vm : v ≤ m
  xm : x < m
  ym : y < m
  ux : a * x % m = u % m
  vy : a * y % m = v % m
  co : Nat.Coprime u v
theorem hv_lt {m x : Nat} (hm : m % 2 = 1) (hx : x < m) : hv m x < m := by
  unfold hv
  split <;> omega
theorem hv_two {m x : Nat} (hm : m % 2 = 1) : 2 * hv m x % m = x % m := by
  unfold hv
  split
  · rw [show 2 * (x / 2) = x by omega]
  · rw [show 2 * ((x + m) / 2) = x + m by omega, Nat.add_mod_right]
theorem two_coprime {m : Nat} (hm : m % 2 = 1) : Nat.Coprime 2 m := by
  unfold Nat.Coprime
  rw [Nat.gcd_rec, hm]
  rfl
theorem half_step {m a u x : Nat} (hm : m % 2 = 1) (hu : u % 2 = 0) (h : a * x % m = u % m) : a * hv m x % m = u / 2 % m := by
  refine NT.cancel (two_coprime hm) ?_
  rw [Nat.mul_left_comm, Nat.mul_mod, hv_two hm, ← Nat.mul_mod, h, show 2 * (u / 2) = u by omega]
theorem sub_step {m a u v x y : Nat} (hx : x < m) (huv : u ≤ v) (h1 : a * x % m = u % m) (h2 : a * y % m = v % m) : a * ((y + m - x) % m) % m = (v - u) % m := by
  refine add_cancel (u := u) ?_
  rw [Nat.sub_add_cancel huv, Nat.add_mod, ← h1, ← Nat.add_mod, ← Nat.mul_add, Nat.mul_mod, Nat.mod_add_mod, Nat.sub_add_cancel (by omega), Nat.add_mod_right, ← Nat.mul_mod, h2]
theorem GI.start {m a : Nat} (hm : 1 < m) (ha : 0 < a) (ham : a < m) (hc : Nat.Coprime a m) : GI m a a m 1 0 :=
  ⟨ha, by omega, by omega, by omega, hm, by omega, by rw [Nat.mul_one], by simp, hc⟩
theorem GI.halfU {m a u v x y : Nat} (hm : m % 2 = 1) (h : GI m a u v x y) (hu : u % 2 = 0) : GI m a (u / 2) v (hv m x) y :=
  ⟨by have := h.u0; omega, h.v0, by have := h.um; omega, h.vm, hv_lt hm h.xm, h.ym, half_step hm hu h.ux, h.vy, Nat.Coprime.coprime_dvd_left ⟨2, by omega⟩ h.co⟩
theorem GI.halfV {m a u v x y : Nat} (hm : m % 2 = 1) (h : GI m a u v x y) (hv' : v % 2 = 0) : GI m a u (v / 2) x (hv m y) :=
  ⟨h.u0, by have := h.v0; omega, h.um, by have := h.vm; omega, h.xm, hv_lt hm h.ym, h.ux, half_step hm hv' h.vy, Nat.Coprime.coprime_dvd_right ⟨2, by omega⟩ h.co⟩
theorem GI.subV {m a u v x y : Nat} (h : GI m a u v x y) (huv : u < v) : GI m a u (v - u) x ((y + m - x) % m) :=
  ⟨h.u0, by omega, h.um, by have := h.vm; omega, h.xm, Nat.mod_lt _ (by have := h.xm; omega), h.ux, sub_step h.xm (by omega) h.ux h.vy, by
    have := h.co
    unfold Nat.Coprime at this ⊢
    rw [← this, ← Nat.gcd_sub_self_right (m := u) (n := v) (by omega)]⟩
theorem GI.subU {m a u v x y : Nat} (h : GI m a u v x y) (huv : v < u) : GI m a (u - v) v ((x + m - y) % m) y :=
  ⟨by omega, h.v0, by have := h.um; omega, h.vm, Nat.mod_lt _ (by have := h.xm; omega), h.ym, sub_step h.ym (by omega) h.vy h.ux, h.vy, by
    have := h.co
    unfold Nat.Coprime at this ⊢
    rw [← this, ← Nat.gcd_sub_self_left (m := v) (n := u) (by omega)]⟩
theorem GI.ne {m a u v x y : Nat} (h : GI m a u v x y) (hu : u ≠ 1 ∨ v ≠ 1) : u ≠ v := by
  rintro rfl
  have := h.co
  unfold Nat.Coprime at this
  rw [Nat.gcd_self] at this
  omega
theorem eqsOne4 {A : Ar} (hA : A = Ar.real) {lim : Lim} (hl : lim = limR) {u : Nat} (hu : u < 2 ^ 256) : A.eqs [(.s .u64 (lim u 0), .i .u64 1), (.s .u64 (lim u 1), .i .u64 0), (.s .u64 (lim u 2), .i .u64 0), (.s .u64 (lim u 3), .i .u64 0)] = decide (u = 1) := by
  rw [eqs_real hA]
  simp only [List.all_cons, List.all_nil, leafEq_si, Bool.and_true]
  have e := split4 hl u hu
  have hr := fun i => lim_range hl u i
  have r0 := hr 0
  have r1 := hr 1
  have r2 := hr 2
  have r3 := hr 3
  clear hr
  by_cases h : u = 1
  · rw [decide_eq_true h]
    simp only [Bool.and_eq_true, decide_eq_true_eq]
    refine ⟨?_, ?_, ?_, ?_⟩ <;> omega
  · rw [decide_eq_false h]
    refine Bool.eq_false_iff.2 fun h' => h ?_
    simp only [Bool.and_eq_true, decide_eq_true_eq] at h'
    omega
def gcdSt4 (H : H5) (m a u v x y : Nat) : St := ⟨[.ref (R4 H m) 0, .agg [.s .u64 (H.lim a 0), .s .u64 (H.lim a 1), .s .u64 (H.lim a 2), .s .u64 (H.lim a 3)], .tup [], .own 0 0, .own 1 0, .own 2 0, .own 3 0, .own 4 0, .own 5 0, .own 6 0, .any, .any, .any, .any, .any, .any, .any, .any, .any, .any, .any, .any, .any, .any, .any, .any, .any, .any, .any, .any, .any, .any, .any, .any, .any, .any, .any, .any, .any, .any, .any, .any, .any, .any, .any, .any, .any, .any, .any, .any, .any, .any, .any, .any, .any, .any, .any, .any, .any, .any, .any, .any, .any, .any, .any, .any, .any, .any, .any, .any, .any, .any],
  [⟨true, true, [.s .u64 (H.lim a 0), .s .u64 (H.lim a 1), .s .u64 (H.lim a 2), .s .u64 (H.lim a 3)]⟩, ⟨true, true, [.i .u64 0, .i .u64 0, .i .u64 0, .i .u64 0]⟩, ⟨true, true, [.i .u64 1, .i .u64 0, .i .u64 0, .i .u64 0]⟩, ⟨true, true, [.s .u64 (H.lim u 0), .s .u64 (H.lim u 1), .s .u64 (H.lim u 2), .s .u64 (H.lim u 3)]⟩, ⟨true, true, [.s .u64 (H.lim v 0), .s .u64 (H.lim v 1), .s .u64 (H.lim v 2), .s .u64 (H.lim v 3)]⟩,
   ⟨true, true, [.s .u64 (H.lim x 0), .s .u64 (H.lim x 1), .s .u64 (H.lim x 2), .s .u64 (H.lim x 3)]⟩, ⟨true, true, [.s .u64 (H.lim y 0), .s .u64 (H.lim y 1), .s .u64 (H.lim y 2), .s .u64 (H.lim y 3)]⟩]⟩
theorem gcdS4 {H : H5} (hH : H = H5.real) {m a z : Nat} (hR : Mod 256 m) (ha : 0 < a) (ham : a < m) (hc : Nat.Coprime a m) (hz : z < m) (haz : a * z % m = 1) :
    Sp 212 [.ref (R4 H m) 0, u4 H.lim a] (u4 H.lim z) := by
  have hl := H5.hlim hH
  have hlim := hR.lt
  have h1m := hR.one
  have hodd := hR.odd
  have uniq : ∀ w, w < m → a * w % m = 1 → w = z := by
    intro w hw h
    have := NT.cancel hc (h.trans haz.symm)
    rwa [Nat.mod_eq_of_lt hw, Nat.mod_eq_of_lt hz] at this
  have l0 : ∀ i, H.lim 0 i = 0 := by intro i; rw [hH]; show ((0 / 2 ^ (64 * i) % 2 ^ 64 : Nat) : Int) = 0; rw [Nat.zero_div]; rfl
  have l10 : H.lim 1 0 = 1 := by rw [hH]; rfl
  have l1s : ∀ i, i < 4 - 1 → H.lim 1 (i + 1) = 0 := by
    intro i hi; rw [hH]; show ((1 / 2 ^ (64 * (i + 1)) % 2 ^ 64 : Nat) : Int) = 0
    rw [Nat.div_eq_of_lt (Nat.one_lt_two_pow (by omega))]; rfl
  refine mk Tryz.func212 rfl rfl LN R34 (by decide +kernel) fun A S hA hS => ?_
  unfold bodyOf Tryz.f212
  cbv
  refine ACall.mk _ (cf hS none4S) ?_
  cbv
  refine .inv (α := Nat × Nat × Nat × Nat) (fun p => gcdSt4 H m a p.1 p.2.1 p.2.2.1 p.2.2.2) (fun p => GI m a p.1 p.2.1 p.2.2.1 p.2.2.2) (fun p => p.1 + p.2.1) (a, m, 1, 0) ?_ (GI.start h1m ha ham hc) ?_
  · cbv
    repeat' (first | exact (l0 _).symm | exact l10.symm | exact (l1s _ (by omega)).symm | constructor)
  rintro ⟨u, v, x, y⟩ hG
  dsimp only at hG ⊢
  have hun : u < 2 ^ 256 := Nat.lt_of_le_of_lt hG.um hlim
  have hvn : v < 2 ^ 256 := Nat.lt_of_le_of_lt hG.vm hlim
  have eu := eqsOne4 hA hl hun
  have ev' := eqsOne4 hA hl hvn
  by_cases hu1 : u = 1
  · obtain rfl : x = z := uniq x hG.xm (hG.ux.trans (by rw [hu1, Nat.mod_eq_of_lt h1m]))
    rw [decide_eq_true hu1] at eu
    have nu := (a_not hA (A.eqs [(.s .u64 (H.lim u 0), .i .u64 1), (.s .u64 (H.lim u 1), .i .u64 0), (.s .u64 (H.lim u 2), .i .u64 0), (.s .u64 (H.lim u 3), .i .u64 0)])).trans (by rw [eu]; rfl : _ = false)
    cbv
    repeat (first | (refine ABr.f (by assumption) ?_; cbv) | (refine ABr.t (by assumption) ?_; cbv))
  rw [decide_eq_false hu1] at eu
  have nu := (a_not hA (A.eqs [(.s .u64 (H.lim u 0), .i .u64 1), (.s .u64 (H.lim u 1), .i .u64 0), (.s .u64 (H.lim u 2), .i .u64 0), (.s .u64 (H.lim u 3), .i .u64 0)])).trans (by rw [eu]; rfl : _ = true)
  by_cases hv1 : v = 1
  · obtain rfl : y = z := uniq y hG.ym (hG.vy.trans (by rw [hv1, Nat.mod_eq_of_lt h1m]))
    rw [decide_eq_true hv1] at ev'
    have nv := (a_not hA (A.eqs [(.s .u64 (H.lim v 0), .i .u64 1), (.s .u64 (H.lim v 1), .i .u64 0), (.s .u64 (H.lim v 2), .i .u64 0), (.s .u64 (H.lim v 3), .i .u64 0)])).trans (by rw [ev']; rfl : _ = false)
    cbv
    repeat (first | (refine ABr.f (by assumption) ?_; cbv) | (refine ABr.t (by assumption) ?_; cbv))
  rw [decide_eq_false hv1] at ev'
  have nv := (a_not hA (A.eqs [(.s .u64 (H.lim v 0), .i .u64 1), (.s .u64 (H.lim v 1), .i .u64 0), (.s .u64 (H.lim v 2), .i .u64 0), (.s .u64 (H.lim v 3), .i .u64 0)])).trans (by rw [ev']; rfl : _ = true)
  have hstart : GI m a u v x y ∧ u ≤ u ∧ (u = u ∨ u % 2 = 0) := ⟨hG, Nat.le_refl _, .inl rfl⟩
  cbv
  repeat (first | (refine ABr.f (by assumption) ?_; cbv) | (refine ABr.t (by assumption) ?_; cbv))
  clear eu ev' nu nv
  refine .inv (α := Nat × Nat) (fun p => gcdSt4 H m a p.1 v p.2 y) (fun p => GI m a p.1 v p.2 y ∧ p.1 ≤ u ∧ (p.1 = u ∨ u % 2 = 0)) (fun p => p.1) (u, x) (by cbv) hstart ?_
  rintro ⟨u', x'⟩ ⟨hG', hle, hor⟩
  dsimp only at hG' hle hor ⊢
  have ee := even_lim4 hA hl u'
  by_cases he : u' % 2 = 0
  · rw [decide_eq_true he] at ee
    obtain ⟨u2, hu2⟩ : ∃ u2, u2 = u' / 2 := ⟨_, rfl⟩
    obtain ⟨x2, hx2⟩ : ∃ x2, x2 = hv m x' := ⟨_, rfl⟩
    have hP : GI m a u2 v x2 y ∧ u2 ≤ u ∧ (u2 = u ∨ u % 2 = 0) := by
      rw [hu2, hx2]
      exact ⟨hG'.halfU hodd he, by omega, by omega⟩
    have hμ : u2 < u' := by have := hG'.u0; omega
    have c1 := halfS4 hl (a := u') (top := 0) (h := u2) (Nat.lt_of_le_of_lt hG'.um hlim) (by omega) (by rw [hu2]; omega)
    have c2 := halvedS4 hl hR (inv := H.minv m) (H.fast4 m) (H.mf 256 m 1) (H.mf (2 * 256) m 1) x' x2 hG'.xm hx2
    cbv
    refine ABr.t ee ?_
    cbv
    refine ACall.mk _ (cg hS c1 (by cbv)) ?_
    cbv
    refine ACall.mk _ (cf hS c2) ?_
    cbv
    exact ⟨(u2, x2), by cbv, hP, hμ⟩
  rw [decide_eq_false he] at ee
  have hstart2 : GI m a u' v x' y ∧ v ≤ v ∧ (v = v ∨ v % 2 = 0) := ⟨hG', Nat.le_refl _, .inl rfl⟩
  cbv
  refine ABr.f ee ?_
  cbv
  clear ee
  refine .inv (α := Nat × Nat) (fun p => gcdSt4 H m a u' p.1 x' p.2) (fun p => GI m a u' p.1 x' p.2 ∧ p.1 ≤ v ∧ (p.1 = v ∨ v % 2 = 0)) (fun p => p.1) (v, y) (by cbv) hstart2 ?_
  rintro ⟨v', y'⟩ ⟨hG2, hle2, hor2⟩
  dsimp only at hG2 hle2 hor2 ⊢
  have ee := even_lim4 hA hl v'
  by_cases he2 : v' % 2 = 0
  · rw [decide_eq_true he2] at ee
    obtain ⟨v2, hv2⟩ : ∃ v2, v2 = v' / 2 := ⟨_, rfl⟩
    obtain ⟨y2, hy2⟩ : ∃ y2, y2 = hv m y' := ⟨_, rfl⟩
    have hP : GI m a u' v2 x' y2 ∧ v2 ≤ v ∧ (v2 = v ∨ v % 2 = 0) := by
      rw [hv2, hy2]
      exact ⟨hG2.halfV hodd he2, by omega, by omega⟩
    have hμ : v2 < v' := by have := hG2.v0; omega
    have c1 := halfS4 hl (a := v') (top := 0) (h := v2) (Nat.lt_of_le_of_lt hG2.vm hlim) (by omega) (by rw [hv2]; omega)
    have c2 := halvedS4 hl hR (inv := H.minv m) (H.fast4 m) (H.mf 256 m 1) (H.mf (2 * 256) m 1) y' y2 hG2.ym hy2
    cbv
    refine ABr.t ee ?_
    cbv
    refine ACall.mk _ (cg hS c1 (by cbv)) ?_
    cbv
    refine ACall.mk _ (cf hS c2) ?_
    cbv
    exact ⟨(v2, y2), by cbv, hP, hμ⟩
  rw [decide_eq_false he2] at ee
  have hne : u' ≠ v' := by
    refine hG2.ne ?_
    refine Classical.byContradiction fun h => ?_
    have e1 : u' = 1 := by omega
    have e2 : v' = 1 := by omega
    have := Nat.dvd_gcd (Nat.dvd_of_mod_eq_zero (show u % 2 = 0 by omega)) (Nat.dvd_of_mod_eq_zero (show v % 2 = 0 by omega))
    rw [show Nat.gcd u v = 1 from hG.co] at this
    have := Nat.le_of_dvd (by omega) this
    omega
  have hu'n : u' < 2 ^ 256 := Nat.lt_of_le_of_lt hG2.um hlim
  have hv'n : v' < 2 ^ 256 := Nat.lt_of_le_of_lt hG2.vm hlim
  by_cases hlt : u' < v'
  · obtain ⟨d, hd⟩ : ∃ d, d = v' - u' := ⟨_, rfl⟩
    obtain ⟨y2, hy2⟩ : ∃ y2, y2 = (y' + m - x') % m := ⟨_, rfl⟩
    have hP : GI m a u' d x' y2 := by rw [hd, hy2]; exact hG2.subV hlt
    have hμ : u' + d < u + v := by have := hG2.u0; omega
    have c1 := less4S hl u' v' hu'n hv'n true (decide_eq_true hlt).symm
    have c2 := minus4 hl v' u' d 0 hv'n hu'n (by omega) (by omega)
    have c3 := rlessS4 hl hR (inv := H.minv m) (H.fast4 m) (H.mf 256 m 1) (H.mf (2 * 256) m 1) y' x' y2 hG2.ym hG2.xm hy2
    cbv
    refine ABr.f ee ?_
    cbv
    refine ACall.mk _ (cf hS c1) ?_
    cbv
    refine ABr.t rfl ?_
    cbv
    refine ACall.mk _ (cf hS c2) ?_
    cbv
    refine ACall.mk _ (cf hS c3) ?_
    cbv
    exact ⟨(u', d, x', y2), by cbv, hP, hμ⟩
  · obtain ⟨d, hd⟩ : ∃ d, d = u' - v' := ⟨_, rfl⟩
    obtain ⟨x2, hx2⟩ : ∃ x2, x2 = (x' + m - y') % m := ⟨_, rfl⟩
    have hP : GI m a d v' x2 y' := by rw [hd, hx2]; exact hG2.subU (by omega)
    have hμ : d + v' < u + v := by have := hG2.v0; omega
    have c1 := less4S hl u' v' hu'n hv'n false (decide_eq_false hlt).symm
    have c2 := minus4 hl u' v' d 0 hu'n hv'n (by omega) (by omega)
    have c3 := rlessS4 hl hR (inv := H.minv m) (H.fast4 m) (H.mf 256 m 1) (H.mf (2 * 256) m 1) x' y' x2 hG2.xm hG2.ym hx2
    cbv
    refine ABr.f ee ?_
    cbv
    refine ACall.mk _ (cf hS c1) ?_
    cbv
    refine ABr.f rfl ?_
    cbv
    refine ACall.mk _ (cf hS c2) ?_
    cbv
    refine ACall.mk _ (cf hS c3) ?_
    cbv
    exact ⟨(d, v', x2, y'), by cbv, hP, hμ⟩
theorem eqsOne6 {A : Ar} (hA : A = Ar.real) {lim : Lim} (hl : lim = limR) {u : Nat} (hu : u < 2 ^ 384) : A.eqs [(.s .u64 (lim u 0), .i .u64 1), (.s .u64 (lim u 1), .i .u64 0), (.s .u64 (lim u 2), .i .u64 0), (.s .u64 (lim u 3), .i .u64 0), (.s .u64 (lim u 4), .i .u64 0), (.s .u64 (lim u 5), .i .u64 0)] = decide (u = 1) := by
  rw [eqs_real hA]
  simp only [List.all_cons, List.all_nil, leafEq_si, Bool.and_true]
  have e := split6 hl u hu
  have hr := fun i => lim_range hl u i
  have r0 := hr 0
  have r1 := hr 1
  have r2 := hr 2
  have r3 := hr 3
  have r4 := hr 4
  have r5 := hr 5
  clear hr
  by_cases h : u = 1
  · rw [decide_eq_true h]
    simp only [Bool.and_eq_true, decide_eq_true_eq]
    refine ⟨?_, ?_, ?_, ?_, ?_, ?_⟩ <;> omega
  · rw [decide_eq_false h]
    refine Bool.eq_false_iff.2 fun h' => h ?_
    simp only [Bool.and_eq_true, decide_eq_true_eq] at h'
    omega
def gcdSt6 (H : H5) (m a u v x y : Nat) : St := ⟨[.ref (R6 H m) 0, .agg [.s .u64 (H.lim a 0), .s .u64 (H.lim a 1), .s .u64 (H.lim a 2), .s .u64 (H.lim a 3), .s .u64 (H.lim a 4), .s .u64 (H.lim a 5)], .tup [], .own 0 0, .own 1 0, .own 2 0, .own 3 0, .own 4 0, .own 5 0, .own 6 0, .any, .any, .any, .any, .any, .any, .any, .any, .any, .any, .any, .any, .any, .any, .any, .any, .any, .any, .any, .any, .any, .any, .any, .any, .any, .any, .any, .any, .any, .any, .any, .any, .any, .any, .any, .any, .any, .any, .any, .any, .any, .any, .any, .any, .any, .any, .any, .any, .any, .any, .any, .any, .any, .any, .any, .any, .any, .any, .any, .any, .any, .any],
  [⟨true, true, [.s .u64 (H.lim a 0), .s .u64 (H.lim a 1), .s .u64 (H.lim a 2), .s .u64 (H.lim a 3), .s .u64 (H.lim a 4), .s .u64 (H.lim a 5)]⟩, ⟨true, true, [.i .u64 0, .i .u64 0, .i .u64 0, .i .u64 0, .i .u64 0, .i .u64 0]⟩, ⟨true, true, [.i .u64 1, .i .u64 0, .i .u64 0, .i .u64 0, .i .u64 0, .i .u64 0]⟩, ⟨true, true, [.s .u64 (H.lim u 0), .s .u64 (H.lim u 1), .s .u64 (H.lim u 2), .s .u64 (H.lim u 3), .s .u64 (H.lim u 4), .s .u64 (H.lim u 5)]⟩, ⟨true, true, [.s .u64 (H.lim v 0), .s .u64 (H.lim v 1), .s .u64 (H.lim v 2), .s .u64 (H.lim v 3), .s .u64 (H.lim v 4), .s .u64 (H.lim v 5)]⟩,
   ⟨true, true, [.s .u64 (H.lim x 0), .s .u64 (H.lim x 1), .s .u64 (H.lim x 2), .s .u64 (H.lim x 3), .s .u64 (H.lim x 4), .s .u64 (H.lim x 5)]⟩, ⟨true, true, [.s .u64 (H.lim y 0), .s .u64 (H.lim y 1), .s .u64 (H.lim y 2), .s .u64 (H.lim y 3), .s .u64 (H.lim y 4), .s .u64 (H.lim y 5)]⟩]⟩
theorem gcdS6 {H : H5} (hH : H = H5.real) {m a z : Nat} (hR : Mod 384 m) (ha : 0 < a) (ham : a < m) (hc : Nat.Coprime a m) (hz : z < m) (haz : a * z % m = 1) :
    Sp 249 [.ref (R6 H m) 0, u6 H.lim a] (u6 H.lim z) := by
  have hl := H5.hlim hH
  have hlim := hR.lt
  have h1m := hR.one
  have hodd := hR.odd
  have uniq : ∀ w, w < m → a * w % m = 1 → w = z := by
    intro w hw h
    have := NT.cancel hc (h.trans haz.symm)
    rwa [Nat.mod_eq_of_lt hw, Nat.mod_eq_of_lt hz] at this
  have l0 : ∀ i, H.lim 0 i = 0 := by intro i; rw [hH]; show ((0 / 2 ^ (64 * i) % 2 ^ 64 : Nat) : Int) = 0; rw [Nat.zero_div]; rfl
  have l10 : H.lim 1 0 = 1 := by rw [hH]; rfl
  have l1s : ∀ i, i < 6 - 1 → H.lim 1 (i + 1) = 0 := by
    intro i hi; rw [hH]; show ((1 / 2 ^ (64 * (i + 1)) % 2 ^ 64 : Nat) : Int) = 0
    rw [Nat.div_eq_of_lt (Nat.one_lt_two_pow (by omega))]; rfl
  refine mk Tryz.func249 rfl rfl LN R34 (by decide +kernel) fun A S hA hS => ?_
  unfold bodyOf Tryz.f249
  cbv
  refine ACall.mk _ (cf hS none6S) ?_
  cbv
  refine .inv (α := Nat × Nat × Nat × Nat) (fun p => gcdSt6 H m a p.1 p.2.1 p.2.2.1 p.2.2.2) (fun p => GI m a p.1 p.2.1 p.2.2.1 p.2.2.2) (fun p => p.1 + p.2.1) (a, m, 1, 0) ?_ (GI.start h1m ha ham hc) ?_
  · cbv
    repeat' (first | exact (l0 _).symm | exact l10.symm | exact (l1s _ (by omega)).symm | constructor)
  rintro ⟨u, v, x, y⟩ hG
  dsimp only at hG ⊢
  have hun : u < 2 ^ 384 := Nat.lt_of_le_of_lt hG.um hlim
  have hvn : v < 2 ^ 384 := Nat.lt_of_le_of_lt hG.vm hlim
  have eu := eqsOne6 hA hl hun
  have ev' := eqsOne6 hA hl hvn
  by_cases hu1 : u = 1
  · obtain rfl : x = z := uniq x hG.xm (hG.ux.trans (by rw [hu1, Nat.mod_eq_of_lt h1m]))
    rw [decide_eq_true hu1] at eu
    have nu := (a_not hA (A.eqs [(.s .u64 (H.lim u 0), .i .u64 1), (.s .u64 (H.lim u 1), .i .u64 0), (.s .u64 (H.lim u 2), .i .u64 0), (.s .u64 (H.lim u 3), .i .u64 0), (.s .u64 (H.lim u 4), .i .u64 0), (.s .u64 (H.lim u 5), .i .u64 0)])).trans (by rw [eu]; rfl : _ = false)
    cbv
    repeat (first | (refine ABr.f (by assumption) ?_; cbv) | (refine ABr.t (by assumption) ?_; cbv))
  rw [decide_eq_false hu1] at eu
  have nu := (a_not hA (A.eqs [(.s .u64 (H.lim u 0), .i .u64 1), (.s .u64 (H.lim u 1), .i .u64 0), (.s .u64 (H.lim u 2), .i .u64 0), (.s .u64 (H.lim u 3), .i .u64 0), (.s .u64 (H.lim u 4), .i .u64 0), (.s .u64 (H.lim u 5), .i .u64 0)])).trans (by rw [eu]; rfl : _ = true)
  by_cases hv1 : v = 1
  · obtain rfl : y = z := uniq y hG.ym (hG.vy.trans (by rw [hv1, Nat.mod_eq_of_lt h1m]))
    rw [decide_eq_true hv1] at ev'
    have nv := (a_not hA (A.eqs [(.s .u64 (H.lim v 0), .i .u64 1), (.s .u64 (H.lim v 1), .i .u64 0), (.s .u64 (H.lim v 2), .i .u64 0), (.s .u64 (H.lim v 3), .i .u64 0), (.s .u64 (H.lim v 4), .i .u64 0), (.s .u64 (H.lim v 5), .i .u64 0)])).trans (by rw [ev']; rfl : _ = false)
    cbv
    repeat (first | (refine ABr.f (by assumption) ?_; cbv) | (refine ABr.t (by assumption) ?_; cbv))
  rw [decide_eq_false hv1] at ev'
  have nv := (a_not hA (A.eqs [(.s .u64 (H.lim v 0), .i .u64 1), (.s .u64 (H.lim v 1), .i .u64 0), (.s .u64 (H.lim v 2), .i .u64 0), (.s .u64 (H.lim v 3), .i .u64 0), (.s .u64 (H.lim v 4), .i .u64 0), (.s .u64 (H.lim v 5), .i .u64 0)])).trans (by rw [ev']; rfl : _ = true)
  have hstart : GI m a u v x y ∧ u ≤ u ∧ (u = u ∨ u % 2 = 0) := ⟨hG, Nat.le_refl _, .inl rfl⟩
  cbv
  repeat (first | (refine ABr.f (by assumption) ?_; cbv) | (refine ABr.t (by assumption) ?_; cbv))
  clear eu ev' nu nv
  refine .inv (α := Nat × Nat) (fun p => gcdSt6 H m a p.1 v p.2 y) (fun p => GI m a p.1 v p.2 y ∧ p.1 ≤ u ∧ (p.1 = u ∨ u % 2 = 0)) (fun p => p.1) (u, x) (by cbv) hstart ?_
  rintro ⟨u', x'⟩ ⟨hG', hle, hor⟩
  dsimp only at hG' hle hor ⊢
  have ee := even_lim6 hA hl u'
  by_cases he : u' % 2 = 0
  · rw [decide_eq_true he] at ee
    obtain ⟨u2, hu2⟩ : ∃ u2, u2 = u' / 2 := ⟨_, rfl⟩
    obtain ⟨x2, hx2⟩ : ∃ x2, x2 = hv m x' := ⟨_, rfl⟩
    have hP : GI m a u2 v x2 y ∧ u2 ≤ u ∧ (u2 = u ∨ u % 2 = 0) := by
      rw [hu2, hx2]
      exact ⟨hG'.halfU hodd he, by omega, by omega⟩
    have hμ : u2 < u' := by have := hG'.u0; omega
    have c1 := halfS6 hl (a := u') (top := 0) (h := u2) (Nat.lt_of_le_of_lt hG'.um hlim) (by omega) (by rw [hu2]; omega)
    have c2 := halvedS6 hl hR (inv := H.minv m) (H.fast6 m) (H.mf 384 m 1) (H.mf (2 * 384) m 1) x' x2 hG'.xm hx2
    cbv
    refine ABr.t ee ?_
    cbv
    refine ACall.mk _ (cg hS c1 (by cbv)) ?_
    cbv
    refine ACall.mk _ (cf hS c2) ?_
    cbv
    exact ⟨(u2, x2), by cbv, hP, hμ⟩
  rw [decide_eq_false he] at ee
  have hstart2 : GI m a u' v x' y ∧ v ≤ v ∧ (v = v ∨ v % 2 = 0) := ⟨hG', Nat.le_refl _, .inl rfl⟩
  cbv
  refine ABr.f ee ?_
  cbv
  clear ee
  refine .inv (α := Nat × Nat) (fun p => gcdSt6 H m a u' p.1 x' p.2) (fun p => GI m a u' p.1 x' p.2 ∧ p.1 ≤ v ∧ (p.1 = v ∨ v % 2 = 0)) (fun p => p.1) (v, y) (by cbv) hstart2 ?_
  rintro ⟨v', y'⟩ ⟨hG2, hle2, hor2⟩
  dsimp only at hG2 hle2 hor2 ⊢
  have ee := even_lim6 hA hl v'
  by_cases he2 : v' % 2 = 0
  · rw [decide_eq_true he2] at ee
    obtain ⟨v2, hv2⟩ : ∃ v2, v2 = v' / 2 := ⟨_, rfl⟩
    obtain ⟨y2, hy2⟩ : ∃ y2, y2 = hv m y' := ⟨_, rfl⟩
    have hP : GI m a u' v2 x' y2 ∧ v2 ≤ v ∧ (v2 = v ∨ v % 2 = 0) := by
      rw [hv2, hy2]
      exact ⟨hG2.halfV hodd he2, by omega, by omega⟩
    have hμ : v2 < v' := by have := hG2.v0; omega
    have c1 := halfS6 hl (a := v') (top := 0) (h := v2) (Nat.lt_of_le_of_lt hG2.vm hlim) (by omega) (by rw [hv2]; omega)
    have c2 := halvedS6 hl hR (inv := H.minv m) (H.fast6 m) (H.mf 384 m 1) (H.mf (2 * 384) m 1) y' y2 hG2.ym hy2
    cbv
    refine ABr.t ee ?_
    cbv
    refine ACall.mk _ (cg hS c1 (by cbv)) ?_
    cbv
    refine ACall.mk _ (cf hS c2) ?_
    cbv
    exact ⟨(v2, y2), by cbv, hP, hμ⟩
  rw [decide_eq_false he2] at ee
  have hne : u' ≠ v' := by
    refine hG2.ne ?_
    refine Classical.byContradiction fun h => ?_
    have e1 : u' = 1 := by omega
    have e2 : v' = 1 := by omega
    have := Nat.dvd_gcd (Nat.dvd_of_mod_eq_zero (show u % 2 = 0 by omega)) (Nat.dvd_of_mod_eq_zero (show v % 2 = 0 by omega))
    rw [show Nat.gcd u v = 1 from hG.co] at this
    have := Nat.le_of_dvd (by omega) this
    omega
  have hu'n : u' < 2 ^ 384 := Nat.lt_of_le_of_lt hG2.um hlim
  have hv'n : v' < 2 ^ 384 := Nat.lt_of_le_of_lt hG2.vm hlim
  by_cases hlt : u' < v'
  · obtain ⟨d, hd⟩ : ∃ d, d = v' - u' := ⟨_, rfl⟩
    obtain ⟨y2, hy2⟩ : ∃ y2, y2 = (y' + m - x') % m := ⟨_, rfl⟩
    have hP : GI m a u' d x' y2 := by rw [hd, hy2]; exact hG2.subV hlt
    have hμ : u' + d < u + v := by have := hG2.u0; omega
    have c1 := less6S hl u' v' hu'n hv'n true (decide_eq_true hlt).symm
    have c2 := minus6 hl v' u' d 0 hv'n hu'n (by omega) (by omega)
    have c3 := rlessS6 hl hR (inv := H.minv m) (H.fast6 m) (H.mf 384 m 1) (H.mf (2 * 384) m 1) y' x' y2 hG2.ym hG2.xm hy2
    cbv
    refine ABr.f ee ?_
    cbv
    refine ACall.mk _ (cf hS c1) ?_
    cbv
    refine ABr.t rfl ?_
    cbv
    refine ACall.mk _ (cf hS c2) ?_
    cbv
    refine ACall.mk _ (cf hS c3) ?_
    cbv
    exact ⟨(u', d, x', y2), by cbv, hP, hμ⟩
  · obtain ⟨d, hd⟩ : ∃ d, d = u' - v' := ⟨_, rfl⟩
    obtain ⟨x2, hx2⟩ : ∃ x2, x2 = (x' + m - y') % m := ⟨_, rfl⟩
    have hP : GI m a d v' x2 y' := by rw [hd, hx2]; exact hG2.subU (by omega)
    have hμ : d + v' < u + v := by have := hG2.v0; omega
    have c1 := less6S hl u' v' hu'n hv'n false (decide_eq_false hlt).symm
    have c2 := minus6 hl u' v' d 0 hu'n hv'n (by omega) (by omega)
    have c3 := rlessS6 hl hR (inv := H.minv m) (H.fast6 m) (H.mf 384 m 1) (H.mf (2 * 384) m 1) x' y' x2 hG2.xm hG2.ym hx2
    cbv
    refine ABr.f ee ?_
    cbv
    refine ACall.mk _ (cf hS c1) ?_
    cbv
    refine ABr.f rfl ?_
    cbv
    refine ACall.mk _ (cf hS c2) ?_
    cbv
    refine ACall.mk _ (cf hS c3) ?_
    cbv
    exact ⟨(d, v', x2, y'), by cbv, hP, hμ⟩
end Go.Proofs.YtmholgclgamnnaaGreat
