import Derived.Test.YtkhipnhdbaahcaaGreatQBR
section
set_option linter.unusedVariables false
set_option linter.unusedSimpArgs false
namespace Go.Proofs.YtkhipnhdbaahcaaGreat
open Go Eng
set_option maxRecDepth 100000
set_option exponentiation.threshold 2000
set_option maxHeartbeats 4000000
theorem lim_app4 {a t : Nat} (ha : a < 2 ^ 256) (ht : t < 2 ^ 64) : (∀ i, i < 4 → limR (a + 2 ^ 256 * t) i = limR a i) ∧ limR (a + 2 ^ 256 * t) 4 = (t : Int) := by
  constructor
  · intro i hi
    unfold limR
    congr 1
    rw [show 2 ^ 256 * t = 2 ^ (64 * i) * (2 ^ 64 * (2 ^ (256 - 64 * i - 64) * t)) by
      rw [← Nat.mul_assoc, ← Nat.mul_assoc, ← Nat.pow_add, ← Nat.pow_add]; congr 2; omega]
    rw [Nat.add_mul_div_left _ _ (Nat.two_pow_pos _), Nat.add_mul_mod_self_left]
  · unfold limR
    congr 1
    show (a + 2 ^ 256 * t) / 2 ^ 256 % 2 ^ 64 = t
    rw [Nat.add_mul_div_left _ _ (Nat.two_pow_pos _), Nat.div_eq_of_lt ha]
    omega
theorem neqs4 {A : Ar} (hA : A = Ar.real) {lim : Lim} (hl : lim = limR) (a b : Nat) (ha : a < 2 ^ 256) (hb : b < 2 ^ 256) : A.not (A.eqs [(.s .u64 (lim a 0), .s .u64 (lim b 0)), (.s .u64 (lim a 1), .s .u64 (lim b 1)), (.s .u64 (lim a 2), .s .u64 (lim b 2)), (.s .u64 (lim a 3), .s .u64 (lim b 3))]) = !decide (a = b) := by
  rw [a_not hA, eqs4 hA hl a b ha hb]
theorem rowl4 (lim : Lim) (hl : lim = limR) (e : Nat) : IsRow [.s .u64 (lim e 0), .s .u64 (lim e 1), .s .u64 (lim e 2), .s .u64 (lim e 3), .s .u64 (lim e 4)] (limR e) (4 + 1) := by
  subst hl
  refine ⟨rfl, fun i hi => ?_⟩
  rcases (by omega : i = 0 ∨ i = 1 ∨ i = 2 ∨ i = 3 ∨ i = 4) with rfl | rfl | rfl | rfl | rfl <;> rfl
theorem RootS4 {H : H5} (hH : H = H5.real) {m a : Nat} (hR : Mod 256 m) (ha : a < m) (r : Nat) (hr : r = H.pow m a ((m + 1) / 4)) :
    (H.mul m r r = a → Sp 50 [.ref (R4 H m) 0, el4 H m a] (.tup [el4 H m r, .b true])) ∧ (H.mul m r r ≠ a → Sp 50 [.ref (R4 H m) 0, el4 H m a] (.tup [u4 H.lim 0, .b false])) := by
  have hl := H5.hlim hH
  have hlim := hR.lt
  have h1m := hR.one
  have hodd := hR.odd
  obtain ⟨e, he⟩ : ∃ e, e = (m + 1) % 2 ^ 256 := ⟨_, rfl⟩
  obtain ⟨c, hc⟩ : ∃ c, c = (m + 1) / 2 ^ 256 := ⟨_, rfl⟩
  obtain ⟨q, hq⟩ : ∃ q, q = (m + 1) / 4 := ⟨_, rfl⟩
  have hN : m + 1 = e + 2 ^ 256 * c := by omega
  have hc1 : c ≤ 1 := by omega
  have he1 : e < 2 ^ 256 := by omega
  obtain ⟨ha1, ha2⟩ := lim_app4 he1 (show c < 2 ^ 64 by omega)
  rw [← hN] at ha1 ha2
  have le := fun i => lim_range hl e i
  have hcr : (0 : Int) ≤ (c : Int) ∧ (c : Int) < 18446744073709551616 := by omega
  rw [← hq] at hr
  have l0 : ∀ i, H.lim 0 i = 0 := by intro i; rw [hH]; show ((0 / 2 ^ (64 * i) % 2 ^ 64 : Nat) : Int) = 0; rw [Nat.zero_div]; rfl
  have l10 : H.lim 1 0 = 1 := by rw [hH]; rfl
  have l1s : ∀ i, i < 4 - 1 → H.lim 1 (i + 1) = 0 := by
    intro i hi; rw [hH]; show ((1 / 2 ^ (64 * (i + 1)) % 2 ^ 64 : Nat) : Int) = 0
    rw [Nat.div_eq_of_lt (Nat.one_lt_two_pow (by omega))]; rfl
  have cp := plus4 hl m 1 e c hlim (by omega) (by omega) he1
  have cp : Sp 101 [u4 H.lim m, .agg [.i .u64 1, .i .u64 0, .i .u64 0, .i .u64 0]] (.tup [u4 H.lim e, .s .u64 c]) := Spec.args cp (by
    cbv
    repeat' (first | exact l10.symm | exact (l1s _ (by omega)).symm | constructor))
  have cw := wordsS4 (H := H) e
  have ce := ExpS4 hH hR ha (rowl4 H.lim hl q) (by omega) (show q < 2 ^ (64 * (4 + 1)) by omega)
  rw [← hr] at ce
  have cm := mulE4 hH hR (a := r) (b := r)
  obtain ⟨s, hs⟩ : ∃ s, s = H.mul m r r := ⟨_, rfl⟩
  rw [← hs] at cm ⊢
  have hsm : s < m := by rw [hs, hH]; exact Nat.mod_lt _ hR.pos
  have hinj : H.mf 256 m s = H.mf 256 m a → s = a := by rw [hH]; exact mf_inj hodd hsm ha
  have hb1 : H.mf 256 m s < 2 ^ 256 := by refine Nat.lt_trans ?_ hlim; rw [hH]; exact mf_lt hR.pos
  have hb2 : H.mf 256 m a < 2 ^ 256 := by refine Nat.lt_trans ?_ hlim; rw [hH]; exact mf_lt hR.pos
  have words : ∀ (A : Ar), A = Ar.real → A.bin .or .u64 (A.bin .shr .u64 (H.lim e 0) 2) (A.bin .shl .u64 (H.lim e 1) 62) = H.lim q 0 ∧ A.bin .or .u64 (A.bin .shr .u64 (H.lim e 1) 2) (A.bin .shl .u64 (H.lim e 2) 62) = H.lim q 1 ∧ A.bin .or .u64 (A.bin .shr .u64 (H.lim e 2) 2) (A.bin .shl .u64 (H.lim e 3) 62) = H.lim q 2 ∧ A.bin .or .u64 (A.bin .shr .u64 (H.lim e 3) 2) (A.bin .shl .u64 (c : Int) 62) = H.lim q 3 ∧ A.bin .shr .u64 (c : Int) 2 = H.lim q 4 := by
    intro A hA
    have hqi : ∀ i, H.lim q i = limR (m + 1) i / 4 + 4611686018427387904 * (limR (m + 1) (i + 1) % 4) := by intro i; rw [hl, hq]; exact limR_quarter _ _
    have htop : limR (m + 1) (4 + 1) = 0 := by
      unfold limR
      rw [Nat.div_eq_of_lt (by omega)]; rfl
    refine ⟨?_, ?_, ?_, ?_, ?_⟩
    · rw [quarter_word hA (le 0) (le 1), hqi, ha1 0 (by omega), ha1 1 (by omega), hl]
    · rw [quarter_word hA (le 1) (le 2), hqi, ha1 1 (by omega), ha1 2 (by omega), hl]
    · rw [quarter_word hA (le 2) (le 3), hqi, ha1 2 (by omega), ha1 3 (by omega), hl]
    · rw [quarter_word hA (le 3) hcr, hqi, ha1 3 (by omega), ha2, hl]
    · rw [shr_two hA hcr.1, hqi, ha2, htop]; rfl
  constructor
  · intro hsa
    refine mk Tryz.func50 rfl rfl L0 RRoot (by decide +kernel) fun A S hA hS => ?_
    have hw := words A hA
    have hne := (neqs4 hA hl _ _ hb1 hb2).trans (by rw [hsa, decide_eq_true rfl]; rfl : _ = false)
    unfold bodyOf Tryz.f50
    cbv
    refine ACall.mk _ (cf hS (isS4 (H := H) m)) ?_
    cbv
    refine ACall.mk _ (cf hS cp) ?_
    cbv
    refine ACall.mk _ (cf hS cw) ?_
    cbv
    refine ACall.mk _ (cg hS ce (by cbv; exact hw)) ?_
    cbv
    refine ACall.mk _ (cf hS cm) ?_
    cbv
    refine ABr.f hne ?_
    cbv
  · intro hsa
    refine mk Tryz.func50 rfl rfl L0 RRoot (by decide +kernel) fun A S hA hS => ?_
    have hw := words A hA
    have hne := (neqs4 hA hl _ _ hb1 hb2).trans (by rw [decide_eq_false (fun h => hsa (hinj h))]; rfl : _ = true)
    unfold bodyOf Tryz.f50
    cbv
    refine ACall.mk _ (cf hS (isS4 (H := H) m)) ?_
    cbv
    refine ACall.mk _ (cf hS cp) ?_
    cbv
    refine ACall.mk _ (cf hS cw) ?_
    cbv
    refine ACall.mk _ (cg hS ce (by cbv; exact hw)) ?_
    cbv
    refine ACall.mk _ (cf hS cm) ?_
    cbv
    refine ABr.t hne ?_
    cbv
    refine ACall.mk _ (cf hS none4S) ?_
    cbv
    repeat' (first | exact (l0 _).symm | constructor)
end Go.Proofs.YtkhipnhdbaahcaaGreat
end
section
set_option linter.unusedVariables false
set_option linter.unusedSimpArgs false
set_option linter.unusedSectionVars false
namespace Gp
/-- A ring's operations. -/
structure Op (α : Type) where
  add : α → α → α
  sub : α → α → α
  mul : α → α → α
  zero : α
  one : α
structure CR {α : Type} (O : Op α) : Prop where
  add_comm : ∀ a b, O.add a b = O.add b a
  add_assoc : ∀ a b c, O.add (O.add a b) c = O.add a (O.add b c)
  zero_add : ∀ a, O.add O.zero a = a
  sub_add : ∀ a b, O.add (O.sub a b) b = a
  mul_comm : ∀ a b, O.mul a b = O.mul b a
  mul_assoc : ∀ a b c, O.mul (O.mul a b) c = O.mul a (O.mul b c)
  one_mul : ∀ a, O.mul O.one a = a
  mul_add : ∀ a b c, O.mul a (O.add b c) = O.add (O.mul a b) (O.mul a c)
/-- Expressions. -/
inductive E where
  | v (i : Nat)
  | o
  | a (x y : E)
  | s (x y : E)
  | m (x y : E)
section
variable {α : Type} (O : Op α)
def E.ev (ρ : Nat → α) : E → α
  | .v i => ρ i
  | .o => O.one
  | .a x y => O.add (x.ev ρ) (y.ev ρ)
  | .s x y => O.sub (x.ev ρ) (y.ev ρ)
  | .m x y => O.mul (x.ev ρ) (y.ev ρ)
/-- With a square root of f. -/
def quad (f : α) : Op (α × α) := ⟨fun x y => (O.add x.1 y.1, O.add x.2 y.2), fun x y => (O.sub x.1 y.1, O.sub x.2 y.2),
  fun x y => (O.add (O.mul x.1 y.1) (O.mul f (O.mul x.2 y.2)), O.add (O.mul x.1 y.2) (O.mul x.2 y.1)), (O.zero, O.zero), (O.one, O.zero)⟩
end
/-- What keeps the operations. -/
structure Hom {α β : Type} (O : Op α) (O' : Op β) (f : α → β) : Prop where
  add : ∀ a b, f (O.add a b) = O'.add (f a) (f b)
  sub : ∀ a b, f (O.sub a b) = O'.sub (f a) (f b)
  mul : ∀ a b, f (O.mul a b) = O'.mul (f a) (f b)
  zero : f O.zero = O'.zero
  one : f O.one = O'.one
theorem Hom.ev {α β : Type} {O : Op α} {O' : Op β} {f : α → β} (h : Hom O O' f) (ρ : Nat → α) (e : E) : f (e.ev O ρ) = e.ev O' (fun i => f (ρ i)) := by
  induction e with
  | v i => rfl
  | o => exact h.one
  | a x y hx hy => simp only [E.ev, h.add, hx, hy]
  | s x y hx hy => simp only [E.ev, h.sub, hx, hy]
  | m x y hx hy => simp only [E.ev, h.mul, hx, hy]
section
variable {α : Type} {O : Op α} (L : CR O)
include L
theorem CR.add_zero (a : α) : O.add a O.zero = a := by rw [L.add_comm, L.zero_add]
theorem CR.sub_self (a : α) : O.sub a a = O.zero := by
  have h := L.sub_add a a
  have h1 := L.sub_add O.zero a
  have : O.add (O.add (O.sub a a) a) (O.sub O.zero a) = O.add a (O.sub O.zero a) := by rw [h]
  rw [L.add_assoc, L.add_comm a, h1, L.add_zero] at this
  exact this
theorem CR.add_cancel {a b c : α} (h : O.add a c = O.add b c) : a = b := by
  have : O.add (O.add a c) (O.sub O.zero c) = O.add (O.add b c) (O.sub O.zero c) := by rw [h]
  rwa [L.add_assoc, L.add_assoc, L.add_comm c, L.sub_add, L.add_zero, L.add_zero] at this
theorem CR.sub_eq (a b : α) : O.sub a b = O.add a (O.sub O.zero b) := by
  apply L.add_cancel (c := b)
  rw [L.sub_add, L.add_assoc, L.sub_add, L.add_zero]
theorem CR.eq_of_sub {a b : α} (h : O.sub a b = O.zero) : a = b := by
  rw [← L.sub_add a b, h, L.zero_add]
theorem CR.mul_zero (a : α) : O.mul a O.zero = O.zero := by
  apply L.add_cancel (c := O.mul a O.zero)
  rw [← L.mul_add, L.zero_add, L.zero_add]
theorem CR.zero_mul (a : α) : O.mul O.zero a = O.zero := by rw [L.mul_comm, L.mul_zero]
theorem CR.mul_neg (a b : α) : O.mul a (O.sub O.zero b) = O.sub O.zero (O.mul a b) := by
  apply L.add_cancel (c := O.mul a b)
  rw [← L.mul_add, L.sub_add, L.sub_add, L.mul_zero]
theorem CR.neg_mul (a b : α) : O.mul (O.sub O.zero a) b = O.sub O.zero (O.mul a b) := by rw [L.mul_comm, L.mul_neg, L.mul_comm]
theorem CR.neg_neg (a : α) : O.sub O.zero (O.sub O.zero a) = a := by
  apply L.add_cancel (c := O.sub O.zero a)
  rw [L.sub_add, L.add_comm, L.sub_add]
theorem CR.neg_add (a b : α) : O.sub O.zero (O.add a b) = O.add (O.sub O.zero a) (O.sub O.zero b) := by
  apply L.add_cancel (c := O.add a b)
  rw [L.sub_add, L.add_assoc, ← L.add_assoc (O.sub O.zero b), L.add_comm (O.sub O.zero b) a, L.add_assoc a, L.sub_add, L.add_zero, L.sub_add]
theorem CR.add_mul (a b c : α) : O.mul (O.add a b) c = O.add (O.mul a c) (O.mul b c) := by rw [L.mul_comm, L.mul_add, L.mul_comm c, L.mul_comm c]
theorem CR.add4 (a b c d : α) : O.add (O.add a b) (O.add c d) = O.add (O.add a c) (O.add b d) := by
  rw [L.add_assoc, L.add_assoc, ← L.add_assoc b, L.add_comm b c, L.add_assoc c]
theorem CR.mul4 (a b c d : α) : O.mul (O.mul a b) (O.mul c d) = O.mul (O.mul a c) (O.mul b d) := by
  rw [L.mul_assoc, L.mul_assoc, ← L.mul_assoc b, L.mul_comm b c, L.mul_assoc c]
end
/-- A square root sent to one. -/
theorem Hom.quad {α β : Type} {O : Op α} {O' : Op β} {φ : α → β} (h : Hom O O' φ) (L : CR O') (f : α) (y : β) (hy : O'.mul y y = φ f) : Hom (Gp.quad O f) O' (fun x => O'.add (φ x.1) (O'.mul y (φ x.2))) where
  add a b := by
    simp only [Gp.quad, h.add, L.mul_add]
    exact L.add4 _ _ _ _
  sub a b := by
    simp only [Gp.quad, h.sub]
    rw [L.sub_eq (φ a.1), L.sub_eq (φ a.2), L.mul_add, L.mul_neg, L.add4, ← L.neg_add, ← L.sub_eq]
  mul a b := by
    simp only [Gp.quad, h.add, h.mul, L.mul_add, L.add_mul]
    rw [← hy]
    have e1 : O'.mul (O'.mul y (φ a.2)) (O'.mul y (φ b.2)) = O'.mul (O'.mul y y) (O'.mul (φ a.2) (φ b.2)) := L.mul4 _ _ _ _
    have e2 : O'.mul (φ a.1) (O'.mul y (φ b.2)) = O'.mul y (O'.mul (φ a.1) (φ b.2)) := by rw [← L.mul_assoc, L.mul_comm _ y, L.mul_assoc]
    have e3 : O'.mul (O'.mul y (φ a.2)) (φ b.1) = O'.mul y (O'.mul (φ a.2) (φ b.1)) := L.mul_assoc _ _ _
    rw [e1, e2, e3]
    generalize O'.mul (φ a.1) (φ b.1) = p
    generalize O'.mul y (O'.mul (φ a.1) (φ b.2)) = q
    generalize O'.mul y (O'.mul (φ a.2) (φ b.1)) = r
    generalize O'.mul (O'.mul y y) (O'.mul (φ a.2) (φ b.2)) = t
    rw [L.add_comm q r, L.add4 p t r q, L.add_comm t q]
  zero := by simp only [Gp.quad, h.zero, L.mul_zero, L.zero_add]
  one := by simp only [Gp.quad, h.one, h.zero, L.mul_zero, L.add_zero]
theorem Hom.map {α β : Type} {O : Op α} {O' : Op β} {φ : α → β} (h : Hom O O' φ) (f : α) : Hom (Gp.quad O f) (Gp.quad O' (φ f)) (fun x => (φ x.1, φ x.2)) where
  add a b := by simp only [Gp.quad, h.add]
  sub a b := by simp only [Gp.quad, h.sub]
  mul a b := by simp only [Gp.quad, h.add, h.mul]
  zero := by simp only [Gp.quad, h.zero]
  one := by simp only [Gp.quad, h.zero, h.one]
/-- Degrees. -/
structure Gr {α : Type} (O : Op α) (G : α → Int → Prop) : Prop where
  add : ∀ a b d, G a d → G b d → G (O.add a b) d
  sub : ∀ a b d, G a d → G b d → G (O.sub a b) d
  mul : ∀ a b d e, G a d → G b e → G (O.mul a b) (d + e)
  zero : ∀ d, G O.zero d
  one : G O.one 0
  mono : ∀ a d e, G a d → d ≤ e → G a e
def E.dg (w : Nat → Int) : E → Int
  | .v i => w i
  | .o => 0
  | .a x y | .s x y => max (x.dg w) (y.dg w)
  | .m x y => x.dg w + y.dg w
theorem Gr.ev {α : Type} {O : Op α} {G : α → Int → Prop} (h : Gr O G) {ρ : Nat → α} {w : Nat → Int} (hw : ∀ i, G (ρ i) (w i)) (e : E) : G (e.ev O ρ) (e.dg w) := by
  induction e with
  | v i => exact hw i
  | o => exact h.one
  | a x y hx hy => exact h.add _ _ _ (h.mono _ _ _ hx (Int.le_max_left _ _)) (h.mono _ _ _ hy (Int.le_max_right _ _))
  | s x y hx hy => exact h.sub _ _ _ (h.mono _ _ _ hx (Int.le_max_left _ _)) (h.mono _ _ _ hy (Int.le_max_right _ _))
  | m x y hx hy => exact h.mul _ _ _ _ hx hy
theorem Gr.quad {α : Type} {O : Op α} {G : α → Int → Prop} (h : Gr O G) (f : α) (t : Int) (hf : G f (2 * t)) : Gr (Gp.quad O f) (fun x d => G x.1 d ∧ G x.2 (d - t)) where
  add a b d ha hb := ⟨h.add _ _ _ ha.1 hb.1, h.add _ _ _ ha.2 hb.2⟩
  sub a b d ha hb := ⟨h.sub _ _ _ ha.1 hb.1, h.sub _ _ _ ha.2 hb.2⟩
  mul a b d e ha hb := ⟨h.add _ _ _ (h.mul _ _ _ _ ha.1 hb.1) (h.mono _ _ _ (h.mul _ _ _ _ hf (h.mul _ _ _ _ ha.2 hb.2)) (by omega)),
    h.add _ _ _ (h.mono _ _ _ (h.mul _ _ _ _ ha.1 hb.2) (by omega)) (h.mono _ _ _ (h.mul _ _ _ _ ha.2 hb.1) (by omega))⟩
  zero d := ⟨h.zero _, h.zero _⟩
  one := ⟨h.one, h.zero _⟩
  mono a d e ha hd := ⟨h.mono _ _ _ ha.1 hd, h.mono _ _ _ ha.2 (by omega)⟩
/-- Sizes. -/
structure Nm {α : Type} (O : Op α) (N : α → Nat) : Prop where
  add : ∀ a b, N (O.add a b) ≤ N a + N b
  sub : ∀ a b, N (O.sub a b) ≤ N a + N b
  mul : ∀ a b, N (O.mul a b) ≤ N a * N b
  zero : N O.zero = 0
  one : N O.one ≤ 1
def E.nm (w : Nat → Nat) : E → Nat
  | .v i => w i
  | .o => 1
  | .a x y | .s x y => x.nm w + y.nm w
  | .m x y => x.nm w * y.nm w
theorem Nm.ev {α : Type} {O : Op α} {N : α → Nat} (h : Nm O N) {ρ : Nat → α} {w : Nat → Nat} (hw : ∀ i, N (ρ i) ≤ w i) (e : E) : N (e.ev O ρ) ≤ e.nm w := by
  induction e with
  | v i => exact hw i
  | o => exact h.one
  | a x y hx hy => exact Nat.le_trans (h.add _ _) (Nat.add_le_add hx hy)
  | s x y hx hy => exact Nat.le_trans (h.sub _ _) (Nat.add_le_add hx hy)
  | m x y hx hy => exact Nat.le_trans (h.mul _ _) (Nat.mul_le_mul hx hy)
theorem Nm.quad {α : Type} {O : Op α} {N : α → Nat} (h : Nm O N) (f : α) (hf : N f ≤ 4) : Nm (Gp.quad O f) (fun x => N x.1 + 2 * N x.2) where
  add a b := by have := h.add a.1 b.1; have := h.add a.2 b.2; simp only [Gp.quad]; omega
  sub a b := by have := h.sub a.1 b.1; have := h.sub a.2 b.2; simp only [Gp.quad]; omega
  mul a b := by
    have h1 := h.add (O.mul a.1 b.1) (O.mul f (O.mul a.2 b.2))
    have h2 := h.add (O.mul a.1 b.2) (O.mul a.2 b.1)
    have h3 := h.mul a.1 b.1
    have h4 := h.mul a.1 b.2
    have h5 := h.mul a.2 b.1
    have h6 : N (O.mul f (O.mul a.2 b.2)) ≤ 4 * (N a.2 * N b.2) := Nat.le_trans (h.mul _ _) (Nat.mul_le_mul hf (h.mul _ _))
    simp only [Gp.quad]
    rw [Nat.add_mul, Nat.mul_add, Nat.mul_add, show N a.1 * (2 * N b.2) = 2 * (N a.1 * N b.2) by rw [Nat.mul_left_comm], show 2 * N a.2 * N b.1 = 2 * (N a.2 * N b.1) by rw [Nat.mul_assoc],
      show 2 * N a.2 * (2 * N b.2) = 4 * (N a.2 * N b.2) by rw [Nat.mul_assoc, Nat.mul_left_comm (N a.2), ← Nat.mul_assoc]]
    omega
  zero := by simp only [Gp.quad, h.zero]
  one := by have := h.one; simp only [Gp.quad, h.zero]; omega
end Gp
end
section
set_option linter.unusedVariables false
set_option linter.unusedSimpArgs false
set_option linter.unusedSectionVars false
namespace Gp
abbrev Mon := Nat → Nat
abbrev Pl := List (Bool × Mon)
def ngP : Pl → Pl
  | [] => []
  | t :: p => (!t.1, t.2) :: ngP p
def mulT (t : Bool × Mon) : Pl → Pl
  | [] => []
  | u :: q => (t.1 == u.1, fun i => t.2 i + u.2 i) :: mulT t q
def mulP : Pl → Pl → Pl
  | [], _ => []
  | t :: p, q => mulT t q ++ mulP p q
def PO : Op Pl := ⟨fun p q => p ++ q, fun p q => p ++ ngP q, mulP, [], [(true, fun _ => 0)]⟩
def vr (i : Nat) : Pl := [(true, fun j => if j = i then 1 else 0)]
section
variable {α : Type} (O : Op α)
def sg (s : Bool) (r : α) : α := match s with | true => r | false => O.sub O.zero r
def pw (r : α) : Nat → α
  | 0 => O.one
  | n + 1 => O.mul r (pw r n)
def mv (ρ : Nat → α) (m : Mon) : Nat → α
  | 0 => O.one
  | n + 1 => O.mul (mv ρ m n) (pw O (ρ n) (m n))
def pv (n : Nat) (ρ : Nat → α) : Pl → α
  | [] => O.zero
  | t :: p => O.add (sg O t.1 (mv O ρ t.2 n)) (pv n ρ p)
variable {O} (L : CR O)
include L
theorem pv_app (n : Nat) (ρ : Nat → α) (p q : Pl) : pv O n ρ (p ++ q) = O.add (pv O n ρ p) (pv O n ρ q) := by
  induction p with
  | nil => exact (L.zero_add _).symm
  | cons t p ih => simp only [List.cons_append, pv, ih, L.add_assoc]
theorem sg_not (s : Bool) (r : α) : sg O (!s) r = O.sub O.zero (sg O s r) := by
  cases s
  · exact (L.neg_neg r).symm
  · rfl
theorem sub_zero0 : O.sub O.zero O.zero = O.zero := L.sub_self _
theorem pv_neg (n : Nat) (ρ : Nat → α) (p : Pl) : pv O n ρ (ngP p) = O.sub O.zero (pv O n ρ p) := by
  induction p with
  | nil => exact (sub_zero0 L).symm
  | cons t p ih => simp only [ngP, pv, ih, sg_not L, L.neg_add]
theorem pw_add (r : α) (a b : Nat) : pw O r (a + b) = O.mul (pw O r a) (pw O r b) := by
  induction a with
  | zero => rw [Nat.zero_add]; exact (L.one_mul _).symm
  | succ a ih => rw [Nat.succ_add]; simp only [pw, ih, L.mul_assoc]
theorem mv_add (ρ : Nat → α) (m m' : Mon) (n : Nat) : mv O ρ (fun i => m i + m' i) n = O.mul (mv O ρ m n) (mv O ρ m' n) := by
  induction n with
  | zero => exact (L.one_mul _).symm
  | succ n ih => simp only [mv, ih, pw_add L, L.mul4]
theorem sg_mul (s t : Bool) (a b : α) : O.mul (sg O s a) (sg O t b) = sg O (s == t) (O.mul a b) := by
  cases s <;> cases t <;> simp only [sg, L.neg_mul, L.mul_neg, L.neg_neg] <;> rfl
theorem pv_mulT (n : Nat) (ρ : Nat → α) (t : Bool × Mon) (q : Pl) : pv O n ρ (mulT t q) = O.mul (sg O t.1 (mv O ρ t.2 n)) (pv O n ρ q) := by
  induction q with
  | nil => exact (L.mul_zero _).symm
  | cons u q ih => simp only [mulT, pv, ih, mv_add L, L.mul_add, sg_mul L]
theorem pv_mul (n : Nat) (ρ : Nat → α) (p q : Pl) : pv O n ρ (mulP p q) = O.mul (pv O n ρ p) (pv O n ρ q) := by
  induction p with
  | nil => exact (L.zero_mul _).symm
  | cons t p ih => simp only [mulP, pv_app L, pv_mulT L, pv, ih, L.add_mul]
theorem mv_zero (ρ : Nat → α) (m : Mon) (n : Nat) (h : ∀ i, i < n → m i = 0) : mv O ρ m n = O.one := by
  induction n with
  | zero => rfl
  | succ n ih => simp only [mv, ih (fun i hi => h i (by omega)), h n (by omega), pw, L.one_mul]
theorem pv_hom (n : Nat) (ρ : Nat → α) : Hom PO O (pv O n ρ) where
  add := pv_app L n ρ
  sub p q := by
    show pv O n ρ (p ++ ngP q) = _
    rw [pv_app L, pv_neg L, ← L.sub_eq]
  mul := pv_mul L n ρ
  zero := rfl
  one := by
    show O.add (mv O ρ (fun _ => 0) n) O.zero = O.one
    rw [mv_zero L ρ _ n (fun _ _ => rfl), L.add_zero]
theorem pv_vr (n : Nat) (ρ : Nat → α) (i : Nat) (hi : i < n) : pv O n ρ (vr i) = ρ i := by
  show O.add (mv O ρ (fun j => if j = i then 1 else 0) n) O.zero = _
  rw [L.add_zero]
  induction n with
  | zero => omega
  | succ n ih =>
    simp only [mv]
    by_cases h : n = i
    · subst h
      rw [if_pos rfl, mv_zero L ρ _ n (fun j hj => if_neg (by omega)), L.one_mul]
      show O.mul (ρ n) O.one = _
      rw [L.mul_comm, L.one_mul]
    · rw [if_neg h, ih (by omega)]
      show O.mul (ρ i) O.one = _
      rw [L.mul_comm, L.one_mul]
end
/-- The whole numbers. -/
def zO : Op Int := ⟨(· + ·), (· - ·), (· * ·), 0, 1⟩
theorem zL : CR zO where
  add_comm := Int.add_comm
  add_assoc := Int.add_assoc
  zero_add := Int.zero_add
  sub_add := Int.sub_add_cancel
  mul_comm := Int.mul_comm
  mul_assoc := Int.mul_assoc
  one_mul := Int.one_mul
  mul_add := Int.mul_add
def kv (K : Int) : List (Bool × Nat) → Int
  | [] => 0
  | t :: l => sg zO t.1 (K ^ t.2) + kv K l
def kc (j : Nat) : List (Bool × Nat) → Int
  | [] => 0
  | t :: l => (if t.2 = j then sg zO t.1 1 else 0) + kc j l
def dn : List (Bool × Nat) → List (Bool × Nat)
  | [] => []
  | (s, 0) :: l => dn l
  | (s, c + 1) :: l => (s, c) :: dn l
theorem kv_dn (K : Int) (l : List (Bool × Nat)) : kv K l = kc 0 l + K * kv K (dn l) := by
  induction l with
  | nil => simp [kv, kc, dn]
  | cons t l ih =>
    obtain ⟨s, c⟩ := t
    cases c with
    | zero => cases s <;> simp only [kv, kc, dn, sg, zO, Int.pow_zero, if_true, ih] <;> omega
    | succ c =>
      have e : K ^ (c + 1) = K * K ^ c := by rw [Int.pow_succ, Int.mul_comm]
      cases s
      · simp only [kv, kc, dn, sg, zO, ih, e, Int.mul_add, Int.mul_sub]
        rw [if_neg (by omega)]
        omega
      · simp only [kv, kc, dn, sg, ih, e, Int.mul_add]
        rw [if_neg (by omega)]
        omega
theorem kc_dn (j : Nat) (l : List (Bool × Nat)) : kc (j + 1) l = kc j (dn l) := by
  induction l with
  | nil => rfl
  | cons t l ih =>
    obtain ⟨s, c⟩ := t
    cases c with
    | zero => simp only [kc, dn, ih]; rw [if_neg (by omega)]; omega
    | succ c => simp only [kc, dn, ih, Nat.add_right_cancel_iff]
theorem dn_len (l : List (Bool × Nat)) : (dn l).length ≤ l.length := by
  induction l with
  | nil => exact Nat.le_refl _
  | cons t l ih =>
    obtain ⟨s, c⟩ := t
    cases c <;> simp only [dn, List.length_cons] <;> omega
theorem kc_len (j : Nat) (l : List (Bool × Nat)) : -(l.length : Int) ≤ kc j l ∧ kc j l ≤ l.length := by
  induction l with
  | nil => exact ⟨Int.le_refl _, Int.le_refl _⟩
  | cons t l ih =>
    obtain ⟨s, c⟩ := t
    simp only [kc, List.length_cons]
    by_cases h : c = j
    · rw [if_pos h]; cases s <;> simp only [sg, zO] <;> omega
    · rw [if_neg h]; omega
theorem dn_mem {l : List (Bool × Nat)} {n : Nat} (h : ∀ t, t ∈ l → t.2 < n + 1) : ∀ t, t ∈ dn l → t.2 < n := by
  induction l with
  | nil => intro t ht; cases ht
  | cons u l ih =>
    obtain ⟨s, c⟩ := u
    have h0 := h (s, c) (List.mem_cons_self ..)
    have hl := ih fun t ht => h t (List.mem_cons_of_mem _ ht)
    cases c with
    | zero => exact hl
    | succ c =>
      intro t ht
      rcases List.mem_cons.1 ht with rfl | ht
      · simp only at h0 ⊢; omega
      · exact hl t ht
theorem kron (K : Nat) : ∀ (n : Nat) (l : List (Bool × Nat)), (∀ t, t ∈ l → t.2 < n) → l.length < K → kv K l = 0 → ∀ j, kc j l = 0 := by
  intro n
  induction n with
  | zero =>
    intro l hl _ _ j
    cases l with
    | nil => rfl
    | cons t l => exact absurd (hl t (List.mem_cons_self ..)) (by omega)
  | succ n ih =>
    intro l hl hK h0 j
    rw [kv_dn] at h0
    have hb := kc_len 0 l
    have hz : kc 0 l = 0 := by
      have hd : (K : Int) ∣ kc 0 l := ⟨-(kv K (dn l)), by rw [Int.mul_neg]; omega⟩
      apply Classical.byContradiction
      intro hne
      have h1 : K ∣ (kc 0 l).natAbs := Int.natAbs_dvd_natAbs.2 hd
      have := Nat.le_of_dvd (by omega) h1
      omega
    have hd0 : kv K (dn l) = 0 := by
      rw [hz, Int.zero_add] at h0
      rcases Int.mul_eq_zero.1 h0 with h | h
      · omega
      · exact h
    have := dn_len l
    have hr := ih (dn l) (dn_mem hl) (by omega) hd0
    cases j with
    | zero => exact hz
    | succ j => rw [kc_dn]; exact hr j
theorem kc_sign (j : Nat) (s : Bool) (l : List (Bool × Nat)) (h : ∀ t, t ∈ l → t.2 = j → t.1 = s) : 0 ≤ sg zO s (kc j l) := by
  induction l with
  | nil => cases s <;> exact Int.le_refl _
  | cons t l ih =>
    have ih := ih fun t ht => h t (List.mem_cons_of_mem _ ht)
    simp only [kc]
    by_cases hj : t.2 = j
    · rw [if_pos hj, h t (List.mem_cons_self ..) hj]
      cases s <;> simp only [sg, zO] at ih ⊢ <;> omega
    · rw [if_neg hj, Int.zero_add]; exact ih
theorem kc_app (j : Nat) (p q : List (Bool × Nat)) : kc j (p ++ q) = kc j p + kc j q := by
  induction p with
  | nil => simp [kc]
  | cons t p ih => simp only [List.cons_append, kc, ih]; omega
section
variable {α : Type} {O : Op α} (L : CR O)
include L
/-- What is told as often as it is taken off. -/
theorem pair_off (n : Nat) (ρ : Nat → α) (cd : Mon → Nat) : ∀ (k : Nat) (l : Pl), l.length ≤ k → (∀ t u, t ∈ l → u ∈ l → cd t.2 = cd u.2 → mv O ρ t.2 n = mv O ρ u.2 n) →
    (∀ j, kc j (l.map fun t => (t.1, cd t.2)) = 0) → pv O n ρ l = O.zero := by
  intro k
  induction k with
  | zero =>
    intro l hl _ _
    cases l with
    | nil => rfl
    | cons t l => exact absurd hl (by simp)
  | succ k ih =>
    intro l hl hv hz
    cases l with
    | nil => rfl
    | cons t l =>
      have h0 := hz (cd t.2)
      have hex : ∃ u, u ∈ l ∧ cd u.2 = cd t.2 ∧ u.1 = !t.1 := by
        apply Classical.byContradiction
        intro hno
        have hs := kc_sign (cd t.2) t.1 (l.map fun t => (t.1, cd t.2)) (by
          intro u hu hc
          obtain ⟨w, hw, rfl⟩ := List.mem_map.1 hu
          apply Classical.byContradiction
          intro hne
          exact hno ⟨w, hw, hc, by cases h1 : w.1 <;> cases h2 : t.1 <;> simp_all⟩)
        simp only [List.map_cons, kc, if_true] at h0
        revert hs h0
        cases t.1 <;> simp only [sg, zO] <;> omega
      obtain ⟨u, hu, hc, hs⟩ := hex
      obtain ⟨p, q, rfl⟩ := List.append_of_mem hu
      have hr := ih (p ++ q) (by simp only [List.length_cons, List.length_append] at hl ⊢; omega)
        (fun a b ha hb => hv a b (by simp only [List.mem_cons, List.mem_append] at ha ⊢; rcases ha with h | h <;> simp [h]) (by simp only [List.mem_cons, List.mem_append] at hb ⊢; rcases hb with h | h <;> simp [h]))
        (fun j => by
          have := hz j
          simp only [List.map_cons, List.map_append, kc, kc_app] at this ⊢
          rw [hc, hs] at this
          by_cases hj : cd t.2 = j
          · rw [if_pos hj, if_pos hj] at this
            revert this
            cases t.1 <;> simp only [sg, zO, Bool.not_true, Bool.not_false] <;> omega
          · rw [if_neg hj, if_neg hj] at this
            omega)
      have hval := hv t u (List.mem_cons_self ..) (by simp) hc.symm
      simp only [pv, pv_app L] at hr ⊢
      rw [hs, sg_not L, ← hval]
      generalize sg O t.1 (mv O ρ t.2 n) = x
      generalize pv O n ρ p = y at *
      generalize pv O n ρ q = z at *
      have e : O.add x (O.add y (O.add (O.sub O.zero x) z)) = O.add (O.add (O.sub O.zero x) x) (O.add y z) := by
        rw [← L.add_assoc x y, L.add4, L.add_comm x]
      rw [e, L.sub_add, L.zero_add, hr]
end
end Gp
end
section
set_option linter.unusedVariables false
set_option linter.unusedSimpArgs false
set_option linter.unusedSectionVars false
namespace Gp
def strd (δ : Nat → Nat) : Nat → Nat
  | 0 => 1
  | i + 1 => strd δ i * (δ i + 1)
def code (s : Nat → Nat) (m : Mon) : Nat → Nat
  | 0 => 0
  | n + 1 => code s m n + s n * m n
theorem code_lt (δ : Nat → Nat) (m : Mon) : ∀ n, (∀ i, i < n → m i ≤ δ i) → code (strd δ) m n < strd δ n := by
  intro n
  induction n with
  | zero => intro _; exact Nat.zero_lt_one
  | succ n ih =>
    intro h
    have h1 := ih fun i hi => h i (by omega)
    have h2 : strd δ n * m n ≤ strd δ n * δ n := Nat.mul_le_mul_left _ (h n (by omega))
    simp only [code, strd, Nat.mul_add, Nat.mul_one]
    omega
theorem code_inj (δ : Nat → Nat) (m m' : Mon) : ∀ n, (∀ i, i < n → m i ≤ δ i) → (∀ i, i < n → m' i ≤ δ i) → code (strd δ) m n = code (strd δ) m' n → ∀ i, i < n → m i = m' i := by
  intro n
  induction n with
  | zero => intro _ _ _ i hi; omega
  | succ n ih =>
    intro h h' hc i hi
    have b1 := code_lt δ m n fun i hi => h i (by omega)
    have b2 := code_lt δ m' n fun i hi => h' i (by omega)
    simp only [code] at hc
    have e1 : m n = m' n := by
      have this : (code (strd δ) m n + strd δ n * m n) / strd δ n = (code (strd δ) m' n + strd δ n * m' n) / strd δ n := by rw [hc]
      rwa [Nat.add_mul_div_left _ _ (by omega), Nat.add_mul_div_left _ _ (by omega), Nat.div_eq_of_lt b1, Nat.div_eq_of_lt b2, Nat.zero_add, Nat.zero_add] at this
    rw [e1] at hc
    by_cases hin : i = n
    · rw [hin]; exact e1
    · exact ih (fun i hi => h i (by omega)) (fun i hi => h' i (by omega)) (by omega) i (by omega)
theorem pw_z (r : Int) (n : Nat) : pw zO r n = r ^ n := by
  induction n with
  | zero => exact (Int.pow_zero r).symm
  | succ n ih => rw [pw, ih, Int.pow_succ, Int.mul_comm]; rfl
theorem mv_code (K : Int) (s : Nat → Nat) (m : Mon) (n : Nat) : mv zO (fun i => K ^ s i) m n = K ^ code s m n := by
  induction n with
  | zero => exact (Int.pow_zero K).symm
  | succ n ih =>
    rw [mv, ih, pw_z, code, Int.pow_add, Int.pow_mul]
    rfl
theorem mv_congr {α : Type} (O : Op α) (ρ : Nat → α) (m m' : Mon) : ∀ n, (∀ i, i < n → m i = m' i) → mv O ρ m n = mv O ρ m' n := by
  intro n
  induction n with
  | zero => intro _; rfl
  | succ n ih => intro h; rw [mv, mv, ih (fun i hi => h i (by omega)), h n (by omega)]
theorem pv_kv (K : Int) (s : Nat → Nat) (n : Nat) (p : Pl) : kv K (p.map fun t => (t.1, code s t.2 n)) = pv zO n (fun i => K ^ s i) p := by
  induction p with
  | nil => rfl
  | cons t p ih => simp only [List.map_cons, kv, pv, ih, mv_code]; rfl
theorem kill {α : Type} {O : Op α} (L : CR O) (n : Nat) (δ : Nat → Nat) (K : Nat) (p : Pl) (hδ : ∀ t, t ∈ p → ∀ i, i < n → t.2 i ≤ δ i) (hK : p.length < K) (h0 : pv zO n (fun i => (K : Int) ^ strd δ i) p = 0) (ρ : Nat → α) :
    pv O n ρ p = O.zero := by
  refine pair_off L n ρ (fun m => code (strd δ) m n) p.length p (Nat.le_refl _) (fun t u ht hu hc => mv_congr O ρ _ _ n (code_inj δ _ _ n (hδ t ht) (hδ u hu) hc)) ?_
  rw [← pv_kv] at h0
  exact kron K (strd δ n) _ (fun t ht => by obtain ⟨u, hu, rfl⟩ := List.mem_map.1 ht; exact code_lt δ _ n (hδ u hu)) (by rw [List.length_map]; exact hK) h0

def cE (i : Nat) : E := .a (.m (.m (.v i) (.v i)) (.v i)) (.v 3)
section
variable {α : Type} (O : Op α) (x : Nat → α)
abbrev Q1 := quad O ((cE 0).ev O x)
abbrev Q2 := quad (Q1 O x) ((cE 1).ev O x, O.zero)
abbrev Q3 := quad (Q2 O x) (((cE 2).ev O x, O.zero), (O.zero, O.zero))
def gen (i : Nat) : ((α × α) × (α × α)) × ((α × α) × (α × α)) :=
  if i < 12 then (((x i, O.zero), (O.zero, O.zero)), ((O.zero, O.zero), (O.zero, O.zero)))
  else if i = 12 then (((O.zero, O.one), (O.zero, O.zero)), ((O.zero, O.zero), (O.zero, O.zero)))
  else if i = 13 then (((O.zero, O.zero), (O.one, O.zero)), ((O.zero, O.zero), (O.zero, O.zero)))
  else if i = 14 then (((O.zero, O.zero), (O.zero, O.zero)), ((O.one, O.zero), (O.zero, O.zero)))
  else (((O.zero, O.zero), (O.zero, O.zero)), ((O.zero, O.zero), (O.zero, O.zero)))
end
def wt (i j : Nat) : Int := if j < 12 then (if j = i then 2 else 0) else if j < 15 then (if j = 12 + i then 3 else if i = 3 then 1 else 0) else 0
def nw (j : Nat) : Nat := if j < 12 then 1 else if j < 15 then 2 else 0
def Dg (i : Nat) (p : Pl) (d : Int) : Prop := ∀ t, t ∈ p → 2 * (t.2 i : Int) ≤ d
theorem ngP_mem {t : Bool × Mon} {p : Pl} (h : t ∈ ngP p) : ∃ u, u ∈ p ∧ t.2 = u.2 := by
  induction p with
  | nil => cases h
  | cons u p ih =>
    rcases List.mem_cons.1 h with rfl | h
    · exact ⟨u, List.mem_cons_self .., rfl⟩
    · obtain ⟨w, hw, e⟩ := ih h; exact ⟨w, List.mem_cons_of_mem _ hw, e⟩
theorem mulT_mem {t u : Bool × Mon} {p : Pl} (h : t ∈ mulT u p) : ∃ w, w ∈ p ∧ t.2 = fun i => u.2 i + w.2 i := by
  induction p with
  | nil => cases h
  | cons w p ih =>
    rcases List.mem_cons.1 h with rfl | h
    · exact ⟨w, List.mem_cons_self .., rfl⟩
    · obtain ⟨w, hw, e⟩ := ih h; exact ⟨w, List.mem_cons_of_mem _ hw, e⟩
theorem mulP_mem {t : Bool × Mon} {p q : Pl} (h : t ∈ mulP p q) : ∃ u w, u ∈ p ∧ w ∈ q ∧ t.2 = fun i => u.2 i + w.2 i := by
  induction p with
  | nil => cases h
  | cons u p ih =>
    rcases List.mem_append.1 h with h | h
    · obtain ⟨w, hw, e⟩ := mulT_mem h; exact ⟨u, w, List.mem_cons_self .., hw, e⟩
    · obtain ⟨a, w, ha, hw, e⟩ := ih h; exact ⟨a, w, List.mem_cons_of_mem _ ha, hw, e⟩
theorem Dg.gr (i : Nat) : Gr PO (Dg i) where
  add a b d ha hb t ht := by
    rcases List.mem_append.1 ht with h | h
    · exact ha t h
    · exact hb t h
  sub a b d ha hb t ht := by
    rcases List.mem_append.1 ht with h | h
    · exact ha t h
    · obtain ⟨u, hu, e⟩ := ngP_mem h; rw [e]; exact hb u hu
  mul a b d e ha hb t ht := by
    obtain ⟨u, w, hu, hw, e⟩ := mulP_mem ht
    have := ha u hu
    have := hb w hw
    rw [e]
    simp only
    omega
  zero d t ht := by cases ht
  one t ht := by
    rcases List.mem_cons.1 ht with rfl | h
    · simp
    · cases h
  mono a d e ha hd t ht := Int.le_trans (ha t ht) hd
theorem Dg.vr (i j : Nat) : Dg i (vr j) (if j = i then 2 else 0) := by
  intro t ht
  rcases List.mem_cons.1 ht with rfl | h
  · simp only
    by_cases h : j = i
    · rw [if_pos h, if_pos h.symm]; decide
    · rw [if_neg h, if_neg (fun e => h e.symm)]; decide
  · cases h
theorem Nm.len : Nm PO List.length where
  add a b := by show (a ++ b).length ≤ _; rw [List.length_append]; exact Nat.le_refl _
  sub a b := by
    show (a ++ ngP b).length ≤ _
    have : (ngP b).length = b.length := by induction b with | nil => rfl | cons t b ih => simp only [ngP, List.length_cons, ih]
    rw [List.length_append, this]
    exact Nat.le_refl _
  mul a b := by
    show (mulP a b).length ≤ _
    have h1 : ∀ (t : Bool × Mon) (q : Pl), (mulT t q).length = q.length := by intro t q; induction q with | nil => rfl | cons u q ih => simp only [mulT, List.length_cons, ih]
    have : (mulP a b).length = a.length * b.length := by
      induction a with
      | nil => simp [mulP]
      | cons t a ih => simp only [mulP, List.length_append, h1, ih, List.length_cons, Nat.add_mul]; omega
    rw [this]
    exact Nat.le_refl _
  zero := rfl
  one := Nat.le_refl _
theorem Dg.f (i j : Nat) (hj : j < 3) : Dg i ((cE j).ev PO Gp.vr) (2 * wt i (12 + j)) := by
  have h := (Dg.gr i).ev (Dg.vr i) (cE j)
  refine (Dg.gr i).mono _ _ _ h ?_
  simp only [cE, E.dg, wt]
  rw [if_neg (show ¬ 12 + j < 12 by omega), if_pos (show 12 + j < 15 by omega)]
  refine Int.max_le.2 ⟨?_, ?_⟩
  all_goals repeat' split
  all_goals omega
def zr8 {α : Type} (z : α) : ((α × α) × (α × α)) × ((α × α) × (α × α)) := (((z, z), (z, z)), ((z, z), (z, z)))
def kg (δ : Nat → Nat) (K : Nat) (i : Nat) : Int := (K : Int) ^ strd δ i

/-- What falls off in whole numbers falls off everywhere. -/
theorem vanish {α : Type} {O : Op α} (L : CR O) (e : E) (δ : Nat → Nat) (K : Nat) (hd : ∀ i, i < 12 → e.dg (wt i) ≤ 2 * (δ i : Int) + 1) (hn : e.nm nw < K)
    (hz : e.ev (Q3 zO (kg δ K)) (gen zO (kg δ K)) = zr8 0) (l : List α) (hl : l.length ≤ 15)
    (h1 : O.mul (l.getD 12 O.zero) (l.getD 12 O.zero) = (cE 0).ev O (fun i => l.getD i O.zero)) (h2 : O.mul (l.getD 13 O.zero) (l.getD 13 O.zero) = (cE 1).ev O (fun i => l.getD i O.zero))
    (h3 : O.mul (l.getD 14 O.zero) (l.getD 14 O.zero) = (cE 2).ev O (fun i => l.getD i O.zero)) : e.ev O (fun i => l.getD i O.zero) = O.zero := by
  obtain ⟨ρ, hρ⟩ : ∃ ρ : Nat → α, ρ = fun i => l.getD i O.zero := ⟨_, rfl⟩
  rw [← hρ]
  rw [← hρ] at h1 h2 h3
  have q1 : l.getD 12 O.zero = ρ 12 := by rw [hρ]
  have q2 : l.getD 13 O.zero = ρ 13 := by rw [hρ]
  have q3 : l.getD 14 O.zero = ρ 14 := by rw [hρ]
  have q4 : ∀ i, 15 ≤ i → ρ i = O.zero := fun i hi => by
    rw [hρ]
    show l.getD i O.zero = _
    rw [List.getD_eq_getElem?_getD, List.getElem?_eq_none (by omega)]; rfl
  rw [q1] at h1
  rw [q2] at h2
  rw [q3] at h3
  clear q1 q2 q3 hρ hl
  -- into the ring
  have c0 := pv_hom L 12 ρ
  have fv : ∀ j, j < 3 → pv O 12 ρ ((cE j).ev PO vr) = (cE j).ev O ρ := fun j hj => by
    rw [c0.ev]
    simp only [cE, E.ev, pv_vr L 12 ρ j (by omega), pv_vr L 12 ρ 3 (by omega)]
  have c1 := c0.quad L ((cE 0).ev PO vr) (ρ 12) (by rw [fv 0 (by omega)]; exact h1)
  have c2 := c1.quad L ((cE 1).ev PO vr, PO.zero) (ρ 13) (by
    show _ = O.add _ (O.mul _ O.zero)
    rw [L.mul_zero, L.add_zero, fv 1 (by omega)]; exact h2)
  have c3 := c2.quad L (((cE 2).ev PO vr, PO.zero), (PO.zero, PO.zero)) (ρ 14) (by
    show _ = O.add (O.add _ (O.mul _ O.zero)) (O.mul _ (O.add O.zero (O.mul _ O.zero)))
    simp only [L.mul_zero, L.add_zero]
    rw [fv 2 (by omega)]; exact h3)
  -- into the whole numbers
  have k0 := pv_hom zL 12 (kg δ K)
  have fz : ∀ j, j < 3 → pv zO 12 (kg δ K) ((cE j).ev PO vr) = (cE j).ev zO (kg δ K) := fun j hj => by
    rw [k0.ev]
    simp only [cE, E.ev, pv_vr zL 12 (kg δ K) j (by omega), pv_vr zL 12 (kg δ K) 3 (by omega)]
  have k1 := k0.map ((cE 0).ev PO vr)
  rw [fz 0 (by omega)] at k1
  have k2 := k1.map ((cE 1).ev PO vr, PO.zero)
  rw [fz 1 (by omega)] at k2
  have k3 := k2.map (((cE 2).ev PO vr, PO.zero), (PO.zero, PO.zero))
  rw [fz 2 (by omega)] at k3
  -- bounds
  have g3 := fun i => (((Dg.gr i).quad _ _ (Dg.f i 0 (by omega))).quad ((cE 1).ev PO vr, PO.zero) (wt i (12 + 1)) ⟨Dg.f i 1 (by omega), (Dg.gr i).zero _⟩).quad (((cE 2).ev PO vr, PO.zero), (PO.zero, PO.zero)) (wt i (12 + 2))
    ⟨⟨Dg.f i 2 (by omega), (Dg.gr i).zero _⟩, (Dg.gr i).zero _, (Dg.gr i).zero _⟩
  have n3 := ((Nm.len.quad ((cE 0).ev PO vr) (by decide)).quad ((cE 1).ev PO vr, PO.zero) (by decide)).quad (((cE 2).ev PO vr, PO.zero), (PO.zero, PO.zero)) (by decide)
  obtain ⟨X, hX⟩ : ∃ X, X = e.ev (Q3 PO vr) (gen PO vr) := ⟨_, rfl⟩
  have hv := c3.ev (gen PO vr) e
  have hk := k3.ev (gen PO vr) e
  have hg := fun i => (g3 i).ev (ρ := gen PO vr) (w := wt i) (fun j => by
    have z := (Dg.gr i).zero
    unfold gen
    split
    · refine ⟨⟨⟨?_, z _⟩, z _, z _⟩, ⟨z _, z _⟩, z _, z _⟩
      rename_i h
      unfold wt
      rw [if_pos h]
      exact Dg.vr i j
    split
    · rename_i h; subst h
      refine ⟨⟨⟨z _, ?_⟩, z _, z _⟩, ⟨z _, z _⟩, z _, z _⟩
      exact (Dg.gr i).mono _ _ _ (Dg.gr i).one (by simp)
    split
    · rename_i h; subst h
      refine ⟨⟨⟨z _, z _⟩, ?_, z _⟩, ⟨z _, z _⟩, z _, z _⟩
      exact (Dg.gr i).mono _ _ _ (Dg.gr i).one (by simp)
    split
    · rename_i h; subst h
      refine ⟨⟨⟨z _, z _⟩, z _, z _⟩, ⟨?_, z _⟩, z _, z _⟩
      exact (Dg.gr i).mono _ _ _ (Dg.gr i).one (by simp)
    · exact ⟨⟨⟨z _, z _⟩, z _, z _⟩, ⟨z _, z _⟩, z _, z _⟩) e
  have hm := n3.ev (ρ := gen PO vr) (w := nw) (fun j => by
    unfold gen nw
    split
    · exact Nat.le_refl 1
    split
    · rename_i h; subst h; decide
    split
    · rename_i h; subst h; decide
    split
    · rename_i h; subst h; decide
    · exact Nat.zero_le _) e
  have r1 : (fun i => (fun x => O.add (O.add (O.add (pv O 12 ρ x.1.1.1) (O.mul (ρ 12) (pv O 12 ρ x.1.1.2))) (O.mul (ρ 13) (O.add (pv O 12 ρ x.1.2.1) (O.mul (ρ 12) (pv O 12 ρ x.1.2.2)))))
      (O.mul (ρ 14) (O.add (O.add (pv O 12 ρ x.2.1.1) (O.mul (ρ 12) (pv O 12 ρ x.2.1.2))) (O.mul (ρ 13) (O.add (pv O 12 ρ x.2.2.1) (O.mul (ρ 12) (pv O 12 ρ x.2.2.2))))))) (gen PO vr i)) = ρ := by
    funext i
    have z : pv O 12 ρ PO.zero = O.zero := c0.zero
    have o : pv O 12 ρ PO.one = O.one := c0.one
    have mo : ∀ a, O.mul a O.one = a := fun a => by rw [L.mul_comm, L.one_mul]
    unfold gen
    split
    · rename_i h
      simp only [z, pv_vr L 12 ρ i h, L.mul_zero, L.add_zero]
    split
    · rename_i h; subst h
      simp only [z, o, mo, L.mul_zero, L.add_zero, L.zero_add]
    split
    · rename_i h; subst h
      simp only [z, o, mo, L.mul_zero, L.add_zero, L.zero_add]
    split
    · rename_i h; subst h
      simp only [z, o, mo, L.mul_zero, L.add_zero, L.zero_add]
    · rw [q4 i (by omega)]
      simp only [z, L.mul_zero, L.add_zero]
  have r2 : (fun i => (fun x : ((Pl × Pl) × (Pl × Pl)) × ((Pl × Pl) × (Pl × Pl)) => (((pv zO 12 (kg δ K) x.1.1.1, pv zO 12 (kg δ K) x.1.1.2), (pv zO 12 (kg δ K) x.1.2.1, pv zO 12 (kg δ K) x.1.2.2)),
      ((pv zO 12 (kg δ K) x.2.1.1, pv zO 12 (kg δ K) x.2.1.2), (pv zO 12 (kg δ K) x.2.2.1, pv zO 12 (kg δ K) x.2.2.2)))) (gen PO vr i)) = gen zO (kg δ K) := by
    funext i
    have z : pv zO 12 (kg δ K) PO.zero = zO.zero := k0.zero
    have o : pv zO 12 (kg δ K) PO.one = zO.one := k0.one
    unfold gen
    split
    · rename_i h
      simp only [z, pv_vr zL 12 (kg δ K) i h]
    split
    · simp only [z, o]
    split
    · simp only [z, o]
    split
    · simp only [z, o]
    · simp only [z]
  replace hv := hv.trans (congrArg (fun r => e.ev O r) r1)
  replace hk := hk.trans ((congrArg (fun r => e.ev (Q3 zO (kg δ K)) r) r2).trans hz)
  rw [← hv]
  change (((pv zO 12 (kg δ K) (e.ev (Q3 PO vr) (gen PO vr)).1.1.1, _), (_, _)), ((_, _), (_, _))) = _ at hk
  rw [← hX] at hk hm hg ⊢
  simp only [zr8, Prod.mk.injEq] at hk
  obtain ⟨⟨⟨a1, a2⟩, a3, a4⟩, ⟨a5, a6⟩, a7, a8⟩ := hk
  have wp : ∀ i j, 0 ≤ wt i j := fun i j => by unfold wt; repeat' split
                                               all_goals decide
  have fin : ∀ p : Pl, p.length < K → (∀ i, i < 12 → Dg i p (e.dg (wt i))) → pv zO 12 (kg δ K) p = 0 → pv O 12 ρ p = O.zero := by
    intro p hp hb h0
    refine kill L 12 δ K p (fun t ht i hi => ?_) hp h0 ρ
    have := hb i hi t ht
    have := hd i hi
    omega
  have up : ∀ i (p : Pl) d w, 0 ≤ w → Dg i p (d - w) → Dg i p d := fun i p d w hw h => (Dg.gr i).mono _ _ _ h (by omega)
  have b1 := fin X.1.1.1 (by omega) (fun i _ => (hg i).1.1.1) a1
  have b2 := fin X.1.1.2 (by omega) (fun i _ => up _ _ _ _ (wp _ _) (hg i).1.1.2) a2
  have b3 := fin X.1.2.1 (by omega) (fun i _ => up _ _ _ _ (wp _ _) (hg i).1.2.1) a3
  have b4 := fin X.1.2.2 (by omega) (fun i _ => up _ _ _ _ (wp _ _) (up _ _ _ _ (wp _ _) (hg i).1.2.2)) a4
  have b5 := fin X.2.1.1 (by omega) (fun i _ => up _ _ _ _ (wp _ _) (hg i).2.1.1) a5
  have b6 := fin X.2.1.2 (by omega) (fun i _ => up _ _ _ _ (wp _ _) (up _ _ _ _ (wp _ _) (hg i).2.1.2)) a6
  have b7 := fin X.2.2.1 (by omega) (fun i _ => up _ _ _ _ (wp _ _) (up _ _ _ _ (wp _ _) (hg i).2.2.1)) a7
  have b8 := fin X.2.2.2 (by omega) (fun i _ => up _ _ _ _ (wp _ _) (up _ _ _ _ (wp _ _) (up _ _ _ _ (wp _ _) (hg i).2.2.2))) a8
  simp only [b1, b2, b3, b4, b5, b6, b7, b8, L.mul_zero, L.add_zero]
end Gp
end
section
set_option linter.unusedVariables false
set_option linter.unusedSimpArgs false
set_option linter.unusedSectionVars false
namespace Gp
def E.dl (e : E) (i : Nat) : Nat := (e.dg (wt i)).toNat / 2
def E.kk (e : E) : Nat := e.nm nw + 1
/-- Whether an expression falls off on curves. -/
def E.chk (e : E) : Bool := decide (e.ev (Q3 zO (kg e.dl e.kk)) (gen zO (kg e.dl e.kk)) = zr8 0)
def vals {α : Type} (O : Op α) (x1 y1 x2 y2 x3 y3 b : α) (i : Nat) : α := [x1, x2, x3, b, O.zero, O.zero, O.zero, O.zero, O.zero, O.zero, O.zero, O.zero, y1, y2, y3].getD i O.zero
def val0 {α : Type} (O : Op α) (a0 a1 a2 a3 a4 a5 a6 a7 : α) (i : Nat) : α := [O.zero, O.zero, O.zero, O.zero, a0, a1, a2, a3, a4, a5, a6, a7].getD i O.zero
section
variable {α : Type} {O : Op α} (L : CR O)
include L
theorem van {e : E} (h : e.chk = true) {x1 y1 x2 y2 x3 y3 b : α} (h1 : O.mul y1 y1 = O.add (O.mul (O.mul x1 x1) x1) b) (h2 : O.mul y2 y2 = O.add (O.mul (O.mul x2 x2) x2) b) (h3 : O.mul y3 y3 = O.add (O.mul (O.mul x3 x3) x3) b) :
    e.ev O (vals O x1 y1 x2 y2 x3 y3 b) = O.zero :=
  vanish L e e.dl e.kk (fun i _ => by unfold E.dl; omega) (Nat.lt_succ_self _) (of_decide_eq_true h) [x1, x2, x3, b, O.zero, O.zero, O.zero, O.zero, O.zero, O.zero, O.zero, O.zero, y1, y2, y3] (Nat.le_refl 15) h1 h2 h3
theorem van0 {e : E} (h : e.chk = true) (a0 a1 a2 a3 a4 a5 a6 a7 : α) : e.ev O (val0 O a0 a1 a2 a3 a4 a5 a6 a7) = O.zero := by
  have h0 : O.mul O.zero O.zero = O.add (O.mul (O.mul O.zero O.zero) O.zero) O.zero := by simp only [L.mul_zero, L.zero_add]
  exact vanish L e e.dl e.kk (fun i _ => by unfold E.dl; omega) (Nat.lt_succ_self _) (of_decide_eq_true h) [O.zero, O.zero, O.zero, O.zero, a0, a1, a2, a3, a4, a5, a6, a7] (show 12 ≤ 15 by decide) h0 h0 h0
end
/-- Complete sums (Renes, Costello, Batina) on y^2 = x^3 + b. -/
structure T3 (α : Type) where
  x : α
  y : α
  z : α
section
variable {α : Type} (O : Op α)
def thr (b : α) : α := O.add (O.add b b) b
def rc (b : α) (p q : T3 α) : T3 α :=
  let b3 := thr O b
  let xy := O.add (O.mul p.x q.y) (O.mul q.x p.y)
  let yz := O.add (O.mul p.y q.z) (O.mul q.y p.z)
  let xz := O.add (O.mul p.x q.z) (O.mul q.x p.z)
  let yy := O.mul p.y q.y
  let zz := O.mul b3 (O.mul p.z q.z)
  let xx := O.mul p.x q.x
  ⟨O.sub (O.mul xy (O.sub yy zz)) (O.mul b3 (O.mul yz xz)), O.add (O.mul (O.add yy zz) (O.sub yy zz)) (O.mul (thr O b3) (O.mul xx xz)), O.add (O.mul yz (O.add yy zz)) (O.mul (thr O xx) xy)⟩
end
def eO : Op E := ⟨.a, .s, .m, .s .o .o, .o⟩
abbrev x1 := E.v 0
abbrev x2 := E.v 1
abbrev x3 := E.v 2
abbrev bb := E.v 3
abbrev y1 := E.v 12
abbrev y2 := E.v 13
abbrev y3 := E.v 14
def eA : T3 E := rc eO bb (rc eO bb ⟨x1, y1, .o⟩ ⟨x2, y2, .o⟩) ⟨x3, y3, .o⟩
def eB : T3 E := rc eO bb ⟨x1, y1, .o⟩ (rc eO bb ⟨x2, y2, .o⟩ ⟨x3, y3, .o⟩)
set_option maxRecDepth 100000
theorem chk_xz : (E.s (.m eA.x eB.z) (.m eB.x eA.z)).chk = true := by decide +kernel
theorem chk_yz : (E.s (.m eA.y eB.z) (.m eB.y eA.z)).chk = true := by decide +kernel
/-- Chords, times d d and d d d. -/
def nn (y1 y2 : E) : E := .s y2 y1
def dd : E := .s x2 x1
def eU (y1 y2 : E) : E := .s (.m (nn y1 y2) (nn y1 y2)) (.m (.a x1 x2) (.m dd dd))
def eV (y1 y2 : E) : E := .s (.m (nn y1 y2) (.s (.m x1 (.m dd dd)) (eU y1 y2))) (.m y1 (.m dd (.m dd dd)))
def eS : T3 E := rc eO bb ⟨x1, y1, .o⟩ ⟨x2, y2, .o⟩
def neg (e : E) : E := .s (.s .o .o) e
theorem chk_c1 : (E.s (.m eS.x (.m dd dd)) (.m eS.z (eU y1 y2))).chk = true := by decide +kernel
theorem chk_c2 : (E.s (.m eS.y (.m dd (.m dd dd))) (.m eS.z (eV y1 y2))).chk = true := by decide +kernel
theorem chk_c3 : (E.s eS.z (eV y1 (neg y2))).chk = true := by decide +kernel
theorem chk_c4 : (E.s (.m (eV y1 y2) (eV y1 y2)) (.a (.m (.m (eU y1 y2) (eU y1 y2)) (eU y1 y2)) (.m bb (.m (.m dd (.m dd dd)) (.m dd (.m dd dd)))))).chk = true := by decide +kernel
/-- Tangents. -/
def tt : E := .a y1 y1
def ee : E := .a (.a (.m x1 x1) (.m x1 x1)) (.m x1 x1)
def eU2 : E := .s (.m ee ee) (.m (.a x1 x1) (.m tt tt))
def eV2 : E := .s (.m ee (.s (.m x1 (.m tt tt)) eU2)) (.m y1 (.m tt (.m tt tt)))
def eD : T3 E := rc eO bb ⟨x1, y1, .o⟩ ⟨x1, y1, .o⟩
def eN : T3 E := rc eO bb ⟨x1, y1, .o⟩ ⟨x1, neg y1, .o⟩
theorem chk_t1 : (E.s (.m eD.x (.m tt tt)) (.m eD.z eU2)).chk = true := by decide +kernel
theorem chk_t2 : (E.s (.m eD.y (.m tt (.m tt tt))) (.m eD.z eV2)).chk = true := by decide +kernel
theorem chk_t3 : (E.s eD.z (.m tt (.m tt tt))).chk = true := by decide +kernel
theorem chk_t4 : (E.s (.m eV2 eV2) (.a (.m (.m eU2 eU2) eU2) (.m bb (.m (.m tt (.m tt tt)) (.m tt (.m tt tt)))))).chk = true := by decide +kernel
theorem chk_n1 : eN.x.chk = true := by decide +kernel
theorem chk_n2 : eN.z.chk = true := by decide +kernel
theorem chk_n3 : (E.s eN.y eV2).chk = true := by decide +kernel
end Gp
end
section
set_option linter.unusedSectionVars false
set_option linter.unusedSimpArgs false
set_option linter.unusedVariables false
namespace Cv
/-- A field's operations. -/
structure Ops (α : Type) where
  add : α → α → α
  sub : α → α → α
  mul : α → α → α
  inv : α → α
  zero : α
  one : α
structure Laws {α : Type} (O : Ops α) : Prop where
  mul_one : ∀ a, O.mul a O.one = a
  one_mul : ∀ a, O.mul O.one a = a
  mul_zero : ∀ a, O.mul a O.zero = O.zero
  zero_mul : ∀ a, O.mul O.zero a = O.zero
  add_zero : O.add O.zero O.zero = O.zero
  assoc : ∀ a b c, O.mul (O.mul a b) c = O.mul a (O.mul b c)
  sub_zero : ∀ a b, O.sub a b = O.zero ↔ a = b
  ne : O.one ≠ O.zero
structure Jac (α : Type) where
  x : α
  y : α
  z : α
variable {α : Type} [DecidableEq α] (O : Ops α)
/-- The program's double. -/
def dbl (p : Jac α) : Jac α :=
  let a := O.mul p.x p.x
  let b := O.mul p.y p.y
  let s := O.mul p.x b
  let s := O.add s s
  let s := O.add s s
  let e := O.add (O.add a a) a
  let c := O.mul b b
  let c := O.add c c
  let c := O.add c c
  let c := O.add c c
  let x := O.sub (O.mul e e) (O.add s s)
  let z := O.mul p.y p.z
  ⟨x, O.sub (O.mul e (O.sub s x)) c, O.add z z⟩
def inf : Jac α := ⟨O.zero, O.zero, O.zero⟩
/-- The program's sum. -/
def plus (p q : Jac α) : Jac α :=
  if p.z = O.zero then q else if q.z = O.zero then p else
  let pz := O.mul p.z p.z
  let qz := O.mul q.z q.z
  let u := O.mul p.x qz
  let v := O.mul q.x pz
  let s := O.mul (O.mul p.y qz) q.z
  let t := O.mul (O.mul q.y pz) p.z
  if u = v then (if s = t then dbl O p else inf O) else
  let h := O.sub v u
  let r := O.sub t s
  let hh := O.mul h h
  let hhh := O.mul hh h
  let w := O.mul u hh
  let x := O.sub (O.sub (O.mul r r) hhh) (O.add w w)
  ⟨x, O.sub (O.mul r (O.sub w x)) (O.mul s hhh), O.mul (O.mul p.z q.z) h⟩
/-- The reference's double and sum. -/
def dblR (p : Jac α) : Jac α := if p.z = O.zero ∨ p.y = O.zero then ⟨p.x, p.y, O.zero⟩ else dbl O p
def plusR (p : Jac α) (qx qy : α) : Jac α :=
  if p.z = O.zero then ⟨qx, qy, O.one⟩ else
  let zz := O.mul p.z p.z
  let h := O.sub (O.mul qx zz) p.x
  let r := O.sub (O.mul qy (O.mul zz p.z)) p.y
  if h = O.zero then (if r = O.zero then dblR O p else ⟨p.x, p.y, O.zero⟩) else
  let hh := O.mul h h
  let hhh := O.mul hh h
  let v := O.mul p.x hh
  let x := O.sub (O.sub (O.mul r r) hhh) (O.add v v)
  ⟨x, O.sub (O.mul r (O.sub v x)) (O.mul p.y hhh), O.mul p.z h⟩
/-- Multiples, bit by bit from the highest of n. -/
def tm (p : Jac α) (k n : Nat) : Nat → Jac α
  | 0 => inf O
  | i + 1 => if k / 2 ^ (n - 1 - i) % 2 = 1 then plus O (dbl O (tm p k n i)) p else dbl O (tm p k n i)
def stepR (z : Jac α) : Jac α := if z.z = O.zero then z else dblR O z
def tr (x y : α) (k n : Nat) : Nat → Jac α
  | 0 => ⟨x, y, O.zero⟩
  | i + 1 => if k / 2 ^ (n - 1 - i) % 2 = 1 then plusR O (stepR O (tr x y k n i)) x y else stepR O (tr x y k n i)
def alike (p q : Jac α) : Prop := (p.z = O.zero ∧ q.z = O.zero) ∨ (p = q ∧ q.z ≠ O.zero)
variable {O}
theorem dbl_inf (L : Laws O) {p : Jac α} (h : p.z = O.zero ∨ p.y = O.zero) : (dbl O p).z = O.zero := by
  show O.add (O.mul p.y p.z) (O.mul p.y p.z) = O.zero
  rcases h with h | h
  · rw [h, L.mul_zero, L.add_zero]
  · rw [h, L.zero_mul, L.add_zero]
end Cv
namespace Cv
variable {α : Type} [DecidableEq α] (O : Ops α)
/-- Points: none at infinity. -/
abbrev Pt (α : Type) := Option (α × α)
def up : Pt α → Jac α
  | none => inf O
  | some (x, y) => ⟨x, y, O.one⟩
def down (p : Jac α) : Pt α := if p.z = O.zero then none else
  some (O.mul p.x (O.mul (O.inv p.z) (O.inv p.z)), O.mul (O.mul p.y (O.mul (O.inv p.z) (O.inv p.z))) (O.inv p.z))
/-- The reference's sum. -/
def slope (x1 y1 s x2 : α) : Pt α :=
  let x := O.sub (O.sub (O.mul s s) x1) x2
  some (x, O.sub (O.mul s (O.sub x1 x)) y1)
def sumR : Pt α → Pt α → Pt α
  | none, q => q
  | p, none => p
  | some (x1, y1), some (x2, y2) => if x1 = x2 then (if O.add y1 y2 = O.zero then none else
      slope O x1 y1 (O.mul (O.add (O.add (O.mul x1 x1) (O.mul x1 x1)) (O.mul x1 x1)) (O.inv (O.add y1 y1))) x2)
    else slope O x1 y1 (O.mul (O.sub y2 y1) (O.inv (O.sub x2 x1))) x2
def onC (b : α) : Pt α → Prop
  | none => True
  | some (x, y) => O.mul y y = O.add (O.mul (O.mul x x) x) b

section F1
variable {p : Nat} [NeZero p]
def ops1 (inv : Fin p → Fin p) : Ops (Fin p) := ⟨(· + ·), (· - ·), (· * ·), inv, 0, 1⟩
theorem laws1 (inv : Fin p → Fin p) (hp : (1 : Fin p) ≠ 0) : Laws (ops1 inv) where
  mul_one a := by show a * 1 = a; grind
  one_mul a := by show 1 * a = a; grind
  mul_zero a := by show a * 0 = 0; grind
  zero_mul a := by show 0 * a = 0; grind
  add_zero := by show (0 : Fin p) + 0 = 0; grind
  assoc a b c := by show a * b * c = a * (b * c); grind
  sub_zero a b := by show a - b = 0 ↔ a = b; constructor <;> intro h <;> grind
  ne := hp
theorem add1 (inv : Fin p → Fin p) (hp : (1 : Fin p) ≠ 0) (hinv : ∀ a : Fin p, a ≠ 0 → a * inv a = 1) (b : Fin p) : ∀ P Q : Pt (Fin p), onC (ops1 inv) b P → onC (ops1 inv) b Q → down (ops1 inv) (plus (ops1 inv) (up (ops1 inv) P) (up (ops1 inv) Q)) = sumR (ops1 inv) P Q := by
  have h1 : inv 1 = 1 := by have := hinv 1 hp; grind
  have dd : ∀ Q : Pt (Fin p), down (ops1 inv) (up (ops1 inv) Q) = Q := by
    rintro (_ | ⟨x, y⟩)
    · rfl
    · show (if (1 : Fin p) = 0 then none else some (x * (inv 1 * inv 1), y * (inv 1 * inv 1) * inv 1)) = _
      rw [if_neg hp, h1]
      simp only [Option.some.injEq, Prod.mk.injEq]
      constructor <;> grind
  rintro (_ | ⟨x1, y1⟩) (_ | ⟨x2, y2⟩) hP hQ
  · exact dd none
  · exact dd (some (x2, y2))
  · show down _ (if (1 : Fin p) = 0 then inf (ops1 inv) else if (0 : Fin p) = 0 then ⟨x1, y1, 1⟩ else _) = _
    rw [if_neg hp, if_pos rfl]
    exact dd (some (x1, y1))
  · have hP : y1 * y1 = x1 * x1 * x1 + b := hP
    have hQ : y2 * y2 = x2 * x2 * x2 + b := hQ
    simp only [plus, up, ops1, dbl, inf, down, sumR, slope, hp, if_false]
    by_cases hx : x1 = x2
    · subst hx
      by_cases hy : y1 = y2
      · subst hy
        by_cases hz : y1 + y1 = 0
        · have : y1 * 1 + y1 * 1 = 0 := by grind
          simp [hz, this]
        · have hz1 : ¬ y1 * 1 + y1 * 1 = 0 := by grind
          have e : y1 * 1 + y1 * 1 = y1 + y1 := by grind
          have hi := hinv (y1 + y1) hz
          simp only [hz1, hz, if_true, if_false, e, Option.some.injEq, Prod.mk.injEq, and_self]
          generalize inv (y1 + y1) = i at *
          constructor <;> grind
      · have hz : y1 + y2 = 0 := by
          apply Classical.byContradiction
          intro hz
          have h2 := hinv _ hz
          have h3 := hinv (y1 - y2) (by grind)
          generalize inv (y1 + y2) = i at *
          generalize inv (y1 - y2) = j at *
          have : (y1 + y2) * (y1 - y2) = 0 := by grind
          grind
        have h2 : ¬ y1 * (1 * 1) * 1 = y2 * (1 * 1) * 1 := by grind
        simp [hz, h2]
    · have h2 : ¬ x1 * (1 * 1) = x2 * (1 * 1) := by grind
      have hd : x2 - x1 ≠ 0 := by grind
      have e : 1 * 1 * (x2 * (1 * 1) - x1 * (1 * 1)) = x2 - x1 := by grind
      have hi := hinv _ hd
      simp only [hx, h2, hd, e, if_false, Option.some.injEq, Prod.mk.injEq]
      generalize inv (x2 - x1) = i at *
      constructor <;> grind
end F1
end Cv
namespace Cv
structure F2 (p : Nat) where
  a : Fin p
  b : Fin p
  deriving DecidableEq
section
variable {p : Nat} [NeZero p]
end
end Cv
end
