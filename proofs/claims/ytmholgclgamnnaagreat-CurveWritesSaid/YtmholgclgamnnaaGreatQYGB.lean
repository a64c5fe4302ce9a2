section
set_option linter.unusedVariables false
set_option linter.unusedSimpArgs false
set_option linter.unusedSectionVars false
namespace Gp
/-- A ring's operations. -/
structure Op (α : Type) where
  add : α → α → α
  sub : α → α → α
  mul : α → α → α
  zero : α
  one : α
structure CR {α : Type} (O : Op α) : Prop where
  add_comm : ∀ a b, O.add a b = O.add b a
  add_assoc : ∀ a b c, O.add (O.add a b) c = O.add a (O.add b c)
  zero_add : ∀ a, O.add O.zero a = a
  sub_add : ∀ a b, O.add (O.sub a b) b = a
  mul_comm : ∀ a b, O.mul a b = O.mul b a
  mul_assoc : ∀ a b c, O.mul (O.mul a b) c = O.mul a (O.mul b c)
  one_mul : ∀ a, O.mul O.one a = a
  mul_add : ∀ a b c, O.mul a (O.add b c) = O.add (O.mul a b) (O.mul a c)
/-- Expressions. -/
inductive E where
  | v (i : Nat)
  | o
  | a (x y : E)
  | s (x y : E)
  | m (x y : E)
section
variable {α : Type} (O : Op α)
def E.ev (ρ : Nat → α) : E → α
  | .v i => ρ i
  | .o => O.one
  | .a x y => O.add (x.ev ρ) (y.ev ρ)
  | .s x y => O.sub (x.ev ρ) (y.ev ρ)
  | .m x y => O.mul (x.ev ρ) (y.ev ρ)
/-- With a square root of f. -/
def quad (f : α) : Op (α × α) := ⟨fun x y => (O.add x.1 y.1, O.add x.2 y.2), fun x y => (O.sub x.1 y.1, O.sub x.2 y.2),
  fun x y => (O.add (O.mul x.1 y.1) (O.mul f (O.mul x.2 y.2)), O.add (O.mul x.1 y.2) (O.mul x.2 y.1)), (O.zero, O.zero), (O.one, O.zero)⟩
end
/-- What keeps the operations. -/
structure Hom {α β : Type} (O : Op α) (O' : Op β) (f : α → β) : Prop where
  add : ∀ a b, f (O.add a b) = O'.add (f a) (f b)
  sub : ∀ a b, f (O.sub a b) = O'.sub (f a) (f b)
  mul : ∀ a b, f (O.mul a b) = O'.mul (f a) (f b)
  zero : f O.zero = O'.zero
  one : f O.one = O'.one
theorem Hom.ev {α β : Type} {O : Op α} {O' : Op β} {f : α → β} (h : Hom O O' f) (ρ : Nat → α) (e : E) : f (e.ev O ρ) = e.ev O' (fun i => f (ρ i)) := by
  induction e with
  | v i => rfl
  | o => exact h.one
  | a x y hx hy => simp only [E.ev, h.add, hx, hy]
  | s x y hx hy => simp only [E.ev, h.sub, hx, hy]
  | m x y hx hy => simp only [E.ev, h.mul, hx, hy]
section
variable {α : Type} {O : Op α} (L : CR O)
include L
theorem CR.add_zero (a : α) : O.add a O.zero = a := by rw [L.add_comm, L.zero_add]
theorem CR.sub_self (a : α) : O.sub a a = O.zero := by
  have h := L.sub_add a a
  have h1 := L.sub_add O.zero a
  have : O.add (O.add (O.sub a a) a) (O.sub O.zero a) = O.add a (O.sub O.zero a) := by rw [h]
  rw [L.add_assoc, L.add_comm a, h1, L.add_zero] at this
  exact this
theorem CR.add_cancel {a b c : α} (h : O.add a c = O.add b c) : a = b := by
  have : O.add (O.add a c) (O.sub O.zero c) = O.add (O.add b c) (O.sub O.zero c) := by rw [h]
  rwa [L.add_assoc, L.add_assoc, L.add_comm c, L.sub_add, L.add_zero, L.add_zero] at this
theorem CR.sub_eq (a b : α) : O.sub a b = O.add a (O.sub O.zero b) := by
  apply L.add_cancel (c := b)
  rw [L.sub_add, L.add_assoc, L.sub_add, L.add_zero]
theorem CR.eq_of_sub {a b : α} (h : O.sub a b = O.zero) : a = b := by
  rw [← L.sub_add a b, h, L.zero_add]
theorem CR.mul_zero (a : α) : O.mul a O.zero = O.zero := by
  apply L.add_cancel (c := O.mul a O.zero)
  rw [← L.mul_add, L.zero_add, L.zero_add]
theorem CR.zero_mul (a : α) : O.mul O.zero a = O.zero := by rw [L.mul_comm, L.mul_zero]
theorem CR.mul_neg (a b : α) : O.mul a (O.sub O.zero b) = O.sub O.zero (O.mul a b) := by
  apply L.add_cancel (c := O.mul a b)
  rw [← L.mul_add, L.sub_add, L.sub_add, L.mul_zero]
theorem CR.neg_mul (a b : α) : O.mul (O.sub O.zero a) b = O.sub O.zero (O.mul a b) := by rw [L.mul_comm, L.mul_neg, L.mul_comm]
theorem CR.neg_neg (a : α) : O.sub O.zero (O.sub O.zero a) = a := by
  apply L.add_cancel (c := O.sub O.zero a)
  rw [L.sub_add, L.add_comm, L.sub_add]
theorem CR.neg_add (a b : α) : O.sub O.zero (O.add a b) = O.add (O.sub O.zero a) (O.sub O.zero b) := by
  apply L.add_cancel (c := O.add a b)
  rw [L.sub_add, L.add_assoc, ← L.add_assoc (O.sub O.zero b), L.add_comm (O.sub O.zero b) a, L.add_assoc a, L.sub_add, L.add_zero, L.sub_add]
theorem CR.add_mul (a b c : α) : O.mul (O.add a b) c = O.add (O.mul a c) (O.mul b c) := by rw [L.mul_comm, L.mul_add, L.mul_comm c, L.mul_comm c]
theorem CR.add4 (a b c d : α) : O.add (O.add a b) (O.add c d) = O.add (O.add a c) (O.add b d) := by
  rw [L.add_assoc, L.add_assoc, ← L.add_assoc b, L.add_comm b c, L.add_assoc c]
theorem CR.mul4 (a b c d : α) : O.mul (O.mul a b) (O.mul c d) = O.mul (O.mul a c) (O.mul b d) := by
  rw [L.mul_assoc, L.mul_assoc, ← L.mul_assoc b, L.mul_comm b c, L.mul_assoc c]
end
/-- A square root sent to one. -/
theorem Hom.quad {α β : Type} {O : Op α} {O' : Op β} {φ : α → β} (h : Hom O O' φ) (L : CR O') (f : α) (y : β) (hy : O'.mul y y = φ f) : Hom (Gp.quad O f) O' (fun x => O'.add (φ x.1) (O'.mul y (φ x.2))) where
  add a b := by
    simp only [Gp.quad, h.add, L.mul_add]
    exact L.add4 _ _ _ _
  sub a b := by
    simp only [Gp.quad, h.sub]
    rw [L.sub_eq (φ a.1), L.sub_eq (φ a.2), L.mul_add, L.mul_neg, L.add4, ← L.neg_add, ← L.sub_eq]
  mul a b := by
    simp only [Gp.quad, h.add, h.mul, L.mul_add, L.add_mul]
    rw [← hy]
    have e1 : O'.mul (O'.mul y (φ a.2)) (O'.mul y (φ b.2)) = O'.mul (O'.mul y y) (O'.mul (φ a.2) (φ b.2)) := L.mul4 _ _ _ _
    have e2 : O'.mul (φ a.1) (O'.mul y (φ b.2)) = O'.mul y (O'.mul (φ a.1) (φ b.2)) := by rw [← L.mul_assoc, L.mul_comm _ y, L.mul_assoc]
    have e3 : O'.mul (O'.mul y (φ a.2)) (φ b.1) = O'.mul y (O'.mul (φ a.2) (φ b.1)) := L.mul_assoc _ _ _
    rw [e1, e2, e3]
    generalize O'.mul (φ a.1) (φ b.1) = p
    generalize O'.mul y (O'.mul (φ a.1) (φ b.2)) = q
    generalize O'.mul y (O'.mul (φ a.2) (φ b.1)) = r
    generalize O'.mul (O'.mul y y) (O'.mul (φ a.2) (φ b.2)) = t
    rw [L.add_comm q r, L.add4 p t r q, L.add_comm t q]
  zero := by simp only [Gp.quad, h.zero, L.mul_zero, L.zero_add]
  one := by simp only [Gp.quad, h.one, h.zero, L.mul_zero, L.add_zero]
theorem Hom.map {α β : Type} {O : Op α} {O' : Op β} {φ : α → β} (h : Hom O O' φ) (f : α) : Hom (Gp.quad O f) (Gp.quad O' (φ f)) (fun x => (φ x.1, φ x.2)) where
  add a b := by simp only [Gp.quad, h.add]
  sub a b := by simp only [Gp.quad, h.sub]
  mul a b := by simp only [Gp.quad, h.add, h.mul]
  zero := by simp only [Gp.quad, h.zero]
  one := by simp only [Gp.quad, h.zero, h.one]
/-- Degrees. -/
structure Gr {α : Type} (O : Op α) (G : α → Int → Prop) : Prop where
  add : ∀ a b d, G a d → G b d → G (O.add a b) d
  sub : ∀ a b d, G a d → G b d → G (O.sub a b) d
  mul : ∀ a b d e, G a d → G b e → G (O.mul a b) (d + e)
  zero : ∀ d, G O.zero d
  one : G O.one 0
  mono : ∀ a d e, G a d → d ≤ e → G a e
def E.dg (w : Nat → Int) : E → Int
  | .v i => w i
  | .o => 0
  | .a x y | .s x y => max (x.dg w) (y.dg w)
  | .m x y => x.dg w + y.dg w
theorem Gr.ev {α : Type} {O : Op α} {G : α → Int → Prop} (h : Gr O G) {ρ : Nat → α} {w : Nat → Int} (hw : ∀ i, G (ρ i) (w i)) (e : E) : G (e.ev O ρ) (e.dg w) := by
  induction e with
  | v i => exact hw i
  | o => exact h.one
  | a x y hx hy => exact h.add _ _ _ (h.mono _ _ _ hx (Int.le_max_left _ _)) (h.mono _ _ _ hy (Int.le_max_right _ _))
  | s x y hx hy => exact h.sub _ _ _ (h.mono _ _ _ hx (Int.le_max_left _ _)) (h.mono _ _ _ hy (Int.le_max_right _ _))
  | m x y hx hy => exact h.mul _ _ _ _ hx hy
theorem Gr.quad {α : Type} {O : Op α} {G : α → Int → Prop} (h : Gr O G) (f : α) (t : Int) (hf : G f (2 * t)) : Gr (Gp.quad O f) (fun x d => G x.1 d ∧ G x.2 (d - t)) where
  add a b d ha hb := ⟨h.add _ _ _ ha.1 hb.1, h.add _ _ _ ha.2 hb.2⟩
  sub a b d ha hb := ⟨h.sub _ _ _ ha.1 hb.1, h.sub _ _ _ ha.2 hb.2⟩
  mul a b d e ha hb := ⟨h.add _ _ _ (h.mul _ _ _ _ ha.1 hb.1) (h.mono _ _ _ (h.mul _ _ _ _ hf (h.mul _ _ _ _ ha.2 hb.2)) (by omega)),
    h.add _ _ _ (h.mono _ _ _ (h.mul _ _ _ _ ha.1 hb.2) (by omega)) (h.mono _ _ _ (h.mul _ _ _ _ ha.2 hb.1) (by omega))⟩
  zero d := ⟨h.zero _, h.zero _⟩
  one := ⟨h.one, h.zero _⟩
  mono a d e ha hd := ⟨h.mono _ _ _ ha.1 hd, h.mono _ _ _ ha.2 (by omega)⟩
/-- Sizes. -/
structure Nm {α : Type} (O : Op α) (N : α → Nat) : Prop where
  add : ∀ a b, N (O.add a b) ≤ N a + N b
  sub : ∀ a b, N (O.sub a b) ≤ N a + N b
  mul : ∀ a b, N (O.mul a b) ≤ N a * N b
  zero : N O.zero = 0
  one : N O.one ≤ 1
def E.nm (w : Nat → Nat) : E → Nat
  | .v i => w i
  | .o => 1
  | .a x y | .s x y => x.nm w + y.nm w
  | .m x y => x.nm w * y.nm w
theorem Nm.ev {α : Type} {O : Op α} {N : α → Nat} (h : Nm O N) {ρ : Nat → α} {w : Nat → Nat} (hw : ∀ i, N (ρ i) ≤ w i) (e : E) : N (e.ev O ρ) ≤ e.nm w := by
  induction e with
  | v i => exact hw i
  | o => exact h.one
  | a x y hx hy => exact Nat.le_trans (h.add _ _) (Nat.add_le_add hx hy)
  | s x y hx hy => exact Nat.le_trans (h.sub _ _) (Nat.add_le_add hx hy)
  | m x y hx hy => exact Nat.le_trans (h.mul _ _) (Nat.mul_le_mul hx hy)
theorem Nm.quad {α : Type} {O : Op α} {N : α → Nat} (h : Nm O N) (f : α) (hf : N f ≤ 4) : Nm (Gp.quad O f) (fun x => N x.1 + 2 * N x.2) where
  add a b := by have := h.add a.1 b.1; have := h.add a.2 b.2; simp only [Gp.quad]; omega
  sub a b := by have := h.sub a.1 b.1; have := h.sub a.2 b.2; simp only [Gp.quad]; omega
  mul a b := by
    have h1 := h.add (O.mul a.1 b.1) (O.mul f (O.mul a.2 b.2))
    have h2 := h.add (O.mul a.1 b.2) (O.mul a.2 b.1)
    have h3 := h.mul a.1 b.1
    have h4 := h.mul a.1 b.2
    have h5 := h.mul a.2 b.1
    have h6 : N (O.mul f (O.mul a.2 b.2)) ≤ 4 * (N a.2 * N b.2) := Nat.le_trans (h.mul _ _) (Nat.mul_le_mul hf (h.mul _ _))
    simp only [Gp.quad]
    rw [Nat.add_mul, Nat.mul_add, Nat.mul_add, show N a.1 * (2 * N b.2) = 2 * (N a.1 * N b.2) by rw [Nat.mul_left_comm], show 2 * N a.2 * N b.1 = 2 * (N a.2 * N b.1) by rw [Nat.mul_assoc],
      show 2 * N a.2 * (2 * N b.2) = 4 * (N a.2 * N b.2) by rw [Nat.mul_assoc, Nat.mul_left_comm (N a.2), ← Nat.mul_assoc]]
    omega
  zero := by simp only [Gp.quad, h.zero]
  one := by have := h.one; simp only [Gp.quad, h.zero]; omega
end Gp
end
section
set_option linter.unusedVariables false
set_option linter.unusedSimpArgs false
set_option linter.unusedSectionVars false
namespace Gp
abbrev Mon := Nat → Nat
abbrev Pl := List (Bool × Mon)
def ngP : Pl → Pl
  | [] => []
  | t :: p => (!t.1, t.2) :: ngP p
def mulT (t : Bool × Mon) : Pl → Pl
  | [] => []
  | u :: q => (t.1 == u.1, fun i => t.2 i + u.2 i) :: mulT t q
def mulP : Pl → Pl → Pl
  | [], _ => []
  | t :: p, q => mulT t q ++ mulP p q
def PO : Op Pl := ⟨fun p q => p ++ q, fun p q => p ++ ngP q, mulP, [], [(true, fun _ => 0)]⟩
def vr (i : Nat) : Pl := [(true, fun j => if j = i then 1 else 0)]
section
variable {α : Type} (O : Op α)
def sg (s : Bool) (r : α) : α := match s with | true => r | false => O.sub O.zero r
def pw (r : α) : Nat → α
  | 0 => O.one
  | n + 1 => O.mul r (pw r n)
def mv (ρ : Nat → α) (m : Mon) : Nat → α
  | 0 => O.one
  | n + 1 => O.mul (mv ρ m n) (pw O (ρ n) (m n))
def pv (n : Nat) (ρ : Nat → α) : Pl → α
  | [] => O.zero
  | t :: p => O.add (sg O t.1 (mv O ρ t.2 n)) (pv n ρ p)
variable {O} (L : CR O)
include L
theorem pv_app (n : Nat) (ρ : Nat → α) (p q : Pl) : pv O n ρ (p ++ q) = O.add (pv O n ρ p) (pv O n ρ q) := by
  induction p with
  | nil => exact (L.zero_add _).symm
  | cons t p ih => simp only [List.cons_append, pv, ih, L.add_assoc]
theorem sg_not (s : Bool) (r : α) : sg O (!s) r = O.sub O.zero (sg O s r) := by
  cases s
  · exact (L.neg_neg r).symm
  · rfl
theorem sub_zero0 : O.sub O.zero O.zero = O.zero := L.sub_self _
theorem pv_neg (n : Nat) (ρ : Nat → α) (p : Pl) : pv O n ρ (ngP p) = O.sub O.zero (pv O n ρ p) := by
  induction p with
  | nil => exact (sub_zero0 L).symm
  | cons t p ih => simp only [ngP, pv, ih, sg_not L, L.neg_add]
theorem pw_add (r : α) (a b : Nat) : pw O r (a + b) = O.mul (pw O r a) (pw O r b) := by
  induction a with
  | zero => rw [Nat.zero_add]; exact (L.one_mul _).symm
  | succ a ih => rw [Nat.succ_add]; simp only [pw, ih, L.mul_assoc]
theorem mv_add (ρ : Nat → α) (m m' : Mon) (n : Nat) : mv O ρ (fun i => m i + m' i) n = O.mul (mv O ρ m n) (mv O ρ m' n) := by
  induction n with
  | zero => exact (L.one_mul _).symm
  | succ n ih => simp only [mv, ih, pw_add L, L.mul4]
theorem sg_mul (s t : Bool) (a b : α) : O.mul (sg O s a) (sg O t b) = sg O (s == t) (O.mul a b) := by
  cases s <;> cases t <;> simp only [sg, L.neg_mul, L.mul_neg, L.neg_neg] <;> rfl
theorem pv_mulT (n : Nat) (ρ : Nat → α) (t : Bool × Mon) (q : Pl) : pv O n ρ (mulT t q) = O.mul (sg O t.1 (mv O ρ t.2 n)) (pv O n ρ q) := by
  induction q with
  | nil => exact (L.mul_zero _).symm
  | cons u q ih => simp only [mulT, pv, ih, mv_add L, L.mul_add, sg_mul L]
theorem pv_mul (n : Nat) (ρ : Nat → α) (p q : Pl) : pv O n ρ (mulP p q) = O.mul (pv O n ρ p) (pv O n ρ q) := by
  induction p with
  | nil => exact (L.zero_mul _).symm
  | cons t p ih => simp only [mulP, pv_app L, pv_mulT L, pv, ih, L.add_mul]
theorem mv_zero (ρ : Nat → α) (m : Mon) (n : Nat) (h : ∀ i, i < n → m i = 0) : mv O ρ m n = O.one := by
  induction n with
  | zero => rfl
  | succ n ih => simp only [mv, ih (fun i hi => h i (by omega)), h n (by omega), pw, L.one_mul]
theorem pv_hom (n : Nat) (ρ : Nat → α) : Hom PO O (pv O n ρ) where
  add := pv_app L n ρ
  sub p q := by
    show pv O n ρ (p ++ ngP q) = _
    rw [pv_app L, pv_neg L, ← L.sub_eq]
  mul := pv_mul L n ρ
  zero := rfl
  one := by
    show O.add (mv O ρ (fun _ => 0) n) O.zero = O.one
    rw [mv_zero L ρ _ n (fun _ _ => rfl), L.add_zero]
theorem pv_vr (n : Nat) (ρ : Nat → α) (i : Nat) (hi : i < n) : pv O n ρ (vr i) = ρ i := by
  show O.add (mv O ρ (fun j => if j = i then 1 else 0) n) O.zero = _
  rw [L.add_zero]
  induction n with
  | zero => omega
  | succ n ih =>
    simp only [mv]
    by_cases h : n = i
    · subst h
      rw [if_pos rfl, mv_zero L ρ _ n (fun j hj => if_neg (by omega)), L.one_mul]
      show O.mul (ρ n) O.one = _
      rw [L.mul_comm, L.one_mul]
    · rw [if_neg h, ih (by omega)]
      show O.mul (ρ i) O.one = _
      rw [L.mul_comm, L.one_mul]
end
/-- The whole numbers. -/
def zO : Op Int := ⟨(· + ·), (· - ·), (· * ·), 0, 1⟩
theorem zL : CR zO where
  add_comm := Int.add_comm
  add_assoc := Int.add_assoc
  zero_add := Int.zero_add
  sub_add := Int.sub_add_cancel
  mul_comm := Int.mul_comm
  mul_assoc := Int.mul_assoc
  one_mul := Int.one_mul
  mul_add := Int.mul_add
def kv (K : Int) : List (Bool × Nat) → Int
  | [] => 0
  | t :: l => sg zO t.1 (K ^ t.2) + kv K l
def kc (j : Nat) : List (Bool × Nat) → Int
  | [] => 0
  | t :: l => (if t.2 = j then sg zO t.1 1 else 0) + kc j l
def dn : List (Bool × Nat) → List (Bool × Nat)
  | [] => []
  | (s, 0) :: l => dn l
  | (s, c + 1) :: l => (s, c) :: dn l
theorem kv_dn (K : Int) (l : List (Bool × Nat)) : kv K l = kc 0 l + K * kv K (dn l) := by
  induction l with
  | nil => simp [kv, kc, dn]
  | cons t l ih =>
    obtain ⟨s, c⟩ := t
    cases c with
    | zero => cases s <;> simp only [kv, kc, dn, sg, zO, Int.pow_zero, if_true, ih] <;> omega
    | succ c =>
      have e : K ^ (c + 1) = K * K ^ c := by rw [Int.pow_succ, Int.mul_comm]
      cases s
      · simp only [kv, kc, dn, sg, zO, ih, e, Int.mul_add, Int.mul_sub]
        rw [if_neg (by omega)]
        omega
      · simp only [kv, kc, dn, sg, ih, e, Int.mul_add]
        rw [if_neg (by omega)]
        omega
theorem kc_dn (j : Nat) (l : List (Bool × Nat)) : kc (j + 1) l = kc j (dn l) := by
  induction l with
  | nil => rfl
  | cons t l ih =>
    obtain ⟨s, c⟩ := t
    cases c with
    | zero => simp only [kc, dn, ih]; rw [if_neg (by omega)]; omega
    | succ c => simp only [kc, dn, ih, Nat.add_right_cancel_iff]
theorem dn_len (l : List (Bool × Nat)) : (dn l).length ≤ l.length := by
  induction l with
  | nil => exact Nat.le_refl _
  | cons t l ih =>
    obtain ⟨s, c⟩ := t
    cases c <;> simp only [dn, List.length_cons] <;> omega
theorem kc_len (j : Nat) (l : List (Bool × Nat)) : -(l.length : Int) ≤ kc j l ∧ kc j l ≤ l.length := by
  induction l with
  | nil => exact ⟨Int.le_refl _, Int.le_refl _⟩
  | cons t l ih =>
    obtain ⟨s, c⟩ := t
    simp only [kc, List.length_cons]
    by_cases h : c = j
    · rw [if_pos h]; cases s <;> simp only [sg, zO] <;> omega
    · rw [if_neg h]; omega
theorem dn_mem {l : List (Bool × Nat)} {n : Nat} (h : ∀ t, t ∈ l → t.2 < n + 1) : ∀ t, t ∈ dn l → t.2 < n := by
  induction l with
  | nil => intro t ht; cases ht
  | cons u l ih =>
    obtain ⟨s, c⟩ := u
    have h0 := h (s, c) (List.mem_cons_self ..)
    have hl := ih fun t ht => h t (List.mem_cons_of_mem _ ht)
    cases c with
    | zero => exact hl
    | succ c =>
      intro t ht
      rcases List.mem_cons.1 ht with rfl | ht
      · simp only at h0 ⊢; omega
      · exact hl t ht
theorem kron (K : Nat) : ∀ (n : Nat) (l : List (Bool × Nat)), (∀ t, t ∈ l → t.2 < n) → l.length < K → kv K l = 0 → ∀ j, kc j l = 0 := by
  intro n
  induction n with
  | zero =>
    intro l hl _ _ j
    cases l with
    | nil => rfl
    | cons t l => exact absurd (hl t (List.mem_cons_self ..)) (by omega)
  | succ n ih =>
    intro l hl hK h0 j
    rw [kv_dn] at h0
    have hb := kc_len 0 l
    have hz : kc 0 l = 0 := by
      have hd : (K : Int) ∣ kc 0 l := ⟨-(kv K (dn l)), by rw [Int.mul_neg]; omega⟩
      apply Classical.byContradiction
      intro hne
      have h1 : K ∣ (kc 0 l).natAbs := Int.natAbs_dvd_natAbs.2 hd
      have := Nat.le_of_dvd (by omega) h1
      omega
    have hd0 : kv K (dn l) = 0 := by
      rw [hz, Int.zero_add] at h0
      rcases Int.mul_eq_zero.1 h0 with h | h
      · omega
      · exact h
    have := dn_len l
    have hr := ih (dn l) (dn_mem hl) (by omega) hd0
    cases j with
    | zero => exact hz
    | succ j => rw [kc_dn]; exact hr j
theorem kc_sign (j : Nat) (s : Bool) (l : List (Bool × Nat)) (h : ∀ t, t ∈ l → t.2 = j → t.1 = s) : 0 ≤ sg zO s (kc j l) := by
  induction l with
  | nil => cases s <;> exact Int.le_refl _
  | cons t l ih =>
    have ih := ih fun t ht => h t (List.mem_cons_of_mem _ ht)
    simp only [kc]
    by_cases hj : t.2 = j
    · rw [if_pos hj, h t (List.mem_cons_self ..) hj]
      cases s <;> simp only [sg, zO] at ih ⊢ <;> omega
    · rw [if_neg hj, Int.zero_add]; exact ih
theorem kc_app (j : Nat) (p q : List (Bool × Nat)) : kc j (p ++ q) = kc j p + kc j q := by
  induction p with
  | nil => simp [kc]
  | cons t p ih => simp only [List.cons_append, kc, ih]; omega
section
variable {α : Type} {O : Op α} (L : CR O)
include L
/-- What is told as often as it is taken off. -/
theorem pair_off (n : Nat) (ρ : Nat → α) (cd : Mon → Nat) : ∀ (k : Nat) (l : Pl), l.length ≤ k → (∀ t u, t ∈ l → u ∈ l → cd t.2 = cd u.2 → mv O ρ t.2 n = mv O ρ u.2 n) →
    (∀ j, kc j (l.map fun t => (t.1, cd t.2)) = 0) → pv O n ρ l = O.zero := by
  intro k
  induction k with
  | zero =>
    intro l hl _ _
    cases l with
    | nil => rfl
    | cons t l => exact absurd hl (by simp)
  | succ k ih =>
    intro l hl hv hz
    cases l with
    | nil => rfl
    | cons t l =>
      have h0 := hz (cd t.2)
      have hex : ∃ u, u ∈ l ∧ cd u.2 = cd t.2 ∧ u.1 = !t.1 := by
        apply Classical.byContradiction
        intro hno
        have hs := kc_sign (cd t.2) t.1 (l.map fun t => (t.1, cd t.2)) (by
          intro u hu hc
          obtain ⟨w, hw, rfl⟩ := List.mem_map.1 hu
          apply Classical.byContradiction
          intro hne
          exact hno ⟨w, hw, hc, by cases h1 : w.1 <;> cases h2 : t.1 <;> simp_all⟩)
        simp only [List.map_cons, kc, if_true] at h0
        revert hs h0
        cases t.1 <;> simp only [sg, zO] <;> omega
      obtain ⟨u, hu, hc, hs⟩ := hex
      obtain ⟨p, q, rfl⟩ := List.append_of_mem hu
      have hr := ih (p ++ q) (by simp only [List.length_cons, List.length_append] at hl ⊢; omega)
        (fun a b ha hb => hv a b (by simp only [List.mem_cons, List.mem_append] at ha ⊢; rcases ha with h | h <;> simp [h]) (by simp only [List.mem_cons, List.mem_append] at hb ⊢; rcases hb with h | h <;> simp [h]))
        (fun j => by
          have := hz j
          simp only [List.map_cons, List.map_append, kc, kc_app] at this ⊢
          rw [hc, hs] at this
          by_cases hj : cd t.2 = j
          · rw [if_pos hj, if_pos hj] at this
            revert this
            cases t.1 <;> simp only [sg, zO, Bool.not_true, Bool.not_false] <;> omega
          · rw [if_neg hj, if_neg hj] at this
            omega)
      have hval := hv t u (List.mem_cons_self ..) (by simp) hc.symm
      simp only [pv, pv_app L] at hr ⊢
      rw [hs, sg_not L, ← hval]
      generalize sg O t.1 (mv O ρ t.2 n) = x
      generalize pv O n ρ p = y at *
      generalize pv O n ρ q = z at *
      have e : O.add x (O.add y (O.add (O.sub O.zero x) z)) = O.add (O.add (O.sub O.zero x) x) (O.add y z) := by
        rw [← L.add_assoc x y, L.add4, L.add_comm x]
      rw [e, L.sub_add, L.zero_add, hr]
end
end Gp
end
