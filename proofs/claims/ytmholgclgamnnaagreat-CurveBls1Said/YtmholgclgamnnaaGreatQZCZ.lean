import Derived.Test.YtmholgclgamnnaaGreatQZCU
import Derived.Test.YtmholgclgamnnaaGreatQZC
import Derived.Test.YtmholgclgamnnaaGreatQZCC
section
set_option linter.unusedVariables false
set_option linter.unusedSimpArgs false
namespace Go.Proofs.YtmholgclgamnnaaGreat
open Go Eng
set_option maxRecDepth 100000
set_option exponentiation.threshold 2000
set_option maxHeartbeats 4000000
/-- A struct's cells, each of its type. -/
theorem open_cells {W : World} {base : Nat} {t : TypeId} {fs : Array Field} {ts : List TypeId} {v : Value} (hu : Tryz.prog.underlying t = some (.struct fs)) (hts : Tryz.prog.cellTypes Tryz.prog.depth t = some ts)
    (h : Value.okWide Tryz.prog W .any base t v) : ∃ cs : Array Value, v = .agg cs ∧ cs.size = Tryz.prog.cellsOf t ∧ ∀ (i : Nat) (v : Value), cs[i]? = some v → ∃ u, ts[i % ts.length]? = some u ∧ Cell.okWide Tryz.prog W .any base u v := by
  unfold Value.okWide at h
  rw [hu] at h
  obtain ⟨cs, rfl, hcs, ts', h1, ⟨k, hk⟩, h2⟩ := h
  rw [hts] at h1
  cases h1
  exact ⟨cs, rfl, hcs, h2⟩
theorem cell_u64 {W : World} {base : Nat} {u : TypeId} {v : Value} (he : Tryz.prog.underlying u = some (.int .u64)) (h : Cell.okWide Tryz.prog W .any base u v) : ∃ z : Int, v = .int .u64 z ∧ 0 ≤ z ∧ z < 18446744073709551616 := by
  unfold Cell.okWide at h
  rw [he] at h
  unfold Cell.ok at h
  rw [he] at h
  cases v <;> simp only at h <;> try (exact h.elim)
  rename_i k' z
  obtain ⟨rfl, hz⟩ := h
  have h3 : (0 : Int) ≤ z ∧ z ≤ 18446744073709551615 := hz
  exact ⟨z, rfl, h3.1, by omega⟩
theorem cell_bool {W : World} {base : Nat} {u : TypeId} {v : Value} (he : Tryz.prog.underlying u = some .bool) (h : Cell.okWide Tryz.prog W .any base u v) : ∃ t : Bool, v = .bool t := by
  unfold Cell.okWide at h
  rw [he] at h
  unfold Cell.ok at h
  rw [he] at h
  cases v <;> simp only at h <;> try (exact h.elim)
  exact ⟨_, rfl⟩
theorem open_plain {W : World} {X : Nat → Prop} {base : Nat} {t : TypeId} {fs : Array Field} {e b : TypeId} {v : Value} (hu : Tryz.prog.underlying t = some (.struct fs)) (hts : Tryz.prog.cellTypes Tryz.prog.depth t = some (List.replicate 24 e ++ [b]))
    (he : Tryz.prog.underlying e = some (.int .u64)) (hb : Tryz.prog.underlying b = some .bool) (hsz : Tryz.prog.cellsOf t = 25) (h : Value.okWide Tryz.prog W .any base t v) :
    ∃ (x0 x1 y0 y1 : Nat) (inf : Bool), x0 < 2 ^ 384 ∧ x1 < 2 ^ 384 ∧ y0 < 2 ^ 384 ∧ y1 < 2 ^ 384 ∧ Rep W X noρ v (PLv H5.real x0 x1 y0 y1 inf) := by
  obtain ⟨cs, rfl, hcs, each⟩ := open_cells hu hts h
  rw [hsz] at hcs
  have word : ∀ i, i < 24 → ∃ z : Int, cs[i]? = some (.int .u64 z) ∧ 0 ≤ z ∧ z < 18446744073709551616 := by
    intro i hi
    have hx : cs[i]? = some (cs[i]'(by omega)) := Array.getElem?_eq_getElem _
    obtain ⟨u, hu1, hu2⟩ := each i _ hx
    have hue : u = e := by
      rw [show (List.replicate 24 e ++ [b]).length = 25 by simp, Nat.mod_eq_of_lt (show i < 25 by omega), List.getElem?_append_left (by simpa using hi), List.getElem?_replicate, if_pos hi] at hu1
      cases hu1; rfl
    subst hue
    obtain ⟨z, hz, hr⟩ := cell_u64 he hu2
    exact ⟨z, by rw [hx, hz], hr⟩
  have flag : ∃ t : Bool, cs[24]? = some (.bool t) := by
    have hx : cs[24]? = some (cs[24]'(by omega)) := Array.getElem?_eq_getElem _
    obtain ⟨u, hu1, hu2⟩ := each 24 _ hx
    have hue : u = b := by
      rw [show (List.replicate 24 e ++ [b]).length = 25 by simp, Nat.mod_eq_of_lt (show 24 < 25 by omega), List.getElem?_append_right (by simp)] at hu1
      simp at hu1
      exact hu1.symm
    subst hue
    obtain ⟨t, ht⟩ := cell_bool hb hu2
    exact ⟨t, by rw [hx, ht]⟩
  have group : ∀ j, j < 4 → ∃ a : Nat, a < 2 ^ 384 ∧ ∀ i, i < 6 → cs[6 * j + i]? = some (.int .u64 (limR a i)) := by
    intro j hj
    obtain ⟨z0, e0, r0⟩ := word (6 * j) (by omega)
    obtain ⟨z1, e1, r1⟩ := word (6 * j + 1) (by omega)
    obtain ⟨z2, e2, r2⟩ := word (6 * j + 2) (by omega)
    obtain ⟨z3, e3, r3⟩ := word (6 * j + 3) (by omega)
    obtain ⟨z4, e4, r4⟩ := word (6 * j + 4) (by omega)
    obtain ⟨z5, e5, r5⟩ := word (6 * j + 5) (by omega)
    obtain ⟨a, ha⟩ : ∃ a : Nat, (a : Int) = z0 + 18446744073709551616 * (z1 + 18446744073709551616 * (z2 + 18446744073709551616 * (z3 + 18446744073709551616 * (z4 + 18446744073709551616 * z5)))) := ⟨(z0 + 18446744073709551616 * (z1 + 18446744073709551616 * (z2 + 18446744073709551616 * (z3 + 18446744073709551616 * (z4 + 18446744073709551616 * z5))))).toNat, Int.toNat_of_nonneg (by omega)⟩
    have han : a < 2 ^ 384 := by omega
    obtain ⟨l0, l1, l2, l3, l4, l5⟩ := lim_of6 rfl han r0 r1 r2 r3 r4 ha
    refine ⟨a, han, fun i hi => ?_⟩
    match i, hi with
    | 0, _ => rw [l0]; exact e0
    | 1, _ => rw [l1]; exact e1
    | 2, _ => rw [l2]; exact e2
    | 3, _ => rw [l3]; exact e3
    | 4, _ => rw [l4]; exact e4
    | 5, _ => rw [l5]; exact e5
  obtain ⟨x0, h0, g0⟩ := group 0 (by decide)
  obtain ⟨x1, h1, g1⟩ := group 1 (by decide)
  obtain ⟨y0, h2, g2⟩ := group 2 (by decide)
  obtain ⟨y1, h3, g3⟩ := group 3 (by decide)
  obtain ⟨inf, gf⟩ := flag
  refine ⟨x0, x1, y0, y1, inf, h0, h1, h2, h3, ?_⟩
  have ec : cs = [.int .u64 (limR x0 0), .int .u64 (limR x0 1), .int .u64 (limR x0 2), .int .u64 (limR x0 3), .int .u64 (limR x0 4), .int .u64 (limR x0 5), .int .u64 (limR x1 0), .int .u64 (limR x1 1), .int .u64 (limR x1 2), .int .u64 (limR x1 3), .int .u64 (limR x1 4), .int .u64 (limR x1 5), .int .u64 (limR y0 0), .int .u64 (limR y0 1), .int .u64 (limR y0 2), .int .u64 (limR y0 3), .int .u64 (limR y0 4), .int .u64 (limR y0 5), .int .u64 (limR y1 0), .int .u64 (limR y1 1), .int .u64 (limR y1 2), .int .u64 (limR y1 3), .int .u64 (limR y1 4), .int .u64 (limR y1 5), .bool inf].toArray := by
    apply Array.ext_getElem?
    intro i
    rcases Nat.lt_or_ge i 25 with hi | hi
    · rcases (by omega : i = 0 ∨ i = 1 ∨ i = 2 ∨ i = 3 ∨ i = 4 ∨ i = 5 ∨ i = 6 ∨ i = 7 ∨ i = 8 ∨ i = 9 ∨ i = 10 ∨ i = 11 ∨ i = 12 ∨ i = 13 ∨ i = 14 ∨ i = 15 ∨ i = 16 ∨ i = 17 ∨ i = 18 ∨ i = 19 ∨ i = 20 ∨ i = 21 ∨ i = 22 ∨ i = 23 ∨ i = 24) with rfl | rfl | rfl | rfl | rfl | rfl | rfl | rfl | rfl | rfl | rfl | rfl | rfl | rfl | rfl | rfl | rfl | rfl | rfl | rfl | rfl | rfl | rfl | rfl | rfl
      · exact g0 0 (by decide)
      · exact g0 1 (by decide)
      · exact g0 2 (by decide)
      · exact g0 3 (by decide)
      · exact g0 4 (by decide)
      · exact g0 5 (by decide)
      · exact g1 0 (by decide)
      · exact g1 1 (by decide)
      · exact g1 2 (by decide)
      · exact g1 3 (by decide)
      · exact g1 4 (by decide)
      · exact g1 5 (by decide)
      · exact g2 0 (by decide)
      · exact g2 1 (by decide)
      · exact g2 2 (by decide)
      · exact g2 3 (by decide)
      · exact g2 4 (by decide)
      · exact g2 5 (by decide)
      · exact g3 0 (by decide)
      · exact g3 1 (by decide)
      · exact g3 2 (by decide)
      · exact g3 3 (by decide)
      · exact g3 4 (by decide)
      · exact g3 5 (by decide)
      · exact gf
    · rw [Array.getElem?_eq_none (by omega), Array.getElem?_eq_none (by simpa using hi)]
  rw [ec]
  unfold PLv
  exact RepL.agg (.cons (.s _ _) (.cons (.s _ _) (.cons (.s _ _) (.cons (.s _ _) (.cons (.s _ _) (.cons (.s _ _) (.cons (.s _ _) (.cons (.s _ _) (.cons (.s _ _) (.cons (.s _ _) (.cons (.s _ _) (.cons (.s _ _) (.cons (.s _ _) (.cons (.s _ _) (.cons (.s _ _) (.cons (.s _ _) (.cons (.s _ _) (.cons (.s _ _) (.cons (.s _ _) (.cons (.s _ _) (.cons (.s _ _) (.cons (.s _ _) (.cons (.s _ _) (.cons (.s _ _) (.cons (.sb _) .nil)))))))))))))))))))))))))
end Go.Proofs.YtmholgclgamnnaaGreat
end
section
set_option linter.unusedVariables false
set_option linter.unusedSimpArgs false
set_option linter.unusedSectionVars false
namespace Gp
/-- A ring's operations. -/
structure Op (α : Type) where
  add : α → α → α
  sub : α → α → α
  mul : α → α → α
  zero : α
  one : α
structure CR {α : Type} (O : Op α) : Prop where
  add_comm : ∀ a b, O.add a b = O.add b a
  add_assoc : ∀ a b c, O.add (O.add a b) c = O.add a (O.add b c)
  zero_add : ∀ a, O.add O.zero a = a
  sub_add : ∀ a b, O.add (O.sub a b) b = a
  mul_comm : ∀ a b, O.mul a b = O.mul b a
  mul_assoc : ∀ a b c, O.mul (O.mul a b) c = O.mul a (O.mul b c)
  one_mul : ∀ a, O.mul O.one a = a
  mul_add : ∀ a b c, O.mul a (O.add b c) = O.add (O.mul a b) (O.mul a c)
/-- Expressions. -/
inductive E where
  | v (i : Nat)
  | o
  | a (x y : E)
  | s (x y : E)
  | m (x y : E)
section
variable {α : Type} (O : Op α)
def E.ev (ρ : Nat → α) : E → α
  | .v i => ρ i
  | .o => O.one
  | .a x y => O.add (x.ev ρ) (y.ev ρ)
  | .s x y => O.sub (x.ev ρ) (y.ev ρ)
  | .m x y => O.mul (x.ev ρ) (y.ev ρ)
/-- With a square root of f. -/
def quad (f : α) : Op (α × α) := ⟨fun x y => (O.add x.1 y.1, O.add x.2 y.2), fun x y => (O.sub x.1 y.1, O.sub x.2 y.2),
  fun x y => (O.add (O.mul x.1 y.1) (O.mul f (O.mul x.2 y.2)), O.add (O.mul x.1 y.2) (O.mul x.2 y.1)), (O.zero, O.zero), (O.one, O.zero)⟩
end
/-- What keeps the operations. -/
structure Hom {α β : Type} (O : Op α) (O' : Op β) (f : α → β) : Prop where
  add : ∀ a b, f (O.add a b) = O'.add (f a) (f b)
  sub : ∀ a b, f (O.sub a b) = O'.sub (f a) (f b)
  mul : ∀ a b, f (O.mul a b) = O'.mul (f a) (f b)
  zero : f O.zero = O'.zero
  one : f O.one = O'.one
theorem Hom.ev {α β : Type} {O : Op α} {O' : Op β} {f : α → β} (h : Hom O O' f) (ρ : Nat → α) (e : E) : f (e.ev O ρ) = e.ev O' (fun i => f (ρ i)) := by
  induction e with
  | v i => rfl
  | o => exact h.one
  | a x y hx hy => simp only [E.ev, h.add, hx, hy]
  | s x y hx hy => simp only [E.ev, h.sub, hx, hy]
  | m x y hx hy => simp only [E.ev, h.mul, hx, hy]
section
variable {α : Type} {O : Op α} (L : CR O)
include L
theorem CR.add_zero (a : α) : O.add a O.zero = a := by rw [L.add_comm, L.zero_add]
theorem CR.sub_self (a : α) : O.sub a a = O.zero := by
  have h := L.sub_add a a
  have h1 := L.sub_add O.zero a
  have : O.add (O.add (O.sub a a) a) (O.sub O.zero a) = O.add a (O.sub O.zero a) := by rw [h]
  rw [L.add_assoc, L.add_comm a, h1, L.add_zero] at this
  exact this
theorem CR.add_cancel {a b c : α} (h : O.add a c = O.add b c) : a = b := by
  have : O.add (O.add a c) (O.sub O.zero c) = O.add (O.add b c) (O.sub O.zero c) := by rw [h]
  rwa [L.add_assoc, L.add_assoc, L.add_comm c, L.sub_add, L.add_zero, L.add_zero] at this
theorem CR.sub_eq (a b : α) : O.sub a b = O.add a (O.sub O.zero b) := by
  apply L.add_cancel (c := b)
  rw [L.sub_add, L.add_assoc, L.sub_add, L.add_zero]
theorem CR.mul_zero (a : α) : O.mul a O.zero = O.zero := by
  apply L.add_cancel (c := O.mul a O.zero)
  rw [← L.mul_add, L.zero_add, L.zero_add]
theorem CR.zero_mul (a : α) : O.mul O.zero a = O.zero := by rw [L.mul_comm, L.mul_zero]
theorem CR.mul_neg (a b : α) : O.mul a (O.sub O.zero b) = O.sub O.zero (O.mul a b) := by
  apply L.add_cancel (c := O.mul a b)
  rw [← L.mul_add, L.sub_add, L.sub_add, L.mul_zero]
theorem CR.neg_add (a b : α) : O.sub O.zero (O.add a b) = O.add (O.sub O.zero a) (O.sub O.zero b) := by
  apply L.add_cancel (c := O.add a b)
  rw [L.sub_add, L.add_assoc, ← L.add_assoc (O.sub O.zero b), L.add_comm (O.sub O.zero b) a, L.add_assoc a, L.sub_add, L.add_zero, L.sub_add]
theorem CR.add_mul (a b c : α) : O.mul (O.add a b) c = O.add (O.mul a c) (O.mul b c) := by rw [L.mul_comm, L.mul_add, L.mul_comm c, L.mul_comm c]
theorem CR.add4 (a b c d : α) : O.add (O.add a b) (O.add c d) = O.add (O.add a c) (O.add b d) := by
  rw [L.add_assoc, L.add_assoc, ← L.add_assoc b, L.add_comm b c, L.add_assoc c]
theorem CR.mul4 (a b c d : α) : O.mul (O.mul a b) (O.mul c d) = O.mul (O.mul a c) (O.mul b d) := by
  rw [L.mul_assoc, L.mul_assoc, ← L.mul_assoc b, L.mul_comm b c, L.mul_assoc c]
end
/-- A square root sent to one. -/
theorem Hom.quad {α β : Type} {O : Op α} {O' : Op β} {φ : α → β} (h : Hom O O' φ) (L : CR O') (f : α) (y : β) (hy : O'.mul y y = φ f) : Hom (Gp.quad O f) O' (fun x => O'.add (φ x.1) (O'.mul y (φ x.2))) where
  add a b := by
    simp only [Gp.quad, h.add, L.mul_add]
    exact L.add4 _ _ _ _
  sub a b := by
    simp only [Gp.quad, h.sub]
    rw [L.sub_eq (φ a.1), L.sub_eq (φ a.2), L.mul_add, L.mul_neg, L.add4, ← L.neg_add, ← L.sub_eq]
  mul a b := by
    simp only [Gp.quad, h.add, h.mul, L.mul_add, L.add_mul]
    rw [← hy]
    have e1 : O'.mul (O'.mul y (φ a.2)) (O'.mul y (φ b.2)) = O'.mul (O'.mul y y) (O'.mul (φ a.2) (φ b.2)) := L.mul4 _ _ _ _
    have e2 : O'.mul (φ a.1) (O'.mul y (φ b.2)) = O'.mul y (O'.mul (φ a.1) (φ b.2)) := by rw [← L.mul_assoc, L.mul_comm _ y, L.mul_assoc]
    have e3 : O'.mul (O'.mul y (φ a.2)) (φ b.1) = O'.mul y (O'.mul (φ a.2) (φ b.1)) := L.mul_assoc _ _ _
    rw [e1, e2, e3]
    generalize O'.mul (φ a.1) (φ b.1) = p
    generalize O'.mul y (O'.mul (φ a.1) (φ b.2)) = q
    generalize O'.mul y (O'.mul (φ a.2) (φ b.1)) = r
    generalize O'.mul (O'.mul y y) (O'.mul (φ a.2) (φ b.2)) = t
    rw [L.add_comm q r, L.add4 p t r q, L.add_comm t q]
  zero := by simp only [Gp.quad, h.zero, L.mul_zero, L.zero_add]
  one := by simp only [Gp.quad, h.one, h.zero, L.mul_zero, L.add_zero]
theorem Hom.map {α β : Type} {O : Op α} {O' : Op β} {φ : α → β} (h : Hom O O' φ) (f : α) : Hom (Gp.quad O f) (Gp.quad O' (φ f)) (fun x => (φ x.1, φ x.2)) where
  add a b := by simp only [Gp.quad, h.add]
  sub a b := by simp only [Gp.quad, h.sub]
  mul a b := by simp only [Gp.quad, h.add, h.mul]
  zero := by simp only [Gp.quad, h.zero]
  one := by simp only [Gp.quad, h.zero, h.one]
/-- Degrees. -/
structure Gr {α : Type} (O : Op α) (G : α → Int → Prop) : Prop where
  add : ∀ a b d, G a d → G b d → G (O.add a b) d
  sub : ∀ a b d, G a d → G b d → G (O.sub a b) d
  mul : ∀ a b d e, G a d → G b e → G (O.mul a b) (d + e)
  zero : ∀ d, G O.zero d
  one : G O.one 0
  mono : ∀ a d e, G a d → d ≤ e → G a e
def E.dg (w : Nat → Int) : E → Int
  | .v i => w i
  | .o => 0
  | .a x y | .s x y => max (x.dg w) (y.dg w)
  | .m x y => x.dg w + y.dg w
theorem Gr.ev {α : Type} {O : Op α} {G : α → Int → Prop} (h : Gr O G) {ρ : Nat → α} {w : Nat → Int} (hw : ∀ i, G (ρ i) (w i)) (e : E) : G (e.ev O ρ) (e.dg w) := by
  induction e with
  | v i => exact hw i
  | o => exact h.one
  | a x y hx hy => exact h.add _ _ _ (h.mono _ _ _ hx (Int.le_max_left _ _)) (h.mono _ _ _ hy (Int.le_max_right _ _))
  | s x y hx hy => exact h.sub _ _ _ (h.mono _ _ _ hx (Int.le_max_left _ _)) (h.mono _ _ _ hy (Int.le_max_right _ _))
  | m x y hx hy => exact h.mul _ _ _ _ hx hy
theorem Gr.quad {α : Type} {O : Op α} {G : α → Int → Prop} (h : Gr O G) (f : α) (t : Int) (hf : G f (2 * t)) : Gr (Gp.quad O f) (fun x d => G x.1 d ∧ G x.2 (d - t)) where
  add a b d ha hb := ⟨h.add _ _ _ ha.1 hb.1, h.add _ _ _ ha.2 hb.2⟩
  sub a b d ha hb := ⟨h.sub _ _ _ ha.1 hb.1, h.sub _ _ _ ha.2 hb.2⟩
  mul a b d e ha hb := ⟨h.add _ _ _ (h.mul _ _ _ _ ha.1 hb.1) (h.mono _ _ _ (h.mul _ _ _ _ hf (h.mul _ _ _ _ ha.2 hb.2)) (by omega)),
    h.add _ _ _ (h.mono _ _ _ (h.mul _ _ _ _ ha.1 hb.2) (by omega)) (h.mono _ _ _ (h.mul _ _ _ _ ha.2 hb.1) (by omega))⟩
  zero d := ⟨h.zero _, h.zero _⟩
  one := ⟨h.one, h.zero _⟩
  mono a d e ha hd := ⟨h.mono _ _ _ ha.1 hd, h.mono _ _ _ ha.2 (by omega)⟩
/-- Sizes. -/
structure Nm {α : Type} (O : Op α) (N : α → Nat) : Prop where
  add : ∀ a b, N (O.add a b) ≤ N a + N b
  sub : ∀ a b, N (O.sub a b) ≤ N a + N b
  mul : ∀ a b, N (O.mul a b) ≤ N a * N b
  zero : N O.zero = 0
  one : N O.one ≤ 1
def E.nm (w : Nat → Nat) : E → Nat
  | .v i => w i
  | .o => 1
  | .a x y | .s x y => x.nm w + y.nm w
  | .m x y => x.nm w * y.nm w
theorem Nm.ev {α : Type} {O : Op α} {N : α → Nat} (h : Nm O N) {ρ : Nat → α} {w : Nat → Nat} (hw : ∀ i, N (ρ i) ≤ w i) (e : E) : N (e.ev O ρ) ≤ e.nm w := by
  induction e with
  | v i => exact hw i
  | o => exact h.one
  | a x y hx hy => exact Nat.le_trans (h.add _ _) (Nat.add_le_add hx hy)
  | s x y hx hy => exact Nat.le_trans (h.sub _ _) (Nat.add_le_add hx hy)
  | m x y hx hy => exact Nat.le_trans (h.mul _ _) (Nat.mul_le_mul hx hy)
theorem Nm.quad {α : Type} {O : Op α} {N : α → Nat} (h : Nm O N) (f : α) (hf : N f ≤ 4) : Nm (Gp.quad O f) (fun x => N x.1 + 2 * N x.2) where
  add a b := by have := h.add a.1 b.1; have := h.add a.2 b.2; simp only [Gp.quad]; omega
  sub a b := by have := h.sub a.1 b.1; have := h.sub a.2 b.2; simp only [Gp.quad]; omega
  mul a b := by
    have h1 := h.add (O.mul a.1 b.1) (O.mul f (O.mul a.2 b.2))
    have h2 := h.add (O.mul a.1 b.2) (O.mul a.2 b.1)
    have h3 := h.mul a.1 b.1
    have h4 := h.mul a.1 b.2
    have h5 := h.mul a.2 b.1
    have h6 : N (O.mul f (O.mul a.2 b.2)) ≤ 4 * (N a.2 * N b.2) := Nat.le_trans (h.mul _ _) (Nat.mul_le_mul hf (h.mul _ _))
    simp only [Gp.quad]
    rw [Nat.add_mul, Nat.mul_add, Nat.mul_add, show N a.1 * (2 * N b.2) = 2 * (N a.1 * N b.2) by rw [Nat.mul_left_comm], show 2 * N a.2 * N b.1 = 2 * (N a.2 * N b.1) by rw [Nat.mul_assoc],
      show 2 * N a.2 * (2 * N b.2) = 4 * (N a.2 * N b.2) by rw [Nat.mul_assoc, Nat.mul_left_comm (N a.2), ← Nat.mul_assoc]]
    omega
  zero := by simp only [Gp.quad, h.zero]
  one := by have := h.one; simp only [Gp.quad, h.zero]; omega
end Gp
end
section
set_option linter.unusedVariables false
set_option linter.unusedSimpArgs false
set_option linter.unusedSectionVars false
namespace Gp
abbrev Mon := Nat → Nat
abbrev Pl := List (Bool × Mon)
def ngP : Pl → Pl
  | [] => []
  | t :: p => (!t.1, t.2) :: ngP p
def mulT (t : Bool × Mon) : Pl → Pl
  | [] => []
  | u :: q => (t.1 == u.1, fun i => t.2 i + u.2 i) :: mulT t q
def mulP : Pl → Pl → Pl
  | [], _ => []
  | t :: p, q => mulT t q ++ mulP p q
def PO : Op Pl := ⟨fun p q => p ++ q, fun p q => p ++ ngP q, mulP, [], [(true, fun _ => 0)]⟩
def vr (i : Nat) : Pl := [(true, fun j => if j = i then 1 else 0)]
section
variable {α : Type} (O : Op α)
variable {O} (L : CR O)
include L
end
def dn : List (Bool × Nat) → List (Bool × Nat)
  | [] => []
  | (s, 0) :: l => dn l
  | (s, c + 1) :: l => (s, c) :: dn l
section
variable {α : Type} {O : Op α} (L : CR O)
include L
end
end Gp
end
section
set_option linter.unusedVariables false
set_option linter.unusedSimpArgs false
set_option linter.unusedSectionVars false
namespace Gp
def code (s : Nat → Nat) (m : Mon) : Nat → Nat
  | 0 => 0
  | n + 1 => code s m n + s n * m n
def cE (i : Nat) : E := .a (.m (.m (.v i) (.v i)) (.v i)) (.v 3)
section
variable {α : Type} (O : Op α) (x : Nat → α)
def gen (i : Nat) : ((α × α) × (α × α)) × ((α × α) × (α × α)) :=
  if i < 12 then (((x i, O.zero), (O.zero, O.zero)), ((O.zero, O.zero), (O.zero, O.zero)))
  else if i = 12 then (((O.zero, O.one), (O.zero, O.zero)), ((O.zero, O.zero), (O.zero, O.zero)))
  else if i = 13 then (((O.zero, O.zero), (O.one, O.zero)), ((O.zero, O.zero), (O.zero, O.zero)))
  else if i = 14 then (((O.zero, O.zero), (O.zero, O.zero)), ((O.one, O.zero), (O.zero, O.zero)))
  else (((O.zero, O.zero), (O.zero, O.zero)), ((O.zero, O.zero), (O.zero, O.zero)))
end
def wt (i j : Nat) : Int := if j < 12 then (if j = i then 2 else 0) else if j < 15 then (if j = 12 + i then 3 else if i = 3 then 1 else 0) else 0
def nw (j : Nat) : Nat := if j < 12 then 1 else if j < 15 then 2 else 0
def Dg (i : Nat) (p : Pl) (d : Int) : Prop := ∀ t, t ∈ p → 2 * (t.2 i : Int) ≤ d
theorem ngP_mem {t : Bool × Mon} {p : Pl} (h : t ∈ ngP p) : ∃ u, u ∈ p ∧ t.2 = u.2 := by
  induction p with
  | nil => cases h
  | cons u p ih =>
    rcases List.mem_cons.1 h with rfl | h
    · exact ⟨u, List.mem_cons_self .., rfl⟩
    · obtain ⟨w, hw, e⟩ := ih h; exact ⟨w, List.mem_cons_of_mem _ hw, e⟩
theorem mulT_mem {t u : Bool × Mon} {p : Pl} (h : t ∈ mulT u p) : ∃ w, w ∈ p ∧ t.2 = fun i => u.2 i + w.2 i := by
  induction p with
  | nil => cases h
  | cons w p ih =>
    rcases List.mem_cons.1 h with rfl | h
    · exact ⟨w, List.mem_cons_self .., rfl⟩
    · obtain ⟨w, hw, e⟩ := ih h; exact ⟨w, List.mem_cons_of_mem _ hw, e⟩
theorem mulP_mem {t : Bool × Mon} {p q : Pl} (h : t ∈ mulP p q) : ∃ u w, u ∈ p ∧ w ∈ q ∧ t.2 = fun i => u.2 i + w.2 i := by
  induction p with
  | nil => cases h
  | cons u p ih =>
    rcases List.mem_append.1 h with h | h
    · obtain ⟨w, hw, e⟩ := mulT_mem h; exact ⟨u, w, List.mem_cons_self .., hw, e⟩
    · obtain ⟨a, w, ha, hw, e⟩ := ih h; exact ⟨a, w, List.mem_cons_of_mem _ ha, hw, e⟩
theorem Dg.gr (i : Nat) : Gr PO (Dg i) where
  add a b d ha hb t ht := by
    rcases List.mem_append.1 ht with h | h
    · exact ha t h
    · exact hb t h
  sub a b d ha hb t ht := by
    rcases List.mem_append.1 ht with h | h
    · exact ha t h
    · obtain ⟨u, hu, e⟩ := ngP_mem h; rw [e]; exact hb u hu
  mul a b d e ha hb t ht := by
    obtain ⟨u, w, hu, hw, e⟩ := mulP_mem ht
    have := ha u hu
    have := hb w hw
    rw [e]
    simp only
    omega
  zero d t ht := by cases ht
  one t ht := by
    rcases List.mem_cons.1 ht with rfl | h
    · simp
    · cases h
  mono a d e ha hd t ht := Int.le_trans (ha t ht) hd
theorem Dg.vr (i j : Nat) : Dg i (vr j) (if j = i then 2 else 0) := by
  intro t ht
  rcases List.mem_cons.1 ht with rfl | h
  · simp only
    by_cases h : j = i
    · rw [if_pos h, if_pos h.symm]; decide
    · rw [if_neg h, if_neg (fun e => h e.symm)]; decide
  · cases h
theorem Nm.len : Nm PO List.length where
  add a b := by show (a ++ b).length ≤ _; rw [List.length_append]; exact Nat.le_refl _
  sub a b := by
    show (a ++ ngP b).length ≤ _
    have : (ngP b).length = b.length := by induction b with | nil => rfl | cons t b ih => simp only [ngP, List.length_cons, ih]
    rw [List.length_append, this]
    exact Nat.le_refl _
  mul a b := by
    show (mulP a b).length ≤ _
    have h1 : ∀ (t : Bool × Mon) (q : Pl), (mulT t q).length = q.length := by intro t q; induction q with | nil => rfl | cons u q ih => simp only [mulT, List.length_cons, ih]
    have : (mulP a b).length = a.length * b.length := by
      induction a with
      | nil => simp [mulP]
      | cons t a ih => simp only [mulP, List.length_append, h1, ih, List.length_cons, Nat.add_mul]; omega
    rw [this]
    exact Nat.le_refl _
  zero := rfl
  one := Nat.le_refl _
theorem Dg.f (i j : Nat) (hj : j < 3) : Dg i ((cE j).ev PO Gp.vr) (2 * wt i (12 + j)) := by
  have h := (Dg.gr i).ev (Dg.vr i) (cE j)
  refine (Dg.gr i).mono _ _ _ h ?_
  simp only [cE, E.dg, wt]
  rw [if_neg (show ¬ 12 + j < 12 by omega), if_pos (show 12 + j < 15 by omega)]
  refine Int.max_le.2 ⟨?_, ?_⟩
  all_goals repeat' split
  all_goals omega
end Gp
end
section
set_option linter.unusedVariables false
set_option linter.unusedSimpArgs false
set_option linter.unusedSectionVars false
namespace Gp
def E.kk (e : E) : Nat := e.nm nw + 1
section
variable {α : Type} {O : Op α} (L : CR O)
include L
end
/-- Complete sums (Renes, Costello, Batina) on y^2 = x^3 + b. -/
structure T3 (α : Type) where
  x : α
  y : α
  z : α
section
variable {α : Type} (O : Op α)
def thr (b : α) : α := O.add (O.add b b) b
def rc (b : α) (p q : T3 α) : T3 α :=
  let b3 := thr O b
  let xy := O.add (O.mul p.x q.y) (O.mul q.x p.y)
  let yz := O.add (O.mul p.y q.z) (O.mul q.y p.z)
  let xz := O.add (O.mul p.x q.z) (O.mul q.x p.z)
  let yy := O.mul p.y q.y
  let zz := O.mul b3 (O.mul p.z q.z)
  let xx := O.mul p.x q.x
  ⟨O.sub (O.mul xy (O.sub yy zz)) (O.mul b3 (O.mul yz xz)), O.add (O.mul (O.add yy zz) (O.sub yy zz)) (O.mul (thr O b3) (O.mul xx xz)), O.add (O.mul yz (O.add yy zz)) (O.mul (thr O xx) xy)⟩
end
def eO : Op E := ⟨.a, .s, .m, .s .o .o, .o⟩
abbrev x1 := E.v 0
abbrev x2 := E.v 1
abbrev x3 := E.v 2
abbrev bb := E.v 3
abbrev y1 := E.v 12
abbrev y2 := E.v 13
abbrev y3 := E.v 14
def eA : T3 E := rc eO bb (rc eO bb ⟨x1, y1, .o⟩ ⟨x2, y2, .o⟩) ⟨x3, y3, .o⟩
set_option maxRecDepth 100000
def dd : E := .s x2 x1
def neg (e : E) : E := .s (.s .o .o) e
/-- Tangents. -/
def tt : E := .a y1 y1
def ee : E := .a (.a (.m x1 x1) (.m x1 x1)) (.m x1 x1)
end Gp
end
section
set_option linter.unusedSectionVars false
set_option linter.unusedVariables false
namespace Gp
open Cv
def opOf {α : Type} (O : Ops α) : Op α := ⟨O.add, O.sub, O.mul, O.zero, O.one⟩
structure Fd {α : Type} (O : Ops α) : Prop where
  cr : CR (opOf O)
  inv : ∀ a, a ≠ O.zero → O.mul a (O.inv a) = O.one
  ne : O.one ≠ O.zero
  two : O.add O.one O.one ≠ O.zero
section
variable {α : Type} [DecidableEq α] {O : Ops α} (F : Fd O)
include F
theorem Fd.mul_zero (a : α) : O.mul a O.zero = O.zero := F.cr.mul_zero a
theorem Fd.zero_mul (a : α) : O.mul O.zero a = O.zero := F.cr.zero_mul a
theorem Fd.mul_comm (a b : α) : O.mul a b = O.mul b a := F.cr.mul_comm a b
theorem Fd.mul_assoc (a b c : α) : O.mul (O.mul a b) c = O.mul a (O.mul b c) := F.cr.mul_assoc a b c
theorem Fd.one_mul (a : α) : O.mul O.one a = a := F.cr.one_mul a
theorem Fd.mul_one (a : α) : O.mul a O.one = a := by rw [F.mul_comm, F.one_mul]
theorem Fd.add_zero (a : α) : O.add a O.zero = a := F.cr.add_zero a
theorem Fd.zero_add (a : α) : O.add O.zero a = a := F.cr.zero_add a
theorem Fd.add_comm (a b : α) : O.add a b = O.add b a := F.cr.add_comm a b
theorem Fd.sub_self (a : α) : O.sub a a = O.zero := F.cr.sub_self a
theorem Fd.sub_zero (a : α) : O.sub a O.zero = a := by
  have := F.cr.sub_add a O.zero
  exact (F.cr.add_zero _).symm.trans this
theorem Fd.dom {a b : α} (h : O.mul a b = O.zero) : a = O.zero ∨ b = O.zero := by
  by_cases ha : a = O.zero
  · exact .inl ha
  · refine .inr ?_
    have := congrArg (O.mul (O.inv a)) h
    rwa [F.mul_zero, ← F.mul_assoc, F.mul_comm _ a, F.inv a ha, F.one_mul] at this
theorem Fd.cancel {a b c : α} (hc : c ≠ O.zero) (h : O.mul a c = O.mul b c) : a = b := by
  have := congrArg (fun z => O.mul z (O.inv c)) h
  simpa only [F.mul_assoc, F.inv c hc, F.mul_one] using this
end
/-- Pure rules. -/
abbrev w0 := E.v 4
abbrev w1 := E.v 5
abbrev w2 := E.v 6
abbrev w3 := E.v 7
abbrev w4 := E.v 8
abbrev w5 := E.v 9
abbrev w6 := E.v 10
abbrev w7 := E.v 11
section
variable {α : Type} [DecidableEq α] {O : Ops α} (F : Fd O)
include F
variable {b : α}
end
end Gp
end
section
set_option linter.unusedSectionVars false
set_option linter.unusedVariables false
set_option linter.unusedSimpArgs false
namespace Gp
open Cv
def sc {α : Type} (O : Op α) (l : α) (p : T3 α) : T3 α := ⟨O.mul l p.x, O.mul l p.y, O.mul l p.z⟩
/-- The complete sum is of degree two in either point. -/
def hP : T3 E := ⟨w1, w2, w3⟩
def hQ : T3 E := ⟨w4, w5, w6⟩
section
variable {α : Type} [DecidableEq α] {O : Ops α} (F : Fd O)
include F
end
/-- No point of order two. -/
def No2 {α : Type} (O : Ops α) (b : α) : Prop := ∀ x, O.add (O.mul (O.mul x x) x) b ≠ O.zero
def ngp {α : Type} (O : Ops α) : Pt α → Pt α
  | none => none
  | some (x, y) => some (x, O.sub O.zero y)
section
variable {α : Type} [DecidableEq α] {O : Ops α} (F : Fd O) {b : α} (N : No2 O b)
include F
include N
omit N in
omit N in
end
end Gp
end
section
set_option linter.unusedVariables false
set_option linter.unusedSectionVars false
set_option linter.unusedSimpArgs false
namespace Go.Proofs.YtmholgclgamnnaaGreat
open Go Eng
set_option maxRecDepth 100000
set_option exponentiation.threshold 2000
set_option maxHeartbeats 4000000
section
variable {p : Nat} [NeZero p]
theorem tm_inf {α : Type} [DecidableEq α] {O : Cv.Ops α} (L : Cv.Laws O) (k n : Nat) : ∀ i, (Cv.tm O (Cv.inf O) k n i).z = O.zero
  | 0 => rfl
  | i + 1 => by
    have h := Cv.dbl_inf L (.inl (tm_inf L k n i))
    rw [Cv.tm]
    split
    · unfold Cv.plus
      rw [if_pos h]
      rfl
    · exact h
theorem down_times {α : Type} [DecidableEq α] {O : Cv.Ops α} (L : Cv.Laws O) (P : Cv.Pt α) (k : Nat) : Cv.down O (Cv.tm O (Cv.up O P) k 256 256) = timesPt O P k ∧ ((Cv.tm O (Cv.up O P) k 256 256).z = O.zero ↔ timesPt O P k = none) := by
  obtain _ | ⟨x, y⟩ := P
  · have h := tm_inf L k 256 256
    show Cv.down O (Cv.tm O (Cv.inf O) k 256 256) = none ∧ ((Cv.tm O (Cv.inf O) k 256 256).z = O.zero ↔ none = none)
    unfold Cv.down
    rw [if_pos h]
    exact ⟨rfl, fun _ => rfl, fun _ => h⟩
  · have h := Cv.tm_alike L x y k 256 256
    show Cv.down O (Cv.tm O ⟨x, y, O.one⟩ k 256 256) = _ ∧ ((Cv.tm O ⟨x, y, O.one⟩ k 256 256).z = O.zero ↔ _)
    unfold timesPt Cv.down
    dsimp only
    generalize Cv.tm O ⟨x, y, O.one⟩ k 256 256 = a at *
    generalize Cv.tr O x y k 256 256 = b at *
    rcases h with ⟨h1, h2⟩ | ⟨rfl, h2⟩
    · rw [if_pos h1, if_pos h2]
      exact ⟨rfl, fun _ => rfl, fun _ => h1⟩
    · rw [if_neg h2, if_neg h2, L.assoc a.y]
      exact ⟨rfl, fun h => absurd h h2, fun h => by cases h⟩
theorem laws1p {b : Nat} (hp : PrM b p) : Cv.Laws (Cv.ops1 (Cv.inv1 (p := p))) := Cv.laws1 _ (one_ne hp)
theorem laws2p {b : Nat} (hp : PrM b p) : Cv.Laws (Cv.ops2 (Cv.inv2 (p := p))) := Cv.laws2 _ (one_ne hp)
def resA (e : Nat) (Q : Cv.Pt (Fin p)) : PtA := match e with | 0 => ofPt Q | _ + 1 => ⟨0, 0, false⟩
def resB (e : Nat) (Q : Cv.Pt (Cv.F2 p)) : PtB := match e with | 0 => ofPt2 Q | _ + 1 => ⟨0, 0, 0, 0, false⟩
theorem addP_eq (b : Fin p) (P Q : PtA) : addP b P Q = (resA (addE (good1 b P) (good1 b Q)) (Cv.sumR (Cv.ops1 Cv.inv1) (ptOf p P) (ptOf p Q)), addE (good1 b P) (good1 b Q)) := by
  unfold addP
  cases h1 : good1 b P with
  | zero =>
    cases h2 : good1 b Q with
    | zero => rfl
    | succ m => rfl
  | succ m => rfl
theorem mulP_eq {n : Nat} (hp : PrM n p) (b : Fin p) (P : PtA) (k : Nat) : mulP b P k = (resA (good1 b P) (timesPt (Cv.ops1 Cv.inv1) (ptOf p P) k), good1 b P) := by
  unfold mulP
  rw [(down_times (laws1p hp) (ptOf p P) k).1]
  cases h1 : good1 b P with
  | zero => rfl
  | succ m => rfl
theorem grpP_eq {n : Nat} (hp : PrM n p) (b : Fin p) (P : PtA) (r : Nat) : grpP b P r = grpE (good1 b P) (timesPt (Cv.ops1 Cv.inv1) (ptOf p P) r) := by
  unfold grpP
  have h := (down_times (laws1p hp) (ptOf p P) r).2
  cases h1 : good1 b P with
  | zero =>
    rw [if_neg (fun h => h rfl)]
    cases ht : timesPt (Cv.ops1 Cv.inv1) (ptOf p P) r with
    | none => exact if_pos (h.2 ht)
    | some q => exact if_neg (fun e => by rw [h.1 e] at ht; cases ht)
  | succ m => rfl
theorem addQ_eq (b : Cv.F2 p) (P Q : PtB) : addQ b P Q = (resB (addE (good2 b P) (good2 b Q)) (Cv.sumR (Cv.ops2 Cv.inv2) (ptOf2 p P) (ptOf2 p Q)), addE (good2 b P) (good2 b Q)) := by
  unfold addQ
  cases h1 : good2 b P with
  | zero =>
    cases h2 : good2 b Q with
    | zero => rfl
    | succ m => rfl
  | succ m => rfl
theorem mulQ_eq {n : Nat} (hp : PrM n p) (b : Cv.F2 p) (P : PtB) (k : Nat) : mulQ b P k = (resB (good2 b P) (timesPt (Cv.ops2 Cv.inv2) (ptOf2 p P) k), good2 b P) := by
  unfold mulQ
  rw [(down_times (laws2p hp) (ptOf2 p P) k).1]
  cases h1 : good2 b P with
  | zero => rfl
  | succ m => rfl
end
end Go.Proofs.YtmholgclgamnnaaGreat
end
section
set_option linter.unusedVariables false
set_option linter.unusedSectionVars false
set_option linter.unusedSimpArgs false
namespace Go.Proofs.YtmholgclgamnnaaGreat
open Go Eng
set_option maxRecDepth 100000
set_option exponentiation.threshold 2000
set_option maxHeartbeats 4000000
section
variable {α : Type} [DecidableEq α] {k : Rk α} {b : α} (hK : OkR k b)
include hK
theorem negRS (P : Cv.Pt α) (hg : Sp 19 [Ct k b, Pt_ k P] (.s .i64 ((0 : Nat) : Int))) : Sp 36 [Ct k b, Pt_ k P] (.tup [Pt_ k (Gp.ngp k.O P), .s .i64 ((0 : Nat) : Int)]) := by
  have ne := fun A hA x => i_ne (A := A) hA (x := x) (y := 0)
  obtain _ | ⟨x, y⟩ := P
  · show Sp _ _ (.tup [Pt_ k none, .s .i64 ((0 : Nat) : Int)])
    refine mk Tryz.func36 rfl rfl L0 R1 (by decide +kernel) fun A S hA hS => ?_
    have e0 : A.cmp .neq ((0 : Nat) : Int) 0 = false := ne A hA _
    unfold bodyOf Tryz.f36
    cbv
    repeat (first
      | (refine ABr.t (by assumption) ?_; cbv)
      | (refine ABr.f (by assumption) ?_; cbv)
      | (refine ABr.t rfl ?_; cbv)
      | (refine ABr.f rfl ?_; cbv)
      | (refine ACall.mk _ (cf hS hg) ?_; cbv))
  · show Sp _ _ (.tup [Pt_ k (some (x, k.O.sub k.O.zero y)), .s .i64 ((0 : Nat) : Int)])
    have no := hK.none
    have sb := hK.sub k.O.zero y
    generalize k.O.sub k.O.zero y = s at *
    generalize k.O.zero = z at *
    refine mk Tryz.func36 rfl rfl L0 R1 (by decide +kernel) fun A S hA hS => ?_
    have e0 : A.cmp .neq ((0 : Nat) : Int) 0 = false := ne A hA _
    unfold bodyOf Tryz.f36
    cbv
    repeat (first
      | (refine ABr.t (by assumption) ?_; cbv)
      | (refine ABr.f (by assumption) ?_; cbv)
      | (refine ABr.t rfl ?_; cbv)
      | (refine ABr.f rfl ?_; cbv)
      | (refine ACall.mk _ (cf hS hg) ?_; cbv)
      | (refine ACall.mk _ (cf hS no) ?_; cbv)
      | (refine ACall.mk _ (cf hS sb) ?_; cbv))
end
section
variable {p : Nat} [NeZero p]
end
end Go.Proofs.YtmholgclgamnnaaGreat
end
