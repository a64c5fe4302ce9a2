import Derived.Test.YtmholgclgamnnaaGreatQZC
section
set_option linter.unusedSectionVars false
set_option linter.unusedSimpArgs false
set_option linter.unusedVariables false
namespace Cv
/-- A field's operations. -/
structure Ops (α : Type) where
  add : α → α → α
  sub : α → α → α
  mul : α → α → α
  inv : α → α
  zero : α
  one : α
structure Laws {α : Type} (O : Ops α) : Prop where
  mul_one : ∀ a, O.mul a O.one = a
  one_mul : ∀ a, O.mul O.one a = a
  mul_zero : ∀ a, O.mul a O.zero = O.zero
  zero_mul : ∀ a, O.mul O.zero a = O.zero
  add_zero : O.add O.zero O.zero = O.zero
  assoc : ∀ a b c, O.mul (O.mul a b) c = O.mul a (O.mul b c)
  sub_zero : ∀ a b, O.sub a b = O.zero ↔ a = b
  ne : O.one ≠ O.zero
structure Jac (α : Type) where
  x : α
  y : α
  z : α
variable {α : Type} [DecidableEq α] (O : Ops α)
/-- The program's double. -/
def dbl (p : Jac α) : Jac α :=
  let a := O.mul p.x p.x
  let b := O.mul p.y p.y
  let s := O.mul p.x b
  let s := O.add s s
  let s := O.add s s
  let e := O.add (O.add a a) a
  let c := O.mul b b
  let c := O.add c c
  let c := O.add c c
  let c := O.add c c
  let x := O.sub (O.mul e e) (O.add s s)
  let z := O.mul p.y p.z
  ⟨x, O.sub (O.mul e (O.sub s x)) c, O.add z z⟩
def inf : Jac α := ⟨O.zero, O.zero, O.zero⟩
/-- The program's sum. -/
def plus (p q : Jac α) : Jac α :=
  if p.z = O.zero then q else if q.z = O.zero then p else
  let pz := O.mul p.z p.z
  let qz := O.mul q.z q.z
  let u := O.mul p.x qz
  let v := O.mul q.x pz
  let s := O.mul (O.mul p.y qz) q.z
  let t := O.mul (O.mul q.y pz) p.z
  if u = v then (if s = t then dbl O p else inf O) else
  let h := O.sub v u
  let r := O.sub t s
  let hh := O.mul h h
  let hhh := O.mul hh h
  let w := O.mul u hh
  let x := O.sub (O.sub (O.mul r r) hhh) (O.add w w)
  ⟨x, O.sub (O.mul r (O.sub w x)) (O.mul s hhh), O.mul (O.mul p.z q.z) h⟩
/-- The reference's double and sum. -/
def dblR (p : Jac α) : Jac α := if p.z = O.zero ∨ p.y = O.zero then ⟨p.x, p.y, O.zero⟩ else dbl O p
def plusR (p : Jac α) (qx qy : α) : Jac α :=
  if p.z = O.zero then ⟨qx, qy, O.one⟩ else
  let zz := O.mul p.z p.z
  let h := O.sub (O.mul qx zz) p.x
  let r := O.sub (O.mul qy (O.mul zz p.z)) p.y
  if h = O.zero then (if r = O.zero then dblR O p else ⟨p.x, p.y, O.zero⟩) else
  let hh := O.mul h h
  let hhh := O.mul hh h
  let v := O.mul p.x hh
  let x := O.sub (O.sub (O.mul r r) hhh) (O.add v v)
  ⟨x, O.sub (O.mul r (O.sub v x)) (O.mul p.y hhh), O.mul p.z h⟩
/-- Multiples, bit by bit from the highest of n. -/
def tm (p : Jac α) (k n : Nat) : Nat → Jac α
  | 0 => inf O
  | i + 1 => if k / 2 ^ (n - 1 - i) % 2 = 1 then plus O (dbl O (tm p k n i)) p else dbl O (tm p k n i)
def stepR (z : Jac α) : Jac α := if z.z = O.zero then z else dblR O z
def tr (x y : α) (k n : Nat) : Nat → Jac α
  | 0 => ⟨x, y, O.zero⟩
  | i + 1 => if k / 2 ^ (n - 1 - i) % 2 = 1 then plusR O (stepR O (tr x y k n i)) x y else stepR O (tr x y k n i)
def alike (p q : Jac α) : Prop := (p.z = O.zero ∧ q.z = O.zero) ∨ (p = q ∧ q.z ≠ O.zero)
variable {O}
theorem dbl_inf (L : Laws O) {p : Jac α} (h : p.z = O.zero ∨ p.y = O.zero) : (dbl O p).z = O.zero := by
  show O.add (O.mul p.y p.z) (O.mul p.y p.z) = O.zero
  rcases h with h | h
  · rw [h, L.mul_zero, L.add_zero]
  · rw [h, L.zero_mul, L.add_zero]
theorem alike_eq (p : Jac α) : alike O p p := by
  by_cases h : p.z = O.zero
  · exact .inl ⟨h, h⟩
  · exact .inr ⟨rfl, h⟩
theorem dbl_dblR (L : Laws O) (p : Jac α) : alike O (dbl O p) (dblR O p) := by
  unfold dblR
  split
  · rename_i h; exact .inl ⟨dbl_inf L h, rfl⟩
  · exact alike_eq _
theorem dbl_alike (L : Laws O) {p q : Jac α} (h : alike O p q) : alike O (dbl O p) (stepR O q) := by
  unfold stepR
  rcases h with ⟨h1, h2⟩ | ⟨rfl, h⟩
  · rw [if_pos h2]; exact .inl ⟨dbl_inf L (.inl h1), h2⟩
  · rw [if_neg h]; exact dbl_dblR L p
theorem plus_alike (L : Laws O) {p q : Jac α} (x y : α) (h : alike O p q) : alike O (plus O p ⟨x, y, O.one⟩) (plusR O q x y) := by
  rcases h with ⟨h1, h2⟩ | ⟨rfl, h⟩
  · unfold plus plusR
    rw [if_pos h1, if_pos h2]
    exact alike_eq _
  · have e1 : O.mul O.one O.one = O.one := L.mul_one _
    unfold plus plusR
    rw [if_neg h, if_neg h, if_neg L.ne]
    simp only [e1, L.mul_one, L.assoc]
    by_cases hx : p.x = O.mul x (O.mul p.z p.z)
    · rw [if_pos hx, if_pos ((L.sub_zero _ _).2 hx.symm)]
      by_cases hy : p.y = O.mul y (O.mul p.z (O.mul p.z p.z))
      · rw [if_pos hy, if_pos ((L.sub_zero _ _).2 hy.symm)]
        exact dbl_dblR L p
      · rw [if_neg hy, if_neg (fun e => hy ((L.sub_zero _ _).1 e).symm)]
        exact .inl ⟨rfl, rfl⟩
    · rw [if_neg hx, if_neg (fun e => hx ((L.sub_zero _ _).1 e).symm)]
      exact alike_eq _
theorem tm_alike (L : Laws O) (x y : α) (k n : Nat) : ∀ i, alike O (tm O ⟨x, y, O.one⟩ k n i) (tr O x y k n i)
  | 0 => .inl ⟨rfl, rfl⟩
  | i + 1 => by
    have ih := dbl_alike L (tm_alike L x y k n i)
    rw [tm, tr]
    split
    · exact plus_alike L x y ih
    · exact ih
end Cv
namespace Cv
variable {α : Type} [DecidableEq α] (O : Ops α)
/-- Points: none at infinity. -/
abbrev Pt (α : Type) := Option (α × α)
def up : Pt α → Jac α
  | none => inf O
  | some (x, y) => ⟨x, y, O.one⟩
def down (p : Jac α) : Pt α := if p.z = O.zero then none else
  some (O.mul p.x (O.mul (O.inv p.z) (O.inv p.z)), O.mul (O.mul p.y (O.mul (O.inv p.z) (O.inv p.z))) (O.inv p.z))
/-- The reference's sum. -/
def slope (x1 y1 s x2 : α) : Pt α :=
  let x := O.sub (O.sub (O.mul s s) x1) x2
  some (x, O.sub (O.mul s (O.sub x1 x)) y1)
def sumR : Pt α → Pt α → Pt α
  | none, q => q
  | p, none => p
  | some (x1, y1), some (x2, y2) => if x1 = x2 then (if O.add y1 y2 = O.zero then none else
      slope O x1 y1 (O.mul (O.add (O.add (O.mul x1 x1) (O.mul x1 x1)) (O.mul x1 x1)) (O.inv (O.add y1 y1))) x2)
    else slope O x1 y1 (O.mul (O.sub y2 y1) (O.inv (O.sub x2 x1))) x2
def onC (b : α) : Pt α → Prop
  | none => True
  | some (x, y) => O.mul y y = O.add (O.mul (O.mul x x) x) b

section F1
variable {p : Nat} [NeZero p]
def ops1 (inv : Fin p → Fin p) : Ops (Fin p) := ⟨(· + ·), (· - ·), (· * ·), inv, 0, 1⟩
theorem laws1 (inv : Fin p → Fin p) (hp : (1 : Fin p) ≠ 0) : Laws (ops1 inv) where
  mul_one a := by show a * 1 = a; grind
  one_mul a := by show 1 * a = a; grind
  mul_zero a := by show a * 0 = 0; grind
  zero_mul a := by show 0 * a = 0; grind
  add_zero := by show (0 : Fin p) + 0 = 0; grind
  assoc a b c := by show a * b * c = a * (b * c); grind
  sub_zero a b := by show a - b = 0 ↔ a = b; constructor <;> intro h <;> grind
  ne := hp
theorem add1 (inv : Fin p → Fin p) (hp : (1 : Fin p) ≠ 0) (hinv : ∀ a : Fin p, a ≠ 0 → a * inv a = 1) (b : Fin p) : ∀ P Q : Pt (Fin p), onC (ops1 inv) b P → onC (ops1 inv) b Q → down (ops1 inv) (plus (ops1 inv) (up (ops1 inv) P) (up (ops1 inv) Q)) = sumR (ops1 inv) P Q := by
  have h1 : inv 1 = 1 := by have := hinv 1 hp; grind
  have dd : ∀ Q : Pt (Fin p), down (ops1 inv) (up (ops1 inv) Q) = Q := by
    rintro (_ | ⟨x, y⟩)
    · rfl
    · show (if (1 : Fin p) = 0 then none else some (x * (inv 1 * inv 1), y * (inv 1 * inv 1) * inv 1)) = _
      rw [if_neg hp, h1]
      simp only [Option.some.injEq, Prod.mk.injEq]
      constructor <;> grind
  rintro (_ | ⟨x1, y1⟩) (_ | ⟨x2, y2⟩) hP hQ
  · exact dd none
  · exact dd (some (x2, y2))
  · show down _ (if (1 : Fin p) = 0 then inf (ops1 inv) else if (0 : Fin p) = 0 then ⟨x1, y1, 1⟩ else _) = _
    rw [if_neg hp, if_pos rfl]
    exact dd (some (x1, y1))
  · have hP : y1 * y1 = x1 * x1 * x1 + b := hP
    have hQ : y2 * y2 = x2 * x2 * x2 + b := hQ
    simp only [plus, up, ops1, dbl, inf, down, sumR, slope, hp, if_false]
    by_cases hx : x1 = x2
    · subst hx
      by_cases hy : y1 = y2
      · subst hy
        by_cases hz : y1 + y1 = 0
        · have : y1 * 1 + y1 * 1 = 0 := by grind
          simp [hz, this]
        · have hz1 : ¬ y1 * 1 + y1 * 1 = 0 := by grind
          have e : y1 * 1 + y1 * 1 = y1 + y1 := by grind
          have hi := hinv (y1 + y1) hz
          simp only [hz1, hz, if_true, if_false, e, Option.some.injEq, Prod.mk.injEq, and_self]
          generalize inv (y1 + y1) = i at *
          constructor <;> grind
      · have hz : y1 + y2 = 0 := by
          apply Classical.byContradiction
          intro hz
          have h2 := hinv _ hz
          have h3 := hinv (y1 - y2) (by grind)
          generalize inv (y1 + y2) = i at *
          generalize inv (y1 - y2) = j at *
          have : (y1 + y2) * (y1 - y2) = 0 := by grind
          grind
        have h2 : ¬ y1 * (1 * 1) * 1 = y2 * (1 * 1) * 1 := by grind
        simp [hz, h2]
    · have h2 : ¬ x1 * (1 * 1) = x2 * (1 * 1) := by grind
      have hd : x2 - x1 ≠ 0 := by grind
      have e : 1 * 1 * (x2 * (1 * 1) - x1 * (1 * 1)) = x2 - x1 := by grind
      have hi := hinv _ hd
      simp only [hx, h2, hd, e, if_false, Option.some.injEq, Prod.mk.injEq]
      generalize inv (x2 - x1) = i at *
      constructor <;> grind
end F1
end Cv
namespace Cv
structure F2 (p : Nat) where
  a : Fin p
  b : Fin p
  deriving DecidableEq
section
variable {p : Nat} [NeZero p]
def ops2 (inv : F2 p → F2 p) : Ops (F2 p) := ⟨fun x y => ⟨x.a + y.a, x.b + y.b⟩, fun x y => ⟨x.a - y.a, x.b - y.b⟩, fun x y => ⟨x.a * y.a - x.b * y.b, x.a * y.b + x.b * y.a⟩, inv, ⟨0, 0⟩, ⟨1, 0⟩⟩
theorem laws2 (inv : F2 p → F2 p) (hp : (1 : Fin p) ≠ 0) : Laws (ops2 inv) where
  mul_one := by rintro ⟨a, b⟩; show F2.mk (a * 1 - b * 0) (a * 0 + b * 1) = ⟨a, b⟩; simp only [F2.mk.injEq]; constructor <;> grind
  one_mul := by rintro ⟨a, b⟩; show F2.mk (1 * a - 0 * b) (1 * b + 0 * a) = ⟨a, b⟩; simp only [F2.mk.injEq]; constructor <;> grind
  mul_zero := by rintro ⟨a, b⟩; show F2.mk (a * 0 - b * 0) (a * 0 + b * 0) = ⟨0, 0⟩; simp only [F2.mk.injEq]; constructor <;> grind
  zero_mul := by rintro ⟨a, b⟩; show F2.mk (0 * a - 0 * b) (0 * b + 0 * a) = ⟨0, 0⟩; simp only [F2.mk.injEq]; constructor <;> grind
  add_zero := by show F2.mk ((0 : Fin p) + 0) (0 + 0) = ⟨0, 0⟩; simp only [F2.mk.injEq]; constructor <;> grind
  assoc := by
    rintro ⟨a, b⟩ ⟨c, d⟩ ⟨e, f⟩
    show F2.mk ((a * c - b * d) * e - (a * d + b * c) * f) ((a * c - b * d) * f + (a * d + b * c) * e) = ⟨a * (c * e - d * f) - b * (c * f + d * e), a * (c * f + d * e) + b * (c * e - d * f)⟩
    simp only [F2.mk.injEq]; constructor <;> grind
  sub_zero := by
    rintro ⟨a, b⟩ ⟨c, d⟩
    show F2.mk (a - c) (b - d) = ⟨0, 0⟩ ↔ F2.mk a b = ⟨c, d⟩
    simp only [F2.mk.injEq]; constructor <;> rintro ⟨h1, h2⟩ <;> constructor <;> grind
  ne := by
    show F2.mk (1 : Fin p) 0 ≠ ⟨0, 0⟩
    simp only [ne_eq, F2.mk.injEq, not_and]
    intro h; exact absurd h hp
theorem add2 (inv : F2 p → F2 p) (hp : (1 : Fin p) ≠ 0) (hinv : ∀ a : F2 p, a ≠ ⟨0, 0⟩ → (ops2 inv).mul a (inv a) = ⟨1, 0⟩) (b : F2 p) : ∀ P Q : Pt (F2 p), onC (ops2 inv) b P → onC (ops2 inv) b Q → down (ops2 inv) (plus (ops2 inv) (up (ops2 inv) P) (up (ops2 inv) Q)) = sumR (ops2 inv) P Q := by
  have hp2 : (F2.mk (1 : Fin p) 0 = ⟨0, 0⟩) = False := by simp [hp]
  have h1 : inv ⟨1, 0⟩ = ⟨1, 0⟩ := by
    have := hinv ⟨1, 0⟩ (by simp [hp])
    generalize inv ⟨1, 0⟩ = i at *
    obtain ⟨i0, i1⟩ := i
    simp only [ops2, F2.mk.injEq] at *
    obtain ⟨e1, e2⟩ := this
    constructor <;> grind
  have dd : ∀ Q : Pt (F2 p), down (ops2 inv) (up (ops2 inv) Q) = Q := by
    rintro (_ | ⟨⟨x0, x1⟩, ⟨y0, y1⟩⟩)
    · rfl
    · simp only [down, up, ops2, hp2, if_false, h1, Option.some.injEq, Prod.mk.injEq, F2.mk.injEq]
      refine ⟨⟨?_, ?_⟩, ?_, ?_⟩ <;> grind
  rintro (_ | ⟨x1, y1⟩) (_ | ⟨x2, y2⟩) hP hQ
  · exact dd none
  · exact dd (some (x2, y2))
  · show down _ (if F2.mk (1 : Fin p) 0 = ⟨0, 0⟩ then inf (ops2 inv) else if F2.mk (0 : Fin p) 0 = ⟨0, 0⟩ then ⟨x1, y1, ⟨1, 0⟩⟩ else _) = _
    rw [if_neg (by simp [hp]), if_pos rfl]
    exact dd (some (x1, y1))
  · obtain ⟨a0, a1⟩ := x1
    obtain ⟨b0, b1⟩ := y1
    obtain ⟨c0, c1⟩ := x2
    obtain ⟨d0, d1⟩ := y2
    obtain ⟨k0, k1⟩ := b
    simp only [onC, ops2, F2.mk.injEq] at hP hQ
    obtain ⟨p0, p1⟩ := hP
    obtain ⟨q0, q1⟩ := hQ
    simp only [plus, up, ops2, dbl, inf, down, sumR, slope, hp2, if_false, F2.mk.injEq]
    by_cases hx : a0 = c0 ∧ a1 = c1
    · obtain ⟨rfl, rfl⟩ := hx
      by_cases hy : b0 = d0 ∧ b1 = d1
      · obtain ⟨rfl, rfl⟩ := hy
        by_cases hz : b0 + b0 = 0 ∧ b1 + b1 = 0
        · obtain ⟨z0, z1⟩ := hz
          have e0 : b0 * 1 - b1 * 0 + (b0 * 1 - b1 * 0) = 0 := by grind
          have e1 : b0 * 0 + b1 * 1 + (b0 * 0 + b1 * 1) = 0 := by grind
          simp [z0, z1, e0, e1]
        · have e0 : b0 * 1 - b1 * 0 + (b0 * 1 - b1 * 0) = b0 + b0 := by grind
          have e1 : b0 * 0 + b1 * 1 + (b0 * 0 + b1 * 1) = b1 + b1 := by grind
          have hi := hinv ⟨b0 + b0, b1 + b1⟩ (by simp only [ne_eq, F2.mk.injEq]; exact hz)
          simp only [e0, e1, hz, if_true, if_false, and_self, Option.some.injEq, Prod.mk.injEq, F2.mk.injEq]
          generalize inv ⟨b0 + b0, b1 + b1⟩ = i at *
          obtain ⟨i0, i1⟩ := i
          simp only [ops2, F2.mk.injEq] at hi
          obtain ⟨hi0, hi1⟩ := hi
          refine ⟨⟨?_, ?_⟩, ?_, ?_⟩ <;> grind
      · have hz : b0 + d0 = 0 ∧ b1 + d1 = 0 := by
          apply Classical.byContradiction
          intro hz
          have h2 := hinv ⟨b0 + d0, b1 + d1⟩ (by simp only [ne_eq, F2.mk.injEq]; exact hz)
          have h3 := hinv ⟨b0 - d0, b1 - d1⟩ (by simp only [ne_eq, F2.mk.injEq]; rintro ⟨e1, e2⟩; exact hy ⟨by grind, by grind⟩)
          generalize inv ⟨b0 + d0, b1 + d1⟩ = i at *
          generalize inv ⟨b0 - d0, b1 - d1⟩ = j at *
          obtain ⟨i0, i1⟩ := i
          obtain ⟨j0, j1⟩ := j
          simp only [ops2, F2.mk.injEq] at h2 h3
          obtain ⟨h20, h21⟩ := h2
          obtain ⟨h30, h31⟩ := h3
          have m0 : (b0 + d0) * (b0 - d0) - (b1 + d1) * (b1 - d1) = 0 := by grind
          have m1 : (b0 + d0) * (b1 - d1) + (b1 + d1) * (b0 - d0) = 0 := by grind
          apply hp
          generalize b0 + d0 = u0 at *
          generalize b1 + d1 = u1 at *
          generalize b0 - d0 = v0 at *
          generalize b1 - d1 = v1 at *
          clear p0 p1 q0 q1
          grind
        have h2 : ¬ (b0 = d0 ∧ b1 = d1) := hy
        have h3 : ¬ ((b0 * (1 * 1 - 0 * 0) - b1 * (1 * 0 + 0 * 1)) * 1 - (b0 * (1 * 0 + 0 * 1) + b1 * (1 * 1 - 0 * 0)) * 0 = (d0 * (1 * 1 - 0 * 0) - d1 * (1 * 0 + 0 * 1)) * 1 - (d0 * (1 * 0 + 0 * 1) + d1 * (1 * 1 - 0 * 0)) * 0 ∧
            (b0 * (1 * 1 - 0 * 0) - b1 * (1 * 0 + 0 * 1)) * 0 + (b0 * (1 * 0 + 0 * 1) + b1 * (1 * 1 - 0 * 0)) * 1 = (d0 * (1 * 1 - 0 * 0) - d1 * (1 * 0 + 0 * 1)) * 0 + (d0 * (1 * 0 + 0 * 1) + d1 * (1 * 1 - 0 * 0)) * 1) := by
          rintro ⟨e1, e2⟩; exact hy ⟨by grind, by grind⟩
        simp only [hz, h3, if_true, if_false, and_self]
    · have h3 : ¬ (a0 * (1 * 1 - 0 * 0) - a1 * (1 * 0 + 0 * 1) = c0 * (1 * 1 - 0 * 0) - c1 * (1 * 0 + 0 * 1) ∧ a0 * (1 * 0 + 0 * 1) + a1 * (1 * 1 - 0 * 0) = c0 * (1 * 0 + 0 * 1) + c1 * (1 * 1 - 0 * 0)) := by
        rintro ⟨e1, e2⟩; exact hx ⟨by grind, by grind⟩
      have hd : ¬ (c0 - a0 = 0 ∧ c1 - a1 = 0) := by
        rintro ⟨e1, e2⟩; exact hx ⟨by grind, by grind⟩
      have hi := hinv ⟨c0 - a0, c1 - a1⟩ (by simp only [ne_eq, F2.mk.injEq]; exact hd)
      have ez0 : (1 * 1 - 0 * 0) * (c0 * (1 * 1 - 0 * 0) - c1 * (1 * 0 + 0 * 1) - (a0 * (1 * 1 - 0 * 0) - a1 * (1 * 0 + 0 * 1))) - (1 * 0 + 0 * 1) * (c0 * (1 * 0 + 0 * 1) + c1 * (1 * 1 - 0 * 0) - (a0 * (1 * 0 + 0 * 1) + a1 * (1 * 1 - 0 * 0))) = c0 - a0 := by grind
      have ez1 : (1 * 1 - 0 * 0) * (c0 * (1 * 0 + 0 * 1) + c1 * (1 * 1 - 0 * 0) - (a0 * (1 * 0 + 0 * 1) + a1 * (1 * 1 - 0 * 0))) + (1 * 0 + 0 * 1) * (c0 * (1 * 1 - 0 * 0) - c1 * (1 * 0 + 0 * 1) - (a0 * (1 * 1 - 0 * 0) - a1 * (1 * 0 + 0 * 1))) = c1 - a1 := by grind
      simp only [hx, h3, ez0, ez1, hd, if_false, Option.some.injEq, Prod.mk.injEq, F2.mk.injEq]
      generalize inv ⟨c0 - a0, c1 - a1⟩ = i at *
      obtain ⟨i0, i1⟩ := i
      simp only [ops2, F2.mk.injEq] at hi
      obtain ⟨hi0, hi1⟩ := hi
      clear p0 p1 q0 q1 ez0 ez1
      refine ⟨⟨?_, ?_⟩, ?_, ?_⟩ <;> grind
end
end Cv
end
section
set_option linter.unusedVariables false
set_option linter.unusedSimpArgs false
namespace Go.Proofs.YtmholgclgamnnaaGreat
open Go Eng
set_option maxRecDepth 100000
set_option exponentiation.threshold 2000
set_option maxHeartbeats 4000000
/-- A field's elements as cells: what a walk is not to open. -/
structure Kd (α : Type) where
  O : Cv.Ops α
  w : α → Nat → Int
theorem eqs_dec {A : Ar} (hA : A = Ar.real) {l : List (AVal × AVal)} {p : Prop} [Decidable p] (h : l.all leafEq = true ↔ p) : A.eqs l = decide p := by
  rw [hA]
  show l.all leafEq = _
  by_cases hp : p
  · rw [decide_eq_true hp]; exact h.2 hp
  · rw [decide_eq_false hp]; exact Bool.eq_false_iff.2 fun e => hp (h.1 e)
def Eb4 {α : Type} (K : Kd α) (a : α) : AVal := .agg [.s .u64 (K.w a 0), .s .u64 (K.w a 1), .s .u64 (K.w a 2), .s .u64 (K.w a 3)]
def Jb4 {α : Type} (K : Kd α) (p : Cv.Jac α) : AVal := .agg [.s .u64 (K.w p.x 0), .s .u64 (K.w p.x 1), .s .u64 (K.w p.x 2), .s .u64 (K.w p.x 3), .s .u64 (K.w p.y 0), .s .u64 (K.w p.y 1), .s .u64 (K.w p.y 2), .s .u64 (K.w p.y 3), .s .u64 (K.w p.z 0), .s .u64 (K.w p.z 1), .s .u64 (K.w p.z 2), .s .u64 (K.w p.z 3)]
structure Okb4 {α : Type} (K : Kd α) (r : List AVal) : Prop where
  add : ∀ a b, Sp 262 [.agg [.ref r 0], Eb4 K a, Eb4 K b] (Eb4 K (K.O.add a b))
  sub : ∀ a b, Sp 265 [.agg [.ref r 0], Eb4 K a, Eb4 K b] (Eb4 K (K.O.sub a b))
  mul : ∀ a b, Sp 264 [.agg [.ref r 0], Eb4 K a, Eb4 K b] (Eb4 K (K.O.mul a b))
  inv : ∀ a, Sp 263 [.agg [.ref r 0], Eb4 K a] (Eb4 K (K.O.inv a))
  zero : ∀ i, i < 4 → K.w K.O.zero i = 0
  sim : ∀ d, simL (simD (d + 1)) r r
  inj : ∀ a b, K.w a 0 = K.w b 0 ∧ K.w a 1 = K.w b 1 ∧ K.w a 2 = K.w b 2 ∧ K.w a 3 = K.w b 3 → a = b
theorem Okb4.eq {α : Type} [DecidableEq α] {K : Kd α} {r : List AVal} (hK : Okb4 K r) {A : Ar} (hA : A = Ar.real) (a b : α) : A.eqs [(.s .u64 (K.w a 0), .s .u64 (K.w b 0)), (.s .u64 (K.w a 1), .s .u64 (K.w b 1)), (.s .u64 (K.w a 2), .s .u64 (K.w b 2)), (.s .u64 (K.w a 3), .s .u64 (K.w b 3))] = decide (a = b) := by
  have h0 : ∀ x y : Int, leafEq (.s .u64 x, .s .u64 y) = (x == y) := fun x y => rfl
  refine eqs_dec hA ⟨fun h => hK.inj a b ?_, fun h => ?_⟩
  · simpa only [List.all_cons, List.all_nil, h0, beq_iff_eq, Bool.and_eq_true, and_true] using h
  · subst h; simp only [List.all_cons, List.all_nil, h0, beq_iff_eq, Bool.and_eq_true, and_true, and_self]
theorem Okb4.eqz {α : Type} [DecidableEq α] {K : Kd α} {r : List AVal} (hK : Okb4 K r) {A : Ar} (hA : A = Ar.real) (a : α) : A.eqs [(.s .u64 (K.w a 0), .i .u64 0), (.s .u64 (K.w a 1), .i .u64 0), (.s .u64 (K.w a 2), .i .u64 0), (.s .u64 (K.w a 3), .i .u64 0)] = decide (a = K.O.zero) := by
  have h0 : ∀ x : Int, leafEq (.s .u64 x, .i .u64 0) = (x == 0) := fun x => rfl
  refine eqs_dec hA ⟨fun h => hK.inj a _ ?_, fun h => ?_⟩
  · have z := hK.zero
    have e := fun i (hi : i < 4) => (z i hi).symm
    simp only [List.all_cons, List.all_nil, h0, beq_iff_eq, Bool.and_eq_true, and_true] at h
    obtain ⟨h0, h1, h2, h3⟩ := h
    exact ⟨h0.trans (e 0 (by decide)), h1.trans (e 1 (by decide)), h2.trans (e 2 (by decide)), h3.trans (e 3 (by decide))⟩
  · subst h
    simp only [List.all_cons, List.all_nil, h0, beq_iff_eq, Bool.and_eq_true, and_true]
    exact ⟨hK.zero 0 (by decide), hK.zero 1 (by decide), hK.zero 2 (by decide), hK.zero 3 (by decide)⟩
def Et4 {α : Type} (K : Kd α) (a : α) : AVal := .agg [.s .u64 (K.w a 0), .s .u64 (K.w a 1), .s .u64 (K.w a 2), .s .u64 (K.w a 3), .s .u64 (K.w a 4), .s .u64 (K.w a 5), .s .u64 (K.w a 6), .s .u64 (K.w a 7)]
def Jt4 {α : Type} (K : Kd α) (p : Cv.Jac α) : AVal := .agg [.s .u64 (K.w p.x 0), .s .u64 (K.w p.x 1), .s .u64 (K.w p.x 2), .s .u64 (K.w p.x 3), .s .u64 (K.w p.x 4), .s .u64 (K.w p.x 5), .s .u64 (K.w p.x 6), .s .u64 (K.w p.x 7), .s .u64 (K.w p.y 0), .s .u64 (K.w p.y 1), .s .u64 (K.w p.y 2), .s .u64 (K.w p.y 3), .s .u64 (K.w p.y 4), .s .u64 (K.w p.y 5), .s .u64 (K.w p.y 6), .s .u64 (K.w p.y 7), .s .u64 (K.w p.z 0), .s .u64 (K.w p.z 1), .s .u64 (K.w p.z 2), .s .u64 (K.w p.z 3), .s .u64 (K.w p.z 4), .s .u64 (K.w p.z 5), .s .u64 (K.w p.z 6), .s .u64 (K.w p.z 7)]
structure Okt4 {α : Type} (K : Kd α) (r : List AVal) : Prop where
  add : ∀ a b, Sp 260 [.agg [.ref r 0], Et4 K a, Et4 K b] (Et4 K (K.O.add a b))
  sub : ∀ a b, Sp 261 [.agg [.ref r 0], Et4 K a, Et4 K b] (Et4 K (K.O.sub a b))
  mul : ∀ a b, Sp 103 [.agg [.ref r 0], Et4 K a, Et4 K b] (Et4 K (K.O.mul a b))
  inv : ∀ a, Sp 104 [.agg [.ref r 0], Et4 K a] (Et4 K (K.O.inv a))
  zero : ∀ i, i < 8 → K.w K.O.zero i = 0
  sim : ∀ d, simL (simD (d + 1)) r r
  inj : ∀ a b, K.w a 0 = K.w b 0 ∧ K.w a 1 = K.w b 1 ∧ K.w a 2 = K.w b 2 ∧ K.w a 3 = K.w b 3 ∧ K.w a 4 = K.w b 4 ∧ K.w a 5 = K.w b 5 ∧ K.w a 6 = K.w b 6 ∧ K.w a 7 = K.w b 7 → a = b
theorem Okt4.eq {α : Type} [DecidableEq α] {K : Kd α} {r : List AVal} (hK : Okt4 K r) {A : Ar} (hA : A = Ar.real) (a b : α) : A.eqs [(.s .u64 (K.w a 0), .s .u64 (K.w b 0)), (.s .u64 (K.w a 1), .s .u64 (K.w b 1)), (.s .u64 (K.w a 2), .s .u64 (K.w b 2)), (.s .u64 (K.w a 3), .s .u64 (K.w b 3)), (.s .u64 (K.w a 4), .s .u64 (K.w b 4)), (.s .u64 (K.w a 5), .s .u64 (K.w b 5)), (.s .u64 (K.w a 6), .s .u64 (K.w b 6)), (.s .u64 (K.w a 7), .s .u64 (K.w b 7))] = decide (a = b) := by
  have h0 : ∀ x y : Int, leafEq (.s .u64 x, .s .u64 y) = (x == y) := fun x y => rfl
  refine eqs_dec hA ⟨fun h => hK.inj a b ?_, fun h => ?_⟩
  · simpa only [List.all_cons, List.all_nil, h0, beq_iff_eq, Bool.and_eq_true, and_true] using h
  · subst h; simp only [List.all_cons, List.all_nil, h0, beq_iff_eq, Bool.and_eq_true, and_true, and_self]
theorem Okt4.eqz {α : Type} [DecidableEq α] {K : Kd α} {r : List AVal} (hK : Okt4 K r) {A : Ar} (hA : A = Ar.real) (a : α) : A.eqs [(.s .u64 (K.w a 0), .i .u64 0), (.s .u64 (K.w a 1), .i .u64 0), (.s .u64 (K.w a 2), .i .u64 0), (.s .u64 (K.w a 3), .i .u64 0), (.s .u64 (K.w a 4), .i .u64 0), (.s .u64 (K.w a 5), .i .u64 0), (.s .u64 (K.w a 6), .i .u64 0), (.s .u64 (K.w a 7), .i .u64 0)] = decide (a = K.O.zero) := by
  have h0 : ∀ x : Int, leafEq (.s .u64 x, .i .u64 0) = (x == 0) := fun x => rfl
  refine eqs_dec hA ⟨fun h => hK.inj a _ ?_, fun h => ?_⟩
  · have z := hK.zero
    have e := fun i (hi : i < 8) => (z i hi).symm
    simp only [List.all_cons, List.all_nil, h0, beq_iff_eq, Bool.and_eq_true, and_true] at h
    obtain ⟨h0, h1, h2, h3, h4, h5, h6, h7⟩ := h
    exact ⟨h0.trans (e 0 (by decide)), h1.trans (e 1 (by decide)), h2.trans (e 2 (by decide)), h3.trans (e 3 (by decide)), h4.trans (e 4 (by decide)), h5.trans (e 5 (by decide)), h6.trans (e 6 (by decide)), h7.trans (e 7 (by decide))⟩
  · subst h
    simp only [List.all_cons, List.all_nil, h0, beq_iff_eq, Bool.and_eq_true, and_true]
    exact ⟨hK.zero 0 (by decide), hK.zero 1 (by decide), hK.zero 2 (by decide), hK.zero 3 (by decide), hK.zero 4 (by decide), hK.zero 5 (by decide), hK.zero 6 (by decide), hK.zero 7 (by decide)⟩
def Eb6 {α : Type} (K : Kd α) (a : α) : AVal := .agg [.s .u64 (K.w a 0), .s .u64 (K.w a 1), .s .u64 (K.w a 2), .s .u64 (K.w a 3), .s .u64 (K.w a 4), .s .u64 (K.w a 5)]
def Jb6 {α : Type} (K : Kd α) (p : Cv.Jac α) : AVal := .agg [.s .u64 (K.w p.x 0), .s .u64 (K.w p.x 1), .s .u64 (K.w p.x 2), .s .u64 (K.w p.x 3), .s .u64 (K.w p.x 4), .s .u64 (K.w p.x 5), .s .u64 (K.w p.y 0), .s .u64 (K.w p.y 1), .s .u64 (K.w p.y 2), .s .u64 (K.w p.y 3), .s .u64 (K.w p.y 4), .s .u64 (K.w p.y 5), .s .u64 (K.w p.z 0), .s .u64 (K.w p.z 1), .s .u64 (K.w p.z 2), .s .u64 (K.w p.z 3), .s .u64 (K.w p.z 4), .s .u64 (K.w p.z 5)]
structure Okb6 {α : Type} (K : Kd α) (r : List AVal) : Prop where
  add : ∀ a b, Sp 251 [.agg [.ref r 0], Eb6 K a, Eb6 K b] (Eb6 K (K.O.add a b))
  sub : ∀ a b, Sp 254 [.agg [.ref r 0], Eb6 K a, Eb6 K b] (Eb6 K (K.O.sub a b))
  mul : ∀ a b, Sp 253 [.agg [.ref r 0], Eb6 K a, Eb6 K b] (Eb6 K (K.O.mul a b))
  inv : ∀ a, Sp 252 [.agg [.ref r 0], Eb6 K a] (Eb6 K (K.O.inv a))
  zero : ∀ i, i < 6 → K.w K.O.zero i = 0
  sim : ∀ d, simL (simD (d + 1)) r r
  inj : ∀ a b, K.w a 0 = K.w b 0 ∧ K.w a 1 = K.w b 1 ∧ K.w a 2 = K.w b 2 ∧ K.w a 3 = K.w b 3 ∧ K.w a 4 = K.w b 4 ∧ K.w a 5 = K.w b 5 → a = b
theorem Okb6.eq {α : Type} [DecidableEq α] {K : Kd α} {r : List AVal} (hK : Okb6 K r) {A : Ar} (hA : A = Ar.real) (a b : α) : A.eqs [(.s .u64 (K.w a 0), .s .u64 (K.w b 0)), (.s .u64 (K.w a 1), .s .u64 (K.w b 1)), (.s .u64 (K.w a 2), .s .u64 (K.w b 2)), (.s .u64 (K.w a 3), .s .u64 (K.w b 3)), (.s .u64 (K.w a 4), .s .u64 (K.w b 4)), (.s .u64 (K.w a 5), .s .u64 (K.w b 5))] = decide (a = b) := by
  have h0 : ∀ x y : Int, leafEq (.s .u64 x, .s .u64 y) = (x == y) := fun x y => rfl
  refine eqs_dec hA ⟨fun h => hK.inj a b ?_, fun h => ?_⟩
  · simpa only [List.all_cons, List.all_nil, h0, beq_iff_eq, Bool.and_eq_true, and_true] using h
  · subst h; simp only [List.all_cons, List.all_nil, h0, beq_iff_eq, Bool.and_eq_true, and_true, and_self]
theorem Okb6.eqz {α : Type} [DecidableEq α] {K : Kd α} {r : List AVal} (hK : Okb6 K r) {A : Ar} (hA : A = Ar.real) (a : α) : A.eqs [(.s .u64 (K.w a 0), .i .u64 0), (.s .u64 (K.w a 1), .i .u64 0), (.s .u64 (K.w a 2), .i .u64 0), (.s .u64 (K.w a 3), .i .u64 0), (.s .u64 (K.w a 4), .i .u64 0), (.s .u64 (K.w a 5), .i .u64 0)] = decide (a = K.O.zero) := by
  have h0 : ∀ x : Int, leafEq (.s .u64 x, .i .u64 0) = (x == 0) := fun x => rfl
  refine eqs_dec hA ⟨fun h => hK.inj a _ ?_, fun h => ?_⟩
  · have z := hK.zero
    have e := fun i (hi : i < 6) => (z i hi).symm
    simp only [List.all_cons, List.all_nil, h0, beq_iff_eq, Bool.and_eq_true, and_true] at h
    obtain ⟨h0, h1, h2, h3, h4, h5⟩ := h
    exact ⟨h0.trans (e 0 (by decide)), h1.trans (e 1 (by decide)), h2.trans (e 2 (by decide)), h3.trans (e 3 (by decide)), h4.trans (e 4 (by decide)), h5.trans (e 5 (by decide))⟩
  · subst h
    simp only [List.all_cons, List.all_nil, h0, beq_iff_eq, Bool.and_eq_true, and_true]
    exact ⟨hK.zero 0 (by decide), hK.zero 1 (by decide), hK.zero 2 (by decide), hK.zero 3 (by decide), hK.zero 4 (by decide), hK.zero 5 (by decide)⟩
def Et6 {α : Type} (K : Kd α) (a : α) : AVal := .agg [.s .u64 (K.w a 0), .s .u64 (K.w a 1), .s .u64 (K.w a 2), .s .u64 (K.w a 3), .s .u64 (K.w a 4), .s .u64 (K.w a 5), .s .u64 (K.w a 6), .s .u64 (K.w a 7), .s .u64 (K.w a 8), .s .u64 (K.w a 9), .s .u64 (K.w a 10), .s .u64 (K.w a 11)]
def Jt6 {α : Type} (K : Kd α) (p : Cv.Jac α) : AVal := .agg [.s .u64 (K.w p.x 0), .s .u64 (K.w p.x 1), .s .u64 (K.w p.x 2), .s .u64 (K.w p.x 3), .s .u64 (K.w p.x 4), .s .u64 (K.w p.x 5), .s .u64 (K.w p.x 6), .s .u64 (K.w p.x 7), .s .u64 (K.w p.x 8), .s .u64 (K.w p.x 9), .s .u64 (K.w p.x 10), .s .u64 (K.w p.x 11), .s .u64 (K.w p.y 0), .s .u64 (K.w p.y 1), .s .u64 (K.w p.y 2), .s .u64 (K.w p.y 3), .s .u64 (K.w p.y 4), .s .u64 (K.w p.y 5), .s .u64 (K.w p.y 6), .s .u64 (K.w p.y 7), .s .u64 (K.w p.y 8), .s .u64 (K.w p.y 9), .s .u64 (K.w p.y 10), .s .u64 (K.w p.y 11), .s .u64 (K.w p.z 0), .s .u64 (K.w p.z 1), .s .u64 (K.w p.z 2), .s .u64 (K.w p.z 3), .s .u64 (K.w p.z 4), .s .u64 (K.w p.z 5), .s .u64 (K.w p.z 6), .s .u64 (K.w p.z 7), .s .u64 (K.w p.z 8), .s .u64 (K.w p.z 9), .s .u64 (K.w p.z 10), .s .u64 (K.w p.z 11)]
structure Okt6 {α : Type} (K : Kd α) (r : List AVal) : Prop where
  add : ∀ a b, Sp 256 [.agg [.ref r 0], Et6 K a, Et6 K b] (Et6 K (K.O.add a b))
  sub : ∀ a b, Sp 259 [.agg [.ref r 0], Et6 K a, Et6 K b] (Et6 K (K.O.sub a b))
  mul : ∀ a b, Sp 258 [.agg [.ref r 0], Et6 K a, Et6 K b] (Et6 K (K.O.mul a b))
  inv : ∀ a, Sp 257 [.agg [.ref r 0], Et6 K a] (Et6 K (K.O.inv a))
  zero : ∀ i, i < 12 → K.w K.O.zero i = 0
  sim : ∀ d, simL (simD (d + 1)) r r
  inj : ∀ a b, K.w a 0 = K.w b 0 ∧ K.w a 1 = K.w b 1 ∧ K.w a 2 = K.w b 2 ∧ K.w a 3 = K.w b 3 ∧ K.w a 4 = K.w b 4 ∧ K.w a 5 = K.w b 5 ∧ K.w a 6 = K.w b 6 ∧ K.w a 7 = K.w b 7 ∧ K.w a 8 = K.w b 8 ∧ K.w a 9 = K.w b 9 ∧ K.w a 10 = K.w b 10 ∧ K.w a 11 = K.w b 11 → a = b
theorem Okt6.eq {α : Type} [DecidableEq α] {K : Kd α} {r : List AVal} (hK : Okt6 K r) {A : Ar} (hA : A = Ar.real) (a b : α) : A.eqs [(.s .u64 (K.w a 0), .s .u64 (K.w b 0)), (.s .u64 (K.w a 1), .s .u64 (K.w b 1)), (.s .u64 (K.w a 2), .s .u64 (K.w b 2)), (.s .u64 (K.w a 3), .s .u64 (K.w b 3)), (.s .u64 (K.w a 4), .s .u64 (K.w b 4)), (.s .u64 (K.w a 5), .s .u64 (K.w b 5)), (.s .u64 (K.w a 6), .s .u64 (K.w b 6)), (.s .u64 (K.w a 7), .s .u64 (K.w b 7)), (.s .u64 (K.w a 8), .s .u64 (K.w b 8)), (.s .u64 (K.w a 9), .s .u64 (K.w b 9)), (.s .u64 (K.w a 10), .s .u64 (K.w b 10)), (.s .u64 (K.w a 11), .s .u64 (K.w b 11))] = decide (a = b) := by
  have h0 : ∀ x y : Int, leafEq (.s .u64 x, .s .u64 y) = (x == y) := fun x y => rfl
  refine eqs_dec hA ⟨fun h => hK.inj a b ?_, fun h => ?_⟩
  · simpa only [List.all_cons, List.all_nil, h0, beq_iff_eq, Bool.and_eq_true, and_true] using h
  · subst h; simp only [List.all_cons, List.all_nil, h0, beq_iff_eq, Bool.and_eq_true, and_true, and_self]
theorem Okt6.eqz {α : Type} [DecidableEq α] {K : Kd α} {r : List AVal} (hK : Okt6 K r) {A : Ar} (hA : A = Ar.real) (a : α) : A.eqs [(.s .u64 (K.w a 0), .i .u64 0), (.s .u64 (K.w a 1), .i .u64 0), (.s .u64 (K.w a 2), .i .u64 0), (.s .u64 (K.w a 3), .i .u64 0), (.s .u64 (K.w a 4), .i .u64 0), (.s .u64 (K.w a 5), .i .u64 0), (.s .u64 (K.w a 6), .i .u64 0), (.s .u64 (K.w a 7), .i .u64 0), (.s .u64 (K.w a 8), .i .u64 0), (.s .u64 (K.w a 9), .i .u64 0), (.s .u64 (K.w a 10), .i .u64 0), (.s .u64 (K.w a 11), .i .u64 0)] = decide (a = K.O.zero) := by
  have h0 : ∀ x : Int, leafEq (.s .u64 x, .i .u64 0) = (x == 0) := fun x => rfl
  refine eqs_dec hA ⟨fun h => hK.inj a _ ?_, fun h => ?_⟩
  · have z := hK.zero
    have e := fun i (hi : i < 12) => (z i hi).symm
    simp only [List.all_cons, List.all_nil, h0, beq_iff_eq, Bool.and_eq_true, and_true] at h
    obtain ⟨h0, h1, h2, h3, h4, h5, h6, h7, h8, h9, h10, h11⟩ := h
    exact ⟨h0.trans (e 0 (by decide)), h1.trans (e 1 (by decide)), h2.trans (e 2 (by decide)), h3.trans (e 3 (by decide)), h4.trans (e 4 (by decide)), h5.trans (e 5 (by decide)), h6.trans (e 6 (by decide)), h7.trans (e 7 (by decide)), h8.trans (e 8 (by decide)), h9.trans (e 9 (by decide)), h10.trans (e 10 (by decide)), h11.trans (e 11 (by decide))⟩
  · subst h
    simp only [List.all_cons, List.all_nil, h0, beq_iff_eq, Bool.and_eq_true, and_true]
    exact ⟨hK.zero 0 (by decide), hK.zero 1 (by decide), hK.zero 2 (by decide), hK.zero 3 (by decide), hK.zero 4 (by decide), hK.zero 5 (by decide), hK.zero 6 (by decide), hK.zero 7 (by decide), hK.zero 8 (by decide), hK.zero 9 (by decide), hK.zero 10 (by decide), hK.zero 11 (by decide)⟩
end Go.Proofs.YtmholgclgamnnaaGreat
end
