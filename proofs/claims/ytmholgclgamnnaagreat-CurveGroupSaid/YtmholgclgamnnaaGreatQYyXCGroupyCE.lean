import Derived.Test.YtmholgclgamnnaaGreatQYCA
import Derived.Test.YtmholgclgamnnaaGreatQYCC
import Derived.Test.YtmholgclgamnnaaGreatQYD
import Derived.Test.YtmholgclgamnnaaGreatQYCD
import Derived.Test.YtmholgclgamnnaaGreatQYCB
import Derived.Test.YtmholgclgamnnaaGreatQYJ
section
set_option linter.unusedSectionVars false
set_option linter.unusedSimpArgs false
set_option linter.unusedVariables false
namespace Cv
variable {α : Type} [DecidableEq α] (O : Ops α)
variable {O}
theorem dbl_inf (L : Laws O) {p : Jac α} (h : p.z = O.zero ∨ p.y = O.zero) : (dbl O p).z = O.zero := by
  show O.add (O.mul p.y p.z) (O.mul p.y p.z) = O.zero
  rcases h with h | h
  · rw [h, L.mul_zero, L.add_zero]
  · rw [h, L.zero_mul, L.add_zero]
theorem alike_eq (p : Jac α) : alike O p p := by
  by_cases h : p.z = O.zero
  · exact .inl ⟨h, h⟩
  · exact .inr ⟨rfl, h⟩
theorem dbl_dblR (L : Laws O) (p : Jac α) : alike O (dbl O p) (dblR O p) := by
  unfold dblR
  split
  · rename_i h; exact .inl ⟨dbl_inf L h, rfl⟩
  · exact alike_eq _
theorem dbl_alike (L : Laws O) {p q : Jac α} (h : alike O p q) : alike O (dbl O p) (stepR O q) := by
  unfold stepR
  rcases h with ⟨h1, h2⟩ | ⟨rfl, h⟩
  · rw [if_pos h2]; exact .inl ⟨dbl_inf L (.inl h1), h2⟩
  · rw [if_neg h]; exact dbl_dblR L p
theorem plus_alike (L : Laws O) {p q : Jac α} (x y : α) (h : alike O p q) : alike O (plus O p ⟨x, y, O.one⟩) (plusR O q x y) := by
  rcases h with ⟨h1, h2⟩ | ⟨rfl, h⟩
  · unfold plus plusR
    rw [if_pos h1, if_pos h2]
    exact alike_eq _
  · have e1 : O.mul O.one O.one = O.one := L.mul_one _
    unfold plus plusR
    rw [if_neg h, if_neg h, if_neg L.ne]
    simp only [e1, L.mul_one, L.assoc]
    by_cases hx : p.x = O.mul x (O.mul p.z p.z)
    · rw [if_pos hx, if_pos ((L.sub_zero _ _).2 hx.symm)]
      by_cases hy : p.y = O.mul y (O.mul p.z (O.mul p.z p.z))
      · rw [if_pos hy, if_pos ((L.sub_zero _ _).2 hy.symm)]
        exact dbl_dblR L p
      · rw [if_neg hy, if_neg (fun e => hy ((L.sub_zero _ _).1 e).symm)]
        exact .inl ⟨rfl, rfl⟩
    · rw [if_neg hx, if_neg (fun e => hx ((L.sub_zero _ _).1 e).symm)]
      exact alike_eq _
theorem tm_alike (L : Laws O) (x y : α) (k n : Nat) : ∀ i, alike O (tm O ⟨x, y, O.one⟩ k n i) (tr O x y k n i)
  | 0 => .inl ⟨rfl, rfl⟩
  | i + 1 => by
    have ih := dbl_alike L (tm_alike L x y k n i)
    rw [tm, tr]
    split
    · exact plus_alike L x y ih
    · exact ih
end Cv
namespace Cv
variable {α : Type} [DecidableEq α] (O : Ops α)
section F1
variable {p : Nat} [NeZero p]
theorem add1 (inv : Fin p → Fin p) (hp : (1 : Fin p) ≠ 0) (hinv : ∀ a : Fin p, a ≠ 0 → a * inv a = 1) (b : Fin p) : ∀ P Q : Pt (Fin p), onC (ops1 inv) b P → onC (ops1 inv) b Q → down (ops1 inv) (plus (ops1 inv) (up (ops1 inv) P) (up (ops1 inv) Q)) = sumR (ops1 inv) P Q := by
  have h1 : inv 1 = 1 := by have := hinv 1 hp; grind
  have dd : ∀ Q : Pt (Fin p), down (ops1 inv) (up (ops1 inv) Q) = Q := by
    rintro (_ | ⟨x, y⟩)
    · rfl
    · show (if (1 : Fin p) = 0 then none else some (x * (inv 1 * inv 1), y * (inv 1 * inv 1) * inv 1)) = _
      rw [if_neg hp, h1]
      simp only [Option.some.injEq, Prod.mk.injEq]
      constructor <;> grind
  rintro (_ | ⟨x1, y1⟩) (_ | ⟨x2, y2⟩) hP hQ
  · exact dd none
  · exact dd (some (x2, y2))
  · show down _ (if (1 : Fin p) = 0 then inf (ops1 inv) else if (0 : Fin p) = 0 then ⟨x1, y1, 1⟩ else _) = _
    rw [if_neg hp, if_pos rfl]
    exact dd (some (x1, y1))
  · have hP : y1 * y1 = x1 * x1 * x1 + b := hP
    have hQ : y2 * y2 = x2 * x2 * x2 + b := hQ
    simp only [plus, up, ops1, dbl, inf, down, sumR, slope, hp, if_false]
    by_cases hx : x1 = x2
    · subst hx
      by_cases hy : y1 = y2
      · subst hy
        by_cases hz : y1 + y1 = 0
        · have : y1 * 1 + y1 * 1 = 0 := by grind
          simp [hz, this]
        · have hz1 : ¬ y1 * 1 + y1 * 1 = 0 := by grind
          have e : y1 * 1 + y1 * 1 = y1 + y1 := by grind
          have hi := hinv (y1 + y1) hz
          simp only [hz1, hz, if_true, if_false, e, Option.some.injEq, Prod.mk.injEq, and_self]
          generalize inv (y1 + y1) = i at *
          constructor <;> grind
      · have hz : y1 + y2 = 0 := by
          apply Classical.byContradiction
          intro hz
          have h2 := hinv _ hz
          have h3 := hinv (y1 - y2) (by grind)
          generalize inv (y1 + y2) = i at *
          generalize inv (y1 - y2) = j at *
          have : (y1 + y2) * (y1 - y2) = 0 := by grind
          grind
        have h2 : ¬ y1 * (1 * 1) * 1 = y2 * (1 * 1) * 1 := by grind
        simp [hz, h2]
    · have h2 : ¬ x1 * (1 * 1) = x2 * (1 * 1) := by grind
      have hd : x2 - x1 ≠ 0 := by grind
      have e : 1 * 1 * (x2 * (1 * 1) - x1 * (1 * 1)) = x2 - x1 := by grind
      have hi := hinv _ hd
      simp only [hx, h2, hd, e, if_false, Option.some.injEq, Prod.mk.injEq]
      generalize inv (x2 - x1) = i at *
      constructor <;> grind
end F1
end Cv
namespace Cv
section
variable {p : Nat} [NeZero p]
theorem laws2 (inv : F2 p → F2 p) (hp : (1 : Fin p) ≠ 0) : Laws (ops2 inv) where
  mul_one := by rintro ⟨a, b⟩; show F2.mk (a * 1 - b * 0) (a * 0 + b * 1) = ⟨a, b⟩; simp only [F2.mk.injEq]; constructor <;> grind
  one_mul := by rintro ⟨a, b⟩; show F2.mk (1 * a - 0 * b) (1 * b + 0 * a) = ⟨a, b⟩; simp only [F2.mk.injEq]; constructor <;> grind
  mul_zero := by rintro ⟨a, b⟩; show F2.mk (a * 0 - b * 0) (a * 0 + b * 0) = ⟨0, 0⟩; simp only [F2.mk.injEq]; constructor <;> grind
  zero_mul := by rintro ⟨a, b⟩; show F2.mk (0 * a - 0 * b) (0 * b + 0 * a) = ⟨0, 0⟩; simp only [F2.mk.injEq]; constructor <;> grind
  add_zero := by show F2.mk ((0 : Fin p) + 0) (0 + 0) = ⟨0, 0⟩; simp only [F2.mk.injEq]; constructor <;> grind
  assoc := by
    rintro ⟨a, b⟩ ⟨c, d⟩ ⟨e, f⟩
    show F2.mk ((a * c - b * d) * e - (a * d + b * c) * f) ((a * c - b * d) * f + (a * d + b * c) * e) = ⟨a * (c * e - d * f) - b * (c * f + d * e), a * (c * f + d * e) + b * (c * e - d * f)⟩
    simp only [F2.mk.injEq]; constructor <;> grind
  sub_zero := by
    rintro ⟨a, b⟩ ⟨c, d⟩
    show F2.mk (a - c) (b - d) = ⟨0, 0⟩ ↔ F2.mk a b = ⟨c, d⟩
    simp only [F2.mk.injEq]; constructor <;> rintro ⟨h1, h2⟩ <;> constructor <;> grind
  ne := by
    show F2.mk (1 : Fin p) 0 ≠ ⟨0, 0⟩
    simp only [ne_eq, F2.mk.injEq, not_and]
    intro h; exact absurd h hp
theorem add2 (inv : F2 p → F2 p) (hp : (1 : Fin p) ≠ 0) (hinv : ∀ a : F2 p, a ≠ ⟨0, 0⟩ → (ops2 inv).mul a (inv a) = ⟨1, 0⟩) (b : F2 p) : ∀ P Q : Pt (F2 p), onC (ops2 inv) b P → onC (ops2 inv) b Q → down (ops2 inv) (plus (ops2 inv) (up (ops2 inv) P) (up (ops2 inv) Q)) = sumR (ops2 inv) P Q := by
  have hp2 : (F2.mk (1 : Fin p) 0 = ⟨0, 0⟩) = False := by simp [hp]
  have h1 : inv ⟨1, 0⟩ = ⟨1, 0⟩ := by
    have := hinv ⟨1, 0⟩ (by simp [hp])
    generalize inv ⟨1, 0⟩ = i at *
    obtain ⟨i0, i1⟩ := i
    simp only [ops2, F2.mk.injEq] at *
    obtain ⟨e1, e2⟩ := this
    constructor <;> grind
  have dd : ∀ Q : Pt (F2 p), down (ops2 inv) (up (ops2 inv) Q) = Q := by
    rintro (_ | ⟨⟨x0, x1⟩, ⟨y0, y1⟩⟩)
    · rfl
    · simp only [down, up, ops2, hp2, if_false, h1, Option.some.injEq, Prod.mk.injEq, F2.mk.injEq]
      refine ⟨⟨?_, ?_⟩, ?_, ?_⟩ <;> grind
  rintro (_ | ⟨x1, y1⟩) (_ | ⟨x2, y2⟩) hP hQ
  · exact dd none
  · exact dd (some (x2, y2))
  · show down _ (if F2.mk (1 : Fin p) 0 = ⟨0, 0⟩ then inf (ops2 inv) else if F2.mk (0 : Fin p) 0 = ⟨0, 0⟩ then ⟨x1, y1, ⟨1, 0⟩⟩ else _) = _
    rw [if_neg (by simp [hp]), if_pos rfl]
    exact dd (some (x1, y1))
  · obtain ⟨a0, a1⟩ := x1
    obtain ⟨b0, b1⟩ := y1
    obtain ⟨c0, c1⟩ := x2
    obtain ⟨d0, d1⟩ := y2
    obtain ⟨k0, k1⟩ := b
    simp only [onC, ops2, F2.mk.injEq] at hP hQ
    obtain ⟨p0, p1⟩ := hP
    obtain ⟨q0, q1⟩ := hQ
    simp only [plus, up, ops2, dbl, inf, down, sumR, slope, hp2, if_false, F2.mk.injEq]
    by_cases hx : a0 = c0 ∧ a1 = c1
    · obtain ⟨rfl, rfl⟩ := hx
      by_cases hy : b0 = d0 ∧ b1 = d1
      · obtain ⟨rfl, rfl⟩ := hy
        by_cases hz : b0 + b0 = 0 ∧ b1 + b1 = 0
        · obtain ⟨z0, z1⟩ := hz
          have e0 : b0 * 1 - b1 * 0 + (b0 * 1 - b1 * 0) = 0 := by grind
          have e1 : b0 * 0 + b1 * 1 + (b0 * 0 + b1 * 1) = 0 := by grind
          simp [z0, z1, e0, e1]
        · have e0 : b0 * 1 - b1 * 0 + (b0 * 1 - b1 * 0) = b0 + b0 := by grind
          have e1 : b0 * 0 + b1 * 1 + (b0 * 0 + b1 * 1) = b1 + b1 := by grind
          have hi := hinv ⟨b0 + b0, b1 + b1⟩ (by simp only [ne_eq, F2.mk.injEq]; exact hz)
          simp only [e0, e1, hz, if_true, if_false, and_self, Option.some.injEq, Prod.mk.injEq, F2.mk.injEq]
          generalize inv ⟨b0 + b0, b1 + b1⟩ = i at *
          obtain ⟨i0, i1⟩ := i
          simp only [ops2, F2.mk.injEq] at hi
          obtain ⟨hi0, hi1⟩ := hi
          refine ⟨⟨?_, ?_⟩, ?_, ?_⟩ <;> grind
      · have hz : b0 + d0 = 0 ∧ b1 + d1 = 0 := by
          apply Classical.byContradiction
          intro hz
          have h2 := hinv ⟨b0 + d0, b1 + d1⟩ (by simp only [ne_eq, F2.mk.injEq]; exact hz)
          have h3 := hinv ⟨b0 - d0, b1 - d1⟩ (by simp only [ne_eq, F2.mk.injEq]; rintro ⟨e1, e2⟩; exact hy ⟨by grind, by grind⟩)
          generalize inv ⟨b0 + d0, b1 + d1⟩ = i at *
          generalize inv ⟨b0 - d0, b1 - d1⟩ = j at *
          obtain ⟨i0, i1⟩ := i
          obtain ⟨j0, j1⟩ := j
          simp only [ops2, F2.mk.injEq] at h2 h3
          obtain ⟨h20, h21⟩ := h2
          obtain ⟨h30, h31⟩ := h3
          have m0 : (b0 + d0) * (b0 - d0) - (b1 + d1) * (b1 - d1) = 0 := by grind
          have m1 : (b0 + d0) * (b1 - d1) + (b1 + d1) * (b0 - d0) = 0 := by grind
          apply hp
          generalize b0 + d0 = u0 at *
          generalize b1 + d1 = u1 at *
          generalize b0 - d0 = v0 at *
          generalize b1 - d1 = v1 at *
          clear p0 p1 q0 q1
          grind
        have h2 : ¬ (b0 = d0 ∧ b1 = d1) := hy
        have h3 : ¬ ((b0 * (1 * 1 - 0 * 0) - b1 * (1 * 0 + 0 * 1)) * 1 - (b0 * (1 * 0 + 0 * 1) + b1 * (1 * 1 - 0 * 0)) * 0 = (d0 * (1 * 1 - 0 * 0) - d1 * (1 * 0 + 0 * 1)) * 1 - (d0 * (1 * 0 + 0 * 1) + d1 * (1 * 1 - 0 * 0)) * 0 ∧
            (b0 * (1 * 1 - 0 * 0) - b1 * (1 * 0 + 0 * 1)) * 0 + (b0 * (1 * 0 + 0 * 1) + b1 * (1 * 1 - 0 * 0)) * 1 = (d0 * (1 * 1 - 0 * 0) - d1 * (1 * 0 + 0 * 1)) * 0 + (d0 * (1 * 0 + 0 * 1) + d1 * (1 * 1 - 0 * 0)) * 1) := by
          rintro ⟨e1, e2⟩; exact hy ⟨by grind, by grind⟩
        simp only [hz, h3, if_true, if_false, and_self]
    · have h3 : ¬ (a0 * (1 * 1 - 0 * 0) - a1 * (1 * 0 + 0 * 1) = c0 * (1 * 1 - 0 * 0) - c1 * (1 * 0 + 0 * 1) ∧ a0 * (1 * 0 + 0 * 1) + a1 * (1 * 1 - 0 * 0) = c0 * (1 * 0 + 0 * 1) + c1 * (1 * 1 - 0 * 0)) := by
        rintro ⟨e1, e2⟩; exact hx ⟨by grind, by grind⟩
      have hd : ¬ (c0 - a0 = 0 ∧ c1 - a1 = 0) := by
        rintro ⟨e1, e2⟩; exact hx ⟨by grind, by grind⟩
      have hi := hinv ⟨c0 - a0, c1 - a1⟩ (by simp only [ne_eq, F2.mk.injEq]; exact hd)
      have ez0 : (1 * 1 - 0 * 0) * (c0 * (1 * 1 - 0 * 0) - c1 * (1 * 0 + 0 * 1) - (a0 * (1 * 1 - 0 * 0) - a1 * (1 * 0 + 0 * 1))) - (1 * 0 + 0 * 1) * (c0 * (1 * 0 + 0 * 1) + c1 * (1 * 1 - 0 * 0) - (a0 * (1 * 0 + 0 * 1) + a1 * (1 * 1 - 0 * 0))) = c0 - a0 := by grind
      have ez1 : (1 * 1 - 0 * 0) * (c0 * (1 * 0 + 0 * 1) + c1 * (1 * 1 - 0 * 0) - (a0 * (1 * 0 + 0 * 1) + a1 * (1 * 1 - 0 * 0))) + (1 * 0 + 0 * 1) * (c0 * (1 * 1 - 0 * 0) - c1 * (1 * 0 + 0 * 1) - (a0 * (1 * 1 - 0 * 0) - a1 * (1 * 0 + 0 * 1))) = c1 - a1 := by grind
      simp only [hx, h3, ez0, ez1, hd, if_false, Option.some.injEq, Prod.mk.injEq, F2.mk.injEq]
      generalize inv ⟨c0 - a0, c1 - a1⟩ = i at *
      obtain ⟨i0, i1⟩ := i
      simp only [ops2, F2.mk.injEq] at hi
      obtain ⟨hi0, hi1⟩ := hi
      clear p0 p1 q0 q1 ez0 ez1
      refine ⟨⟨?_, ?_⟩, ?_, ?_⟩ <;> grind
end
end Cv
end
section
set_option linter.unusedVariables false
set_option linter.unusedSimpArgs false
namespace Go.Proofs.YtmholgclgamnnaaGreat
open Go Eng
set_option maxRecDepth 100000
set_option exponentiation.threshold 2000
set_option maxHeartbeats 4000000
def Jt4 {α : Type} (K : Kd α) (p : Cv.Jac α) : AVal := .agg [.s .u64 (K.w p.x 0), .s .u64 (K.w p.x 1), .s .u64 (K.w p.x 2), .s .u64 (K.w p.x 3), .s .u64 (K.w p.x 4), .s .u64 (K.w p.x 5), .s .u64 (K.w p.x 6), .s .u64 (K.w p.x 7), .s .u64 (K.w p.y 0), .s .u64 (K.w p.y 1), .s .u64 (K.w p.y 2), .s .u64 (K.w p.y 3), .s .u64 (K.w p.y 4), .s .u64 (K.w p.y 5), .s .u64 (K.w p.y 6), .s .u64 (K.w p.y 7), .s .u64 (K.w p.z 0), .s .u64 (K.w p.z 1), .s .u64 (K.w p.z 2), .s .u64 (K.w p.z 3), .s .u64 (K.w p.z 4), .s .u64 (K.w p.z 5), .s .u64 (K.w p.z 6), .s .u64 (K.w p.z 7)]
end Go.Proofs.YtmholgclgamnnaaGreat
end
section
set_option linter.unusedVariables false
set_option linter.unusedSimpArgs false
namespace Go.Proofs.YtmholgclgamnnaaGreat
open Go Eng
set_option maxRecDepth 100000
set_option exponentiation.threshold 2000
set_option maxHeartbeats 4000000
/-- A curve's group: the field, the number b. -/
def Grt4 {α : Type} (K : Kd α) (r : List AVal) (b : α) : AVal := .agg [.ifc 171 (.agg [.ref r 0]), .s .u64 (K.w b 0), .s .u64 (K.w b 1), .s .u64 (K.w b 2), .s .u64 (K.w b 3), .s .u64 (K.w b 4), .s .u64 (K.w b 5), .s .u64 (K.w b 6), .s .u64 (K.w b 7)]
theorem twicet4 {α : Type} {K : Kd α} {r : List AVal} (hK : Okt4 K r) (b : α) (p : Cv.Jac α) : Sp 188 [Grt4 K r b, Jt4 K p] (Jt4 K (Cv.dbl K.O p)) := by
  obtain ⟨px, py, pz⟩ := p
  unfold Cv.dbl
  dsimp only
  obtain ⟨a, ha⟩ : ∃ q_, q_ = K.O.mul px px := ⟨_, rfl⟩
  have ca := hK.mul px px
  rw [← ha] at ca ⊢
  obtain ⟨bb, hbb⟩ : ∃ q_, q_ = K.O.mul py py := ⟨_, rfl⟩
  have cbb := hK.mul py py
  rw [← hbb] at cbb ⊢
  obtain ⟨s0, hs0⟩ : ∃ q_, q_ = K.O.mul px bb := ⟨_, rfl⟩
  have cs0 := hK.mul px bb
  rw [← hs0] at cs0 ⊢
  obtain ⟨s1, hs1⟩ : ∃ q_, q_ = K.O.add s0 s0 := ⟨_, rfl⟩
  have cs1 := hK.add s0 s0
  rw [← hs1] at cs1 ⊢
  obtain ⟨s2, hs2⟩ : ∃ q_, q_ = K.O.add s1 s1 := ⟨_, rfl⟩
  have cs2 := hK.add s1 s1
  rw [← hs2] at cs2 ⊢
  obtain ⟨aa, haa⟩ : ∃ q_, q_ = K.O.add a a := ⟨_, rfl⟩
  have caa := hK.add a a
  rw [← haa] at caa ⊢
  obtain ⟨e, he⟩ : ∃ q_, q_ = K.O.add aa a := ⟨_, rfl⟩
  have ce := hK.add aa a
  rw [← he] at ce ⊢
  obtain ⟨c0, hc0⟩ : ∃ q_, q_ = K.O.mul bb bb := ⟨_, rfl⟩
  have cc0 := hK.mul bb bb
  rw [← hc0] at cc0 ⊢
  obtain ⟨d1, hd1⟩ : ∃ q_, q_ = K.O.add c0 c0 := ⟨_, rfl⟩
  have cd1 := hK.add c0 c0
  rw [← hd1] at cd1 ⊢
  obtain ⟨d2, hd2⟩ : ∃ q_, q_ = K.O.add d1 d1 := ⟨_, rfl⟩
  have cd2 := hK.add d1 d1
  rw [← hd2] at cd2 ⊢
  obtain ⟨d3, hd3⟩ : ∃ q_, q_ = K.O.add d2 d2 := ⟨_, rfl⟩
  have cd3 := hK.add d2 d2
  rw [← hd3] at cd3 ⊢
  obtain ⟨ee, hee⟩ : ∃ q_, q_ = K.O.mul e e := ⟨_, rfl⟩
  have cee := hK.mul e e
  rw [← hee] at cee ⊢
  obtain ⟨ss, hss⟩ : ∃ q_, q_ = K.O.add s2 s2 := ⟨_, rfl⟩
  have css := hK.add s2 s2
  rw [← hss] at css ⊢
  obtain ⟨x, hx⟩ : ∃ q_, q_ = K.O.sub ee ss := ⟨_, rfl⟩
  have cx := hK.sub ee ss
  rw [← hx] at cx ⊢
  obtain ⟨z0, hz0⟩ : ∃ q_, q_ = K.O.mul py pz := ⟨_, rfl⟩
  have cz0 := hK.mul py pz
  rw [← hz0] at cz0 ⊢
  obtain ⟨d, hd⟩ : ∃ q_, q_ = K.O.sub s2 x := ⟨_, rfl⟩
  have cd := hK.sub s2 x
  rw [← hd] at cd ⊢
  obtain ⟨ed, hed⟩ : ∃ q_, q_ = K.O.mul e d := ⟨_, rfl⟩
  have ced := hK.mul e d
  rw [← hed] at ced ⊢
  obtain ⟨y, hy⟩ : ∃ q_, q_ = K.O.sub ed d3 := ⟨_, rfl⟩
  have cy := hK.sub ed d3
  rw [← hy] at cy ⊢
  obtain ⟨z, hz⟩ : ∃ q_, q_ = K.O.add z0 z0 := ⟨_, rfl⟩
  have cz := hK.add z0 z0
  rw [← hz] at cz ⊢
  refine mk Tryz.func188 rfl rfl L0 RTw (by decide +kernel) ?_
  intro A S hA hS
  unfold bodyOf Tryz.f188
  cbv
  refine ACall.mk _ (cf hS ca) ?_
  cbv
  refine ACall.mk _ (cf hS cbb) ?_
  cbv
  refine ACall.mk _ (cf hS cs0) ?_
  cbv
  refine ACall.mk _ (cf hS cs1) ?_
  cbv
  refine ACall.mk _ (cf hS cs2) ?_
  cbv
  refine ACall.mk _ (cf hS caa) ?_
  cbv
  refine ACall.mk _ (cf hS ce) ?_
  cbv
  refine ACall.mk _ (cf hS cc0) ?_
  cbv
  refine ACall.mk _ (cf hS cd1) ?_
  cbv
  refine ACall.mk _ (cf hS cd2) ?_
  cbv
  refine ACall.mk _ (cf hS cd3) ?_
  cbv
  refine ACall.mk _ (cf hS cee) ?_
  cbv
  refine ACall.mk _ (cf hS css) ?_
  cbv
  refine ACall.mk _ (cf hS cx) ?_
  cbv
  refine ACall.mk _ (cf hS cz0) ?_
  cbv
  refine ACall.mk _ (cf hS cd) ?_
  cbv
  refine ACall.mk _ (cf hS ced) ?_
  cbv
  refine ACall.mk _ (cf hS cy) ?_
  cbv
  refine ACall.mk _ (cf hS cz) ?_
  cbv
theorem plust4 {α : Type} [DecidableEq α] {K : Kd α} {r : List AVal} (hK : Okt4 K r) (b : α) (p q : Cv.Jac α) : Sp 132 [Grt4 K r b, Jt4 K p, Jt4 K q] (Jt4 K (Cv.plus K.O p q)) := by
  have tw := twicet4 hK b p
  obtain ⟨px, py, pz⟩ := p
  obtain ⟨qx, qy, qz⟩ := q
  unfold Cv.plus
  dsimp only
  by_cases h1 : pz = K.O.zero
  · rw [if_pos h1]
    refine mk Tryz.func132 rfl rfl L0 RPl (by decide +kernel) ?_
    intro A S hA hS
    have e1 := (hK.eqz hA pz).trans (decide_eq_true h1)
    unfold bodyOf Tryz.f132
    cbv
    refine ABr.t e1 ?_
    cbv
  rw [if_neg h1]
  by_cases h2 : qz = K.O.zero
  · rw [if_pos h2]
    refine mk Tryz.func132 rfl rfl L0 RPl (by decide +kernel) ?_
    intro A S hA hS
    have e1 := (hK.eqz hA pz).trans (decide_eq_false h1)
    have e2 := (hK.eqz hA qz).trans (decide_eq_true h2)
    unfold bodyOf Tryz.f132
    cbv
    refine ABr.f e1 ?_
    cbv
    refine ABr.t e2 ?_
    cbv
  rw [if_neg h2]
  obtain ⟨pp, hpp⟩ : ∃ q_, q_ = K.O.mul pz pz := ⟨_, rfl⟩
  have cpp := hK.mul pz pz
  rw [← hpp] at cpp ⊢
  obtain ⟨qq, hqq⟩ : ∃ q_, q_ = K.O.mul qz qz := ⟨_, rfl⟩
  have cqq := hK.mul qz qz
  rw [← hqq] at cqq ⊢
  obtain ⟨u, hu⟩ : ∃ q_, q_ = K.O.mul px qq := ⟨_, rfl⟩
  have cu := hK.mul px qq
  rw [← hu] at cu ⊢
  obtain ⟨v, hv⟩ : ∃ q_, q_ = K.O.mul qx pp := ⟨_, rfl⟩
  have cv := hK.mul qx pp
  rw [← hv] at cv ⊢
  obtain ⟨s0, hs0⟩ : ∃ q_, q_ = K.O.mul py qq := ⟨_, rfl⟩
  have cs0 := hK.mul py qq
  rw [← hs0] at cs0 ⊢
  obtain ⟨s, hs⟩ : ∃ q_, q_ = K.O.mul s0 qz := ⟨_, rfl⟩
  have cs := hK.mul s0 qz
  rw [← hs] at cs ⊢
  obtain ⟨t0, ht0⟩ : ∃ q_, q_ = K.O.mul qy pp := ⟨_, rfl⟩
  have ct0 := hK.mul qy pp
  rw [← ht0] at ct0 ⊢
  obtain ⟨t, ht⟩ : ∃ q_, q_ = K.O.mul t0 pz := ⟨_, rfl⟩
  have ct := hK.mul t0 pz
  rw [← ht] at ct ⊢
  by_cases h3 : u = v
  · rw [if_pos h3]
    by_cases h4 : s = t
    · rw [if_pos h4]
      refine mk Tryz.func132 rfl rfl L0 RPl (by decide +kernel) ?_
      intro A S hA hS
      have e1 := (hK.eqz hA pz).trans (decide_eq_false h1)
      have e2 := (hK.eqz hA qz).trans (decide_eq_false h2)
      have e3 := (hK.eq hA u v).trans (decide_eq_true h3)
      have e4 := (hK.eq hA s t).trans (decide_eq_true h4)
      generalize Cv.dbl K.O ⟨px, py, pz⟩ = d at *
      unfold bodyOf Tryz.f132
      cbv
      refine ABr.f e1 ?_
      cbv
      refine ABr.f e2 ?_
      cbv
      refine ACall.mk _ (cf hS cpp) ?_
      cbv
      refine ACall.mk _ (cf hS cqq) ?_
      cbv
      refine ACall.mk _ (cf hS cu) ?_
      cbv
      refine ACall.mk _ (cf hS cv) ?_
      cbv
      refine ACall.mk _ (cf hS cs0) ?_
      cbv
      refine ACall.mk _ (cf hS cs) ?_
      cbv
      refine ACall.mk _ (cf hS ct0) ?_
      cbv
      refine ACall.mk _ (cf hS ct) ?_
      cbv
      refine ABr.t e3 ?_
      cbv
      refine ABr.t e4 ?_
      cbv
      refine ACall.mk _ (cf hS tw) ?_
      cbv
    · rw [if_neg h4]
      refine mk Tryz.func132 rfl rfl L0 RPl (by decide +kernel) ?_
      intro A S hA hS
      have e1 := (hK.eqz hA pz).trans (decide_eq_false h1)
      have e2 := (hK.eqz hA qz).trans (decide_eq_false h2)
      have e3 := (hK.eq hA u v).trans (decide_eq_true h3)
      have e4 := (hK.eq hA s t).trans (decide_eq_false h4)
      have z := hK.zero
      unfold bodyOf Tryz.f132
      cbv
      refine ABr.f e1 ?_
      cbv
      refine ABr.f e2 ?_
      cbv
      refine ACall.mk _ (cf hS cpp) ?_
      cbv
      refine ACall.mk _ (cf hS cqq) ?_
      cbv
      refine ACall.mk _ (cf hS cu) ?_
      cbv
      refine ACall.mk _ (cf hS cv) ?_
      cbv
      refine ACall.mk _ (cf hS cs0) ?_
      cbv
      refine ACall.mk _ (cf hS cs) ?_
      cbv
      refine ACall.mk _ (cf hS ct0) ?_
      cbv
      refine ACall.mk _ (cf hS ct) ?_
      cbv
      refine ABr.t e3 ?_
      cbv
      refine ABr.f e4 ?_
      cbv
      repeat' (first | exact (z _ (by decide)).symm | constructor)
  rw [if_neg h3]
  obtain ⟨h, hh⟩ : ∃ q_, q_ = K.O.sub v u := ⟨_, rfl⟩
  have ch := hK.sub v u
  rw [← hh] at ch ⊢
  obtain ⟨rr, hrr⟩ : ∃ q_, q_ = K.O.sub t s := ⟨_, rfl⟩
  have crr := hK.sub t s
  rw [← hrr] at crr ⊢
  obtain ⟨hh, hhh⟩ : ∃ q_, q_ = K.O.mul h h := ⟨_, rfl⟩
  have chh := hK.mul h h
  rw [← hhh] at chh ⊢
  obtain ⟨hhh, hhhh⟩ : ∃ q_, q_ = K.O.mul hh h := ⟨_, rfl⟩
  have chhh := hK.mul hh h
  rw [← hhhh] at chhh ⊢
  obtain ⟨w, hw⟩ : ∃ q_, q_ = K.O.mul u hh := ⟨_, rfl⟩
  have cw := hK.mul u hh
  rw [← hw] at cw ⊢
  obtain ⟨r2, hr2⟩ : ∃ q_, q_ = K.O.mul rr rr := ⟨_, rfl⟩
  have cr2 := hK.mul rr rr
  rw [← hr2] at cr2 ⊢
  obtain ⟨x0, hx0⟩ : ∃ q_, q_ = K.O.sub r2 hhh := ⟨_, rfl⟩
  have cx0 := hK.sub r2 hhh
  rw [← hx0] at cx0 ⊢
  obtain ⟨ww, hww⟩ : ∃ q_, q_ = K.O.add w w := ⟨_, rfl⟩
  have cww := hK.add w w
  rw [← hww] at cww ⊢
  obtain ⟨x, hx⟩ : ∃ q_, q_ = K.O.sub x0 ww := ⟨_, rfl⟩
  have cx := hK.sub x0 ww
  rw [← hx] at cx ⊢
  obtain ⟨wx, hwx⟩ : ∃ q_, q_ = K.O.sub w x := ⟨_, rfl⟩
  have cwx := hK.sub w x
  rw [← hwx] at cwx ⊢
  obtain ⟨rx, hrx⟩ : ∃ q_, q_ = K.O.mul rr wx := ⟨_, rfl⟩
  have crx := hK.mul rr wx
  rw [← hrx] at crx ⊢
  obtain ⟨sh, hsh⟩ : ∃ q_, q_ = K.O.mul s hhh := ⟨_, rfl⟩
  have csh := hK.mul s hhh
  rw [← hsh] at csh ⊢
  obtain ⟨y, hy⟩ : ∃ q_, q_ = K.O.sub rx sh := ⟨_, rfl⟩
  have cy := hK.sub rx sh
  rw [← hy] at cy ⊢
  obtain ⟨pq, hpq⟩ : ∃ q_, q_ = K.O.mul pz qz := ⟨_, rfl⟩
  have cpq := hK.mul pz qz
  rw [← hpq] at cpq ⊢
  obtain ⟨z, hz⟩ : ∃ q_, q_ = K.O.mul pq h := ⟨_, rfl⟩
  have cz := hK.mul pq h
  rw [← hz] at cz ⊢
  refine mk Tryz.func132 rfl rfl L0 RPl (by decide +kernel) ?_
  intro A S hA hS
  have e1 := (hK.eqz hA pz).trans (decide_eq_false h1)
  have e2 := (hK.eqz hA qz).trans (decide_eq_false h2)
  have e3 := (hK.eq hA u v).trans (decide_eq_false h3)
  unfold bodyOf Tryz.f132
  cbv
  refine ABr.f e1 ?_
  cbv
  refine ABr.f e2 ?_
  cbv
  refine ACall.mk _ (cf hS cpp) ?_
  cbv
  refine ACall.mk _ (cf hS cqq) ?_
  cbv
  refine ACall.mk _ (cf hS cu) ?_
  cbv
  refine ACall.mk _ (cf hS cv) ?_
  cbv
  refine ACall.mk _ (cf hS cs0) ?_
  cbv
  refine ACall.mk _ (cf hS cs) ?_
  cbv
  refine ACall.mk _ (cf hS ct0) ?_
  cbv
  refine ACall.mk _ (cf hS ct) ?_
  cbv
  refine ABr.f e3 ?_
  cbv
  refine ACall.mk _ (cf hS ch) ?_
  cbv
  refine ACall.mk _ (cf hS crr) ?_
  cbv
  refine ACall.mk _ (cf hS chh) ?_
  cbv
  refine ACall.mk _ (cf hS chhh) ?_
  cbv
  refine ACall.mk _ (cf hS cw) ?_
  cbv
  refine ACall.mk _ (cf hS cr2) ?_
  cbv
  refine ACall.mk _ (cf hS cx0) ?_
  cbv
  refine ACall.mk _ (cf hS cww) ?_
  cbv
  refine ACall.mk _ (cf hS cx) ?_
  cbv
  refine ACall.mk _ (cf hS cwx) ?_
  cbv
  refine ACall.mk _ (cf hS crx) ?_
  cbv
  refine ACall.mk _ (cf hS csh) ?_
  cbv
  refine ACall.mk _ (cf hS cy) ?_
  cbv
  refine ACall.mk _ (cf hS cpq) ?_
  cbv
  refine ACall.mk _ (cf hS cz) ?_
  cbv
end Go.Proofs.YtmholgclgamnnaaGreat
end
section
set_option linter.unusedVariables false
set_option linter.unusedSimpArgs false
namespace Go.Proofs.YtmholgclgamnnaaGreat
open Go Eng
set_option maxRecDepth 100000
set_option exponentiation.threshold 2000
set_option maxHeartbeats 4000000
def timesHt4 {α : Type} (K : Kd α) (r : List AVal) (b : α) (p : Cv.Jac α) (lim : Lim) (e : Nat) (o : Cv.Jac α) : List Blk :=
  [⟨true, true, [.ifc 171 (.agg [.ref r 0]), .s .u64 (K.w b 0), .s .u64 (K.w b 1), .s .u64 (K.w b 2), .s .u64 (K.w b 3), .s .u64 (K.w b 4), .s .u64 (K.w b 5), .s .u64 (K.w b 6), .s .u64 (K.w b 7)]⟩, ⟨true, true, [.s .u64 (K.w p.x 0), .s .u64 (K.w p.x 1), .s .u64 (K.w p.x 2), .s .u64 (K.w p.x 3), .s .u64 (K.w p.x 4), .s .u64 (K.w p.x 5), .s .u64 (K.w p.x 6), .s .u64 (K.w p.x 7), .s .u64 (K.w p.y 0), .s .u64 (K.w p.y 1), .s .u64 (K.w p.y 2), .s .u64 (K.w p.y 3), .s .u64 (K.w p.y 4), .s .u64 (K.w p.y 5), .s .u64 (K.w p.y 6), .s .u64 (K.w p.y 7), .s .u64 (K.w p.z 0), .s .u64 (K.w p.z 1), .s .u64 (K.w p.z 2), .s .u64 (K.w p.z 3), .s .u64 (K.w p.z 4), .s .u64 (K.w p.z 5), .s .u64 (K.w p.z 6), .s .u64 (K.w p.z 7)]⟩,
    ⟨true, true, [.s .u64 (lim e 0), .s .u64 (lim e 1), .s .u64 (lim e 2), .s .u64 (lim e 3)]⟩, ⟨true, true, [.i .u64 0, .i .u64 0, .i .u64 0, .i .u64 0, .i .u64 0, .i .u64 0, .i .u64 0, .i .u64 0, .i .u64 0, .i .u64 0, .i .u64 0, .i .u64 0, .i .u64 0, .i .u64 0, .i .u64 0, .i .u64 0, .i .u64 0, .i .u64 0, .i .u64 0, .i .u64 0, .i .u64 0, .i .u64 0, .i .u64 0, .i .u64 0]⟩,
    ⟨true, true, [.s .u64 (K.w o.x 0), .s .u64 (K.w o.x 1), .s .u64 (K.w o.x 2), .s .u64 (K.w o.x 3), .s .u64 (K.w o.x 4), .s .u64 (K.w o.x 5), .s .u64 (K.w o.x 6), .s .u64 (K.w o.x 7), .s .u64 (K.w o.y 0), .s .u64 (K.w o.y 1), .s .u64 (K.w o.y 2), .s .u64 (K.w o.y 3), .s .u64 (K.w o.y 4), .s .u64 (K.w o.y 5), .s .u64 (K.w o.y 6), .s .u64 (K.w o.y 7), .s .u64 (K.w o.z 0), .s .u64 (K.w o.z 1), .s .u64 (K.w o.z 2), .s .u64 (K.w o.z 3), .s .u64 (K.w o.z 4), .s .u64 (K.w o.z 5), .s .u64 (K.w o.z 6), .s .u64 (K.w o.z 7)]⟩]
theorem timest4 {α : Type} [DecidableEq α] {K : Kd α} {r : List AVal} (hK : Okt4 K r) (b : α) (p : Cv.Jac α) {lim : Lim} (hl : lim = limR) (e : Nat) (he : e < 2 ^ 256) :
    Sp 128 [Grt4 K r b, Jt4 K p, u4 lim e] (Jt4 K (Cv.tm K.O p e 256 256)) := by
  have tw := twicet4 hK b
  have pl := plust4 hK b
  have hb := bitsS (lim := lim) e
  obtain ⟨t, ht⟩ : ∃ t : Nat → Nat, t = bitAt (lim e) 4 := ⟨_, rfl⟩
  have hd := bitsI (row4u lim e) (fun i _ => lim_range hl e i) (fun i => [.s .u64 (t i : Nat)]) (fun i _ => by rw [ht])
  obtain ⟨x, hx⟩ : ∃ x : Nat → Cv.Jac α, x = Cv.tm K.O p e 256 := ⟨_, rfl⟩
  have hx0 : x 0 = Cv.inf K.O := by rw [hx]; rfl
  have hxs : ∀ i, i < 256 → x (i + 1) = if t i = 1 then Cv.plus K.O (Cv.dbl K.O (x i)) p else Cv.dbl K.O (x i) := by
    intro i hi
    rw [hx, ht, hl, bitAt_eq e 4 i hi]
    rfl
  rw [← hx]
  have z := hK.zero
  clear hx
  refine mk Tryz.func128 rfl rfl LN R1 (by decide +kernel) fun A S hA hS => ?_
  unfold bodyOf Tryz.f128
  cbv
  refine ACall.mk _ (cf hS hb) ?_
  cbv
  refine .mk _ _ (cs hS hd) (fun i _ => rfl) (fun i => timesHt4 K r b p lim e (x i)) ?_ ?_ ?_
  · rw [hx0]
    cbv
    repeat' (first | exact (z _ (by decide)).symm | (have h := hK.sim 8; unfold simL at h; exact h) | exact trivial | constructor)
  · intro i hi
    have hst := hxs i hi
    have hb := bit_eq hA (t i)
    generalize x (i + 1) = y at hst ⊢
    generalize x i = xi at hst ⊢
    generalize t i = ti at hst hb ⊢
    have tw := tw xi
    generalize Cv.dbl K.O xi = di at *
    have pl := pl di p
    generalize Cv.plus K.O di p = pi at *
    cbv
    refine ACall.mk _ (cf hS tw) ?_
    cbv
    by_cases h1 : ti = 1
    · rw [if_pos h1] at hst
      rw [decide_eq_true h1] at hb
      subst hst
      refine ABr.t hb ?_
      cbv
      refine ACall.mk _ (cf hS pl) ?_
      cbv
      repeat' (first | (have h := hK.sim 8; unfold simL at h; exact h) | exact trivial | constructor)
    · rw [if_neg h1] at hst
      rw [decide_eq_false h1] at hb
      subst hst
      refine ABr.f hb ?_
      cbv
      repeat' (first | (have h := hK.sim 8; unfold simL at h; exact h) | exact trivial | constructor)
  · generalize x 256 = y
    cbv
theorem flatt4 {α : Type} {K : Kd α} {r : List AVal} (hK : Okt4 K r) (b : α) (p : Cv.Jac α) :
    Sp 189 [Grt4 K r b, Jt4 K p] (.tup [Et4 K (K.O.mul p.x (K.O.mul (K.O.inv p.z) (K.O.inv p.z))), Et4 K (K.O.mul (K.O.mul p.y (K.O.mul (K.O.inv p.z) (K.O.inv p.z))) (K.O.inv p.z))]) := by
  obtain ⟨px, py, pz⟩ := p
  dsimp only
  obtain ⟨i, hi⟩ : ∃ q_, q_ = K.O.inv pz := ⟨_, rfl⟩
  have ci := hK.inv pz
  rw [← hi] at ci ⊢
  obtain ⟨j, hj⟩ : ∃ q_, q_ = K.O.mul i i := ⟨_, rfl⟩
  have cj := hK.mul i i
  rw [← hj] at cj ⊢
  obtain ⟨x, hx⟩ : ∃ q_, q_ = K.O.mul px j := ⟨_, rfl⟩
  have cx := hK.mul px j
  rw [← hx] at cx ⊢
  obtain ⟨y0, hy0⟩ : ∃ q_, q_ = K.O.mul py j := ⟨_, rfl⟩
  have cy0 := hK.mul py j
  rw [← hy0] at cy0 ⊢
  obtain ⟨y, hy⟩ : ∃ q_, q_ = K.O.mul y0 i := ⟨_, rfl⟩
  have cy := hK.mul y0 i
  rw [← hy] at cy ⊢
  refine mk Tryz.func189 rfl rfl L0 R1 (by decide +kernel) fun A S hA hS => ?_
  unfold bodyOf Tryz.f189
  cbv
  refine ACall.mk _ (cf hS ci) ?_
  cbv
  refine ACall.mk _ (cf hS cj) ?_
  cbv
  refine ACall.mk _ (cf hS cx) ?_
  cbv
  refine ACall.mk _ (cf hS cy0) ?_
  cbv
  refine ACall.mk _ (cf hS cy) ?_
  cbv
theorem ont4 {α : Type} [DecidableEq α] {K : Kd α} {r : List AVal} (hK : Okt4 K r) (b x y : α) :
    Sp 133 [Grt4 K r b, Et4 K x, Et4 K y] (.sb (decide (K.O.mul y y = K.O.add (K.O.mul (K.O.mul x x) x) b))) := by
  obtain ⟨yy, hyy⟩ : ∃ q_, q_ = K.O.mul y y := ⟨_, rfl⟩
  have cyy := hK.mul y y
  rw [← hyy] at cyy ⊢
  obtain ⟨xx, hxx⟩ : ∃ q_, q_ = K.O.mul x x := ⟨_, rfl⟩
  have cxx := hK.mul x x
  rw [← hxx] at cxx ⊢
  obtain ⟨x3, hx3⟩ : ∃ q_, q_ = K.O.mul xx x := ⟨_, rfl⟩
  have cx3 := hK.mul xx x
  rw [← hx3] at cx3 ⊢
  obtain ⟨s, hs⟩ : ∃ q_, q_ = K.O.add x3 b := ⟨_, rfl⟩
  have cs := hK.add x3 b
  rw [← hs] at cs ⊢
  have he := fun A hA => hK.eq (A := A) hA yy s
  generalize decide (yy = s) = t at *
  refine mk Tryz.func133 rfl rfl L0 R1 (by decide +kernel) fun A S hA hS => ?_
  have he := he A hA
  unfold bodyOf Tryz.f133
  cbv
  refine ACall.mk _ (cf hS cyy) ?_
  cbv
  refine ACall.mk _ (cf hS cxx) ?_
  cbv
  refine ACall.mk _ (cf hS cx3) ?_
  cbv
  refine ACall.mk _ (cf hS cs) ?_
  cbv
  exact he
theorem flatb6 {α : Type} {K : Kd α} {r : List AVal} (hK : Okb6 K r) (b : α) (p : Cv.Jac α) :
    Sp 168 [Grb6 K r b, Jb6 K p] (.tup [Eb6 K (K.O.mul p.x (K.O.mul (K.O.inv p.z) (K.O.inv p.z))), Eb6 K (K.O.mul (K.O.mul p.y (K.O.mul (K.O.inv p.z) (K.O.inv p.z))) (K.O.inv p.z))]) := by
  obtain ⟨px, py, pz⟩ := p
  dsimp only
  obtain ⟨i, hi⟩ : ∃ q_, q_ = K.O.inv pz := ⟨_, rfl⟩
  have ci := hK.inv pz
  rw [← hi] at ci ⊢
  obtain ⟨j, hj⟩ : ∃ q_, q_ = K.O.mul i i := ⟨_, rfl⟩
  have cj := hK.mul i i
  rw [← hj] at cj ⊢
  obtain ⟨x, hx⟩ : ∃ q_, q_ = K.O.mul px j := ⟨_, rfl⟩
  have cx := hK.mul px j
  rw [← hx] at cx ⊢
  obtain ⟨y0, hy0⟩ : ∃ q_, q_ = K.O.mul py j := ⟨_, rfl⟩
  have cy0 := hK.mul py j
  rw [← hy0] at cy0 ⊢
  obtain ⟨y, hy⟩ : ∃ q_, q_ = K.O.mul y0 i := ⟨_, rfl⟩
  have cy := hK.mul y0 i
  rw [← hy] at cy ⊢
  refine mk Tryz.func168 rfl rfl L0 R1 (by decide +kernel) fun A S hA hS => ?_
  unfold bodyOf Tryz.f168
  cbv
  refine ACall.mk _ (cf hS ci) ?_
  cbv
  refine ACall.mk _ (cf hS cj) ?_
  cbv
  refine ACall.mk _ (cf hS cx) ?_
  cbv
  refine ACall.mk _ (cf hS cy0) ?_
  cbv
  refine ACall.mk _ (cf hS cy) ?_
  cbv
end Go.Proofs.YtmholgclgamnnaaGreat
end
