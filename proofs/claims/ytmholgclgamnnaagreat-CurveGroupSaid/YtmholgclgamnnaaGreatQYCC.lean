import Derived.Test.YtmholgclgamnnaaGreatQYCA
import Derived.Test.YtmholgclgamnnaaGreatQYD
set_option linter.unusedVariables false
set_option linter.unusedSimpArgs false
namespace Go.Proofs.YtmholgclgamnnaaGreat
open Go Eng
set_option maxRecDepth 100000
set_option exponentiation.threshold 2000
set_option maxHeartbeats 4000000
/-- A field's elements as cells: what a walk is not to open. -/
structure Kd (α : Type) where
  O : Cv.Ops α
  w : α → Nat → Int
theorem eqs_dec {A : Ar} (hA : A = Ar.real) {l : List (AVal × AVal)} {p : Prop} [Decidable p] (h : l.all leafEq = true ↔ p) : A.eqs l = decide p := by
  rw [hA]
  show l.all leafEq = _
  by_cases hp : p
  · rw [decide_eq_true hp]; exact h.2 hp
  · rw [decide_eq_false hp]; exact Bool.eq_false_iff.2 fun e => hp (h.1 e)
def Eb4 {α : Type} (K : Kd α) (a : α) : AVal := .agg [.s .u64 (K.w a 0), .s .u64 (K.w a 1), .s .u64 (K.w a 2), .s .u64 (K.w a 3)]
def Jb4 {α : Type} (K : Kd α) (p : Cv.Jac α) : AVal := .agg [.s .u64 (K.w p.x 0), .s .u64 (K.w p.x 1), .s .u64 (K.w p.x 2), .s .u64 (K.w p.x 3), .s .u64 (K.w p.y 0), .s .u64 (K.w p.y 1), .s .u64 (K.w p.y 2), .s .u64 (K.w p.y 3), .s .u64 (K.w p.z 0), .s .u64 (K.w p.z 1), .s .u64 (K.w p.z 2), .s .u64 (K.w p.z 3)]
structure Okb4 {α : Type} (K : Kd α) (r : List AVal) : Prop where
  add : ∀ a b, Sp 262 [.agg [.ref r 0], Eb4 K a, Eb4 K b] (Eb4 K (K.O.add a b))
  sub : ∀ a b, Sp 265 [.agg [.ref r 0], Eb4 K a, Eb4 K b] (Eb4 K (K.O.sub a b))
  mul : ∀ a b, Sp 264 [.agg [.ref r 0], Eb4 K a, Eb4 K b] (Eb4 K (K.O.mul a b))
  inv : ∀ a, Sp 263 [.agg [.ref r 0], Eb4 K a] (Eb4 K (K.O.inv a))
  zero : ∀ i, i < 4 → K.w K.O.zero i = 0
  sim : ∀ d, simL (simD (d + 1)) r r
  inj : ∀ a b, K.w a 0 = K.w b 0 ∧ K.w a 1 = K.w b 1 ∧ K.w a 2 = K.w b 2 ∧ K.w a 3 = K.w b 3 → a = b
theorem Okb4.eq {α : Type} [DecidableEq α] {K : Kd α} {r : List AVal} (hK : Okb4 K r) {A : Ar} (hA : A = Ar.real) (a b : α) : A.eqs [(.s .u64 (K.w a 0), .s .u64 (K.w b 0)), (.s .u64 (K.w a 1), .s .u64 (K.w b 1)), (.s .u64 (K.w a 2), .s .u64 (K.w b 2)), (.s .u64 (K.w a 3), .s .u64 (K.w b 3))] = decide (a = b) := by
  have h0 : ∀ x y : Int, leafEq (.s .u64 x, .s .u64 y) = (x == y) := fun x y => rfl
  refine eqs_dec hA ⟨fun h => hK.inj a b ?_, fun h => ?_⟩
  · simpa only [List.all_cons, List.all_nil, h0, beq_iff_eq, Bool.and_eq_true, and_true] using h
  · subst h; simp only [List.all_cons, List.all_nil, h0, beq_iff_eq, Bool.and_eq_true, and_true, and_self]
theorem Okb4.eqz {α : Type} [DecidableEq α] {K : Kd α} {r : List AVal} (hK : Okb4 K r) {A : Ar} (hA : A = Ar.real) (a : α) : A.eqs [(.s .u64 (K.w a 0), .i .u64 0), (.s .u64 (K.w a 1), .i .u64 0), (.s .u64 (K.w a 2), .i .u64 0), (.s .u64 (K.w a 3), .i .u64 0)] = decide (a = K.O.zero) := by
  have h0 : ∀ x : Int, leafEq (.s .u64 x, .i .u64 0) = (x == 0) := fun x => rfl
  refine eqs_dec hA ⟨fun h => hK.inj a _ ?_, fun h => ?_⟩
  · have z := hK.zero
    have e := fun i (hi : i < 4) => (z i hi).symm
    simp only [List.all_cons, List.all_nil, h0, beq_iff_eq, Bool.and_eq_true, and_true] at h
    obtain ⟨h0, h1, h2, h3⟩ := h
    exact ⟨h0.trans (e 0 (by decide)), h1.trans (e 1 (by decide)), h2.trans (e 2 (by decide)), h3.trans (e 3 (by decide))⟩
  · subst h
    simp only [List.all_cons, List.all_nil, h0, beq_iff_eq, Bool.and_eq_true, and_true]
    exact ⟨hK.zero 0 (by decide), hK.zero 1 (by decide), hK.zero 2 (by decide), hK.zero 3 (by decide)⟩
def Et4 {α : Type} (K : Kd α) (a : α) : AVal := .agg [.s .u64 (K.w a 0), .s .u64 (K.w a 1), .s .u64 (K.w a 2), .s .u64 (K.w a 3), .s .u64 (K.w a 4), .s .u64 (K.w a 5), .s .u64 (K.w a 6), .s .u64 (K.w a 7)]
structure Okt4 {α : Type} (K : Kd α) (r : List AVal) : Prop where
  add : ∀ a b, Sp 260 [.agg [.ref r 0], Et4 K a, Et4 K b] (Et4 K (K.O.add a b))
  sub : ∀ a b, Sp 261 [.agg [.ref r 0], Et4 K a, Et4 K b] (Et4 K (K.O.sub a b))
  mul : ∀ a b, Sp 103 [.agg [.ref r 0], Et4 K a, Et4 K b] (Et4 K (K.O.mul a b))
  inv : ∀ a, Sp 104 [.agg [.ref r 0], Et4 K a] (Et4 K (K.O.inv a))
  zero : ∀ i, i < 8 → K.w K.O.zero i = 0
  sim : ∀ d, simL (simD (d + 1)) r r
  inj : ∀ a b, K.w a 0 = K.w b 0 ∧ K.w a 1 = K.w b 1 ∧ K.w a 2 = K.w b 2 ∧ K.w a 3 = K.w b 3 ∧ K.w a 4 = K.w b 4 ∧ K.w a 5 = K.w b 5 ∧ K.w a 6 = K.w b 6 ∧ K.w a 7 = K.w b 7 → a = b
theorem Okt4.eq {α : Type} [DecidableEq α] {K : Kd α} {r : List AVal} (hK : Okt4 K r) {A : Ar} (hA : A = Ar.real) (a b : α) : A.eqs [(.s .u64 (K.w a 0), .s .u64 (K.w b 0)), (.s .u64 (K.w a 1), .s .u64 (K.w b 1)), (.s .u64 (K.w a 2), .s .u64 (K.w b 2)), (.s .u64 (K.w a 3), .s .u64 (K.w b 3)), (.s .u64 (K.w a 4), .s .u64 (K.w b 4)), (.s .u64 (K.w a 5), .s .u64 (K.w b 5)), (.s .u64 (K.w a 6), .s .u64 (K.w b 6)), (.s .u64 (K.w a 7), .s .u64 (K.w b 7))] = decide (a = b) := by
  have h0 : ∀ x y : Int, leafEq (.s .u64 x, .s .u64 y) = (x == y) := fun x y => rfl
  refine eqs_dec hA ⟨fun h => hK.inj a b ?_, fun h => ?_⟩
  · simpa only [List.all_cons, List.all_nil, h0, beq_iff_eq, Bool.and_eq_true, and_true] using h
  · subst h; simp only [List.all_cons, List.all_nil, h0, beq_iff_eq, Bool.and_eq_true, and_true, and_self]
theorem Okt4.eqz {α : Type} [DecidableEq α] {K : Kd α} {r : List AVal} (hK : Okt4 K r) {A : Ar} (hA : A = Ar.real) (a : α) : A.eqs [(.s .u64 (K.w a 0), .i .u64 0), (.s .u64 (K.w a 1), .i .u64 0), (.s .u64 (K.w a 2), .i .u64 0), (.s .u64 (K.w a 3), .i .u64 0), (.s .u64 (K.w a 4), .i .u64 0), (.s .u64 (K.w a 5), .i .u64 0), (.s .u64 (K.w a 6), .i .u64 0), (.s .u64 (K.w a 7), .i .u64 0)] = decide (a = K.O.zero) := by
  have h0 : ∀ x : Int, leafEq (.s .u64 x, .i .u64 0) = (x == 0) := fun x => rfl
  refine eqs_dec hA ⟨fun h => hK.inj a _ ?_, fun h => ?_⟩
  · have z := hK.zero
    have e := fun i (hi : i < 8) => (z i hi).symm
    simp only [List.all_cons, List.all_nil, h0, beq_iff_eq, Bool.and_eq_true, and_true] at h
    obtain ⟨h0, h1, h2, h3, h4, h5, h6, h7⟩ := h
    exact ⟨h0.trans (e 0 (by decide)), h1.trans (e 1 (by decide)), h2.trans (e 2 (by decide)), h3.trans (e 3 (by decide)), h4.trans (e 4 (by decide)), h5.trans (e 5 (by decide)), h6.trans (e 6 (by decide)), h7.trans (e 7 (by decide))⟩
  · subst h
    simp only [List.all_cons, List.all_nil, h0, beq_iff_eq, Bool.and_eq_true, and_true]
    exact ⟨hK.zero 0 (by decide), hK.zero 1 (by decide), hK.zero 2 (by decide), hK.zero 3 (by decide), hK.zero 4 (by decide), hK.zero 5 (by decide), hK.zero 6 (by decide), hK.zero 7 (by decide)⟩
def Eb6 {α : Type} (K : Kd α) (a : α) : AVal := .agg [.s .u64 (K.w a 0), .s .u64 (K.w a 1), .s .u64 (K.w a 2), .s .u64 (K.w a 3), .s .u64 (K.w a 4), .s .u64 (K.w a 5)]
def Jb6 {α : Type} (K : Kd α) (p : Cv.Jac α) : AVal := .agg [.s .u64 (K.w p.x 0), .s .u64 (K.w p.x 1), .s .u64 (K.w p.x 2), .s .u64 (K.w p.x 3), .s .u64 (K.w p.x 4), .s .u64 (K.w p.x 5), .s .u64 (K.w p.y 0), .s .u64 (K.w p.y 1), .s .u64 (K.w p.y 2), .s .u64 (K.w p.y 3), .s .u64 (K.w p.y 4), .s .u64 (K.w p.y 5), .s .u64 (K.w p.z 0), .s .u64 (K.w p.z 1), .s .u64 (K.w p.z 2), .s .u64 (K.w p.z 3), .s .u64 (K.w p.z 4), .s .u64 (K.w p.z 5)]
structure Okb6 {α : Type} (K : Kd α) (r : List AVal) : Prop where
  add : ∀ a b, Sp 251 [.agg [.ref r 0], Eb6 K a, Eb6 K b] (Eb6 K (K.O.add a b))
  sub : ∀ a b, Sp 254 [.agg [.ref r 0], Eb6 K a, Eb6 K b] (Eb6 K (K.O.sub a b))
  mul : ∀ a b, Sp 253 [.agg [.ref r 0], Eb6 K a, Eb6 K b] (Eb6 K (K.O.mul a b))
  inv : ∀ a, Sp 252 [.agg [.ref r 0], Eb6 K a] (Eb6 K (K.O.inv a))
  zero : ∀ i, i < 6 → K.w K.O.zero i = 0
  sim : ∀ d, simL (simD (d + 1)) r r
  inj : ∀ a b, K.w a 0 = K.w b 0 ∧ K.w a 1 = K.w b 1 ∧ K.w a 2 = K.w b 2 ∧ K.w a 3 = K.w b 3 ∧ K.w a 4 = K.w b 4 ∧ K.w a 5 = K.w b 5 → a = b
theorem Okb6.eq {α : Type} [DecidableEq α] {K : Kd α} {r : List AVal} (hK : Okb6 K r) {A : Ar} (hA : A = Ar.real) (a b : α) : A.eqs [(.s .u64 (K.w a 0), .s .u64 (K.w b 0)), (.s .u64 (K.w a 1), .s .u64 (K.w b 1)), (.s .u64 (K.w a 2), .s .u64 (K.w b 2)), (.s .u64 (K.w a 3), .s .u64 (K.w b 3)), (.s .u64 (K.w a 4), .s .u64 (K.w b 4)), (.s .u64 (K.w a 5), .s .u64 (K.w b 5))] = decide (a = b) := by
  have h0 : ∀ x y : Int, leafEq (.s .u64 x, .s .u64 y) = (x == y) := fun x y => rfl
  refine eqs_dec hA ⟨fun h => hK.inj a b ?_, fun h => ?_⟩
  · simpa only [List.all_cons, List.all_nil, h0, beq_iff_eq, Bool.and_eq_true, and_true] using h
  · subst h; simp only [List.all_cons, List.all_nil, h0, beq_iff_eq, Bool.and_eq_true, and_true, and_self]
theorem Okb6.eqz {α : Type} [DecidableEq α] {K : Kd α} {r : List AVal} (hK : Okb6 K r) {A : Ar} (hA : A = Ar.real) (a : α) : A.eqs [(.s .u64 (K.w a 0), .i .u64 0), (.s .u64 (K.w a 1), .i .u64 0), (.s .u64 (K.w a 2), .i .u64 0), (.s .u64 (K.w a 3), .i .u64 0), (.s .u64 (K.w a 4), .i .u64 0), (.s .u64 (K.w a 5), .i .u64 0)] = decide (a = K.O.zero) := by
  have h0 : ∀ x : Int, leafEq (.s .u64 x, .i .u64 0) = (x == 0) := fun x => rfl
  refine eqs_dec hA ⟨fun h => hK.inj a _ ?_, fun h => ?_⟩
  · have z := hK.zero
    have e := fun i (hi : i < 6) => (z i hi).symm
    simp only [List.all_cons, List.all_nil, h0, beq_iff_eq, Bool.and_eq_true, and_true] at h
    obtain ⟨h0, h1, h2, h3, h4, h5⟩ := h
    exact ⟨h0.trans (e 0 (by decide)), h1.trans (e 1 (by decide)), h2.trans (e 2 (by decide)), h3.trans (e 3 (by decide)), h4.trans (e 4 (by decide)), h5.trans (e 5 (by decide))⟩
  · subst h
    simp only [List.all_cons, List.all_nil, h0, beq_iff_eq, Bool.and_eq_true, and_true]
    exact ⟨hK.zero 0 (by decide), hK.zero 1 (by decide), hK.zero 2 (by decide), hK.zero 3 (by decide), hK.zero 4 (by decide), hK.zero 5 (by decide)⟩
def Et6 {α : Type} (K : Kd α) (a : α) : AVal := .agg [.s .u64 (K.w a 0), .s .u64 (K.w a 1), .s .u64 (K.w a 2), .s .u64 (K.w a 3), .s .u64 (K.w a 4), .s .u64 (K.w a 5), .s .u64 (K.w a 6), .s .u64 (K.w a 7), .s .u64 (K.w a 8), .s .u64 (K.w a 9), .s .u64 (K.w a 10), .s .u64 (K.w a 11)]
structure Okt6 {α : Type} (K : Kd α) (r : List AVal) : Prop where
  add : ∀ a b, Sp 256 [.agg [.ref r 0], Et6 K a, Et6 K b] (Et6 K (K.O.add a b))
  sub : ∀ a b, Sp 259 [.agg [.ref r 0], Et6 K a, Et6 K b] (Et6 K (K.O.sub a b))
  mul : ∀ a b, Sp 258 [.agg [.ref r 0], Et6 K a, Et6 K b] (Et6 K (K.O.mul a b))
  inv : ∀ a, Sp 257 [.agg [.ref r 0], Et6 K a] (Et6 K (K.O.inv a))
  zero : ∀ i, i < 12 → K.w K.O.zero i = 0
  sim : ∀ d, simL (simD (d + 1)) r r
  inj : ∀ a b, K.w a 0 = K.w b 0 ∧ K.w a 1 = K.w b 1 ∧ K.w a 2 = K.w b 2 ∧ K.w a 3 = K.w b 3 ∧ K.w a 4 = K.w b 4 ∧ K.w a 5 = K.w b 5 ∧ K.w a 6 = K.w b 6 ∧ K.w a 7 = K.w b 7 ∧ K.w a 8 = K.w b 8 ∧ K.w a 9 = K.w b 9 ∧ K.w a 10 = K.w b 10 ∧ K.w a 11 = K.w b 11 → a = b
theorem Okt6.eq {α : Type} [DecidableEq α] {K : Kd α} {r : List AVal} (hK : Okt6 K r) {A : Ar} (hA : A = Ar.real) (a b : α) : A.eqs [(.s .u64 (K.w a 0), .s .u64 (K.w b 0)), (.s .u64 (K.w a 1), .s .u64 (K.w b 1)), (.s .u64 (K.w a 2), .s .u64 (K.w b 2)), (.s .u64 (K.w a 3), .s .u64 (K.w b 3)), (.s .u64 (K.w a 4), .s .u64 (K.w b 4)), (.s .u64 (K.w a 5), .s .u64 (K.w b 5)), (.s .u64 (K.w a 6), .s .u64 (K.w b 6)), (.s .u64 (K.w a 7), .s .u64 (K.w b 7)), (.s .u64 (K.w a 8), .s .u64 (K.w b 8)), (.s .u64 (K.w a 9), .s .u64 (K.w b 9)), (.s .u64 (K.w a 10), .s .u64 (K.w b 10)), (.s .u64 (K.w a 11), .s .u64 (K.w b 11))] = decide (a = b) := by
  have h0 : ∀ x y : Int, leafEq (.s .u64 x, .s .u64 y) = (x == y) := fun x y => rfl
  refine eqs_dec hA ⟨fun h => hK.inj a b ?_, fun h => ?_⟩
  · simpa only [List.all_cons, List.all_nil, h0, beq_iff_eq, Bool.and_eq_true, and_true] using h
  · subst h; simp only [List.all_cons, List.all_nil, h0, beq_iff_eq, Bool.and_eq_true, and_true, and_self]
theorem Okt6.eqz {α : Type} [DecidableEq α] {K : Kd α} {r : List AVal} (hK : Okt6 K r) {A : Ar} (hA : A = Ar.real) (a : α) : A.eqs [(.s .u64 (K.w a 0), .i .u64 0), (.s .u64 (K.w a 1), .i .u64 0), (.s .u64 (K.w a 2), .i .u64 0), (.s .u64 (K.w a 3), .i .u64 0), (.s .u64 (K.w a 4), .i .u64 0), (.s .u64 (K.w a 5), .i .u64 0), (.s .u64 (K.w a 6), .i .u64 0), (.s .u64 (K.w a 7), .i .u64 0), (.s .u64 (K.w a 8), .i .u64 0), (.s .u64 (K.w a 9), .i .u64 0), (.s .u64 (K.w a 10), .i .u64 0), (.s .u64 (K.w a 11), .i .u64 0)] = decide (a = K.O.zero) := by
  have h0 : ∀ x : Int, leafEq (.s .u64 x, .i .u64 0) = (x == 0) := fun x => rfl
  refine eqs_dec hA ⟨fun h => hK.inj a _ ?_, fun h => ?_⟩
  · have z := hK.zero
    have e := fun i (hi : i < 12) => (z i hi).symm
    simp only [List.all_cons, List.all_nil, h0, beq_iff_eq, Bool.and_eq_true, and_true] at h
    obtain ⟨h0, h1, h2, h3, h4, h5, h6, h7, h8, h9, h10, h11⟩ := h
    exact ⟨h0.trans (e 0 (by decide)), h1.trans (e 1 (by decide)), h2.trans (e 2 (by decide)), h3.trans (e 3 (by decide)), h4.trans (e 4 (by decide)), h5.trans (e 5 (by decide)), h6.trans (e 6 (by decide)), h7.trans (e 7 (by decide)), h8.trans (e 8 (by decide)), h9.trans (e 9 (by decide)), h10.trans (e 10 (by decide)), h11.trans (e 11 (by decide))⟩
  · subst h
    simp only [List.all_cons, List.all_nil, h0, beq_iff_eq, Bool.and_eq_true, and_true]
    exact ⟨hK.zero 0 (by decide), hK.zero 1 (by decide), hK.zero 2 (by decide), hK.zero 3 (by decide), hK.zero 4 (by decide), hK.zero 5 (by decide), hK.zero 6 (by decide), hK.zero 7 (by decide), hK.zero 8 (by decide), hK.zero 9 (by decide), hK.zero 10 (by decide), hK.zero 11 (by decide)⟩
end Go.Proofs.YtmholgclgamnnaaGreat
