import Derived.Test.YtmholgclgamnnaaGreatQXC
import Derived.Test.YtmholgclgamnnaaGreatQXCA
set_option linter.unusedVariables false
set_option linter.unusedSimpArgs false
set_option linter.unusedSectionVars false
set_option maxRecDepth 100000
set_option exponentiation.threshold 2000
set_option maxHeartbeats 4000000
section
namespace Go.Proofs.YtmholgclgamnnaaGreat
open Go Eng
structure Kd (α : Type) where
 O : Cv.Ops α
 w : α → Nat → Int
theorem eqs_dec {A : Ar} (hA : A = Ar.real) {l : List (AVal × AVal)} {p : Prop} [Decidable p] (h : l.all leafEq = true ↔ p) : A.eqs l = decide p := by
 rw [hA]
 show l.all leafEq = _
 by_cases hp : p
 . rw [decide_eq_true hp]; exact h.2 hp
 . rw [decide_eq_false hp]; exact Bool.eq_false_iff.2 fun e => hp (h.1 e)
def Eb4 {α : Type} (K : Kd α) (a : α) : AVal := .agg [.s .u64 (K.w a 0), .s .u64 (K.w a 1), .s .u64 (K.w a 2), .s .u64 (K.w a 3)]
def Jb4 {α : Type} (K : Kd α) (p : Cv.Jac α) : AVal := .agg [.s .u64 (K.w p.x 0), .s .u64 (K.w p.x 1), .s .u64 (K.w p.x 2), .s .u64 (K.w p.x 3), .s .u64 (K.w p.y 0), .s .u64 (K.w p.y 1), .s .u64 (K.w p.y 2), .s .u64 (K.w p.y 3), .s .u64 (K.w p.z 0), .s .u64 (K.w p.z 1), .s .u64 (K.w p.z 2), .s .u64 (K.w p.z 3)]
structure Okb4 {α : Type} (K : Kd α) (r : List AVal) : Prop where
 add : ∀ a b, Sp 262 [.agg [.ref r 0], Eb4 K a, Eb4 K b] (Eb4 K (K.O.add a b))
 sub : ∀ a b, Sp 265 [.agg [.ref r 0], Eb4 K a, Eb4 K b] (Eb4 K (K.O.sub a b))
 mul : ∀ a b, Sp 264 [.agg [.ref r 0], Eb4 K a, Eb4 K b] (Eb4 K (K.O.mul a b))
 inv : ∀ a, Sp 263 [.agg [.ref r 0], Eb4 K a] (Eb4 K (K.O.inv a))
 zero : ∀ i, i < 4 → K.w K.O.zero i = 0
 sim : ∀ d, simL (simD (d + 1)) r r
 inj : ∀ a b, K.w a 0 = K.w b 0 ∧ K.w a 1 = K.w b 1 ∧ K.w a 2 = K.w b 2 ∧ K.w a 3 = K.w b 3 → a = b
theorem Okb4.eq {α : Type} [DecidableEq α] {K : Kd α} {r : List AVal} (hK : Okb4 K r) {A : Ar} (hA : A = Ar.real) (a b : α) : A.eqs [(.s .u64 (K.w a 0), .s .u64 (K.w b 0)), (.s .u64 (K.w a 1), .s .u64 (K.w b 1)), (.s .u64 (K.w a 2), .s .u64 (K.w b 2)), (.s .u64 (K.w a 3), .s .u64 (K.w b 3))] = decide (a = b) := by
 have h0 : ∀ x y : Int, leafEq (.s .u64 x, .s .u64 y) = (x == y) := fun x y => rfl
 refine eqs_dec hA ⟨fun h => hK.inj a b ?_, fun h => ?_⟩
 . simpa only [List.all_cons, List.all_nil, h0, beq_iff_eq, Bool.and_eq_true, and_true] using h
 . subst h; simp only [List.all_cons, List.all_nil, h0, beq_iff_eq, Bool.and_eq_true, and_true, and_self]
theorem Okb4.eqz {α : Type} [DecidableEq α] {K : Kd α} {r : List AVal} (hK : Okb4 K r) {A : Ar} (hA : A = Ar.real) (a : α) : A.eqs [(.s .u64 (K.w a 0), .i .u64 0), (.s .u64 (K.w a 1), .i .u64 0), (.s .u64 (K.w a 2), .i .u64 0), (.s .u64 (K.w a 3), .i .u64 0)] = decide (a = K.O.zero) := by
 have h0 : ∀ x : Int, leafEq (.s .u64 x, .i .u64 0) = (x == 0) := fun x => rfl
 refine eqs_dec hA ⟨fun h => hK.inj a _ ?_, fun h => ?_⟩
 . have z := hK.zero
   have e := fun i (hi : i < 4) => (z i hi).symm
   simp only [List.all_cons, List.all_nil, h0, beq_iff_eq, Bool.and_eq_true, and_true] at h
   obtain ⟨h0, h1, h2, h3⟩ := h
   exact ⟨h0.trans (e 0 (by decide)), h1.trans (e 1 (by decide)), h2.trans (e 2 (by decide)), h3.trans (e 3 (by decide))⟩
 . subst h
   simp only [List.all_cons, List.all_nil, h0, beq_iff_eq, Bool.and_eq_true, and_true]
   exact ⟨hK.zero 0 (by decide), hK.zero 1 (by decide), hK.zero 2 (by decide), hK.zero 3 (by decide)⟩
def Et4 {α : Type} (K : Kd α) (a : α) : AVal := .agg [.s .u64 (K.w a 0), .s .u64 (K.w a 1), .s .u64 (K.w a 2), .s .u64 (K.w a 3), .s .u64 (K.w a 4), .s .u64 (K.w a 5), .s .u64 (K.w a 6), .s .u64 (K.w a 7)]
def Jt4 {α : Type} (K : Kd α) (p : Cv.Jac α) : AVal := .agg [.s .u64 (K.w p.x 0), .s .u64 (K.w p.x 1), .s .u64 (K.w p.x 2), .s .u64 (K.w p.x 3), .s .u64 (K.w p.x 4), .s .u64 (K.w p.x 5), .s .u64 (K.w p.x 6), .s .u64 (K.w p.x 7), .s .u64 (K.w p.y 0), .s .u64 (K.w p.y 1), .s .u64 (K.w p.y 2), .s .u64 (K.w p.y 3), .s .u64 (K.w p.y 4), .s .u64 (K.w p.y 5), .s .u64 (K.w p.y 6), .s .u64 (K.w p.y 7), .s .u64 (K.w p.z 0), .s .u64 (K.w p.z 1), .s .u64 (K.w p.z 2), .s .u64 (K.w p.z 3), .s .u64 (K.w p.z 4), .s .u64 (K.w p.z 5), .s .u64 (K.w p.z 6), .s .u64 (K.w p.z 7)]
structure Okt4 {α : Type} (K : Kd α) (r : List AVal) : Prop where
 add : ∀ a b, Sp 260 [.agg [.ref r 0], Et4 K a, Et4 K b] (Et4 K (K.O.add a b))
 sub : ∀ a b, Sp 261 [.agg [.ref r 0], Et4 K a, Et4 K b] (Et4 K (K.O.sub a b))
 mul : ∀ a b, Sp 103 [.agg [.ref r 0], Et4 K a, Et4 K b] (Et4 K (K.O.mul a b))
 inv : ∀ a, Sp 104 [.agg [.ref r 0], Et4 K a] (Et4 K (K.O.inv a))
 zero : ∀ i, i < 8 → K.w K.O.zero i = 0
 sim : ∀ d, simL (simD (d + 1)) r r
 inj : ∀ a b, K.w a 0 = K.w b 0 ∧ K.w a 1 = K.w b 1 ∧ K.w a 2 = K.w b 2 ∧ K.w a 3 = K.w b 3 ∧ K.w a 4 = K.w b 4 ∧ K.w a 5 = K.w b 5 ∧ K.w a 6 = K.w b 6 ∧ K.w a 7 = K.w b 7 → a = b
theorem Okt4.eq {α : Type} [DecidableEq α] {K : Kd α} {r : List AVal} (hK : Okt4 K r) {A : Ar} (hA : A = Ar.real) (a b : α) : A.eqs [(.s .u64 (K.w a 0), .s .u64 (K.w b 0)), (.s .u64 (K.w a 1), .s .u64 (K.w b 1)), (.s .u64 (K.w a 2), .s .u64 (K.w b 2)), (.s .u64 (K.w a 3), .s .u64 (K.w b 3)), (.s .u64 (K.w a 4), .s .u64 (K.w b 4)), (.s .u64 (K.w a 5), .s .u64 (K.w b 5)), (.s .u64 (K.w a 6), .s .u64 (K.w b 6)), (.s .u64 (K.w a 7), .s .u64 (K.w b 7))] = decide (a = b) := by
 have h0 : ∀ x y : Int, leafEq (.s .u64 x, .s .u64 y) = (x == y) := fun x y => rfl
 refine eqs_dec hA ⟨fun h => hK.inj a b ?_, fun h => ?_⟩
 . simpa only [List.all_cons, List.all_nil, h0, beq_iff_eq, Bool.and_eq_true, and_true] using h
 . subst h; simp only [List.all_cons, List.all_nil, h0, beq_iff_eq, Bool.and_eq_true, and_true, and_self]
theorem Okt4.eqz {α : Type} [DecidableEq α] {K : Kd α} {r : List AVal} (hK : Okt4 K r) {A : Ar} (hA : A = Ar.real) (a : α) : A.eqs [(.s .u64 (K.w a 0), .i .u64 0), (.s .u64 (K.w a 1), .i .u64 0), (.s .u64 (K.w a 2), .i .u64 0), (.s .u64 (K.w a 3), .i .u64 0), (.s .u64 (K.w a 4), .i .u64 0), (.s .u64 (K.w a 5), .i .u64 0), (.s .u64 (K.w a 6), .i .u64 0), (.s .u64 (K.w a 7), .i .u64 0)] = decide (a = K.O.zero) := by
 have h0 : ∀ x : Int, leafEq (.s .u64 x, .i .u64 0) = (x == 0) := fun x => rfl
 refine eqs_dec hA ⟨fun h => hK.inj a _ ?_, fun h => ?_⟩
 . have z := hK.zero
   have e := fun i (hi : i < 8) => (z i hi).symm
   simp only [List.all_cons, List.all_nil, h0, beq_iff_eq, Bool.and_eq_true, and_true] at h
   obtain ⟨h0, h1, h2, h3, h4, h5, h6, h7⟩ := h
   exact ⟨h0.trans (e 0 (by decide)), h1.trans (e 1 (by decide)), h2.trans (e 2 (by decide)), h3.trans (e 3 (by decide)), h4.trans (e 4 (by decide)), h5.trans (e 5 (by decide)), h6.trans (e 6 (by decide)), h7.trans (e 7 (by decide))⟩
 . subst h
   simp only [List.all_cons, List.all_nil, h0, beq_iff_eq, Bool.and_eq_true, and_true]
   exact ⟨hK.zero 0 (by decide), hK.zero 1 (by decide), hK.zero 2 (by decide), hK.zero 3 (by decide), hK.zero 4 (by decide), hK.zero 5 (by decide), hK.zero 6 (by decide), hK.zero 7 (by decide)⟩
def Eb6 {α : Type} (K : Kd α) (a : α) : AVal := .agg [.s .u64 (K.w a 0), .s .u64 (K.w a 1), .s .u64 (K.w a 2), .s .u64 (K.w a 3), .s .u64 (K.w a 4), .s .u64 (K.w a 5)]
def Jb6 {α : Type} (K : Kd α) (p : Cv.Jac α) : AVal := .agg [.s .u64 (K.w p.x 0), .s .u64 (K.w p.x 1), .s .u64 (K.w p.x 2), .s .u64 (K.w p.x 3), .s .u64 (K.w p.x 4), .s .u64 (K.w p.x 5), .s .u64 (K.w p.y 0), .s .u64 (K.w p.y 1), .s .u64 (K.w p.y 2), .s .u64 (K.w p.y 3), .s .u64 (K.w p.y 4), .s .u64 (K.w p.y 5), .s .u64 (K.w p.z 0), .s .u64 (K.w p.z 1), .s .u64 (K.w p.z 2), .s .u64 (K.w p.z 3), .s .u64 (K.w p.z 4), .s .u64 (K.w p.z 5)]
structure Okb6 {α : Type} (K : Kd α) (r : List AVal) : Prop where
 add : ∀ a b, Sp 251 [.agg [.ref r 0], Eb6 K a, Eb6 K b] (Eb6 K (K.O.add a b))
 sub : ∀ a b, Sp 254 [.agg [.ref r 0], Eb6 K a, Eb6 K b] (Eb6 K (K.O.sub a b))
 mul : ∀ a b, Sp 253 [.agg [.ref r 0], Eb6 K a, Eb6 K b] (Eb6 K (K.O.mul a b))
 inv : ∀ a, Sp 252 [.agg [.ref r 0], Eb6 K a] (Eb6 K (K.O.inv a))
 zero : ∀ i, i < 6 → K.w K.O.zero i = 0
 sim : ∀ d, simL (simD (d + 1)) r r
 inj : ∀ a b, K.w a 0 = K.w b 0 ∧ K.w a 1 = K.w b 1 ∧ K.w a 2 = K.w b 2 ∧ K.w a 3 = K.w b 3 ∧ K.w a 4 = K.w b 4 ∧ K.w a 5 = K.w b 5 → a = b
theorem Okb6.eq {α : Type} [DecidableEq α] {K : Kd α} {r : List AVal} (hK : Okb6 K r) {A : Ar} (hA : A = Ar.real) (a b : α) : A.eqs [(.s .u64 (K.w a 0), .s .u64 (K.w b 0)), (.s .u64 (K.w a 1), .s .u64 (K.w b 1)), (.s .u64 (K.w a 2), .s .u64 (K.w b 2)), (.s .u64 (K.w a 3), .s .u64 (K.w b 3)), (.s .u64 (K.w a 4), .s .u64 (K.w b 4)), (.s .u64 (K.w a 5), .s .u64 (K.w b 5))] = decide (a = b) := by
 have h0 : ∀ x y : Int, leafEq (.s .u64 x, .s .u64 y) = (x == y) := fun x y => rfl
 refine eqs_dec hA ⟨fun h => hK.inj a b ?_, fun h => ?_⟩
 . simpa only [List.all_cons, List.all_nil, h0, beq_iff_eq, Bool.and_eq_true, and_true] using h
 . subst h; simp only [List.all_cons, List.all_nil, h0, beq_iff_eq, Bool.and_eq_true, and_true, and_self]
theorem Okb6.eqz {α : Type} [DecidableEq α] {K : Kd α} {r : List AVal} (hK : Okb6 K r) {A : Ar} (hA : A = Ar.real) (a : α) : A.eqs [(.s .u64 (K.w a 0), .i .u64 0), (.s .u64 (K.w a 1), .i .u64 0), (.s .u64 (K.w a 2), .i .u64 0), (.s .u64 (K.w a 3), .i .u64 0), (.s .u64 (K.w a 4), .i .u64 0), (.s .u64 (K.w a 5), .i .u64 0)] = decide (a = K.O.zero) := by
 have h0 : ∀ x : Int, leafEq (.s .u64 x, .i .u64 0) = (x == 0) := fun x => rfl
 refine eqs_dec hA ⟨fun h => hK.inj a _ ?_, fun h => ?_⟩
 . have z := hK.zero
   have e := fun i (hi : i < 6) => (z i hi).symm
   simp only [List.all_cons, List.all_nil, h0, beq_iff_eq, Bool.and_eq_true, and_true] at h
   obtain ⟨h0, h1, h2, h3, h4, h5⟩ := h
   exact ⟨h0.trans (e 0 (by decide)), h1.trans (e 1 (by decide)), h2.trans (e 2 (by decide)), h3.trans (e 3 (by decide)), h4.trans (e 4 (by decide)), h5.trans (e 5 (by decide))⟩
 . subst h
   simp only [List.all_cons, List.all_nil, h0, beq_iff_eq, Bool.and_eq_true, and_true]
   exact ⟨hK.zero 0 (by decide), hK.zero 1 (by decide), hK.zero 2 (by decide), hK.zero 3 (by decide), hK.zero 4 (by decide), hK.zero 5 (by decide)⟩
def Et6 {α : Type} (K : Kd α) (a : α) : AVal := .agg [.s .u64 (K.w a 0), .s .u64 (K.w a 1), .s .u64 (K.w a 2), .s .u64 (K.w a 3), .s .u64 (K.w a 4), .s .u64 (K.w a 5), .s .u64 (K.w a 6), .s .u64 (K.w a 7), .s .u64 (K.w a 8), .s .u64 (K.w a 9), .s .u64 (K.w a 10), .s .u64 (K.w a 11)]
structure Okt6 {α : Type} (K : Kd α) (r : List AVal) : Prop where
 add : ∀ a b, Sp 256 [.agg [.ref r 0], Et6 K a, Et6 K b] (Et6 K (K.O.add a b))
 sub : ∀ a b, Sp 259 [.agg [.ref r 0], Et6 K a, Et6 K b] (Et6 K (K.O.sub a b))
 mul : ∀ a b, Sp 258 [.agg [.ref r 0], Et6 K a, Et6 K b] (Et6 K (K.O.mul a b))
 inv : ∀ a, Sp 257 [.agg [.ref r 0], Et6 K a] (Et6 K (K.O.inv a))
 zero : ∀ i, i < 12 → K.w K.O.zero i = 0
 sim : ∀ d, simL (simD (d + 1)) r r
 inj : ∀ a b, K.w a 0 = K.w b 0 ∧ K.w a 1 = K.w b 1 ∧ K.w a 2 = K.w b 2 ∧ K.w a 3 = K.w b 3 ∧ K.w a 4 = K.w b 4 ∧ K.w a 5 = K.w b 5 ∧ K.w a 6 = K.w b 6 ∧ K.w a 7 = K.w b 7 ∧ K.w a 8 = K.w b 8 ∧ K.w a 9 = K.w b 9 ∧ K.w a 10 = K.w b 10 ∧ K.w a 11 = K.w b 11 → a = b
theorem Okt6.eq {α : Type} [DecidableEq α] {K : Kd α} {r : List AVal} (hK : Okt6 K r) {A : Ar} (hA : A = Ar.real) (a b : α) : A.eqs [(.s .u64 (K.w a 0), .s .u64 (K.w b 0)), (.s .u64 (K.w a 1), .s .u64 (K.w b 1)), (.s .u64 (K.w a 2), .s .u64 (K.w b 2)), (.s .u64 (K.w a 3), .s .u64 (K.w b 3)), (.s .u64 (K.w a 4), .s .u64 (K.w b 4)), (.s .u64 (K.w a 5), .s .u64 (K.w b 5)), (.s .u64 (K.w a 6), .s .u64 (K.w b 6)), (.s .u64 (K.w a 7), .s .u64 (K.w b 7)), (.s .u64 (K.w a 8), .s .u64 (K.w b 8)), (.s .u64 (K.w a 9), .s .u64 (K.w b 9)), (.s .u64 (K.w a 10), .s .u64 (K.w b 10)), (.s .u64 (K.w a 11), .s .u64 (K.w b 11))] = decide (a = b) := by
 have h0 : ∀ x y : Int, leafEq (.s .u64 x, .s .u64 y) = (x == y) := fun x y => rfl
 refine eqs_dec hA ⟨fun h => hK.inj a b ?_, fun h => ?_⟩
 . simpa only [List.all_cons, List.all_nil, h0, beq_iff_eq, Bool.and_eq_true, and_true] using h
 . subst h; simp only [List.all_cons, List.all_nil, h0, beq_iff_eq, Bool.and_eq_true, and_true, and_self]
theorem Okt6.eqz {α : Type} [DecidableEq α] {K : Kd α} {r : List AVal} (hK : Okt6 K r) {A : Ar} (hA : A = Ar.real) (a : α) : A.eqs [(.s .u64 (K.w a 0), .i .u64 0), (.s .u64 (K.w a 1), .i .u64 0), (.s .u64 (K.w a 2), .i .u64 0), (.s .u64 (K.w a 3), .i .u64 0), (.s .u64 (K.w a 4), .i .u64 0), (.s .u64 (K.w a 5), .i .u64 0), (.s .u64 (K.w a 6), .i .u64 0), (.s .u64 (K.w a 7), .i .u64 0), (.s .u64 (K.w a 8), .i .u64 0), (.s .u64 (K.w a 9), .i .u64 0), (.s .u64 (K.w a 10), .i .u64 0), (.s .u64 (K.w a 11), .i .u64 0)] = decide (a = K.O.zero) := by
 have h0 : ∀ x : Int, leafEq (.s .u64 x, .i .u64 0) = (x == 0) := fun x => rfl
 refine eqs_dec hA ⟨fun h => hK.inj a _ ?_, fun h => ?_⟩
 . have z := hK.zero
   have e := fun i (hi : i < 12) => (z i hi).symm
   simp only [List.all_cons, List.all_nil, h0, beq_iff_eq, Bool.and_eq_true, and_true] at h
   obtain ⟨h0, h1, h2, h3, h4, h5, h6, h7, h8, h9, h10, h11⟩ := h
   exact ⟨h0.trans (e 0 (by decide)), h1.trans (e 1 (by decide)), h2.trans (e 2 (by decide)), h3.trans (e 3 (by decide)), h4.trans (e 4 (by decide)), h5.trans (e 5 (by decide)), h6.trans (e 6 (by decide)), h7.trans (e 7 (by decide)), h8.trans (e 8 (by decide)), h9.trans (e 9 (by decide)), h10.trans (e 10 (by decide)), h11.trans (e 11 (by decide))⟩
 . subst h
   simp only [List.all_cons, List.all_nil, h0, beq_iff_eq, Bool.and_eq_true, and_true]
   exact ⟨hK.zero 0 (by decide), hK.zero 1 (by decide), hK.zero 2 (by decide), hK.zero 3 (by decide), hK.zero 4 (by decide), hK.zero 5 (by decide), hK.zero 6 (by decide), hK.zero 7 (by decide), hK.zero 8 (by decide), hK.zero 9 (by decide), hK.zero 10 (by decide), hK.zero 11 (by decide)⟩
def RTw : Nat → Md := fun r => match r with | 2 => .res [] | _ => .mid
def RPl : Nat → Md := fun r => match r with | 7 => .res [] | 8 => .res [] | 9 => .res [] | 14 => .res [] | 16 => .res [] | _ => .mid
def Grb4 {α : Type} (K : Kd α) (r : List AVal) (b : α) : AVal := .agg [.ifc 174 (.agg [.ref r 0]), .s .u64 (K.w b 0), .s .u64 (K.w b 1), .s .u64 (K.w b 2), .s .u64 (K.w b 3)]
theorem twiceb4 {α : Type} {K : Kd α} {r : List AVal} (hK : Okb4 K r) (b : α) (p : Cv.Jac α) : Sp 181 [Grb4 K r b, Jb4 K p] (Jb4 K (Cv.dbl K.O p)) := by
 obtain ⟨px, py, pz⟩ := p
 unfold Cv.dbl
 dsimp only
 obtain ⟨a, ha⟩ : ∃ q_, q_ = K.O.mul px px := ⟨_, rfl⟩
 have ca := hK.mul px px
 rw [← ha] at ca ⊢
 obtain ⟨bb, hbb⟩ : ∃ q_, q_ = K.O.mul py py := ⟨_, rfl⟩
 have cbb := hK.mul py py
 rw [← hbb] at cbb ⊢
 obtain ⟨s0, hs0⟩ : ∃ q_, q_ = K.O.mul px bb := ⟨_, rfl⟩
 have cs0 := hK.mul px bb
 rw [← hs0] at cs0 ⊢
 obtain ⟨s1, hs1⟩ : ∃ q_, q_ = K.O.add s0 s0 := ⟨_, rfl⟩
 have cs1 := hK.add s0 s0
 rw [← hs1] at cs1 ⊢
 obtain ⟨s2, hs2⟩ : ∃ q_, q_ = K.O.add s1 s1 := ⟨_, rfl⟩
 have cs2 := hK.add s1 s1
 rw [← hs2] at cs2 ⊢
 obtain ⟨aa, haa⟩ : ∃ q_, q_ = K.O.add a a := ⟨_, rfl⟩
 have caa := hK.add a a
 rw [← haa] at caa ⊢
 obtain ⟨e, he⟩ : ∃ q_, q_ = K.O.add aa a := ⟨_, rfl⟩
 have ce := hK.add aa a
 rw [← he] at ce ⊢
 obtain ⟨c0, hc0⟩ : ∃ q_, q_ = K.O.mul bb bb := ⟨_, rfl⟩
 have cc0 := hK.mul bb bb
 rw [← hc0] at cc0 ⊢
 obtain ⟨d1, hd1⟩ : ∃ q_, q_ = K.O.add c0 c0 := ⟨_, rfl⟩
 have cd1 := hK.add c0 c0
 rw [← hd1] at cd1 ⊢
 obtain ⟨d2, hd2⟩ : ∃ q_, q_ = K.O.add d1 d1 := ⟨_, rfl⟩
 have cd2 := hK.add d1 d1
 rw [← hd2] at cd2 ⊢
 obtain ⟨d3, hd3⟩ : ∃ q_, q_ = K.O.add d2 d2 := ⟨_, rfl⟩
 have cd3 := hK.add d2 d2
 rw [← hd3] at cd3 ⊢
 obtain ⟨ee, hee⟩ : ∃ q_, q_ = K.O.mul e e := ⟨_, rfl⟩
 have cee := hK.mul e e
 rw [← hee] at cee ⊢
 obtain ⟨ss, hss⟩ : ∃ q_, q_ = K.O.add s2 s2 := ⟨_, rfl⟩
 have css := hK.add s2 s2
 rw [← hss] at css ⊢
 obtain ⟨x, hx⟩ : ∃ q_, q_ = K.O.sub ee ss := ⟨_, rfl⟩
 have cx := hK.sub ee ss
 rw [← hx] at cx ⊢
 obtain ⟨z0, hz0⟩ : ∃ q_, q_ = K.O.mul py pz := ⟨_, rfl⟩
 have cz0 := hK.mul py pz
 rw [← hz0] at cz0 ⊢
 obtain ⟨d, hd⟩ : ∃ q_, q_ = K.O.sub s2 x := ⟨_, rfl⟩
 have cd := hK.sub s2 x
 rw [← hd] at cd ⊢
 obtain ⟨ed, hed⟩ : ∃ q_, q_ = K.O.mul e d := ⟨_, rfl⟩
 have ced := hK.mul e d
 rw [← hed] at ced ⊢
 obtain ⟨y, hy⟩ : ∃ q_, q_ = K.O.sub ed d3 := ⟨_, rfl⟩
 have cy := hK.sub ed d3
 rw [← hy] at cy ⊢
 obtain ⟨z, hz⟩ : ∃ q_, q_ = K.O.add z0 z0 := ⟨_, rfl⟩
 have cz := hK.add z0 z0
 rw [← hz] at cz ⊢
 refine mk Tryz.func181 rfl rfl L0 RTw (by decide +kernel) ?_
 intro A S hA hS
 unfold bodyOf Tryz.f181
 cbv
 refine aF hS ca ?_
 cbv
 refine aF hS cbb ?_
 cbv
 refine aF hS cs0 ?_
 cbv
 refine aF hS cs1 ?_
 cbv
 refine aF hS cs2 ?_
 cbv
 refine aF hS caa ?_
 cbv
 refine aF hS ce ?_
 cbv
 refine aF hS cc0 ?_
 cbv
 refine aF hS cd1 ?_
 cbv
 refine aF hS cd2 ?_
 cbv
 refine aF hS cd3 ?_
 cbv
 refine aF hS cee ?_
 cbv
 refine aF hS css ?_
 cbv
 refine aF hS cx ?_
 cbv
 refine aF hS cz0 ?_
 cbv
 refine aF hS cd ?_
 cbv
 refine aF hS ced ?_
 cbv
 refine aF hS cy ?_
 cbv
 refine aF hS cz ?_
 cbv
theorem plusb4 {α : Type} [DecidableEq α] {K : Kd α} {r : List AVal} (hK : Okb4 K r) (b : α) (p q : Cv.Jac α) : Sp 116 [Grb4 K r b, Jb4 K p, Jb4 K q] (Jb4 K (Cv.plus K.O p q)) := by
 have tw := twiceb4 hK b p
 obtain ⟨px, py, pz⟩ := p
 obtain ⟨qx, qy, qz⟩ := q
 unfold Cv.plus
 dsimp only
 by_cases h1 : pz = K.O.zero
 . rw [if_pos h1]
   refine mk Tryz.func116 rfl rfl L0 RPl (by decide +kernel) ?_
   intro A S hA hS
   have e1 := (hK.eqz hA pz).trans (decide_eq_true h1)
   unfold bodyOf Tryz.f116
   cbv
   refine ABr.t e1 ?_
   cbv
 rw [if_neg h1]
 by_cases h2 : qz = K.O.zero
 . rw [if_pos h2]
   refine mk Tryz.func116 rfl rfl L0 RPl (by decide +kernel) ?_
   intro A S hA hS
   have e1 := (hK.eqz hA pz).trans (decide_eq_false h1)
   have e2 := (hK.eqz hA qz).trans (decide_eq_true h2)
   unfold bodyOf Tryz.f116
   cbv
   refine ABr.f e1 ?_
   cbv
   refine ABr.t e2 ?_
   cbv
 rw [if_neg h2]
 obtain ⟨pp, hpp⟩ : ∃ q_, q_ = K.O.mul pz pz := ⟨_, rfl⟩
 have cpp := hK.mul pz pz
 rw [← hpp] at cpp ⊢
 obtain ⟨qq, hqq⟩ : ∃ q_, q_ = K.O.mul qz qz := ⟨_, rfl⟩
 have cqq := hK.mul qz qz
 rw [← hqq] at cqq ⊢
 obtain ⟨u, hu⟩ : ∃ q_, q_ = K.O.mul px qq := ⟨_, rfl⟩
 have cu := hK.mul px qq
 rw [← hu] at cu ⊢
 obtain ⟨v, hv⟩ : ∃ q_, q_ = K.O.mul qx pp := ⟨_, rfl⟩
 have cv := hK.mul qx pp
 rw [← hv] at cv ⊢
 obtain ⟨s0, hs0⟩ : ∃ q_, q_ = K.O.mul py qq := ⟨_, rfl⟩
 have cs0 := hK.mul py qq
 rw [← hs0] at cs0 ⊢
 obtain ⟨s, hs⟩ : ∃ q_, q_ = K.O.mul s0 qz := ⟨_, rfl⟩
 have cs := hK.mul s0 qz
 rw [← hs] at cs ⊢
 obtain ⟨t0, ht0⟩ : ∃ q_, q_ = K.O.mul qy pp := ⟨_, rfl⟩
 have ct0 := hK.mul qy pp
 rw [← ht0] at ct0 ⊢
 obtain ⟨t, ht⟩ : ∃ q_, q_ = K.O.mul t0 pz := ⟨_, rfl⟩
 have ct := hK.mul t0 pz
 rw [← ht] at ct ⊢
 by_cases h3 : u = v
 . rw [if_pos h3]
   by_cases h4 : s = t
   . rw [if_pos h4]
     refine mk Tryz.func116 rfl rfl L0 RPl (by decide +kernel) ?_
     intro A S hA hS
     have e1 := (hK.eqz hA pz).trans (decide_eq_false h1)
     have e2 := (hK.eqz hA qz).trans (decide_eq_false h2)
     have e3 := (hK.eq hA u v).trans (decide_eq_true h3)
     have e4 := (hK.eq hA s t).trans (decide_eq_true h4)
     generalize Cv.dbl K.O ⟨px, py, pz⟩ = d at *
     unfold bodyOf Tryz.f116
     cbv
     refine ABr.f e1 ?_
     cbv
     refine ABr.f e2 ?_
     cbv
     refine aF hS cpp ?_
     cbv
     refine aF hS cqq ?_
     cbv
     refine aF hS cu ?_
     cbv
     refine aF hS cv ?_
     cbv
     refine aF hS cs0 ?_
     cbv
     refine aF hS cs ?_
     cbv
     refine aF hS ct0 ?_
     cbv
     refine aF hS ct ?_
     cbv
     refine ABr.t e3 ?_
     cbv
     refine ABr.t e4 ?_
     cbv
     refine aF hS tw ?_
     cbv
   . rw [if_neg h4]
     refine mk Tryz.func116 rfl rfl L0 RPl (by decide +kernel) ?_
     intro A S hA hS
     have e1 := (hK.eqz hA pz).trans (decide_eq_false h1)
     have e2 := (hK.eqz hA qz).trans (decide_eq_false h2)
     have e3 := (hK.eq hA u v).trans (decide_eq_true h3)
     have e4 := (hK.eq hA s t).trans (decide_eq_false h4)
     have z := hK.zero
     unfold bodyOf Tryz.f116
     cbv
     refine ABr.f e1 ?_
     cbv
     refine ABr.f e2 ?_
     cbv
     refine aF hS cpp ?_
     cbv
     refine aF hS cqq ?_
     cbv
     refine aF hS cu ?_
     cbv
     refine aF hS cv ?_
     cbv
     refine aF hS cs0 ?_
     cbv
     refine aF hS cs ?_
     cbv
     refine aF hS ct0 ?_
     cbv
     refine aF hS ct ?_
     cbv
     refine ABr.t e3 ?_
     cbv
     refine ABr.f e4 ?_
     cbv
     repeat' (first | exact (z _ (by decide)).symm | constructor)
 rw [if_neg h3]
 obtain ⟨h, hh⟩ : ∃ q_, q_ = K.O.sub v u := ⟨_, rfl⟩
 have ch := hK.sub v u
 rw [← hh] at ch ⊢
 obtain ⟨rr, hrr⟩ : ∃ q_, q_ = K.O.sub t s := ⟨_, rfl⟩
 have crr := hK.sub t s
 rw [← hrr] at crr ⊢
 obtain ⟨hh, hhh⟩ : ∃ q_, q_ = K.O.mul h h := ⟨_, rfl⟩
 have chh := hK.mul h h
 rw [← hhh] at chh ⊢
 obtain ⟨hhh, hhhh⟩ : ∃ q_, q_ = K.O.mul hh h := ⟨_, rfl⟩
 have chhh := hK.mul hh h
 rw [← hhhh] at chhh ⊢
 obtain ⟨w, hw⟩ : ∃ q_, q_ = K.O.mul u hh := ⟨_, rfl⟩
 have cw := hK.mul u hh
 rw [← hw] at cw ⊢
 obtain ⟨r2, hr2⟩ : ∃ q_, q_ = K.O.mul rr rr := ⟨_, rfl⟩
 have cr2 := hK.mul rr rr
 rw [← hr2] at cr2 ⊢
 obtain ⟨x0, hx0⟩ : ∃ q_, q_ = K.O.sub r2 hhh := ⟨_, rfl⟩
 have cx0 := hK.sub r2 hhh
 rw [← hx0] at cx0 ⊢
 obtain ⟨ww, hww⟩ : ∃ q_, q_ = K.O.add w w := ⟨_, rfl⟩
 have cww := hK.add w w
 rw [← hww] at cww ⊢
 obtain ⟨x, hx⟩ : ∃ q_, q_ = K.O.sub x0 ww := ⟨_, rfl⟩
 have cx := hK.sub x0 ww
 rw [← hx] at cx ⊢
 obtain ⟨wx, hwx⟩ : ∃ q_, q_ = K.O.sub w x := ⟨_, rfl⟩
 have cwx := hK.sub w x
 rw [← hwx] at cwx ⊢
 obtain ⟨rx, hrx⟩ : ∃ q_, q_ = K.O.mul rr wx := ⟨_, rfl⟩
 have crx := hK.mul rr wx
 rw [← hrx] at crx ⊢
 obtain ⟨sh, hsh⟩ : ∃ q_, q_ = K.O.mul s hhh := ⟨_, rfl⟩
 have csh := hK.mul s hhh
 rw [← hsh] at csh ⊢
 obtain ⟨y, hy⟩ : ∃ q_, q_ = K.O.sub rx sh := ⟨_, rfl⟩
 have cy := hK.sub rx sh
 rw [← hy] at cy ⊢
 obtain ⟨pq, hpq⟩ : ∃ q_, q_ = K.O.mul pz qz := ⟨_, rfl⟩
 have cpq := hK.mul pz qz
 rw [← hpq] at cpq ⊢
 obtain ⟨z, hz⟩ : ∃ q_, q_ = K.O.mul pq h := ⟨_, rfl⟩
 have cz := hK.mul pq h
 rw [← hz] at cz ⊢
 refine mk Tryz.func116 rfl rfl L0 RPl (by decide +kernel) ?_
 intro A S hA hS
 have e1 := (hK.eqz hA pz).trans (decide_eq_false h1)
 have e2 := (hK.eqz hA qz).trans (decide_eq_false h2)
 have e3 := (hK.eq hA u v).trans (decide_eq_false h3)
 unfold bodyOf Tryz.f116
 cbv
 refine ABr.f e1 ?_
 cbv
 refine ABr.f e2 ?_
 cbv
 refine aF hS cpp ?_
 cbv
 refine aF hS cqq ?_
 cbv
 refine aF hS cu ?_
 cbv
 refine aF hS cv ?_
 cbv
 refine aF hS cs0 ?_
 cbv
 refine aF hS cs ?_
 cbv
 refine aF hS ct0 ?_
 cbv
 refine aF hS ct ?_
 cbv
 refine ABr.f e3 ?_
 cbv
 refine aF hS ch ?_
 cbv
 refine aF hS crr ?_
 cbv
 refine aF hS chh ?_
 cbv
 refine aF hS chhh ?_
 cbv
 refine aF hS cw ?_
 cbv
 refine aF hS cr2 ?_
 cbv
 refine aF hS cx0 ?_
 cbv
 refine aF hS cww ?_
 cbv
 refine aF hS cx ?_
 cbv
 refine aF hS cwx ?_
 cbv
 refine aF hS crx ?_
 cbv
 refine aF hS csh ?_
 cbv
 refine aF hS cy ?_
 cbv
 refine aF hS cpq ?_
 cbv
 refine aF hS cz ?_
 cbv
def Grt4 {α : Type} (K : Kd α) (r : List AVal) (b : α) : AVal := .agg [.ifc 171 (.agg [.ref r 0]), .s .u64 (K.w b 0), .s .u64 (K.w b 1), .s .u64 (K.w b 2), .s .u64 (K.w b 3), .s .u64 (K.w b 4), .s .u64 (K.w b 5), .s .u64 (K.w b 6), .s .u64 (K.w b 7)]
theorem twicet4 {α : Type} {K : Kd α} {r : List AVal} (hK : Okt4 K r) (b : α) (p : Cv.Jac α) : Sp 188 [Grt4 K r b, Jt4 K p] (Jt4 K (Cv.dbl K.O p)) := by
 obtain ⟨px, py, pz⟩ := p
 unfold Cv.dbl
 dsimp only
 obtain ⟨a, ha⟩ : ∃ q_, q_ = K.O.mul px px := ⟨_, rfl⟩
 have ca := hK.mul px px
 rw [← ha] at ca ⊢
 obtain ⟨bb, hbb⟩ : ∃ q_, q_ = K.O.mul py py := ⟨_, rfl⟩
 have cbb := hK.mul py py
 rw [← hbb] at cbb ⊢
 obtain ⟨s0, hs0⟩ : ∃ q_, q_ = K.O.mul px bb := ⟨_, rfl⟩
 have cs0 := hK.mul px bb
 rw [← hs0] at cs0 ⊢
 obtain ⟨s1, hs1⟩ : ∃ q_, q_ = K.O.add s0 s0 := ⟨_, rfl⟩
 have cs1 := hK.add s0 s0
 rw [← hs1] at cs1 ⊢
 obtain ⟨s2, hs2⟩ : ∃ q_, q_ = K.O.add s1 s1 := ⟨_, rfl⟩
 have cs2 := hK.add s1 s1
 rw [← hs2] at cs2 ⊢
 obtain ⟨aa, haa⟩ : ∃ q_, q_ = K.O.add a a := ⟨_, rfl⟩
 have caa := hK.add a a
 rw [← haa] at caa ⊢
 obtain ⟨e, he⟩ : ∃ q_, q_ = K.O.add aa a := ⟨_, rfl⟩
 have ce := hK.add aa a
 rw [← he] at ce ⊢
 obtain ⟨c0, hc0⟩ : ∃ q_, q_ = K.O.mul bb bb := ⟨_, rfl⟩
 have cc0 := hK.mul bb bb
 rw [← hc0] at cc0 ⊢
 obtain ⟨d1, hd1⟩ : ∃ q_, q_ = K.O.add c0 c0 := ⟨_, rfl⟩
 have cd1 := hK.add c0 c0
 rw [← hd1] at cd1 ⊢
 obtain ⟨d2, hd2⟩ : ∃ q_, q_ = K.O.add d1 d1 := ⟨_, rfl⟩
 have cd2 := hK.add d1 d1
 rw [← hd2] at cd2 ⊢
 obtain ⟨d3, hd3⟩ : ∃ q_, q_ = K.O.add d2 d2 := ⟨_, rfl⟩
 have cd3 := hK.add d2 d2
 rw [← hd3] at cd3 ⊢
 obtain ⟨ee, hee⟩ : ∃ q_, q_ = K.O.mul e e := ⟨_, rfl⟩
 have cee := hK.mul e e
 rw [← hee] at cee ⊢
 obtain ⟨ss, hss⟩ : ∃ q_, q_ = K.O.add s2 s2 := ⟨_, rfl⟩
 have css := hK.add s2 s2
 rw [← hss] at css ⊢
 obtain ⟨x, hx⟩ : ∃ q_, q_ = K.O.sub ee ss := ⟨_, rfl⟩
 have cx := hK.sub ee ss
 rw [← hx] at cx ⊢
 obtain ⟨z0, hz0⟩ : ∃ q_, q_ = K.O.mul py pz := ⟨_, rfl⟩
 have cz0 := hK.mul py pz
 rw [← hz0] at cz0 ⊢
 obtain ⟨d, hd⟩ : ∃ q_, q_ = K.O.sub s2 x := ⟨_, rfl⟩
 have cd := hK.sub s2 x
 rw [← hd] at cd ⊢
 obtain ⟨ed, hed⟩ : ∃ q_, q_ = K.O.mul e d := ⟨_, rfl⟩
 have ced := hK.mul e d
 rw [← hed] at ced ⊢
 obtain ⟨y, hy⟩ : ∃ q_, q_ = K.O.sub ed d3 := ⟨_, rfl⟩
 have cy := hK.sub ed d3
 rw [← hy] at cy ⊢
 obtain ⟨z, hz⟩ : ∃ q_, q_ = K.O.add z0 z0 := ⟨_, rfl⟩
 have cz := hK.add z0 z0
 rw [← hz] at cz ⊢
 refine mk Tryz.func188 rfl rfl L0 RTw (by decide +kernel) ?_
 intro A S hA hS
 unfold bodyOf Tryz.f188
 cbv
 refine aF hS ca ?_
 cbv
 refine aF hS cbb ?_
 cbv
 refine aF hS cs0 ?_
 cbv
 refine aF hS cs1 ?_
 cbv
 refine aF hS cs2 ?_
 cbv
 refine aF hS caa ?_
 cbv
 refine aF hS ce ?_
 cbv
 refine aF hS cc0 ?_
 cbv
 refine aF hS cd1 ?_
 cbv
 refine aF hS cd2 ?_
 cbv
 refine aF hS cd3 ?_
 cbv
 refine aF hS cee ?_
 cbv
 refine aF hS css ?_
 cbv
 refine aF hS cx ?_
 cbv
 refine aF hS cz0 ?_
 cbv
 refine aF hS cd ?_
 cbv
 refine aF hS ced ?_
 cbv
 refine aF hS cy ?_
 cbv
 refine aF hS cz ?_
 cbv
theorem plust4 {α : Type} [DecidableEq α] {K : Kd α} {r : List AVal} (hK : Okt4 K r) (b : α) (p q : Cv.Jac α) : Sp 132 [Grt4 K r b, Jt4 K p, Jt4 K q] (Jt4 K (Cv.plus K.O p q)) := by
 have tw := twicet4 hK b p
 obtain ⟨px, py, pz⟩ := p
 obtain ⟨qx, qy, qz⟩ := q
 unfold Cv.plus
 dsimp only
 by_cases h1 : pz = K.O.zero
 . rw [if_pos h1]
   refine mk Tryz.func132 rfl rfl L0 RPl (by decide +kernel) ?_
   intro A S hA hS
   have e1 := (hK.eqz hA pz).trans (decide_eq_true h1)
   unfold bodyOf Tryz.f132
   cbv
   refine ABr.t e1 ?_
   cbv
 rw [if_neg h1]
 by_cases h2 : qz = K.O.zero
 . rw [if_pos h2]
   refine mk Tryz.func132 rfl rfl L0 RPl (by decide +kernel) ?_
   intro A S hA hS
   have e1 := (hK.eqz hA pz).trans (decide_eq_false h1)
   have e2 := (hK.eqz hA qz).trans (decide_eq_true h2)
   unfold bodyOf Tryz.f132
   cbv
   refine ABr.f e1 ?_
   cbv
   refine ABr.t e2 ?_
   cbv
 rw [if_neg h2]
 obtain ⟨pp, hpp⟩ : ∃ q_, q_ = K.O.mul pz pz := ⟨_, rfl⟩
 have cpp := hK.mul pz pz
 rw [← hpp] at cpp ⊢
 obtain ⟨qq, hqq⟩ : ∃ q_, q_ = K.O.mul qz qz := ⟨_, rfl⟩
 have cqq := hK.mul qz qz
 rw [← hqq] at cqq ⊢
 obtain ⟨u, hu⟩ : ∃ q_, q_ = K.O.mul px qq := ⟨_, rfl⟩
 have cu := hK.mul px qq
 rw [← hu] at cu ⊢
 obtain ⟨v, hv⟩ : ∃ q_, q_ = K.O.mul qx pp := ⟨_, rfl⟩
 have cv := hK.mul qx pp
 rw [← hv] at cv ⊢
 obtain ⟨s0, hs0⟩ : ∃ q_, q_ = K.O.mul py qq := ⟨_, rfl⟩
 have cs0 := hK.mul py qq
 rw [← hs0] at cs0 ⊢
 obtain ⟨s, hs⟩ : ∃ q_, q_ = K.O.mul s0 qz := ⟨_, rfl⟩
 have cs := hK.mul s0 qz
 rw [← hs] at cs ⊢
 obtain ⟨t0, ht0⟩ : ∃ q_, q_ = K.O.mul qy pp := ⟨_, rfl⟩
 have ct0 := hK.mul qy pp
 rw [← ht0] at ct0 ⊢
 obtain ⟨t, ht⟩ : ∃ q_, q_ = K.O.mul t0 pz := ⟨_, rfl⟩
 have ct := hK.mul t0 pz
 rw [← ht] at ct ⊢
 by_cases h3 : u = v
 . rw [if_pos h3]
   by_cases h4 : s = t
   . rw [if_pos h4]
     refine mk Tryz.func132 rfl rfl L0 RPl (by decide +kernel) ?_
     intro A S hA hS
     have e1 := (hK.eqz hA pz).trans (decide_eq_false h1)
     have e2 := (hK.eqz hA qz).trans (decide_eq_false h2)
     have e3 := (hK.eq hA u v).trans (decide_eq_true h3)
     have e4 := (hK.eq hA s t).trans (decide_eq_true h4)
     generalize Cv.dbl K.O ⟨px, py, pz⟩ = d at *
     unfold bodyOf Tryz.f132
     cbv
     refine ABr.f e1 ?_
     cbv
     refine ABr.f e2 ?_
     cbv
     refine aF hS cpp ?_
     cbv
     refine aF hS cqq ?_
     cbv
     refine aF hS cu ?_
     cbv
     refine aF hS cv ?_
     cbv
     refine aF hS cs0 ?_
     cbv
     refine aF hS cs ?_
     cbv
     refine aF hS ct0 ?_
     cbv
     refine aF hS ct ?_
     cbv
     refine ABr.t e3 ?_
     cbv
     refine ABr.t e4 ?_
     cbv
     refine aF hS tw ?_
     cbv
   . rw [if_neg h4]
     refine mk Tryz.func132 rfl rfl L0 RPl (by decide +kernel) ?_
     intro A S hA hS
     have e1 := (hK.eqz hA pz).trans (decide_eq_false h1)
     have e2 := (hK.eqz hA qz).trans (decide_eq_false h2)
     have e3 := (hK.eq hA u v).trans (decide_eq_true h3)
     have e4 := (hK.eq hA s t).trans (decide_eq_false h4)
     have z := hK.zero
     unfold bodyOf Tryz.f132
     cbv
     refine ABr.f e1 ?_
     cbv
     refine ABr.f e2 ?_
     cbv
     refine aF hS cpp ?_
     cbv
     refine aF hS cqq ?_
     cbv
     refine aF hS cu ?_
     cbv
     refine aF hS cv ?_
     cbv
     refine aF hS cs0 ?_
     cbv
     refine aF hS cs ?_
     cbv
     refine aF hS ct0 ?_
     cbv
     refine aF hS ct ?_
     cbv
     refine ABr.t e3 ?_
     cbv
     refine ABr.f e4 ?_
     cbv
     repeat' (first | exact (z _ (by decide)).symm | constructor)
 rw [if_neg h3]
 obtain ⟨h, hh⟩ : ∃ q_, q_ = K.O.sub v u := ⟨_, rfl⟩
 have ch := hK.sub v u
 rw [← hh] at ch ⊢
 obtain ⟨rr, hrr⟩ : ∃ q_, q_ = K.O.sub t s := ⟨_, rfl⟩
 have crr := hK.sub t s
 rw [← hrr] at crr ⊢
 obtain ⟨hh, hhh⟩ : ∃ q_, q_ = K.O.mul h h := ⟨_, rfl⟩
 have chh := hK.mul h h
 rw [← hhh] at chh ⊢
 obtain ⟨hhh, hhhh⟩ : ∃ q_, q_ = K.O.mul hh h := ⟨_, rfl⟩
 have chhh := hK.mul hh h
 rw [← hhhh] at chhh ⊢
 obtain ⟨w, hw⟩ : ∃ q_, q_ = K.O.mul u hh := ⟨_, rfl⟩
 have cw := hK.mul u hh
 rw [← hw] at cw ⊢
 obtain ⟨r2, hr2⟩ : ∃ q_, q_ = K.O.mul rr rr := ⟨_, rfl⟩
 have cr2 := hK.mul rr rr
 rw [← hr2] at cr2 ⊢
 obtain ⟨x0, hx0⟩ : ∃ q_, q_ = K.O.sub r2 hhh := ⟨_, rfl⟩
 have cx0 := hK.sub r2 hhh
 rw [← hx0] at cx0 ⊢
 obtain ⟨ww, hww⟩ : ∃ q_, q_ = K.O.add w w := ⟨_, rfl⟩
 have cww := hK.add w w
 rw [← hww] at cww ⊢
 obtain ⟨x, hx⟩ : ∃ q_, q_ = K.O.sub x0 ww := ⟨_, rfl⟩
 have cx := hK.sub x0 ww
 rw [← hx] at cx ⊢
 obtain ⟨wx, hwx⟩ : ∃ q_, q_ = K.O.sub w x := ⟨_, rfl⟩
 have cwx := hK.sub w x
 rw [← hwx] at cwx ⊢
 obtain ⟨rx, hrx⟩ : ∃ q_, q_ = K.O.mul rr wx := ⟨_, rfl⟩
 have crx := hK.mul rr wx
 rw [← hrx] at crx ⊢
 obtain ⟨sh, hsh⟩ : ∃ q_, q_ = K.O.mul s hhh := ⟨_, rfl⟩
 have csh := hK.mul s hhh
 rw [← hsh] at csh ⊢
 obtain ⟨y, hy⟩ : ∃ q_, q_ = K.O.sub rx sh := ⟨_, rfl⟩
 have cy := hK.sub rx sh
 rw [← hy] at cy ⊢
 obtain ⟨pq, hpq⟩ : ∃ q_, q_ = K.O.mul pz qz := ⟨_, rfl⟩
 have cpq := hK.mul pz qz
 rw [← hpq] at cpq ⊢
 obtain ⟨z, hz⟩ : ∃ q_, q_ = K.O.mul pq h := ⟨_, rfl⟩
 have cz := hK.mul pq h
 rw [← hz] at cz ⊢
 refine mk Tryz.func132 rfl rfl L0 RPl (by decide +kernel) ?_
 intro A S hA hS
 have e1 := (hK.eqz hA pz).trans (decide_eq_false h1)
 have e2 := (hK.eqz hA qz).trans (decide_eq_false h2)
 have e3 := (hK.eq hA u v).trans (decide_eq_false h3)
 unfold bodyOf Tryz.f132
 cbv
 refine ABr.f e1 ?_
 cbv
 refine ABr.f e2 ?_
 cbv
 refine aF hS cpp ?_
 cbv
 refine aF hS cqq ?_
 cbv
 refine aF hS cu ?_
 cbv
 refine aF hS cv ?_
 cbv
 refine aF hS cs0 ?_
 cbv
 refine aF hS cs ?_
 cbv
 refine aF hS ct0 ?_
 cbv
 refine aF hS ct ?_
 cbv
 refine ABr.f e3 ?_
 cbv
 refine aF hS ch ?_
 cbv
 refine aF hS crr ?_
 cbv
 refine aF hS chh ?_
 cbv
 refine aF hS chhh ?_
 cbv
 refine aF hS cw ?_
 cbv
 refine aF hS cr2 ?_
 cbv
 refine aF hS cx0 ?_
 cbv
 refine aF hS cww ?_
 cbv
 refine aF hS cx ?_
 cbv
 refine aF hS cwx ?_
 cbv
 refine aF hS crx ?_
 cbv
 refine aF hS csh ?_
 cbv
 refine aF hS cy ?_
 cbv
 refine aF hS cpq ?_
 cbv
 refine aF hS cz ?_
 cbv
def Grb6 {α : Type} (K : Kd α) (r : List AVal) (b : α) : AVal := .agg [.ifc 134 (.agg [.ref r 0]), .s .u64 (K.w b 0), .s .u64 (K.w b 1), .s .u64 (K.w b 2), .s .u64 (K.w b 3), .s .u64 (K.w b 4), .s .u64 (K.w b 5)]
theorem twiceb6 {α : Type} {K : Kd α} {r : List AVal} (hK : Okb6 K r) (b : α) (p : Cv.Jac α) : Sp 164 [Grb6 K r b, Jb6 K p] (Jb6 K (Cv.dbl K.O p)) := by
 obtain ⟨px, py, pz⟩ := p
 unfold Cv.dbl
 dsimp only
 obtain ⟨a, ha⟩ : ∃ q_, q_ = K.O.mul px px := ⟨_, rfl⟩
 have ca := hK.mul px px
 rw [← ha] at ca ⊢
 obtain ⟨bb, hbb⟩ : ∃ q_, q_ = K.O.mul py py := ⟨_, rfl⟩
 have cbb := hK.mul py py
 rw [← hbb] at cbb ⊢
 obtain ⟨s0, hs0⟩ : ∃ q_, q_ = K.O.mul px bb := ⟨_, rfl⟩
 have cs0 := hK.mul px bb
 rw [← hs0] at cs0 ⊢
 obtain ⟨s1, hs1⟩ : ∃ q_, q_ = K.O.add s0 s0 := ⟨_, rfl⟩
 have cs1 := hK.add s0 s0
 rw [← hs1] at cs1 ⊢
 obtain ⟨s2, hs2⟩ : ∃ q_, q_ = K.O.add s1 s1 := ⟨_, rfl⟩
 have cs2 := hK.add s1 s1
 rw [← hs2] at cs2 ⊢
 obtain ⟨aa, haa⟩ : ∃ q_, q_ = K.O.add a a := ⟨_, rfl⟩
 have caa := hK.add a a
 rw [← haa] at caa ⊢
 obtain ⟨e, he⟩ : ∃ q_, q_ = K.O.add aa a := ⟨_, rfl⟩
 have ce := hK.add aa a
 rw [← he] at ce ⊢
 obtain ⟨c0, hc0⟩ : ∃ q_, q_ = K.O.mul bb bb := ⟨_, rfl⟩
 have cc0 := hK.mul bb bb
 rw [← hc0] at cc0 ⊢
 obtain ⟨d1, hd1⟩ : ∃ q_, q_ = K.O.add c0 c0 := ⟨_, rfl⟩
 have cd1 := hK.add c0 c0
 rw [← hd1] at cd1 ⊢
 obtain ⟨d2, hd2⟩ : ∃ q_, q_ = K.O.add d1 d1 := ⟨_, rfl⟩
 have cd2 := hK.add d1 d1
 rw [← hd2] at cd2 ⊢
 obtain ⟨d3, hd3⟩ : ∃ q_, q_ = K.O.add d2 d2 := ⟨_, rfl⟩
 have cd3 := hK.add d2 d2
 rw [← hd3] at cd3 ⊢
 obtain ⟨ee, hee⟩ : ∃ q_, q_ = K.O.mul e e := ⟨_, rfl⟩
 have cee := hK.mul e e
 rw [← hee] at cee ⊢
 obtain ⟨ss, hss⟩ : ∃ q_, q_ = K.O.add s2 s2 := ⟨_, rfl⟩
 have css := hK.add s2 s2
 rw [← hss] at css ⊢
 obtain ⟨x, hx⟩ : ∃ q_, q_ = K.O.sub ee ss := ⟨_, rfl⟩
 have cx := hK.sub ee ss
 rw [← hx] at cx ⊢
 obtain ⟨z0, hz0⟩ : ∃ q_, q_ = K.O.mul py pz := ⟨_, rfl⟩
 have cz0 := hK.mul py pz
 rw [← hz0] at cz0 ⊢
 obtain ⟨d, hd⟩ : ∃ q_, q_ = K.O.sub s2 x := ⟨_, rfl⟩
 have cd := hK.sub s2 x
 rw [← hd] at cd ⊢
 obtain ⟨ed, hed⟩ : ∃ q_, q_ = K.O.mul e d := ⟨_, rfl⟩
 have ced := hK.mul e d
 rw [← hed] at ced ⊢
 obtain ⟨y, hy⟩ : ∃ q_, q_ = K.O.sub ed d3 := ⟨_, rfl⟩
 have cy := hK.sub ed d3
 rw [← hy] at cy ⊢
 obtain ⟨z, hz⟩ : ∃ q_, q_ = K.O.add z0 z0 := ⟨_, rfl⟩
 have cz := hK.add z0 z0
 rw [← hz] at cz ⊢
 refine mk Tryz.func164 rfl rfl L0 RTw (by decide +kernel) ?_
 intro A S hA hS
 unfold bodyOf Tryz.f164
 cbv
 refine aF hS ca ?_
 cbv
 refine aF hS cbb ?_
 cbv
 refine aF hS cs0 ?_
 cbv
 refine aF hS cs1 ?_
 cbv
 refine aF hS cs2 ?_
 cbv
 refine aF hS caa ?_
 cbv
 refine aF hS ce ?_
 cbv
 refine aF hS cc0 ?_
 cbv
 refine aF hS cd1 ?_
 cbv
 refine aF hS cd2 ?_
 cbv
 refine aF hS cd3 ?_
 cbv
 refine aF hS cee ?_
 cbv
 refine aF hS css ?_
 cbv
 refine aF hS cx ?_
 cbv
 refine aF hS cz0 ?_
 cbv
 refine aF hS cd ?_
 cbv
 refine aF hS ced ?_
 cbv
 refine aF hS cy ?_
 cbv
 refine aF hS cz ?_
 cbv
theorem plusb6 {α : Type} [DecidableEq α] {K : Kd α} {r : List AVal} (hK : Okb6 K r) (b : α) (p q : Cv.Jac α) : Sp 96 [Grb6 K r b, Jb6 K p, Jb6 K q] (Jb6 K (Cv.plus K.O p q)) := by
 have tw := twiceb6 hK b p
 obtain ⟨px, py, pz⟩ := p
 obtain ⟨qx, qy, qz⟩ := q
 unfold Cv.plus
 dsimp only
 by_cases h1 : pz = K.O.zero
 . rw [if_pos h1]
   refine mk Tryz.func96 rfl rfl L0 RPl (by decide +kernel) ?_
   intro A S hA hS
   have e1 := (hK.eqz hA pz).trans (decide_eq_true h1)
   unfold bodyOf Tryz.f96
   cbv
   refine ABr.t e1 ?_
   cbv
 rw [if_neg h1]
 by_cases h2 : qz = K.O.zero
 . rw [if_pos h2]
   refine mk Tryz.func96 rfl rfl L0 RPl (by decide +kernel) ?_
   intro A S hA hS
   have e1 := (hK.eqz hA pz).trans (decide_eq_false h1)
   have e2 := (hK.eqz hA qz).trans (decide_eq_true h2)
   unfold bodyOf Tryz.f96
   cbv
   refine ABr.f e1 ?_
   cbv
   refine ABr.t e2 ?_
   cbv
 rw [if_neg h2]
 obtain ⟨pp, hpp⟩ : ∃ q_, q_ = K.O.mul pz pz := ⟨_, rfl⟩
 have cpp := hK.mul pz pz
 rw [← hpp] at cpp ⊢
 obtain ⟨qq, hqq⟩ : ∃ q_, q_ = K.O.mul qz qz := ⟨_, rfl⟩
 have cqq := hK.mul qz qz
 rw [← hqq] at cqq ⊢
 obtain ⟨u, hu⟩ : ∃ q_, q_ = K.O.mul px qq := ⟨_, rfl⟩
 have cu := hK.mul px qq
 rw [← hu] at cu ⊢
 obtain ⟨v, hv⟩ : ∃ q_, q_ = K.O.mul qx pp := ⟨_, rfl⟩
 have cv := hK.mul qx pp
 rw [← hv] at cv ⊢
 obtain ⟨s0, hs0⟩ : ∃ q_, q_ = K.O.mul py qq := ⟨_, rfl⟩
 have cs0 := hK.mul py qq
 rw [← hs0] at cs0 ⊢
 obtain ⟨s, hs⟩ : ∃ q_, q_ = K.O.mul s0 qz := ⟨_, rfl⟩
 have cs := hK.mul s0 qz
 rw [← hs] at cs ⊢
 obtain ⟨t0, ht0⟩ : ∃ q_, q_ = K.O.mul qy pp := ⟨_, rfl⟩
 have ct0 := hK.mul qy pp
 rw [← ht0] at ct0 ⊢
 obtain ⟨t, ht⟩ : ∃ q_, q_ = K.O.mul t0 pz := ⟨_, rfl⟩
 have ct := hK.mul t0 pz
 rw [← ht] at ct ⊢
 by_cases h3 : u = v
 . rw [if_pos h3]
   by_cases h4 : s = t
   . rw [if_pos h4]
     refine mk Tryz.func96 rfl rfl L0 RPl (by decide +kernel) ?_
     intro A S hA hS
     have e1 := (hK.eqz hA pz).trans (decide_eq_false h1)
     have e2 := (hK.eqz hA qz).trans (decide_eq_false h2)
     have e3 := (hK.eq hA u v).trans (decide_eq_true h3)
     have e4 := (hK.eq hA s t).trans (decide_eq_true h4)
     generalize Cv.dbl K.O ⟨px, py, pz⟩ = d at *
     unfold bodyOf Tryz.f96
     cbv
     refine ABr.f e1 ?_
     cbv
     refine ABr.f e2 ?_
     cbv
     refine aF hS cpp ?_
     cbv
     refine aF hS cqq ?_
     cbv
     refine aF hS cu ?_
     cbv
     refine aF hS cv ?_
     cbv
     refine aF hS cs0 ?_
     cbv
     refine aF hS cs ?_
     cbv
     refine aF hS ct0 ?_
     cbv
     refine aF hS ct ?_
     cbv
     refine ABr.t e3 ?_
     cbv
     refine ABr.t e4 ?_
     cbv
     refine aF hS tw ?_
     cbv
   . rw [if_neg h4]
     refine mk Tryz.func96 rfl rfl L0 RPl (by decide +kernel) ?_
     intro A S hA hS
     have e1 := (hK.eqz hA pz).trans (decide_eq_false h1)
     have e2 := (hK.eqz hA qz).trans (decide_eq_false h2)
     have e3 := (hK.eq hA u v).trans (decide_eq_true h3)
     have e4 := (hK.eq hA s t).trans (decide_eq_false h4)
     have z := hK.zero
     unfold bodyOf Tryz.f96
     cbv
     refine ABr.f e1 ?_
     cbv
     refine ABr.f e2 ?_
     cbv
     refine aF hS cpp ?_
     cbv
     refine aF hS cqq ?_
     cbv
     refine aF hS cu ?_
     cbv
     refine aF hS cv ?_
     cbv
     refine aF hS cs0 ?_
     cbv
     refine aF hS cs ?_
     cbv
     refine aF hS ct0 ?_
     cbv
     refine aF hS ct ?_
     cbv
     refine ABr.t e3 ?_
     cbv
     refine ABr.f e4 ?_
     cbv
     repeat' (first | exact (z _ (by decide)).symm | constructor)
 rw [if_neg h3]
 obtain ⟨h, hh⟩ : ∃ q_, q_ = K.O.sub v u := ⟨_, rfl⟩
 have ch := hK.sub v u
 rw [← hh] at ch ⊢
 obtain ⟨rr, hrr⟩ : ∃ q_, q_ = K.O.sub t s := ⟨_, rfl⟩
 have crr := hK.sub t s
 rw [← hrr] at crr ⊢
 obtain ⟨hh, hhh⟩ : ∃ q_, q_ = K.O.mul h h := ⟨_, rfl⟩
 have chh := hK.mul h h
 rw [← hhh] at chh ⊢
 obtain ⟨hhh, hhhh⟩ : ∃ q_, q_ = K.O.mul hh h := ⟨_, rfl⟩
 have chhh := hK.mul hh h
 rw [← hhhh] at chhh ⊢
 obtain ⟨w, hw⟩ : ∃ q_, q_ = K.O.mul u hh := ⟨_, rfl⟩
 have cw := hK.mul u hh
 rw [← hw] at cw ⊢
 obtain ⟨r2, hr2⟩ : ∃ q_, q_ = K.O.mul rr rr := ⟨_, rfl⟩
 have cr2 := hK.mul rr rr
 rw [← hr2] at cr2 ⊢
 obtain ⟨x0, hx0⟩ : ∃ q_, q_ = K.O.sub r2 hhh := ⟨_, rfl⟩
 have cx0 := hK.sub r2 hhh
 rw [← hx0] at cx0 ⊢
 obtain ⟨ww, hww⟩ : ∃ q_, q_ = K.O.add w w := ⟨_, rfl⟩
 have cww := hK.add w w
 rw [← hww] at cww ⊢
 obtain ⟨x, hx⟩ : ∃ q_, q_ = K.O.sub x0 ww := ⟨_, rfl⟩
 have cx := hK.sub x0 ww
 rw [← hx] at cx ⊢
 obtain ⟨wx, hwx⟩ : ∃ q_, q_ = K.O.sub w x := ⟨_, rfl⟩
 have cwx := hK.sub w x
 rw [← hwx] at cwx ⊢
 obtain ⟨rx, hrx⟩ : ∃ q_, q_ = K.O.mul rr wx := ⟨_, rfl⟩
 have crx := hK.mul rr wx
 rw [← hrx] at crx ⊢
 obtain ⟨sh, hsh⟩ : ∃ q_, q_ = K.O.mul s hhh := ⟨_, rfl⟩
 have csh := hK.mul s hhh
 rw [← hsh] at csh ⊢
 obtain ⟨y, hy⟩ : ∃ q_, q_ = K.O.sub rx sh := ⟨_, rfl⟩
 have cy := hK.sub rx sh
 rw [← hy] at cy ⊢
 obtain ⟨pq, hpq⟩ : ∃ q_, q_ = K.O.mul pz qz := ⟨_, rfl⟩
 have cpq := hK.mul pz qz
 rw [← hpq] at cpq ⊢
 obtain ⟨z, hz⟩ : ∃ q_, q_ = K.O.mul pq h := ⟨_, rfl⟩
 have cz := hK.mul pq h
 rw [← hz] at cz ⊢
 refine mk Tryz.func96 rfl rfl L0 RPl (by decide +kernel) ?_
 intro A S hA hS
 have e1 := (hK.eqz hA pz).trans (decide_eq_false h1)
 have e2 := (hK.eqz hA qz).trans (decide_eq_false h2)
 have e3 := (hK.eq hA u v).trans (decide_eq_false h3)
 unfold bodyOf Tryz.f96
 cbv
 refine ABr.f e1 ?_
 cbv
 refine ABr.f e2 ?_
 cbv
 refine aF hS cpp ?_
 cbv
 refine aF hS cqq ?_
 cbv
 refine aF hS cu ?_
 cbv
 refine aF hS cv ?_
 cbv
 refine aF hS cs0 ?_
 cbv
 refine aF hS cs ?_
 cbv
 refine aF hS ct0 ?_
 cbv
 refine aF hS ct ?_
 cbv
 refine ABr.f e3 ?_
 cbv
 refine aF hS ch ?_
 cbv
 refine aF hS crr ?_
 cbv
 refine aF hS chh ?_
 cbv
 refine aF hS chhh ?_
 cbv
 refine aF hS cw ?_
 cbv
 refine aF hS cr2 ?_
 cbv
 refine aF hS cx0 ?_
 cbv
 refine aF hS cww ?_
 cbv
 refine aF hS cx ?_
 cbv
 refine aF hS cwx ?_
 cbv
 refine aF hS crx ?_
 cbv
 refine aF hS csh ?_
 cbv
 refine aF hS cy ?_
 cbv
 refine aF hS cpq ?_
 cbv
 refine aF hS cz ?_
 cbv
end Go.Proofs.YtmholgclgamnnaaGreat
end
