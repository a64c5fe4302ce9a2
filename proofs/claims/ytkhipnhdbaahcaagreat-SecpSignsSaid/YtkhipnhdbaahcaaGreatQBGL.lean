import Derived.Test.YtkhipnhdbaahcaaGreatQBCA
import Derived.Test.YtkhipnhdbaahcaaGreatQBR
section
set_option linter.unusedSectionVars false
set_option linter.unusedVariables false
namespace Gp
open Cv
def opOf {α : Type} (O : Ops α) : Op α := ⟨O.add, O.sub, O.mul, O.zero, O.one⟩
structure Fd {α : Type} (O : Ops α) : Prop where
  cr : CR (opOf O)
  inv : ∀ a, a ≠ O.zero → O.mul a (O.inv a) = O.one
  ne : O.one ≠ O.zero
  two : O.add O.one O.one ≠ O.zero
section
variable {α : Type} [DecidableEq α] {O : Ops α} (F : Fd O)
include F
theorem Fd.mul_zero (a : α) : O.mul a O.zero = O.zero := F.cr.mul_zero a
theorem Fd.zero_mul (a : α) : O.mul O.zero a = O.zero := F.cr.zero_mul a
theorem Fd.mul_comm (a b : α) : O.mul a b = O.mul b a := F.cr.mul_comm a b
theorem Fd.mul_assoc (a b c : α) : O.mul (O.mul a b) c = O.mul a (O.mul b c) := F.cr.mul_assoc a b c
theorem Fd.one_mul (a : α) : O.mul O.one a = a := F.cr.one_mul a
theorem Fd.mul_one (a : α) : O.mul a O.one = a := by rw [F.mul_comm, F.one_mul]
theorem Fd.add_zero (a : α) : O.add a O.zero = a := F.cr.add_zero a
theorem Fd.zero_add (a : α) : O.add O.zero a = a := F.cr.zero_add a
theorem Fd.add_comm (a b : α) : O.add a b = O.add b a := F.cr.add_comm a b
theorem Fd.sub_self (a : α) : O.sub a a = O.zero := F.cr.sub_self a
theorem Fd.eq_of_sub {a b : α} (h : O.sub a b = O.zero) : a = b := F.cr.eq_of_sub h
theorem Fd.sub_of_eq {a b : α} (h : a = b) : O.sub a b = O.zero := by rw [h, F.sub_self]
theorem Fd.sub_zero (a : α) : O.sub a O.zero = a := by
  have := F.cr.sub_add a O.zero
  exact (F.cr.add_zero _).symm.trans this
theorem Fd.dom {a b : α} (h : O.mul a b = O.zero) : a = O.zero ∨ b = O.zero := by
  by_cases ha : a = O.zero
  · exact .inl ha
  · refine .inr ?_
    have := congrArg (O.mul (O.inv a)) h
    rwa [F.mul_zero, ← F.mul_assoc, F.mul_comm _ a, F.inv a ha, F.one_mul] at this
theorem Fd.mne {a b : α} (ha : a ≠ O.zero) (hb : b ≠ O.zero) : O.mul a b ≠ O.zero := fun h => (F.dom h).elim ha hb
theorem Fd.cancel {a b c : α} (hc : c ≠ O.zero) (h : O.mul a c = O.mul b c) : a = b := by
  have := congrArg (fun z => O.mul z (O.inv c)) h
  simpa only [F.mul_assoc, F.inv c hc, F.mul_one] using this
theorem Fd.twice_ne {a : α} (h : a ≠ O.zero) : O.add a a ≠ O.zero := by
  have e : O.add a a = O.mul (O.add O.one O.one) a := by
    have h1 : O.mul O.one a = a := F.one_mul a
    refine Eq.symm ((F.cr.add_mul O.one O.one a).trans ?_)
    show O.add (O.mul O.one a) (O.mul O.one a) = _
    rw [h1]
  rw [e]
  exact F.mne F.two h
theorem Fd.neg_sq (a : α) : O.mul (O.sub O.zero a) (O.sub O.zero a) = O.mul a a := by
  have h1 := F.cr.neg_mul a (O.sub O.zero a)
  have h2 := F.cr.mul_neg a a
  have h3 := F.cr.neg_neg (O.mul a a)
  exact h1.trans ((congrArg (O.sub O.zero) h2).trans h3)
theorem Fd.neg_eq {a b : α} (h : O.add a b = O.zero) : b = O.sub O.zero a := by
  have h1 := F.cr.sub_add O.zero a
  refine F.cr.add_cancel (c := a) ?_
  exact (F.add_comm b a).trans (h.trans h1.symm)
theorem Fd.add_neg (a : α) : O.add a (O.sub O.zero a) = O.zero := (F.add_comm _ _).trans (F.cr.sub_add O.zero a)
end
/-- Pure rules. -/
abbrev w0 := E.v 4
abbrev w1 := E.v 5
abbrev w2 := E.v 6
abbrev w3 := E.v 7
abbrev w4 := E.v 8
abbrev w5 := E.v 9
abbrev w6 := E.v 10
abbrev w7 := E.v 11
theorem chk_l1 : (E.s (.m (.s (.s (.m w0 w0) w2) w3) (.m w1 w1)) (.s (.m (.m w0 w1) (.m w0 w1)) (.m (.a w2 w3) (.m w1 w1)))).chk = true := by decide +kernel
theorem chk_l2 : (E.s (.m (.s (.m w0 (.s w2 w3)) w4) (.m w1 (.m w1 w1))) (.s (.m (.m w0 w1) (.s (.m w2 (.m w1 w1)) (.m w3 (.m w1 w1)))) (.m w4 (.m w1 (.m w1 w1))))).chk = true := by decide +kernel
/-- y, x, d, b -/
theorem chk_l3 : (E.s (.s (.m (.m w0 (.m w2 (.m w2 w2))) (.m w0 (.m w2 (.m w2 w2)))) (.a (.m (.m (.m w1 (.m w2 w2)) (.m w1 (.m w2 w2))) (.m w1 (.m w2 w2))) (.m w3 (.m (.m w2 (.m w2 w2)) (.m w2 (.m w2 w2))))))
    (.m (.s (.m w0 w0) (.a (.m (.m w1 w1) w1) w3)) (.m (.m w2 (.m w2 w2)) (.m w2 (.m w2 w2))))).chk = true := by decide +kernel
section
variable {α : Type} [DecidableEq α] {O : Ops α} (F : Fd O)
include F
/-- A line through two points, or touching one. -/
theorem line {d n s x1 y1 x2 : α} (hs : O.mul s d = n) (hd : d ≠ O.zero) :
    O.mul (O.sub (O.sub (O.mul s s) x1) x2) (O.mul d d) = O.sub (O.mul n n) (O.mul (O.add x1 x2) (O.mul d d)) ∧
    O.mul (O.sub (O.mul s (O.sub x1 (O.sub (O.sub (O.mul s s) x1) x2))) y1) (O.mul d (O.mul d d)) =
      O.sub (O.mul n (O.sub (O.mul x1 (O.mul d d)) (O.mul (O.sub (O.sub (O.mul s s) x1) x2) (O.mul d d)))) (O.mul y1 (O.mul d (O.mul d d))) := by
  constructor
  · have := F.eq_of_sub (van0 F.cr chk_l1 s d x1 x2 O.zero O.zero O.zero O.zero)
    rw [← hs]; exact this
  · have := F.eq_of_sub (van0 F.cr chk_l2 s d x1 (O.sub (O.sub (O.mul s s) x1) x2) y1 O.zero O.zero O.zero)
    rw [← hs]; exact this
theorem back {d x y b : α} (hd : d ≠ O.zero) (h : O.mul (O.mul y (O.mul d (O.mul d d))) (O.mul y (O.mul d (O.mul d d))) =
    O.add (O.mul (O.mul (O.mul x (O.mul d d)) (O.mul x (O.mul d d))) (O.mul x (O.mul d d))) (O.mul b (O.mul (O.mul d (O.mul d d)) (O.mul d (O.mul d d))))) :
    O.mul y y = O.add (O.mul (O.mul x x) x) b := by
  have h1 := F.eq_of_sub (van0 F.cr chk_l3 y x d b O.zero O.zero O.zero O.zero)
  have h2 := F.sub_of_eq h
  have h3 : O.mul (O.sub (O.mul y y) (O.add (O.mul (O.mul x x) x) b)) (O.mul (O.mul d (O.mul d d)) (O.mul d (O.mul d d))) = O.zero := h1.symm.trans h2
  rcases F.dom h3 with h4 | h4
  · exact F.eq_of_sub h4
  · exact absurd h4 (F.mne (F.mne hd (F.mne hd hd)) (F.mne hd (F.mne hd hd)))
variable {b : α}
/-- A chord. -/
theorem chord {x1 y1 x2 y2 s : α} (h1 : O.mul y1 y1 = O.add (O.mul (O.mul x1 x1) x1) b) (h2 : O.mul y2 y2 = O.add (O.mul (O.mul x2 x2) x2) b) (hx : O.sub x2 x1 ≠ O.zero) (hs : O.mul s (O.sub x2 x1) = O.sub y2 y1)
    (X Y : α) (hX : X = O.sub (O.sub (O.mul s s) x1) x2) (hY : Y = O.sub (O.mul s (O.sub x1 X)) y1) (R : T3 α) (hR : R = rc (opOf O) b ⟨x1, y1, O.one⟩ ⟨x2, y2, O.one⟩) :
    O.mul Y Y = O.add (O.mul (O.mul X X) X) b ∧ R.x = O.mul R.z X ∧ R.y = O.mul R.z Y ∧
      (eV Gp.y1 Gp.y2).ev (opOf O) (vals (opOf O) x1 y1 x2 y2 x1 y1 b) = O.mul Y (O.mul (O.sub x2 x1) (O.mul (O.sub x2 x1) (O.sub x2 x1))) := by
  obtain ⟨l1, l2⟩ := line F (x1 := x1) (y1 := y1) (x2 := x2) hs hx
  rw [← hX] at l1 l2
  rw [← hY, l1] at l2
  have c1 := F.eq_of_sub (van F.cr chk_c1 h1 h2 h1)
  have c2 := F.eq_of_sub (van F.cr chk_c2 h1 h2 h1)
  have c4 := F.eq_of_sub (van F.cr chk_c4 h1 h2 h1)
  have eU : (eU Gp.y1 Gp.y2).ev (opOf O) (vals (opOf O) x1 y1 x2 y2 x1 y1 b) = O.mul X (O.mul (O.sub x2 x1) (O.sub x2 x1)) := l1.symm
  have eV : (eV Gp.y1 Gp.y2).ev (opOf O) (vals (opOf O) x1 y1 x2 y2 x1 y1 b) = O.mul Y (O.mul (O.sub x2 x1) (O.mul (O.sub x2 x1) (O.sub x2 x1))) := l2.symm
  refine ⟨?_, ?_, ?_, eV⟩
  · refine back F (d := O.sub x2 x1) hx ?_
    rw [← eU, ← eV]
    exact c4
  · subst hR
    refine F.cancel (c := O.mul (O.sub x2 x1) (O.sub x2 x1)) (F.mne hx hx) ?_
    rw [F.mul_assoc _ X, ← eU]
    exact c1
  · subst hR
    refine F.cancel (c := O.mul (O.sub x2 x1) (O.mul (O.sub x2 x1) (O.sub x2 x1))) (F.mne hx (F.mne hx hx)) ?_
    rw [F.mul_assoc _ Y, ← eV]
    exact c2
/-- A tangent. -/
theorem tang {x1 y1 s : α} (h1 : O.mul y1 y1 = O.add (O.mul (O.mul x1 x1) x1) b) (hy : O.add y1 y1 ≠ O.zero) (hs : O.mul s (O.add y1 y1) = O.add (O.add (O.mul x1 x1) (O.mul x1 x1)) (O.mul x1 x1))
    (X Y : α) (hX : X = O.sub (O.sub (O.mul s s) x1) x1) (hY : Y = O.sub (O.mul s (O.sub x1 X)) y1) (R : T3 α) (hR : R = rc (opOf O) b ⟨x1, y1, O.one⟩ ⟨x1, y1, O.one⟩) :
    O.mul Y Y = O.add (O.mul (O.mul X X) X) b ∧ R.x = O.mul R.z X ∧ R.y = O.mul R.z Y ∧ R.z ≠ O.zero ∧
      eV2.ev (opOf O) (vals (opOf O) x1 y1 x1 y1 x1 y1 b) = O.mul Y (O.mul (O.add y1 y1) (O.mul (O.add y1 y1) (O.add y1 y1))) := by
  obtain ⟨l1, l2⟩ := line F (x1 := x1) (y1 := y1) (x2 := x1) hs hy
  rw [← hX] at l1 l2
  rw [← hY, l1] at l2
  have c1 := F.eq_of_sub (van F.cr chk_t1 h1 h1 h1)
  have c2 := F.eq_of_sub (van F.cr chk_t2 h1 h1 h1)
  have c3 := F.eq_of_sub (van F.cr chk_t3 h1 h1 h1)
  have c4 := F.eq_of_sub (van F.cr chk_t4 h1 h1 h1)
  have eU : eU2.ev (opOf O) (vals (opOf O) x1 y1 x1 y1 x1 y1 b) = O.mul X (O.mul (O.add y1 y1) (O.add y1 y1)) := l1.symm
  have eV : eV2.ev (opOf O) (vals (opOf O) x1 y1 x1 y1 x1 y1 b) = O.mul Y (O.mul (O.add y1 y1) (O.mul (O.add y1 y1) (O.add y1 y1))) := l2.symm
  refine ⟨?_, ?_, ?_, ?_, eV⟩
  · refine back F (d := O.add y1 y1) hy ?_
    rw [← eU, ← eV]
    exact c4
  · subst hR
    refine F.cancel (c := O.mul (O.add y1 y1) (O.add y1 y1)) (F.mne hy hy) ?_
    rw [F.mul_assoc _ X, ← eU]
    exact c1
  · subst hR
    refine F.cancel (c := O.mul (O.add y1 y1) (O.mul (O.add y1 y1) (O.add y1 y1))) (F.mne hy (F.mne hy hy)) ?_
    rw [F.mul_assoc _ Y, ← eV]
    exact c2
  · subst hR
    intro h
    exact F.mne hy (F.mne hy hy) (c3.symm.trans h)
end
end Gp
end
section
set_option linter.unusedSectionVars false
set_option linter.unusedVariables false
set_option linter.unusedSimpArgs false
namespace Gp
open Cv
def sc {α : Type} (O : Op α) (l : α) (p : T3 α) : T3 α := ⟨O.mul l p.x, O.mul l p.y, O.mul l p.z⟩
/-- The complete sum is of degree two in either point. -/
def hP : T3 E := ⟨w1, w2, w3⟩
def hQ : T3 E := ⟨w4, w5, w6⟩
theorem chk_h1 : (E.s (rc eO w7 (sc eO w0 hP) hQ).x (.m (.m w0 w0) (rc eO w7 hP hQ).x)).chk = true := by decide +kernel
theorem chk_h2 : (E.s (rc eO w7 (sc eO w0 hP) hQ).y (.m (.m w0 w0) (rc eO w7 hP hQ).y)).chk = true := by decide +kernel
theorem chk_h3 : (E.s (rc eO w7 (sc eO w0 hP) hQ).z (.m (.m w0 w0) (rc eO w7 hP hQ).z)).chk = true := by decide +kernel
theorem chk_s1 : (E.s (rc eO w7 hP hQ).x (rc eO w7 hQ hP).x).chk = true := by decide +kernel
theorem chk_s2 : (E.s (rc eO w7 hP hQ).y (rc eO w7 hQ hP).y).chk = true := by decide +kernel
theorem chk_s3 : (E.s (rc eO w7 hP hQ).z (rc eO w7 hQ hP).z).chk = true := by decide +kernel
section
variable {α : Type} [DecidableEq α] {O : Ops α} (F : Fd O)
include F
theorem rc_l (l b : α) (p q : T3 α) : rc (opOf O) b (sc (opOf O) l p) q = sc (opOf O) (O.mul l l) (rc (opOf O) b p q) := by
  obtain ⟨px, py, pz⟩ := p
  obtain ⟨qx, qy, qz⟩ := q
  have h1 := F.eq_of_sub (van0 F.cr chk_h1 l px py pz qx qy qz b)
  have h2 := F.eq_of_sub (van0 F.cr chk_h2 l px py pz qx qy qz b)
  have h3 := F.eq_of_sub (van0 F.cr chk_h3 l px py pz qx qy qz b)
  exact (T3.mk.injEq ..).mpr ⟨h1, h2, h3⟩
theorem rc_c (b : α) (p q : T3 α) : rc (opOf O) b p q = rc (opOf O) b q p := by
  obtain ⟨px, py, pz⟩ := p
  obtain ⟨qx, qy, qz⟩ := q
  have h1 := F.eq_of_sub (van0 F.cr chk_s1 O.zero px py pz qx qy qz b)
  have h2 := F.eq_of_sub (van0 F.cr chk_s2 O.zero px py pz qx qy qz b)
  have h3 := F.eq_of_sub (van0 F.cr chk_s3 O.zero px py pz qx qy qz b)
  exact (T3.mk.injEq ..).mpr ⟨h1, h2, h3⟩
theorem rc_r (l b : α) (p q : T3 α) : rc (opOf O) b p (sc (opOf O) l q) = sc (opOf O) (O.mul l l) (rc (opOf O) b p q) := by
  rw [rc_c F, rc_l F, rc_c F]
theorem sc_sc (l m : α) (p : T3 α) : sc (opOf O) l (sc (opOf O) m p) = sc (opOf O) (O.mul l m) p := by
  simp only [sc, opOf, F.mul_assoc]
end
/-- A point's three coordinates. -/
def pj {α : Type} (O : Ops α) : Pt α → T3 α
  | none => ⟨O.zero, O.one, O.zero⟩
  | some (x, y) => ⟨x, y, O.one⟩
/-- No point of order two. -/
def No2 {α : Type} (O : Ops α) (b : α) : Prop := ∀ x, O.add (O.mul (O.mul x x) x) b ≠ O.zero
def ngp {α : Type} (O : Ops α) : Pt α → Pt α
  | none => none
  | some (x, y) => some (x, O.sub O.zero y)
section
variable {α : Type} [DecidableEq α] {O : Ops α} (F : Fd O) {b : α} (N : No2 O b)
include F
theorem onC_ng {P : Pt α} (h : onC O b P) : onC O b (ngp O P) := by
  obtain _ | ⟨x, y⟩ := P
  · exact trivial
  · show O.mul (O.sub O.zero y) (O.sub O.zero y) = _
    rw [F.neg_sq]; exact h
include N
theorem y_ne {x y : α} (h : onC O b (some (x, y))) : y ≠ O.zero := fun e => by
  subst e
  have h : O.mul O.zero O.zero = _ := h
  rw [F.mul_zero] at h
  exact N x h.symm
/-- Sums are sums, and lie on the curve. -/
theorem sum_ok : ∀ P Q : Pt α, onC O b P → onC O b Q → onC O b (sumR O P Q) ∧ ∃ l, l ≠ O.zero ∧ rc (opOf O) b (pj O P) (pj O Q) = sc (opOf O) l (pj O (sumR O P Q)) := by
  have inf1 : ∀ x y, rc (opOf O) b ⟨O.zero, O.one, O.zero⟩ ⟨x, y, O.one⟩ = ⟨O.mul y x, O.mul y y, O.mul y O.one⟩ := by
    intro x y
    simp only [rc, opOf, thr, F.mul_zero, F.zero_mul, F.mul_one, F.one_mul, F.add_zero, F.zero_add, F.sub_zero, F.mul_comm x y]
  rintro (_ | ⟨x1, y1⟩) (_ | ⟨x2, y2⟩) hP hQ
  · refine ⟨trivial, O.one, F.ne, ?_⟩
    simp only [rc, opOf, thr, pj, sc, sumR, F.mul_zero, F.zero_mul, F.mul_one, F.one_mul, F.add_zero, F.zero_add, F.sub_zero]
  · exact ⟨hQ, y2, y_ne F N hQ, inf1 x2 y2⟩
  · exact ⟨hP, y1, y_ne F N hP, (rc_c F b _ _).trans (inf1 x1 y1)⟩
  · have h1 : O.mul y1 y1 = O.add (O.mul (O.mul x1 x1) x1) b := hP
    have h2 : O.mul y2 y2 = O.add (O.mul (O.mul x2 x2) x2) b := hQ
    have hy1 := y_ne F N hP
    by_cases hx : x1 = x2
    · subst hx
      have hd := F.twice_ne hy1
      have hs : O.mul (O.mul (O.add (O.add (O.mul x1 x1) (O.mul x1 x1)) (O.mul x1 x1)) (O.inv (O.add y1 y1))) (O.add y1 y1) = O.add (O.add (O.mul x1 x1) (O.mul x1 x1)) (O.mul x1 x1) := by
        rw [F.mul_assoc, F.mul_comm (O.inv _), F.inv _ hd, F.mul_one]
      obtain ⟨t1, t2, t3, t4, t5⟩ := tang F h1 hd hs _ _ rfl rfl _ rfl
      by_cases hy : O.add y1 y2 = O.zero
      · have e := F.neg_eq hy
        subst e
        refine ⟨by simp only [sumR, if_true, hy]; exact trivial, (rc (opOf O) b ⟨x1, y1, O.one⟩ ⟨x1, O.sub O.zero y1, O.one⟩).y, ?_, ?_⟩
        · intro h0
          have c3 : O.sub (rc (opOf O) b ⟨x1, y1, O.one⟩ ⟨x1, O.sub (O.sub O.one O.one) y1, O.one⟩).y _ = O.zero := van F.cr chk_n3 h1 h1 h1
          rw [F.sub_self] at c3
          have c4 := F.eq_of_sub c3
          rw [h0] at c4
          have c5 := c4.trans t5
          rcases F.dom c5.symm with h | h
          · rw [h, F.mul_zero] at t1
            exact N _ t1.symm
          · exact F.mne hd (F.mne hd hd) h
        · have n1 : (rc (opOf O) b ⟨x1, y1, O.one⟩ ⟨x1, O.sub (O.sub O.one O.one) y1, O.one⟩).x = O.zero := van F.cr chk_n1 h1 h1 h1
          have n2 : (rc (opOf O) b ⟨x1, y1, O.one⟩ ⟨x1, O.sub (O.sub O.one O.one) y1, O.one⟩).z = O.zero := van F.cr chk_n2 h1 h1 h1
          rw [F.sub_self] at n1 n2
          simp only [sumR, if_true, hy, pj, sc]
          show _ = T3.mk (O.mul _ O.zero) (O.mul _ O.one) (O.mul _ O.zero)
          rw [F.mul_zero, F.mul_one]
          generalize rc (opOf O) b ⟨x1, y1, O.one⟩ ⟨x1, O.sub O.zero y1, O.one⟩ = r at *
          obtain ⟨rx, ry, rz⟩ := r
          exact (T3.mk.injEq ..).mpr ⟨n1, rfl, n2⟩
      · have hyy : y1 = y2 := by
          have e : O.mul (O.sub y1 y2) (O.add y1 y2) = O.zero := by
            have h3 : (E.s (.m (.s w0 w1) (.a w0 w1)) (.s (.m w0 w0) (.m w1 w1))).chk = true := by decide +kernel
            have h4 := F.eq_of_sub (van0 F.cr h3 y1 y2 O.zero O.zero O.zero O.zero O.zero O.zero)
            exact h4.trans (F.sub_of_eq (h1.trans h2.symm))
          rcases F.dom e with h | h
          · exact F.eq_of_sub h
          · exact absurd h hy
        subst hyy
        simp only [sumR, if_true, hy, if_false, slope]
        refine ⟨t1, _, t4, ?_⟩
        show rc (opOf O) b ⟨x1, y1, O.one⟩ ⟨x1, y1, O.one⟩ = T3.mk (O.mul _ _) (O.mul _ _) (O.mul _ O.one)
        rw [F.mul_one]
        generalize rc (opOf O) b ⟨x1, y1, O.one⟩ ⟨x1, y1, O.one⟩ = r at *
        obtain ⟨rx, ry, rz⟩ := r
        exact (T3.mk.injEq ..).mpr ⟨t2, t3, rfl⟩
    · have hd : O.sub x2 x1 ≠ O.zero := fun h => hx (F.eq_of_sub h).symm
      have hs : ∀ n, O.mul (O.mul n (O.inv (O.sub x2 x1))) (O.sub x2 x1) = n := fun n => by
        rw [F.mul_assoc, F.mul_comm (O.inv _), F.inv _ hd, F.mul_one]
      have h2' : O.mul (O.sub O.zero y2) (O.sub O.zero y2) = O.add (O.mul (O.mul x2 x2) x2) b := by rw [F.neg_sq]; exact h2
      obtain ⟨t1, t2, t3, t4⟩ := chord F h1 h2 hd (hs _) _ _ rfl rfl _ rfl
      obtain ⟨u1, u2, u3, u4⟩ := chord F h1 h2' hd (hs _) _ _ rfl rfl _ rfl
      have c3 : O.sub (rc (opOf O) b ⟨x1, y1, O.one⟩ ⟨x2, y2, O.one⟩).z ((eV Gp.y1 Gp.y2).ev (opOf O) (vals (opOf O) x1 y1 x2 (O.sub (O.sub O.one O.one) y2) x1 y1 b)) = O.zero := van F.cr chk_c3 h1 h2 h1
      rw [F.sub_self] at c3
      have c4 := (F.eq_of_sub c3).trans u4
      have hz : (rc (opOf O) b ⟨x1, y1, O.one⟩ ⟨x2, y2, O.one⟩).z ≠ O.zero := by
        intro h
        rw [h] at c4
        rcases F.dom c4.symm with h | h
        · rw [h, F.mul_zero] at u1
          exact N _ u1.symm
        · exact F.mne hd (F.mne hd hd) h
      simp only [sumR, hx, if_false, slope]
      refine ⟨t1, _, hz, ?_⟩
      show rc (opOf O) b ⟨x1, y1, O.one⟩ ⟨x2, y2, O.one⟩ = T3.mk (O.mul _ _) (O.mul _ _) (O.mul _ O.one)
      rw [F.mul_one]
      generalize rc (opOf O) b ⟨x1, y1, O.one⟩ ⟨x2, y2, O.one⟩ = r at *
      obtain ⟨rx, ry, rz⟩ := r
      exact (T3.mk.injEq ..).mpr ⟨t2, t3, rfl⟩
theorem sum_on {P Q : Pt α} (hP : onC O b P) (hQ : onC O b Q) : onC O b (sumR O P Q) := (sum_ok F N P Q hP hQ).1
omit N in
/-- Alike but for a factor: the same point. -/
theorem same_pt {P Q : Pt α} {k l : α} (hk : k ≠ O.zero) (hl : l ≠ O.zero) (h1 : O.mul (O.mul k (pj O P).x) (O.mul l (pj O Q).z) = O.mul (O.mul l (pj O Q).x) (O.mul k (pj O P).z))
    (h2 : O.mul (O.mul k (pj O P).y) (O.mul l (pj O Q).z) = O.mul (O.mul l (pj O Q).y) (O.mul k (pj O P).z)) : P = Q := by
  have fac : ∀ u v w z : α, O.mul (O.mul k u) (O.mul l v) = O.mul (O.mul l w) (O.mul k z) → O.mul u v = O.mul w z := by
    intro u v w z h
    have e1 : O.mul (O.mul k u) (O.mul l v) = O.mul (O.mul k l) (O.mul u v) := F.cr.mul4 k u l v
    have e2 : O.mul (O.mul l w) (O.mul k z) = O.mul (O.mul l k) (O.mul w z) := F.cr.mul4 l w k z
    rw [e1, e2, F.mul_comm l k, F.mul_comm _ (O.mul u v), F.mul_comm _ (O.mul w z)] at h
    exact F.cancel (F.mne hk hl) h
  replace h1 := fac _ _ _ _ h1
  replace h2 := fac _ _ _ _ h2
  obtain _ | ⟨x1, y1⟩ := P <;> obtain _ | ⟨x2, y2⟩ := Q
  · rfl
  · simp only [pj, F.mul_one, F.mul_zero] at h2
    exact absurd h2 F.ne
  · simp only [pj, F.mul_one, F.mul_zero] at h2
    exact absurd h2.symm F.ne
  · simp only [pj, F.mul_one] at h1 h2
    rw [h1, h2]
/-- The group's laws. -/
theorem sum_comm {P Q : Pt α} (hP : onC O b P) (hQ : onC O b Q) : sumR O P Q = sumR O Q P := by
  obtain ⟨_, k, hk, e1⟩ := sum_ok F N P Q hP hQ
  obtain ⟨_, l, hl, e2⟩ := sum_ok F N Q P hQ hP
  rw [rc_c F, e2] at e1
  have hx := congrArg T3.x e1
  have hy := congrArg T3.y e1
  have hz := congrArg T3.z e1
  refine same_pt F hk hl ?_ ?_
  · have hx : O.mul l _ = O.mul k _ := hx
    have hz : O.mul l _ = O.mul k _ := hz
    rw [← hx, ← hz]
  · have hy : O.mul l _ = O.mul k _ := hy
    have hz : O.mul l _ = O.mul k _ := hz
    rw [← hy, ← hz]
theorem sum_assoc {P Q R : Pt α} (hP : onC O b P) (hQ : onC O b Q) (hR : onC O b R) : sumR O (sumR O P Q) R = sumR O P (sumR O Q R) := by
  have nl : ∀ S : Pt α, sumR O none S = S := fun S => by cases S <;> rfl
  have nr : ∀ S : Pt α, sumR O S none = S := fun S => by cases S <;> rfl
  obtain _ | ⟨x1, y1⟩ := P
  · rw [nl, nl]
  obtain _ | ⟨x2, y2⟩ := Q
  · rw [nr, nl]
  obtain _ | ⟨x3, y3⟩ := R
  · rw [nr, nr]
  have h1 : O.mul y1 y1 = O.add (O.mul (O.mul x1 x1) x1) b := hP
  have h2 : O.mul y2 y2 = O.add (O.mul (O.mul x2 x2) x2) b := hQ
  have h3 : O.mul y3 y3 = O.add (O.mul (O.mul x3 x3) x3) b := hR
  obtain ⟨o1, k1, hk1, e1⟩ := sum_ok F N _ _ hP hQ
  obtain ⟨_, k2, hk2, e2⟩ := sum_ok F N _ _ o1 hR
  obtain ⟨o2, l1, hl1, f1⟩ := sum_ok F N _ _ hQ hR
  obtain ⟨_, l2, hl2, f2⟩ := sum_ok F N _ _ hP o2
  have a1 : rc (opOf O) b (rc (opOf O) b (pj O (some (x1, y1))) (pj O (some (x2, y2)))) (pj O (some (x3, y3))) = sc (opOf O) (O.mul (O.mul k1 k1) k2) (pj O (sumR O (sumR O (some (x1, y1)) (some (x2, y2))) (some (x3, y3)))) := by
    rw [e1, rc_l F, e2, sc_sc F]
  have a2 : rc (opOf O) b (pj O (some (x1, y1))) (rc (opOf O) b (pj O (some (x2, y2))) (pj O (some (x3, y3)))) = sc (opOf O) (O.mul (O.mul l1 l1) l2) (pj O (sumR O (some (x1, y1)) (sumR O (some (x2, y2)) (some (x3, y3))))) := by
    rw [f1, rc_r F, f2, sc_sc F]
  have v1 : O.mul (rc (opOf O) b (rc (opOf O) b (pj O (some (x1, y1))) (pj O (some (x2, y2)))) (pj O (some (x3, y3)))).x (rc (opOf O) b (pj O (some (x1, y1))) (rc (opOf O) b (pj O (some (x2, y2))) (pj O (some (x3, y3))))).z =
      O.mul (rc (opOf O) b (pj O (some (x1, y1))) (rc (opOf O) b (pj O (some (x2, y2))) (pj O (some (x3, y3))))).x (rc (opOf O) b (rc (opOf O) b (pj O (some (x1, y1))) (pj O (some (x2, y2)))) (pj O (some (x3, y3)))).z :=
    F.eq_of_sub (van F.cr chk_xz h1 h2 h3)
  have v2 : O.mul (rc (opOf O) b (rc (opOf O) b (pj O (some (x1, y1))) (pj O (some (x2, y2)))) (pj O (some (x3, y3)))).y (rc (opOf O) b (pj O (some (x1, y1))) (rc (opOf O) b (pj O (some (x2, y2))) (pj O (some (x3, y3))))).z =
      O.mul (rc (opOf O) b (pj O (some (x1, y1))) (rc (opOf O) b (pj O (some (x2, y2))) (pj O (some (x3, y3))))).y (rc (opOf O) b (rc (opOf O) b (pj O (some (x1, y1))) (pj O (some (x2, y2)))) (pj O (some (x3, y3)))).z :=
    F.eq_of_sub (van F.cr chk_yz h1 h2 h3)
  rw [a1, a2] at v1 v2
  exact same_pt F (F.mne (F.mne hk1 hk1) hk2) (F.mne (F.mne hl1 hl1) hl2) v1 v2
omit N in
theorem sum_neg (P : Pt α) : sumR O P (ngp O P) = none := by
  obtain _ | ⟨x, y⟩ := P
  · rfl
  · have h := F.add_neg y
    simp only [ngp, sumR, if_true, h]
end
end Gp
end
section
set_option linter.unusedSectionVars false
set_option linter.unusedVariables false
set_option linter.unusedSimpArgs false
namespace Gp
open Cv
/-- A triple by another name. -/
def sj {α : Type} (O : Ops α) (l : α) (p : Jac α) : Jac α := ⟨O.mul (O.mul l l) p.x, O.mul (O.mul (O.mul l l) l) p.y, O.mul l p.z⟩
def mix {α : Type} (O : Ops α) (p : Jac α) (qx qy : α) : Jac α :=
  let pz := O.mul p.z p.z
  let qz := O.mul O.one O.one
  let u := O.mul p.x qz
  let v := O.mul qx pz
  let s := O.mul (O.mul p.y qz) O.one
  let t := O.mul (O.mul qy pz) p.z
  let h := O.sub v u
  let r := O.sub t s
  let hh := O.mul h h
  let hhh := O.mul hh h
  let w := O.mul u hh
  let x := O.sub (O.sub (O.mul r r) hhh) (O.add w w)
  ⟨x, O.sub (O.mul r (O.sub w x)) (O.mul s hhh), O.mul (O.mul p.z O.one) h⟩
def dbE {α : Type} (O : Ops α) (p : Jac α) : Jac α :=
  let a := O.mul p.x p.x
  let b := O.mul p.y p.y
  let s := O.mul p.x b
  let s := O.add s s
  let s := O.add s s
  let e := O.add (O.add a a) a
  let c := O.mul b b
  let c := O.add c c
  let c := O.add c c
  let c := O.add c c
  let x := O.sub (O.mul e e) (O.add s s)
  let z := O.mul p.y p.z
  ⟨x, O.sub (O.mul e (O.sub s x)) c, O.add z z⟩
def eJ : Ops E := ⟨.a, .s, .m, fun x => x, .s .o .o, .o⟩
def jE : Jac E := ⟨w1, w2, w3⟩
def l3 : E := .m (.m w0 w0) w0
def l4 : E := .m (.m w0 w0) (.m w0 w0)
theorem chk_m1 : (E.s (mix eJ (sj eJ w0 jE) w4 w5).x (sj eJ l3 (mix eJ jE w4 w5)).x).chk = true := by decide +kernel
theorem chk_m2 : (E.s (mix eJ (sj eJ w0 jE) w4 w5).y (sj eJ l3 (mix eJ jE w4 w5)).y).chk = true := by decide +kernel
theorem chk_m3 : (E.s (mix eJ (sj eJ w0 jE) w4 w5).z (sj eJ l3 (mix eJ jE w4 w5)).z).chk = true := by decide +kernel
theorem chk_e1 : (E.s (dbE eJ (sj eJ w0 jE)).x (sj eJ l4 (dbE eJ jE)).x).chk = true := by decide +kernel
theorem chk_e2 : (E.s (dbE eJ (sj eJ w0 jE)).y (sj eJ l4 (dbE eJ jE)).y).chk = true := by decide +kernel
theorem chk_e3 : (E.s (dbE eJ (sj eJ w0 jE)).z (sj eJ l4 (dbE eJ jE)).z).chk = true := by decide +kernel
/-- u, v, s, t scaled -/
theorem chk_u : (E.s (.m (sj eJ w0 jE).x (.m .o .o)) (.m (.m jE.x (.m .o .o)) (.m w0 w0))).chk = true := by decide +kernel
theorem chk_v : (E.s (.m w4 (.m (sj eJ w0 jE).z (sj eJ w0 jE).z)) (.m (.m w4 (.m jE.z jE.z)) (.m w0 w0))).chk = true := by decide +kernel
theorem chk_s : (E.s (.m (.m (sj eJ w0 jE).y (.m .o .o)) .o) (.m (.m (.m jE.y (.m .o .o)) .o) (.m (.m w0 w0) w0))).chk = true := by decide +kernel
theorem chk_t : (E.s (.m (.m w5 (.m (sj eJ w0 jE).z (sj eJ w0 jE).z)) (sj eJ w0 jE).z) (.m (.m (.m w5 (.m jE.z jE.z)) jE.z) (.m (.m w0 w0) w0))).chk = true := by decide +kernel
/-- w0 = l, w1 = x, w2 = j -/
theorem chk_i1 : (E.s (.m (.m (.m w0 w0) w1) (.m w2 w2)) (.m w1 (.m (.m w0 w2) (.m w0 w2)))).chk = true := by decide +kernel
theorem chk_i2 : (E.s (.m (.m (.m (.m w0 w0) w0) w1) (.m w2 (.m w2 w2))) (.m w1 (.m (.m w0 w2) (.m (.m w0 w2) (.m w0 w2))))).chk = true := by decide +kernel
theorem chk_i3 : (E.s (.m (.m w1 (.m w2 w2)) w2) (.m w1 (.m w2 (.m w2 w2)))).chk = true := by decide +kernel
theorem chk_i4 : (E.s (.m (.m w0 w0) (.m w1 (.m w2 w2))) (.m w1 (.m (.m w0 w2) (.m w0 w2)))).chk = true := by decide +kernel
theorem chk_i5 : (E.s (.m (.m (.m w0 w0) w0) (.m (.m w1 (.m w2 w2)) w2)) (.m w1 (.m (.m w0 w2) (.m (.m w0 w2) (.m w0 w2))))).chk = true := by decide +kernel
section
variable {α : Type} [DecidableEq α] {O : Ops α} (F : Fd O)
include F
theorem mix_sj (l : α) (p : Jac α) (x y : α) : mix O (sj O l p) x y = sj O (O.mul (O.mul l l) l) (mix O p x y) := by
  obtain ⟨px, py, pz⟩ := p
  have h1 := F.eq_of_sub (van0 F.cr chk_m1 l px py pz x y O.zero O.zero)
  have h2 := F.eq_of_sub (van0 F.cr chk_m2 l px py pz x y O.zero O.zero)
  have h3 := F.eq_of_sub (van0 F.cr chk_m3 l px py pz x y O.zero O.zero)
  exact (Jac.mk.injEq ..).mpr ⟨h1, h2, h3⟩
theorem dbl_sj (l : α) (p : Jac α) : dbl O (sj O l p) = sj O (O.mul (O.mul l l) (O.mul l l)) (dbl O p) := by
  obtain ⟨px, py, pz⟩ := p
  have h1 := F.eq_of_sub (van0 F.cr chk_e1 l px py pz O.zero O.zero O.zero O.zero)
  have h2 := F.eq_of_sub (van0 F.cr chk_e2 l px py pz O.zero O.zero O.zero O.zero)
  have h3 := F.eq_of_sub (van0 F.cr chk_e3 l px py pz O.zero O.zero O.zero O.zero)
  exact (Jac.mk.injEq ..).mpr ⟨h1, h2, h3⟩
theorem sj_one (p : Jac α) : sj O O.one p = p := by
  obtain ⟨px, py, pz⟩ := p
  simp only [sj, F.one_mul]
theorem sj_inf (l : α) : sj O l (inf O) = inf O := by
  simp only [sj, inf, F.mul_zero]
theorem down_sj {l : α} (hl : l ≠ O.zero) (p : Jac α) : down O (sj O l p) = down O p := by
  obtain ⟨x, y, z⟩ := p
  unfold down sj
  dsimp only
  by_cases hz : z = O.zero
  · rw [if_pos (by rw [hz, F.mul_zero]), if_pos hz]
  · have hlz := F.mne hl hz
    rw [if_neg hlz, if_neg hz]
    have e1 : O.mul (O.mul l (O.inv (O.mul l z))) z = O.mul (O.inv z) z := by
      rw [F.mul_assoc, F.mul_comm (O.inv (O.mul l z)) z, ← F.mul_assoc, F.inv _ hlz, F.mul_comm, F.inv _ hz]
    have e2 : O.mul l (O.inv (O.mul l z)) = O.inv z := F.cancel hz e1
    generalize O.inv (O.mul l z) = j at *
    have h1 := F.eq_of_sub (van0 F.cr chk_i1 l x j O.zero O.zero O.zero O.zero O.zero)
    have h2 := F.eq_of_sub (van0 F.cr chk_i2 l y j O.zero O.zero O.zero O.zero O.zero)
    have h3 := F.eq_of_sub (van0 F.cr chk_i3 l (O.mul (O.mul (O.mul l l) l) y) j O.zero O.zero O.zero O.zero O.zero)
    have h4 := F.eq_of_sub (van0 F.cr chk_i3 l y (O.inv z) O.zero O.zero O.zero O.zero O.zero)
    have h1' : O.mul (O.mul (O.mul l l) x) (O.mul j j) = O.mul x (O.mul (O.mul l j) (O.mul l j)) := h1
    have h2' : O.mul (O.mul (O.mul (O.mul l l) l) y) (O.mul j (O.mul j j)) = O.mul y (O.mul (O.mul l j) (O.mul (O.mul l j) (O.mul l j))) := h2
    have h3' : O.mul (O.mul (O.mul (O.mul (O.mul l l) l) y) (O.mul j j)) j = O.mul (O.mul (O.mul (O.mul l l) l) y) (O.mul j (O.mul j j)) := h3
    have h4' : O.mul (O.mul y (O.mul (O.inv z) (O.inv z))) (O.inv z) = O.mul y (O.mul (O.inv z) (O.mul (O.inv z) (O.inv z))) := h4
    rw [h1', h3', h2', e2, h4']
theorem up_down {p : Jac α} (hz : p.z ≠ O.zero) : p = sj O p.z (up O (down O p)) := by
  obtain ⟨x, y, z⟩ := p
  dsimp only at hz
  unfold down
  rw [if_neg hz]
  have hi := F.inv z hz
  generalize O.inv z = i at *
  have h1 : O.mul (O.mul z z) (O.mul x (O.mul i i)) = O.mul x (O.mul (O.mul z i) (O.mul z i)) := F.eq_of_sub (van0 F.cr chk_i4 z x i O.zero O.zero O.zero O.zero O.zero)
  have h2 : O.mul (O.mul (O.mul z z) z) (O.mul (O.mul y (O.mul i i)) i) = O.mul y (O.mul (O.mul z i) (O.mul (O.mul z i) (O.mul z i))) := F.eq_of_sub (van0 F.cr chk_i5 z y i O.zero O.zero O.zero O.zero O.zero)
  rw [hi, F.one_mul, F.mul_one] at h1
  rw [hi, F.one_mul, F.one_mul, F.mul_one] at h2
  show _ = (⟨O.mul (O.mul z z) (O.mul x (O.mul i i)), O.mul (O.mul (O.mul z z) z) (O.mul (O.mul y (O.mul i i)) i), O.mul z O.one⟩ : Jac α)
  rw [h1, h2, F.mul_one]
theorem plus_sj {l : α} (hl : l ≠ O.zero) (p : Jac α) (x y : α) : ∃ m, m ≠ O.zero ∧ plus O (sj O l p) ⟨x, y, O.one⟩ = sj O m (plus O p ⟨x, y, O.one⟩) := by
  have hm := mix_sj F l p x y
  have hd := dbl_sj F l p
  by_cases hz : p.z = O.zero
  · refine ⟨O.one, F.ne, ?_⟩
    have hz' : (sj O l p).z = O.zero := by show O.mul l p.z = _; rw [hz, F.mul_zero]
    unfold plus
    rw [if_pos hz', if_pos hz, sj_one F]
  · have hz' : (sj O l p).z ≠ O.zero := F.mne hl hz
    obtain ⟨px, py, pz⟩ := p
    have hu : O.mul (sj O l ⟨px, py, pz⟩).x (O.mul O.one O.one) = O.mul (O.mul px (O.mul O.one O.one)) (O.mul l l) := F.eq_of_sub (van0 F.cr chk_u l px py pz x y O.zero O.zero)
    have hv : O.mul x (O.mul (sj O l ⟨px, py, pz⟩).z (sj O l ⟨px, py, pz⟩).z) = O.mul (O.mul x (O.mul pz pz)) (O.mul l l) := F.eq_of_sub (van0 F.cr chk_v l px py pz x y O.zero O.zero)
    have hs : O.mul (O.mul (sj O l ⟨px, py, pz⟩).y (O.mul O.one O.one)) O.one = O.mul (O.mul (O.mul py (O.mul O.one O.one)) O.one) (O.mul (O.mul l l) l) := F.eq_of_sub (van0 F.cr chk_s l px py pz x y O.zero O.zero)
    have ht : O.mul (O.mul y (O.mul (sj O l ⟨px, py, pz⟩).z (sj O l ⟨px, py, pz⟩).z)) (sj O l ⟨px, py, pz⟩).z = O.mul (O.mul (O.mul y (O.mul pz pz)) pz) (O.mul (O.mul l l) l) := F.eq_of_sub (van0 F.cr chk_t l px py pz x y O.zero O.zero)
    have l2 := F.mne hl hl
    have l3' := F.mne l2 hl
    unfold plus
    dsimp only at *
    rw [if_neg hz', if_neg hz, if_neg F.ne, if_neg F.ne]
    by_cases h1 : O.mul px (O.mul O.one O.one) = O.mul x (O.mul pz pz)
    · rw [if_pos (by rw [hu, hv, h1]), if_pos h1]
      by_cases h2 : O.mul (O.mul py (O.mul O.one O.one)) O.one = O.mul (O.mul y (O.mul pz pz)) pz
      · rw [if_pos (by rw [hs, ht, h2]), if_pos h2]
        exact ⟨_, F.mne l2 l2, hd⟩
      · rw [if_neg (fun e => h2 (F.cancel l3' (by rw [← hs, ← ht, e]))), if_neg h2]
        exact ⟨O.one, F.ne, (sj_inf F _).symm⟩
    · rw [if_neg (fun e => h1 (F.cancel l2 (by rw [← hu, ← hv, e]))), if_neg h1]
      exact ⟨_, l3', hm⟩
end
/-- A point added to itself so many times. -/
def mn {α : Type} [DecidableEq α] (O : Ops α) (P : Pt α) : Nat → Pt α
  | 0 => none
  | k + 1 => sumR O (mn O P k) P
section
variable {α : Type} [DecidableEq α] {O : Ops α} (F : Fd O) (L : Laws O) {b : α} (N : No2 O b) (hA : ∀ P Q : Pt α, onC O b P → onC O b Q → down O (plus O (up O P) (up O Q)) = sumR O P Q)
include F L N hA
theorem dbl_sum (p : Jac α) (hp : onC O b (down O p)) : down O (dbl O p) = sumR O (down O p) (down O p) := by
  by_cases hz : p.z = O.zero
  · have h1 : down O p = none := if_pos hz
    rw [h1]
    exact if_pos (dbl_inf L (.inl hz))
  · have e := up_down F hz
    obtain ⟨q, hq⟩ : ∃ q, q = down O p := ⟨_, rfl⟩
    rw [← hq] at e hp
    have h2 : down O (dbl O p) = down O (dbl O (up O q)) := by rw [e, dbl_sj F, down_sj F (F.mne (F.mne hz hz) (F.mne hz hz))]
    rw [h2, ← hq, ← hA q q hp hp]
    obtain _ | ⟨x, y⟩ := q
    · have : down O p = none := hq.symm
      unfold down at this
      rw [if_neg hz] at this
      cases this
    · unfold plus up
      dsimp only
      rw [if_neg F.ne, if_neg F.ne, if_pos rfl, if_pos rfl]
theorem plus_sum (p : Jac α) (x y : α) (hp : onC O b (down O p)) (hq : onC O b (some (x, y))) : down O (plus O p ⟨x, y, O.one⟩) = sumR O (down O p) (some (x, y)) := by
  by_cases hz : p.z = O.zero
  · have h1 : down O p = none := if_pos hz
    have h2 := hA none (some (x, y)) trivial hq
    rw [h1, ← h2]
    unfold plus
    rw [if_pos hz, if_pos (show (up O (none : Pt α)).z = O.zero from rfl)]
    rfl
  · have e := up_down F hz
    obtain ⟨q, hq'⟩ : ∃ q, q = down O p := ⟨_, rfl⟩
    rw [← hq'] at e hp
    obtain ⟨m, hm, h⟩ := plus_sj F hz (up O q) x y
    rw [← e] at h
    rw [h, down_sj F hm, ← hq']
    exact hA q (some (x, y)) hp hq
theorem mn_on {P : Pt α} (hP : onC O b P) : ∀ k, onC O b (mn O P k)
  | 0 => trivial
  | k + 1 => sum_on F N (mn_on hP k) hP
theorem mn_add {P : Pt α} (hP : onC O b P) (k : Nat) : ∀ l, sumR O (mn O P k) (mn O P l) = mn O P (k + l)
  | 0 => by show sumR O (mn O P k) none = mn O P k; cases mn O P k <;> rfl
  | l + 1 => by
    show sumR O (mn O P k) (sumR O (mn O P l) P) = sumR O (mn O P (k + l)) P
    rw [← mn_add hP k l, sum_assoc F N (mn_on F L N hA hP k) (mn_on F L N hA hP l) hP]
theorem tm_mn {x y : α} (hP : onC O b (some (x, y))) {k n : Nat} (hk : k < 2 ^ n) : ∀ i, i ≤ n → down O (tm O ⟨x, y, O.one⟩ k n i) = mn O (some (x, y)) (k / 2 ^ (n - i))
  | 0, _ => by
    rw [Nat.sub_zero, Nat.div_eq_of_lt hk]
    exact if_pos rfl
  | i + 1, hi => by
    have ih := tm_mn hP hk i (by omega)
    obtain ⟨j, hj⟩ : ∃ j, n = i + 1 + j := ⟨n - (i + 1), by omega⟩
    have e1 : n - (i + 1) = j := by omega
    have e2 : n - 1 - i = j := by omega
    have e3 : n - i = j + 1 := by omega
    have e4 : k / 2 ^ (j + 1) = k / 2 ^ j / 2 := by rw [Nat.pow_succ, Nat.div_div_eq_div_mul]
    rw [e3, e4] at ih
    have hon := mn_on F L N hA hP (k / 2 ^ j / 2)
    have hd := dbl_sum F L N hA (tm O ⟨x, y, O.one⟩ k n i) (by rw [ih]; exact hon)
    rw [ih, mn_add F L N hA hP] at hd
    rw [e1, tm, e2]
    by_cases hb : k / 2 ^ j % 2 = 1
    · rw [if_pos hb, plus_sum F L N hA _ _ _ (by rw [hd]; exact mn_on F L N hA hP _) hP, hd]
      show mn O (some (x, y)) (k / 2 ^ j / 2 + k / 2 ^ j / 2 + 1) = _
      congr 1
      omega
    · rw [if_neg hb, hd]
      congr 1
      omega
end
end Gp
end
section
set_option linter.unusedVariables false
set_option linter.unusedSimpArgs false
namespace Cv
open NT
variable {p : Nat} [NeZero p]
theorem val_one : ((1 : Fin p)).val = 1 % p := rfl
theorem val_zero : ((0 : Fin p)).val = 0 := Nat.zero_mod p
def inv1 (a : Fin p) : Fin p := ⟨a.val ^ (p - 2) % p, Nat.mod_lt _ (Nat.pos_of_ne_zero (NeZero.ne p))⟩
theorem inv1_ok (hp : Pr p) (h2 : 2 < p) (a : Fin p) (h : a ≠ 0) : a * inv1 a = 1 := by
  have h0 : a.val ≠ 0 := fun e => h (Fin.ext (by rw [e]; rfl))
  have hd : ¬ p ∣ a.val := fun h => by have := Nat.le_of_dvd (Nat.pos_of_ne_zero h0) h; have := a.isLt; omega
  have hf := fermat hp hd
  refine Fin.ext ?_
  rw [Fin.val_mul, val_one]
  show a.val * (a.val ^ (p - 2) % p) % p = _
  rw [Nat.mul_mod_mod, Nat.mul_comm, ← Nat.pow_succ, show (p - 2).succ = p - 1 by omega, hf, Nat.mod_eq_of_lt (by omega)]
end Cv
end
section
set_option linter.unusedSectionVars false
set_option linter.unusedVariables false
set_option linter.unusedSimpArgs false
namespace Gp
open Cv NT
section
variable {p : Nat} [NeZero p]
theorem one_ne0 (h2 : 2 < p) : (1 : Fin p) ≠ 0 := fun h => by
  have := congrArg Fin.val h
  rw [val_one, val_zero, Nat.mod_eq_of_lt (by omega)] at this
  omega
theorem two_ne0 (h2 : 2 < p) : (1 : Fin p) + 1 ≠ 0 := fun h => by
  have := congrArg Fin.val h
  rw [Fin.val_add, val_one, val_zero, Nat.mod_eq_of_lt (show 1 < p by omega), Nat.mod_eq_of_lt (show 1 + 1 < p by omega)] at this
  omega
theorem fd1 (hp : Pr p) (h2 : 2 < p) : Fd (ops1 (inv1 (p := p))) where
  cr :=
    { add_comm := fun a b => show a + b = b + a by grind
      add_assoc := fun a b c => show a + b + c = a + (b + c) by grind
      zero_add := fun a => show 0 + a = a by grind
      sub_add := fun a b => show a - b + b = a by grind
      mul_comm := fun a b => show a * b = b * a by grind
      mul_assoc := fun a b c => show a * b * c = a * (b * c) by grind
      one_mul := fun a => show 1 * a = a by grind
      mul_add := fun a b c => show a * (b + c) = a * b + a * c by grind }
  inv := fun a h => inv1_ok hp h2 a h
  ne := one_ne0 h2
  two := two_ne0 h2
/-- A number whose power is not one is no cube. -/
theorem no_cube (hp : Pr p) {f : Nat} {c : Fin p} (hc : c ≠ 0) (h3 : p % 3 = 1) (hf : (p - 1) / 3 < 2 ^ f) (h : pm p f c.val ((p - 1) / 3) ≠ 1) (x : Fin p) : x * x * x ≠ c := fun e => by
  rw [pm_eq p f _ _ hf] at h
  refine h ?_
  have hv : c.val = x.val ^ 3 % p := by
    rw [← e, Fin.val_mul, Fin.val_mul, Nat.mod_mul_mod]
    congr 1
    rw [Nat.pow_succ, Nat.pow_two]
  have hx : ¬ p ∣ x.val := fun hd => hc (by
    have := Nat.eq_zero_of_dvd_of_lt hd x.isLt
    refine Fin.ext ?_
    rw [hv, this, val_zero]
    exact Nat.zero_mod p)
  rw [hv, ← Nat.pow_mod, ← Nat.pow_mul, show 3 * ((p - 1) / 3) = p - 1 by omega]
  exact fermat hp hx
theorem no2_1 (hp : Pr p) {f : Nat} {b : Fin p} (hc : 0 - b ≠ 0) (h3 : p % 3 = 1) (hf : (p - 1) / 3 < 2 ^ f) (h : pm p f (0 - b).val ((p - 1) / 3) ≠ 1) : No2 (ops1 (inv1 (p := p))) b := fun x e => by
  have e : x * x * x + b = 0 := e
  exact no_cube hp hc h3 hf h x (by grind)
end
end Gp
end
section
set_option linter.unusedSectionVars false
set_option linter.unusedVariables false
set_option linter.unusedSimpArgs false
namespace Gp
open Cv NT
/-- No more pigeons than holes. -/
theorem pigeon : ∀ (m n : Nat) (f : Nat → Nat), (∀ i, i < n → f i < m) → (∀ i j, i < n → j < n → f i = f j → i = j) → n ≤ m
  | 0, 0, _, _, _ => Nat.le_refl _
  | 0, n + 1, f, h, _ => absurd (h 0 (by omega)) (Nat.not_lt_zero _)
  | m + 1, 0, _, _, _ => Nat.zero_le _
  | m + 1, n + 1, f, h, inj => by
    by_cases hm : ∃ i, i < n + 1 ∧ f i = m
    · obtain ⟨i0, hi0, hf⟩ := hm
      have := pigeon m n (fun j => f (if j = i0 then n else j)) (fun j hj => by
        have h1 := h (if j = i0 then n else j) (by split <;> omega)
        have h2 : f (if j = i0 then n else j) ≠ m := fun e => by
          have := inj _ _ (by split <;> omega) hi0 (e.trans hf.symm)
          split at this <;> omega
        show f (if j = i0 then n else j) < m
        omega) (fun i j hi hj e => by
        have := inj _ _ (by split <;> omega) (by split <;> omega) e
        split at this <;> split at this <;> omega)
      omega
    · have := pigeon m (n + 1) f (fun i hi => by
        have h1 := h i hi
        have h2 : f i ≠ m := fun e => hm ⟨i, hi, e⟩
        omega) inj
      omega
section
variable {α : Type} [DecidableEq α] {O : Ops α} (F : Fd O) {b : α} (N : No2 O b)
include F N
theorem sum_none (P : Pt α) : sumR O P none = P := by cases P <;> rfl
theorem none_sum (P : Pt α) : sumR O none P = P := by cases P <;> rfl
theorem neg_sum {P : Pt α} (hP : onC O b P) : sumR O (ngp O P) P = none := by
  rw [sum_comm F N (onC_ng F hP) hP]; exact sum_neg F P
theorem sum_cancel {P Q R : Pt α} (hP : onC O b P) (hQ : onC O b Q) (hR : onC O b R) (h : sumR O P Q = sumR O P R) : Q = R := by
  have h := congrArg (sumR O (ngp O P)) h
  rw [← sum_assoc F N (onC_ng F hP) hP hQ, ← sum_assoc F N (onC_ng F hP) hP hR, neg_sum F N hP] at h
  rwa [none_sum F N, none_sum F N] at h
theorem mon {P : Pt α} (hP : onC O b P) : ∀ k, onC O b (mn O P k)
  | 0 => trivial
  | k + 1 => sum_on F N (mon hP k) hP
theorem madd {P : Pt α} (hP : onC O b P) (k : Nat) : ∀ l, sumR O (mn O P k) (mn O P l) = mn O P (k + l)
  | 0 => sum_none F N _
  | l + 1 => by
    show sumR O (mn O P k) (sumR O (mn O P l) P) = sumR O (mn O P (k + l)) P
    rw [← sum_assoc F N (mon F N hP k) (mon F N hP l) hP, madd hP k l]
theorem mn_mul {P : Pt α} (hP : onC O b P) (k : Nat) : ∀ l, mn O (mn O P k) l = mn O P (k * l)
  | 0 => rfl
  | l + 1 => by
    show sumR O (mn O (mn O P k) l) (mn O P k) = _
    rw [mn_mul hP k l, madd F N hP, Nat.mul_succ]
theorem mn_none : ∀ l, mn O (none : Pt α) l = none
  | 0 => rfl
  | l + 1 => by show sumR O (mn O none l) none = none; rw [mn_none l]; rfl
theorem mn_one (P : Pt α) : mn O P 1 = P := by show sumR O none P = P; exact none_sum F N P
theorem two_tor {Q : Pt α} (hQ : onC O b Q) (h : sumR O Q Q = none) : Q = none := by
  have e : Q = ngp O Q := by
    have h1 := sum_assoc F N hQ hQ (onC_ng F hQ)
    rw [h, none_sum F N, sum_neg F, sum_none F N] at h1
    exact h1.symm
  obtain _ | ⟨x, y⟩ := Q
  · rfl
  · exfalso
    have hy : y = O.sub O.zero y := congrArg (fun q : Pt α => match q with | some (_, y) => y | none => y) e
    have h2 := F.add_neg y
    rw [← hy] at h2
    exact F.twice_ne (y_ne F N hQ) h2
variable {G : Pt α} (hG : onC O b G) {n : Nat} (hn : Pr n) (h0 : mn O G n = none) (hG0 : G ≠ none)
include hG hn h0 hG0
theorem mn_mod (k : Nat) : mn O G (k % n) = mn O G k := by
  have h := madd F N hG (n * (k / n)) (k % n)
  rw [Nat.div_add_mod, ← mn_mul F N hG, h0, mn_none F N, none_sum F N] at h
  exact h
theorem mn_inj {i j : Nat} (hi : i < n) (hj : j < n) (h : mn O G i = mn O G j) : i = j := by
  have key : ∀ i j, i < j → j < n → mn O G i = mn O G j → False := fun i j hij hj h => by
    have hd : mn O G (j - i) = none := by
      have h1 := madd F N hG i (j - i)
      rw [show i + (j - i) = j by omega, ← h] at h1
      exact sum_cancel F N (mon F N hG i) (mon F N hG _) trivial (h1.trans (sum_none F N _).symm)
    have hf := fermat hn (a := j - i) (fun hd => by have := Nat.le_of_dvd (by omega) hd; omega)
    have h2 : mn O G ((j - i) * (j - i) ^ (n - 2)) = none := by rw [← mn_mul F N hG, hd, mn_none F N]
    have hn2 := hn.1
    have h3 := mn_mod F N hG hn h0 hG0 ((j - i) * (j - i) ^ (n - 2))
    rw [h2, Nat.mul_comm, ← Nat.pow_succ, show (n - 2).succ = n - 1 by omega, hf, mn_one F N] at h3
    exact hG0 h3
  rcases Nat.lt_trichotomy i j with h1 | h1 | h1
  · exact (key i j h1 hj h).elim
  · exact h1
  · exact (key j i h1 hi h.symm).elim
/-- Half of a multiple is a multiple. -/
theorem half_in (hodd : n % 2 = 1) {P : Pt α} (hP : onC O b P) {k : Nat} (h : sumR O P P = mn O G k) : ∃ l, P = mn O G l := by
  obtain ⟨m, hm⟩ : ∃ m, (k + 2 * m) % n = 0 := by
    have hk := Nat.mod_lt k (show 0 < n by omega)
    have e := Nat.div_add_mod k n
    by_cases hp : k % n % 2 = 0
    · exact ⟨n - k % n / 2, by
        have : k + 2 * (n - k % n / 2) = n * (k / n + 2) := by rw [Nat.mul_add]; omega
        rw [this, Nat.mul_mod_right]⟩
    · exact ⟨n - (k % n + n) / 2, by
        have : k + 2 * (n - (k % n + n) / 2) = n * (k / n + 1) := by rw [Nat.mul_add]; omega
        rw [this, Nat.mul_mod_right]⟩
  have hM := mon F N hG m
  have hQ := sum_on F N hP hM
  have e : sumR O (sumR O P (mn O G m)) (sumR O P (mn O G m)) = none := by
    rw [sum_assoc F N hP hM hQ, sum_comm F N hP hM, ← sum_assoc F N hM hM hP, madd F N hG, sum_comm F N (mon F N hG _) hP, ← sum_assoc F N hP hP (mon F N hG _), h, madd F N hG, ← mn_mod F N hG hn h0 hG0, show k + (m + m) = k + 2 * m by omega, hm]
    rfl
  have hz := two_tor F N hQ e
  have hl := mn_mod F N hG hn h0 hG0 (m + (n - m % n))
  refine ⟨n - m % n, ?_⟩
  have h1 : sumR O (mn O G m) (mn O G (n - m % n)) = none := by
    rw [madd F N hG, ← hl]
    have hk := Nat.mod_lt m (show 0 < n by omega)
    have e := Nat.div_add_mod m n
    rw [show m + (n - m % n) = n * (m / n + 1) by rw [Nat.mul_add]; omega, Nat.mul_mod_right]
    rfl
  rw [sum_comm F N hP hM] at hz
  exact sum_cancel F N hM hP (mon F N hG _) (hz.trans h1.symm)
end
section
variable {p : Nat} [NeZero p]
/-- A point of the curve as a number: two for each first coordinate, and one. -/
def cod : Pt (Fin p) → Nat
  | none => 2 * p
  | some (x, y) => 2 * x.val + (if 2 * y.val < p then 0 else 1)
theorem cod_lt (P : Pt (Fin p)) : cod P < 2 * p + 1 := by
  obtain _ | ⟨x, y⟩ := P
  · exact Nat.lt_succ_self _
  · have := x.isLt
    show 2 * x.val + (if 2 * y.val < p then 0 else 1) < _
    split <;> omega
theorem cod_inj (hp : Pr p) (h2 : 2 < p) (ho : p % 2 = 1) {b : Fin p} {P Q : Pt (Fin p)} (hP : onC (ops1 inv1) b P) (hQ : onC (ops1 inv1) b Q) (h : cod P = cod Q) : P = Q := by
  have F := fd1 hp h2
  obtain _ | ⟨x, y⟩ := P <;> obtain _ | ⟨u, v⟩ := Q
  · rfl
  · have := u.isLt
    have h : 2 * p = 2 * u.val + (if 2 * v.val < p then 0 else 1) := h
    split at h <;> omega
  · have := x.isLt
    have h : 2 * x.val + (if 2 * y.val < p then 0 else 1) = 2 * p := h
    split at h <;> omega
  · have h : 2 * x.val + (if 2 * y.val < p then 0 else 1) = 2 * u.val + (if 2 * v.val < p then 0 else 1) := h
    have hx : x = u := Fin.ext (by split at h <;> split at h <;> omega)
    subst hx
    have hP : y * y = x * x * x + b := hP
    have hQ : v * v = x * x * x + b := hQ
    have e : (y - v) * (y + v) = 0 := by grind
    rcases F.dom (a := y - v) (b := y + v) e with e | e
    · have e : y - v = 0 := e
      have : y = v := by grind
      rw [this]
    · have e : y + v = 0 := e
      by_cases h0 : y = 0
      · have : v = 0 := by grind
        rw [h0, this]
      · exfalso
        have hv : v = 0 - y := by grind
        have hy0 : y.val ≠ 0 := fun e => h0 (Fin.ext e)
        have hyl := y.isLt
        have hvv : v.val = p - y.val := by
          have e1 : (0 - y).val = (p - y.val) % p := by rw [Fin.sub_def]; rfl
          rw [hv, e1, Nat.mod_eq_of_lt (by omega)]
        rw [hvv] at h
        split at h <;> split at h <;> omega
/-- If three times the order of one point is too much for the curve, it is all points' order. -/
theorem order_all (hp : Pr p) (h2 : 2 < p) (ho : p % 2 = 1) {b : Fin p} (N : No2 (ops1 (inv1 (p := p))) b) {G : Pt (Fin p)} (hG : onC (ops1 inv1) b G) {n : Nat} (hn : Pr n) (hodd : n % 2 = 1) (h0 : mn (ops1 inv1) G n = none) (hG0 : G ≠ none)
    (h3 : 2 * p + 1 < 3 * n) {P : Pt (Fin p)} (hP : onC (ops1 inv1) b P) : ∃ k, P = mn (ops1 inv1) G k := by
  have F := fd1 hp h2
  refine Classical.byContradiction fun hno => ?_
  have on := fun {Q : Pt (Fin p)} (h : onC (ops1 inv1) b Q) k => mon F N h k
  have hn0 : 0 < n := by omega
  have key : ∀ q q' r r', q < q' → q' < 3 → r < n → r' < n → sumR (ops1 inv1) (mn (ops1 inv1) P q) (mn (ops1 inv1) G r) = sumR (ops1 inv1) (mn (ops1 inv1) P q') (mn (ops1 inv1) G r') → False := fun q q' r r' hq hq' hr hr' e => by
    have e1 : mn (ops1 inv1) G r = sumR (ops1 inv1) (mn (ops1 inv1) P (q' - q)) (mn (ops1 inv1) G r') := by
      rw [show mn (ops1 inv1) P q' = sumR (ops1 inv1) (mn (ops1 inv1) P q) (mn (ops1 inv1) P (q' - q)) by rw [madd F N hP]; congr 1; omega, sum_assoc F N (on hP _) (on hP _) (on hG _)] at e
      exact sum_cancel F N (on hP _) (on hG _) (sum_on F N (on hP _) (on hG _)) e
    have e2 : mn (ops1 inv1) P (q' - q) = mn (ops1 inv1) G (r + (n - r')) := by
      have h1 : sumR (ops1 inv1) (mn (ops1 inv1) G r') (mn (ops1 inv1) G (n - r')) = none := by rw [madd F N hG, show r' + (n - r') = n by omega, h0]
      rw [← madd F N hG, e1, sum_assoc F N (on hP _) (on hG _) (on hG _), h1, sum_none F N]
    rcases (by omega : q' - q = 1 ∨ q' - q = 2) with hd | hd
    · rw [hd, mn_one F N] at e2; exact hno ⟨_, e2⟩
    · rw [hd] at e2
      have e3 : sumR (ops1 inv1) P P = mn (ops1 inv1) G (r + (n - r')) := by
        rw [← e2]
        show _ = sumR _ (sumR _ none P) P
        rw [none_sum F N]
      exact hno (half_in F N hG hn h0 hG0 hodd hP e3)
  have := pigeon (2 * p + 1) (3 * n) (fun i => cod (sumR (ops1 inv1) (mn (ops1 inv1) P (i / n)) (mn (ops1 inv1) G (i % n)))) (fun i _ => cod_lt _) (fun i j hi hj e => by
    have e := cod_inj hp h2 ho (sum_on F N (on hP _) (on hG _)) (sum_on F N (on hP _) (on hG _)) e
    have hi3 : i / n < 3 := (Nat.div_lt_iff_lt_mul hn0).2 hi
    have hj3 : j / n < 3 := (Nat.div_lt_iff_lt_mul hn0).2 hj
    have hir := Nat.mod_lt i hn0
    have hjr := Nat.mod_lt j hn0
    rcases Nat.lt_trichotomy (i / n) (j / n) with h | h | h
    · exact (key _ _ _ _ h hj3 hir hjr e).elim
    · rw [h] at e
      have e := sum_cancel F N (on hP _) (on hG _) (on hG _) e
      have e := mn_inj F N hG hn h0 hG0 hir hjr e
      have h4 := Nat.div_add_mod i n
      have h5 := Nat.div_add_mod j n
      rw [h, e, h5] at h4
      exact h4.symm
    · exact (key _ _ _ _ h hi3 hjr hir e.symm).elim)
  omega
end
end Gp
end
section
set_option linter.unusedSectionVars false
set_option linter.unusedVariables false
set_option linter.unusedSimpArgs false
set_option maxRecDepth 100000
set_option exponentiation.threshold 2000
namespace Sk
open Cv NT Gp
/-- secp256k1, in plain numbers. -/
abbrev pS : Nat := 115792089237316195423570985008687907853269984665640564039457584007908834671663
abbrev nS : Nat := 115792089237316195423570985008687907852837564279074904382605163141518161494337
instance : NeZero pS := ⟨by decide⟩
instance : NeZero nS := ⟨by decide⟩
def fs (n : Nat) : Fin pS := ⟨n % pS, Nat.mod_lt _ (by decide)⟩
abbrev O := ops1 (inv1 (p := pS))
theorem pPr : Pr pS := prime_secpP
theorem nPr : Pr nS := prime_secpN
theorem F : Fd O := fd1 pPr (by decide)
theorem one_ne : (1 : Fin pS) ≠ 0 := one_ne0 (by decide)
theorem L : Laws O := laws1 _ one_ne
theorem no2 : No2 O (fs 7) := no2_1 (f := 256) pPr (by decide +kernel) (by decide +kernel) (by decide +kernel) (by decide +kernel)
theorem hA : ∀ P Q : Pt (Fin pS), onC O (fs 7) P → onC O (fs 7) Q → down O (plus O (up O P) (up O Q)) = sumR O P Q := add1 inv1 one_ne (fun a h => inv1_ok pPr (by decide) a h) (fs 7)
def gx : Nat := 0x79be667ef9dcbbac55a06295ce870b07029bfcdb2dce28d959f2815b16f81798
def gy : Nat := 0x483ada7726a3c4655da4fbfc0e1108a8fd17b448a68554199c47d08ffb10d4b8
def G : Pt (Fin pS) := some (fs gx, fs gy)
theorem onG : onC O (fs 7) G := by show fs gy * fs gy = fs gx * fs gx * fs gx + fs 7; decide +kernel
theorem nz : (tm O ⟨fs gx, fs gy, O.one⟩ nS 256 256).z = O.zero := by decide +kernel
theorem nG : mn O G nS = none := by
  have h := tm_mn F L no2 hA onG (k := nS) (n := 256) (by decide) 256 (Nat.le_refl _)
  rw [Nat.sub_self, Nat.pow_zero, Nat.div_one] at h
  have e : down O (tm O ⟨fs gx, fs gy, O.one⟩ nS 256 256) = none := by
    have := nz
    generalize tm O ⟨fs gx, fs gy, O.one⟩ nS 256 256 = j at *
    unfold down
    rw [if_pos this]
  exact h.symm.trans e
theorem G_ne : G ≠ none := fun h => by cases h
theorem all {P : Pt (Fin pS)} (hP : onC O (fs 7) P) : ∃ k, P = mn O G k := order_all pPr (by decide) (by decide) no2 onG nPr (by decide) nG G_ne (by decide) hP
/-- n times any point is at infinity. -/
theorem kill {P : Pt (Fin pS)} (hP : onC O (fs 7) P) : mn O P nS = none := by
  obtain ⟨k, rfl⟩ := all hP
  rw [mn_mul F no2 onG, Nat.mul_comm, ← mn_mul F no2 onG, nG, mn_none F no2]
theorem on (P : Pt (Fin pS)) (hP : onC O (fs 7) P) (k : Nat) : onC O (fs 7) (mn O P k) := mon F no2 hP k
theorem inj {P : Pt (Fin pS)} (hP : onC O (fs 7) P) (hz : P ≠ none) {i j : Nat} (hi : i < nS) (hj : j < nS) (h : mn O P i = mn O P j) : i = j := mn_inj F no2 hP nPr (kill hP) hz hi hj h
end Sk
end
section
set_option linter.unusedSectionVars false
set_option linter.unusedVariables false
set_option linter.unusedSimpArgs false
set_option maxRecDepth 100000
set_option exponentiation.threshold 2000
namespace Sk
open Cv NT Gp
def nf (k : Nat) : Fin nS := ⟨k % nS, Nat.mod_lt _ (by decide)⟩
/-- Another hash tells somebody else. -/
theorem other {h h' r s d k i : Fin nS} (hs : s * k = h + r * d) (hi : r * i = 1) : (0 - h' * i) + k * (s * i) = d ↔ h' = h := by
  constructor
  · intro e; grind
  · intro e; subst e; grind
end Sk
end
section
set_option linter.unusedSectionVars false
set_option linter.unusedVariables false
set_option linter.unusedSimpArgs false
namespace Gp
open Cv
def mixG {α : Type} (O : Ops α) (p q : Jac α) : Jac α :=
  let pz := O.mul p.z p.z
  let qz := O.mul q.z q.z
  let u := O.mul p.x qz
  let v := O.mul q.x pz
  let s := O.mul (O.mul p.y qz) q.z
  let t := O.mul (O.mul q.y pz) p.z
  let h := O.sub v u
  let r := O.sub t s
  let hh := O.mul h h
  let hhh := O.mul hh h
  let w := O.mul u hh
  let x := O.sub (O.sub (O.mul r r) hhh) (O.add w w)
  ⟨x, O.sub (O.mul r (O.sub w x)) (O.mul s hhh), O.mul (O.mul p.z q.z) h⟩
def qE : Jac E := sj eJ w0 ⟨w4, w5, .o⟩
theorem chk_g1 : (E.s (mixG eJ jE qE).x (sj eJ l3 (mix eJ jE w4 w5)).x).chk = true := by decide +kernel
theorem chk_g2 : (E.s (mixG eJ jE qE).y (sj eJ l3 (mix eJ jE w4 w5)).y).chk = true := by decide +kernel
theorem chk_g3 : (E.s (mixG eJ jE qE).z (sj eJ l3 (mix eJ jE w4 w5)).z).chk = true := by decide +kernel
theorem chk_gu : (E.s (.m jE.x (.m qE.z qE.z)) (.m (.m jE.x (.m .o .o)) (.m w0 w0))).chk = true := by decide +kernel
theorem chk_gv : (E.s (.m qE.x (.m jE.z jE.z)) (.m (.m w4 (.m jE.z jE.z)) (.m w0 w0))).chk = true := by decide +kernel
theorem chk_gs : (E.s (.m (.m jE.y (.m qE.z qE.z)) qE.z) (.m (.m (.m jE.y (.m .o .o)) .o) (.m (.m w0 w0) w0))).chk = true := by decide +kernel
theorem chk_gt : (E.s (.m (.m qE.y (.m jE.z jE.z)) jE.z) (.m (.m (.m w5 (.m jE.z jE.z)) jE.z) (.m (.m w0 w0) w0))).chk = true := by decide +kernel
section
variable {α : Type} [DecidableEq α] {O : Ops α} (F : Fd O)
include F
theorem plus_sj2 {l : α} (hl : l ≠ O.zero) (p : Jac α) (x y : α) : ∃ m, m ≠ O.zero ∧ plus O p (sj O l ⟨x, y, O.one⟩) = sj O m (plus O p ⟨x, y, O.one⟩) := by
  obtain ⟨px, py, pz⟩ := p
  have hm : mixG O ⟨px, py, pz⟩ (sj O l ⟨x, y, O.one⟩) = sj O (O.mul (O.mul l l) l) (mix O ⟨px, py, pz⟩ x y) := by
    have h1 := F.eq_of_sub (van0 F.cr chk_g1 l px py pz x y O.zero O.zero)
    have h2 := F.eq_of_sub (van0 F.cr chk_g2 l px py pz x y O.zero O.zero)
    have h3 := F.eq_of_sub (van0 F.cr chk_g3 l px py pz x y O.zero O.zero)
    exact (Jac.mk.injEq ..).mpr ⟨h1, h2, h3⟩
  have hqz : (sj O l ⟨x, y, O.one⟩ : Jac α).z ≠ O.zero := F.mne hl F.ne
  by_cases hz : pz = O.zero
  · refine ⟨l, hl, ?_⟩
    unfold plus
    rw [if_pos hz, if_pos hz]
  · have hu : O.mul px (O.mul (sj O l ⟨x, y, O.one⟩ : Jac α).z (sj O l ⟨x, y, O.one⟩ : Jac α).z) = O.mul (O.mul px (O.mul O.one O.one)) (O.mul l l) := F.eq_of_sub (van0 F.cr chk_gu l px py pz x y O.zero O.zero)
    have hv : O.mul (sj O l ⟨x, y, O.one⟩ : Jac α).x (O.mul pz pz) = O.mul (O.mul x (O.mul pz pz)) (O.mul l l) := F.eq_of_sub (van0 F.cr chk_gv l px py pz x y O.zero O.zero)
    have hs : O.mul (O.mul py (O.mul (sj O l ⟨x, y, O.one⟩ : Jac α).z (sj O l ⟨x, y, O.one⟩ : Jac α).z)) (sj O l ⟨x, y, O.one⟩ : Jac α).z = O.mul (O.mul (O.mul py (O.mul O.one O.one)) O.one) (O.mul (O.mul l l) l) := F.eq_of_sub (van0 F.cr chk_gs l px py pz x y O.zero O.zero)
    have ht : O.mul (O.mul (sj O l ⟨x, y, O.one⟩ : Jac α).y (O.mul pz pz)) pz = O.mul (O.mul (O.mul y (O.mul pz pz)) pz) (O.mul (O.mul l l) l) := F.eq_of_sub (van0 F.cr chk_gt l px py pz x y O.zero O.zero)
    have l2 := F.mne hl hl
    have l3' := F.mne l2 hl
    generalize sj O l ⟨x, y, O.one⟩ = q at *
    unfold plus
    dsimp only at *
    rw [if_neg hz, if_neg hz, if_neg hqz, if_neg F.ne]
    by_cases h1 : O.mul px (O.mul O.one O.one) = O.mul x (O.mul pz pz)
    · rw [if_pos (by rw [hu, hv, h1]), if_pos h1]
      by_cases h2 : O.mul (O.mul py (O.mul O.one O.one)) O.one = O.mul (O.mul y (O.mul pz pz)) pz
      · rw [if_pos (by rw [hs, ht, h2]), if_pos h2]
        exact ⟨O.one, F.ne, (sj_one F _).symm⟩
      · rw [if_neg (fun e => h2 (F.cancel l3' (by rw [← hs, ← ht, e]))), if_neg h2]
        exact ⟨O.one, F.ne, (sj_inf F _).symm⟩
    · rw [if_neg (fun e => h1 (F.cancel l2 (by rw [← hu, ← hv, e]))), if_neg h1]
      exact ⟨_, l3', hm⟩
end
section
variable {α : Type} [DecidableEq α] {O : Ops α} (F : Fd O) (L : Laws O) {b : α} (N : No2 O b) (hA : ∀ P Q : Pt α, onC O b P → onC O b Q → down O (plus O (up O P) (up O Q)) = sumR O P Q)
include F L N hA
/-- Jacobian triples added, whatever their names. -/
theorem plus_gen (p q : Jac α) (hp : onC O b (down O p)) (hq : onC O b (down O q)) : down O (plus O p q) = sumR O (down O p) (down O q) := by
  by_cases hz : q.z = O.zero
  · have e : down O q = none := by unfold down; rw [if_pos hz]
    rw [e]
    have e2 : sumR O (down O p) none = down O p := by cases down O p <;> rfl
    rw [e2]
    unfold plus
    by_cases hpz : p.z = O.zero
    · rw [if_pos hpz, e]; unfold down; rw [if_pos hpz]
    · rw [if_neg hpz, if_pos hz]
  · have hq2 := up_down F hz
    obtain ⟨x, y, e⟩ : ∃ x y, down O q = some (x, y) := by unfold down; rw [if_neg hz]; exact ⟨_, _, rfl⟩
    rw [e] at hq2 hq ⊢
    rw [hq2]
    obtain ⟨m, hm, e2⟩ := plus_sj2 F hz p x y
    show down O (plus O p (sj O q.z ⟨x, y, O.one⟩)) = _
    rw [e2, down_sj F hm]
    exact plus_sum F L N hA p x y hp hq
end
end Gp
end
