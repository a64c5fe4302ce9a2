import Derived.Test.YtmholgclgamnnaaGreatQYDB
import Derived.Test.YtmholgclgamnnaaGreatQYCS
import Derived.Test.YtmholgclgamnnaaGreatQYGG
import Derived.Test.YtmholgclgamnnaaGreatQYDL
import Derived.Test.YtmholgclgamnnaaGreatQYCB
import Derived.Test.YtmholgclgamnnaaGreatQYyXCGroupyGE
section
set_option linter.unusedSectionVars false
set_option linter.unusedVariables false
set_option linter.unusedSimpArgs false
namespace Gp
open Cv
theorem chk_h1 : (E.s (rc eO w7 (sc eO w0 hP) hQ).x (.m (.m w0 w0) (rc eO w7 hP hQ).x)).chk = true := by decide +kernel
theorem chk_h2 : (E.s (rc eO w7 (sc eO w0 hP) hQ).y (.m (.m w0 w0) (rc eO w7 hP hQ).y)).chk = true := by decide +kernel
theorem chk_h3 : (E.s (rc eO w7 (sc eO w0 hP) hQ).z (.m (.m w0 w0) (rc eO w7 hP hQ).z)).chk = true := by decide +kernel
theorem chk_s1 : (E.s (rc eO w7 hP hQ).x (rc eO w7 hQ hP).x).chk = true := by decide +kernel
theorem chk_s2 : (E.s (rc eO w7 hP hQ).y (rc eO w7 hQ hP).y).chk = true := by decide +kernel
theorem chk_s3 : (E.s (rc eO w7 hP hQ).z (rc eO w7 hQ hP).z).chk = true := by decide +kernel
section
variable {α : Type} [DecidableEq α] {O : Ops α} (F : Fd O)
include F
theorem rc_l (l b : α) (p q : T3 α) : rc (opOf O) b (sc (opOf O) l p) q = sc (opOf O) (O.mul l l) (rc (opOf O) b p q) := by
  obtain ⟨px, py, pz⟩ := p
  obtain ⟨qx, qy, qz⟩ := q
  have h1 := F.eq_of_sub (van0 F.cr chk_h1 l px py pz qx qy qz b)
  have h2 := F.eq_of_sub (van0 F.cr chk_h2 l px py pz qx qy qz b)
  have h3 := F.eq_of_sub (van0 F.cr chk_h3 l px py pz qx qy qz b)
  exact (T3.mk.injEq ..).mpr ⟨h1, h2, h3⟩
theorem rc_c (b : α) (p q : T3 α) : rc (opOf O) b p q = rc (opOf O) b q p := by
  obtain ⟨px, py, pz⟩ := p
  obtain ⟨qx, qy, qz⟩ := q
  have h1 := F.eq_of_sub (van0 F.cr chk_s1 O.zero px py pz qx qy qz b)
  have h2 := F.eq_of_sub (van0 F.cr chk_s2 O.zero px py pz qx qy qz b)
  have h3 := F.eq_of_sub (van0 F.cr chk_s3 O.zero px py pz qx qy qz b)
  exact (T3.mk.injEq ..).mpr ⟨h1, h2, h3⟩
theorem rc_r (l b : α) (p q : T3 α) : rc (opOf O) b p (sc (opOf O) l q) = sc (opOf O) (O.mul l l) (rc (opOf O) b p q) := by
  rw [rc_c F, rc_l F, rc_c F]
theorem sc_sc (l m : α) (p : T3 α) : sc (opOf O) l (sc (opOf O) m p) = sc (opOf O) (O.mul l m) p := by
  simp only [sc, opOf, F.mul_assoc]
end
/-- A point's three coordinates. -/
def pj {α : Type} (O : Ops α) : Pt α → T3 α
  | none => ⟨O.zero, O.one, O.zero⟩
  | some (x, y) => ⟨x, y, O.one⟩
section
variable {α : Type} [DecidableEq α] {O : Ops α} (F : Fd O) {b : α} (N : No2 O b)
include F
include N
theorem y_ne {x y : α} (h : onC O b (some (x, y))) : y ≠ O.zero := fun e => by
  subst e
  have h : O.mul O.zero O.zero = _ := h
  rw [F.mul_zero] at h
  exact N x h.symm
/-- Sums are sums, and lie on the curve. -/
theorem sum_ok : ∀ P Q : Pt α, onC O b P → onC O b Q → onC O b (sumR O P Q) ∧ ∃ l, l ≠ O.zero ∧ rc (opOf O) b (pj O P) (pj O Q) = sc (opOf O) l (pj O (sumR O P Q)) := by
  have inf1 : ∀ x y, rc (opOf O) b ⟨O.zero, O.one, O.zero⟩ ⟨x, y, O.one⟩ = ⟨O.mul y x, O.mul y y, O.mul y O.one⟩ := by
    intro x y
    simp only [rc, opOf, thr, F.mul_zero, F.zero_mul, F.mul_one, F.one_mul, F.add_zero, F.zero_add, F.sub_zero, F.mul_comm x y]
  rintro (_ | ⟨x1, y1⟩) (_ | ⟨x2, y2⟩) hP hQ
  · refine ⟨trivial, O.one, F.ne, ?_⟩
    simp only [rc, opOf, thr, pj, sc, sumR, F.mul_zero, F.zero_mul, F.mul_one, F.one_mul, F.add_zero, F.zero_add, F.sub_zero]
  · exact ⟨hQ, y2, y_ne F N hQ, inf1 x2 y2⟩
  · exact ⟨hP, y1, y_ne F N hP, (rc_c F b _ _).trans (inf1 x1 y1)⟩
  · have h1 : O.mul y1 y1 = O.add (O.mul (O.mul x1 x1) x1) b := hP
    have h2 : O.mul y2 y2 = O.add (O.mul (O.mul x2 x2) x2) b := hQ
    have hy1 := y_ne F N hP
    by_cases hx : x1 = x2
    · subst hx
      have hd := F.twice_ne hy1
      have hs : O.mul (O.mul (O.add (O.add (O.mul x1 x1) (O.mul x1 x1)) (O.mul x1 x1)) (O.inv (O.add y1 y1))) (O.add y1 y1) = O.add (O.add (O.mul x1 x1) (O.mul x1 x1)) (O.mul x1 x1) := by
        rw [F.mul_assoc, F.mul_comm (O.inv _), F.inv _ hd, F.mul_one]
      obtain ⟨t1, t2, t3, t4, t5⟩ := tang F h1 hd hs _ _ rfl rfl _ rfl
      by_cases hy : O.add y1 y2 = O.zero
      · have e := F.neg_eq hy
        subst e
        refine ⟨by simp only [sumR, if_true, hy]; exact trivial, (rc (opOf O) b ⟨x1, y1, O.one⟩ ⟨x1, O.sub O.zero y1, O.one⟩).y, ?_, ?_⟩
        · intro h0
          have c3 : O.sub (rc (opOf O) b ⟨x1, y1, O.one⟩ ⟨x1, O.sub (O.sub O.one O.one) y1, O.one⟩).y _ = O.zero := van F.cr chk_n3 h1 h1 h1
          rw [F.sub_self] at c3
          have c4 := F.eq_of_sub c3
          rw [h0] at c4
          have c5 := c4.trans t5
          rcases F.dom c5.symm with h | h
          · rw [h, F.mul_zero] at t1
            exact N _ t1.symm
          · exact F.mne hd (F.mne hd hd) h
        · have n1 : (rc (opOf O) b ⟨x1, y1, O.one⟩ ⟨x1, O.sub (O.sub O.one O.one) y1, O.one⟩).x = O.zero := van F.cr chk_n1 h1 h1 h1
          have n2 : (rc (opOf O) b ⟨x1, y1, O.one⟩ ⟨x1, O.sub (O.sub O.one O.one) y1, O.one⟩).z = O.zero := van F.cr chk_n2 h1 h1 h1
          rw [F.sub_self] at n1 n2
          simp only [sumR, if_true, hy, pj, sc]
          show _ = T3.mk (O.mul _ O.zero) (O.mul _ O.one) (O.mul _ O.zero)
          rw [F.mul_zero, F.mul_one]
          generalize rc (opOf O) b ⟨x1, y1, O.one⟩ ⟨x1, O.sub O.zero y1, O.one⟩ = r at *
          obtain ⟨rx, ry, rz⟩ := r
          exact (T3.mk.injEq ..).mpr ⟨n1, rfl, n2⟩
      · have hyy : y1 = y2 := by
          have e : O.mul (O.sub y1 y2) (O.add y1 y2) = O.zero := by
            have h3 : (E.s (.m (.s w0 w1) (.a w0 w1)) (.s (.m w0 w0) (.m w1 w1))).chk = true := by decide +kernel
            have h4 := F.eq_of_sub (van0 F.cr h3 y1 y2 O.zero O.zero O.zero O.zero O.zero O.zero)
            exact h4.trans (F.sub_of_eq (h1.trans h2.symm))
          rcases F.dom e with h | h
          · exact F.eq_of_sub h
          · exact absurd h hy
        subst hyy
        simp only [sumR, if_true, hy, if_false, slope]
        refine ⟨t1, _, t4, ?_⟩
        show rc (opOf O) b ⟨x1, y1, O.one⟩ ⟨x1, y1, O.one⟩ = T3.mk (O.mul _ _) (O.mul _ _) (O.mul _ O.one)
        rw [F.mul_one]
        generalize rc (opOf O) b ⟨x1, y1, O.one⟩ ⟨x1, y1, O.one⟩ = r at *
        obtain ⟨rx, ry, rz⟩ := r
        exact (T3.mk.injEq ..).mpr ⟨t2, t3, rfl⟩
    · have hd : O.sub x2 x1 ≠ O.zero := fun h => hx (F.eq_of_sub h).symm
      have hs : ∀ n, O.mul (O.mul n (O.inv (O.sub x2 x1))) (O.sub x2 x1) = n := fun n => by
        rw [F.mul_assoc, F.mul_comm (O.inv _), F.inv _ hd, F.mul_one]
      have h2' : O.mul (O.sub O.zero y2) (O.sub O.zero y2) = O.add (O.mul (O.mul x2 x2) x2) b := by rw [F.neg_sq]; exact h2
      obtain ⟨t1, t2, t3, t4⟩ := chord F h1 h2 hd (hs _) _ _ rfl rfl _ rfl
      obtain ⟨u1, u2, u3, u4⟩ := chord F h1 h2' hd (hs _) _ _ rfl rfl _ rfl
      have c3 : O.sub (rc (opOf O) b ⟨x1, y1, O.one⟩ ⟨x2, y2, O.one⟩).z ((eV Gp.y1 Gp.y2).ev (opOf O) (vals (opOf O) x1 y1 x2 (O.sub (O.sub O.one O.one) y2) x1 y1 b)) = O.zero := van F.cr chk_c3 h1 h2 h1
      rw [F.sub_self] at c3
      have c4 := (F.eq_of_sub c3).trans u4
      have hz : (rc (opOf O) b ⟨x1, y1, O.one⟩ ⟨x2, y2, O.one⟩).z ≠ O.zero := by
        intro h
        rw [h] at c4
        rcases F.dom c4.symm with h | h
        · rw [h, F.mul_zero] at u1
          exact N _ u1.symm
        · exact F.mne hd (F.mne hd hd) h
      simp only [sumR, hx, if_false, slope]
      refine ⟨t1, _, hz, ?_⟩
      show rc (opOf O) b ⟨x1, y1, O.one⟩ ⟨x2, y2, O.one⟩ = T3.mk (O.mul _ _) (O.mul _ _) (O.mul _ O.one)
      rw [F.mul_one]
      generalize rc (opOf O) b ⟨x1, y1, O.one⟩ ⟨x2, y2, O.one⟩ = r at *
      obtain ⟨rx, ry, rz⟩ := r
      exact (T3.mk.injEq ..).mpr ⟨t2, t3, rfl⟩
theorem sum_on {P Q : Pt α} (hP : onC O b P) (hQ : onC O b Q) : onC O b (sumR O P Q) := (sum_ok F N P Q hP hQ).1
omit N in
/-- Alike but for a factor: the same point. -/
theorem same_pt {P Q : Pt α} {k l : α} (hk : k ≠ O.zero) (hl : l ≠ O.zero) (h1 : O.mul (O.mul k (pj O P).x) (O.mul l (pj O Q).z) = O.mul (O.mul l (pj O Q).x) (O.mul k (pj O P).z))
    (h2 : O.mul (O.mul k (pj O P).y) (O.mul l (pj O Q).z) = O.mul (O.mul l (pj O Q).y) (O.mul k (pj O P).z)) : P = Q := by
  have fac : ∀ u v w z : α, O.mul (O.mul k u) (O.mul l v) = O.mul (O.mul l w) (O.mul k z) → O.mul u v = O.mul w z := by
    intro u v w z h
    have e1 : O.mul (O.mul k u) (O.mul l v) = O.mul (O.mul k l) (O.mul u v) := F.cr.mul4 k u l v
    have e2 : O.mul (O.mul l w) (O.mul k z) = O.mul (O.mul l k) (O.mul w z) := F.cr.mul4 l w k z
    rw [e1, e2, F.mul_comm l k, F.mul_comm _ (O.mul u v), F.mul_comm _ (O.mul w z)] at h
    exact F.cancel (F.mne hk hl) h
  replace h1 := fac _ _ _ _ h1
  replace h2 := fac _ _ _ _ h2
  obtain _ | ⟨x1, y1⟩ := P <;> obtain _ | ⟨x2, y2⟩ := Q
  · rfl
  · simp only [pj, F.mul_one, F.mul_zero] at h2
    exact absurd h2 F.ne
  · simp only [pj, F.mul_one, F.mul_zero] at h2
    exact absurd h2.symm F.ne
  · simp only [pj, F.mul_one] at h1 h2
    rw [h1, h2]
theorem sum_assoc {P Q R : Pt α} (hP : onC O b P) (hQ : onC O b Q) (hR : onC O b R) : sumR O (sumR O P Q) R = sumR O P (sumR O Q R) := by
  have nl : ∀ S : Pt α, sumR O none S = S := fun S => by cases S <;> rfl
  have nr : ∀ S : Pt α, sumR O S none = S := fun S => by cases S <;> rfl
  obtain _ | ⟨x1, y1⟩ := P
  · rw [nl, nl]
  obtain _ | ⟨x2, y2⟩ := Q
  · rw [nr, nl]
  obtain _ | ⟨x3, y3⟩ := R
  · rw [nr, nr]
  have h1 : O.mul y1 y1 = O.add (O.mul (O.mul x1 x1) x1) b := hP
  have h2 : O.mul y2 y2 = O.add (O.mul (O.mul x2 x2) x2) b := hQ
  have h3 : O.mul y3 y3 = O.add (O.mul (O.mul x3 x3) x3) b := hR
  obtain ⟨o1, k1, hk1, e1⟩ := sum_ok F N _ _ hP hQ
  obtain ⟨_, k2, hk2, e2⟩ := sum_ok F N _ _ o1 hR
  obtain ⟨o2, l1, hl1, f1⟩ := sum_ok F N _ _ hQ hR
  obtain ⟨_, l2, hl2, f2⟩ := sum_ok F N _ _ hP o2
  have a1 : rc (opOf O) b (rc (opOf O) b (pj O (some (x1, y1))) (pj O (some (x2, y2)))) (pj O (some (x3, y3))) = sc (opOf O) (O.mul (O.mul k1 k1) k2) (pj O (sumR O (sumR O (some (x1, y1)) (some (x2, y2))) (some (x3, y3)))) := by
    rw [e1, rc_l F, e2, sc_sc F]
  have a2 : rc (opOf O) b (pj O (some (x1, y1))) (rc (opOf O) b (pj O (some (x2, y2))) (pj O (some (x3, y3)))) = sc (opOf O) (O.mul (O.mul l1 l1) l2) (pj O (sumR O (some (x1, y1)) (sumR O (some (x2, y2)) (some (x3, y3))))) := by
    rw [f1, rc_r F, f2, sc_sc F]
  have v1 : O.mul (rc (opOf O) b (rc (opOf O) b (pj O (some (x1, y1))) (pj O (some (x2, y2)))) (pj O (some (x3, y3)))).x (rc (opOf O) b (pj O (some (x1, y1))) (rc (opOf O) b (pj O (some (x2, y2))) (pj O (some (x3, y3))))).z =
      O.mul (rc (opOf O) b (pj O (some (x1, y1))) (rc (opOf O) b (pj O (some (x2, y2))) (pj O (some (x3, y3))))).x (rc (opOf O) b (rc (opOf O) b (pj O (some (x1, y1))) (pj O (some (x2, y2)))) (pj O (some (x3, y3)))).z :=
    F.eq_of_sub (van F.cr chk_xz h1 h2 h3)
  have v2 : O.mul (rc (opOf O) b (rc (opOf O) b (pj O (some (x1, y1))) (pj O (some (x2, y2)))) (pj O (some (x3, y3)))).y (rc (opOf O) b (pj O (some (x1, y1))) (rc (opOf O) b (pj O (some (x2, y2))) (pj O (some (x3, y3))))).z =
      O.mul (rc (opOf O) b (pj O (some (x1, y1))) (rc (opOf O) b (pj O (some (x2, y2))) (pj O (some (x3, y3))))).y (rc (opOf O) b (rc (opOf O) b (pj O (some (x1, y1))) (pj O (some (x2, y2)))) (pj O (some (x3, y3)))).z :=
    F.eq_of_sub (van F.cr chk_yz h1 h2 h3)
  rw [a1, a2] at v1 v2
  exact same_pt F (F.mne (F.mne hk1 hk1) hk2) (F.mne (F.mne hl1 hl1) hl2) v1 v2
omit N in
end
end Gp
end
section
set_option linter.unusedVariables false
set_option linter.unusedSectionVars false
set_option linter.unusedSimpArgs false
namespace Go.Proofs.YtmholgclgamnnaaGreat
open Go Eng
set_option maxRecDepth 100000
set_option exponentiation.threshold 2000
set_option maxHeartbeats 4000000
section
variable {p : Nat} [NeZero p]
theorem tm_inf {α : Type} [DecidableEq α] {O : Cv.Ops α} (L : Cv.Laws O) (k n : Nat) : ∀ i, (Cv.tm O (Cv.inf O) k n i).z = O.zero
  | 0 => rfl
  | i + 1 => by
    have h := Cv.dbl_inf L (.inl (tm_inf L k n i))
    rw [Cv.tm]
    split
    · unfold Cv.plus
      rw [if_pos h]
      rfl
    · exact h
theorem down_times {α : Type} [DecidableEq α] {O : Cv.Ops α} (L : Cv.Laws O) (P : Cv.Pt α) (k : Nat) : Cv.down O (Cv.tm O (Cv.up O P) k 256 256) = timesPt O P k ∧ ((Cv.tm O (Cv.up O P) k 256 256).z = O.zero ↔ timesPt O P k = none) := by
  obtain _ | ⟨x, y⟩ := P
  · have h := tm_inf L k 256 256
    show Cv.down O (Cv.tm O (Cv.inf O) k 256 256) = none ∧ ((Cv.tm O (Cv.inf O) k 256 256).z = O.zero ↔ none = none)
    unfold Cv.down
    rw [if_pos h]
    exact ⟨rfl, fun _ => rfl, fun _ => h⟩
  · have h := Cv.tm_alike L x y k 256 256
    show Cv.down O (Cv.tm O ⟨x, y, O.one⟩ k 256 256) = _ ∧ ((Cv.tm O ⟨x, y, O.one⟩ k 256 256).z = O.zero ↔ _)
    unfold timesPt Cv.down
    dsimp only
    generalize Cv.tm O ⟨x, y, O.one⟩ k 256 256 = a at *
    generalize Cv.tr O x y k 256 256 = b at *
    rcases h with ⟨h1, h2⟩ | ⟨rfl, h2⟩
    · rw [if_pos h1, if_pos h2]
      exact ⟨rfl, fun _ => rfl, fun _ => h1⟩
    · rw [if_neg h2, if_neg h2, L.assoc a.y]
      exact ⟨rfl, fun h => absurd h h2, fun h => by cases h⟩
theorem laws2p {b : Nat} (hp : PrM b p) : Cv.Laws (Cv.ops2 (Cv.inv2 (p := p))) := Cv.laws2 _ (one_ne hp)
def resA (e : Nat) (Q : Cv.Pt (Fin p)) : PtA := match e with | 0 => ofPt Q | _ + 1 => ⟨0, 0, false⟩
def resB (e : Nat) (Q : Cv.Pt (Cv.F2 p)) : PtB := match e with | 0 => ofPt2 Q | _ + 1 => ⟨0, 0, 0, 0, false⟩
theorem mulP_eq {n : Nat} (hp : PrM n p) (b : Fin p) (P : PtA) (k : Nat) : mulP b P k = (resA (good1 b P) (timesPt (Cv.ops1 Cv.inv1) (ptOf p P) k), good1 b P) := by
  unfold mulP
  rw [(down_times (laws1p hp) (ptOf p P) k).1]
  cases h1 : good1 b P with
  | zero => rfl
  | succ m => rfl
theorem mulQ_eq {n : Nat} (hp : PrM n p) (b : Cv.F2 p) (P : PtB) (k : Nat) : mulQ b P k = (resB (good2 b P) (timesPt (Cv.ops2 Cv.inv2) (ptOf2 p P) k), good2 b P) := by
  unfold mulQ
  rw [(down_times (laws2p hp) (ptOf2 p P) k).1]
  cases h1 : good2 b P with
  | zero => rfl
  | succ m => rfl
end
end Go.Proofs.YtmholgclgamnnaaGreat
end
section
set_option linter.unusedVariables false
set_option linter.unusedSectionVars false
set_option linter.unusedSimpArgs false
namespace Go.Proofs.YtmholgclgamnnaaGreat
open Go Eng
set_option maxRecDepth 100000
set_option exponentiation.threshold 2000
set_option maxHeartbeats 4000000
theorem bnB2_eq : bnB2 = ⟨fo bnP 0x2b149d40ceb8aaae81be18991be06ac3b5b4c5e559dbefa33267e6dc24a138e5, fo bnP 0x009713b03af0fed4cd2cafadeed8fdf4a74fa084e52d1852e4a2bd0685c315d2⟩ := by
  have e : Cv.inv1 (fo bnP 9 * fo bnP 9 + fo bnP 1 * fo bnP 1) = fo bnP 7207104360239761353666499452706663748717078063988307791373219794578306190631 := inv1_uniq bnPr (by decide +kernel)
  unfold bnB2 Cv.inv2
  dsimp only
  rw [e]
  decide +kernel
theorem bn_grp1 : grpP (fo bnP 3) ⟨1, 2, false⟩ bnR = 0 := by decide +kernel
theorem bls_grp1 : grpP blsC.b1 ⟨blsC.x1, blsC.y1, false⟩ blsR = 0 := by decide +kernel
end Go.Proofs.YtmholgclgamnnaaGreat
end
section
set_option linter.unusedVariables false
set_option linter.unusedSectionVars false
set_option linter.unusedSimpArgs false
namespace Go.Proofs.YtmholgclgamnnaaGreat
open Go Eng
set_option maxRecDepth 100000
set_option exponentiation.threshold 2000
set_option maxHeartbeats 4000000
theorem res_lt1 {b p : Nat} [NeZero p] (hp : PrM b p) (e : Nat) (Q : Cv.Pt (Fin p)) : (resA e Q).x < 2 ^ b ∧ (resA e Q).y < 2 ^ b := by
  cases e with
  | zero =>
    obtain _ | ⟨x, y⟩ := Q
    · exact ⟨Nat.two_pow_pos _, Nat.two_pow_pos _⟩
    · exact ⟨Nat.lt_trans x.isLt hp.lt, Nat.lt_trans y.isLt hp.lt⟩
  | succ e => exact ⟨Nat.two_pow_pos _, Nat.two_pow_pos _⟩
theorem res_lt2 {b p : Nat} [NeZero p] (hp : PrM b p) (e : Nat) (Q : Cv.Pt (Cv.F2 p)) : (resB e Q).xa < 2 ^ b ∧ (resB e Q).xb < 2 ^ b ∧ (resB e Q).ya < 2 ^ b ∧ (resB e Q).yb < 2 ^ b := by
  cases e with
  | zero =>
    obtain _ | ⟨x, y⟩ := Q
    · exact ⟨Nat.two_pow_pos _, Nat.two_pow_pos _, Nat.two_pow_pos _, Nat.two_pow_pos _⟩
    · exact ⟨Nat.lt_trans x.a.isLt hp.lt, Nat.lt_trans x.b.isLt hp.lt, Nat.lt_trans y.a.isLt hp.lt, Nat.lt_trans y.b.isLt hp.lt⟩
  | succ e => exact ⟨Nat.two_pow_pos _, Nat.two_pow_pos _, Nat.two_pow_pos _, Nat.two_pow_pos _⟩
end Go.Proofs.YtmholgclgamnnaaGreat
end
section
set_option linter.unusedSectionVars false
set_option linter.unusedVariables false
set_option linter.unusedSimpArgs false
namespace Gp
open Cv
/-- A triple by another name. -/
def sj {α : Type} (O : Ops α) (l : α) (p : Jac α) : Jac α := ⟨O.mul (O.mul l l) p.x, O.mul (O.mul (O.mul l l) l) p.y, O.mul l p.z⟩
def mix {α : Type} (O : Ops α) (p : Jac α) (qx qy : α) : Jac α :=
  let pz := O.mul p.z p.z
  let qz := O.mul O.one O.one
  let u := O.mul p.x qz
  let v := O.mul qx pz
  let s := O.mul (O.mul p.y qz) O.one
  let t := O.mul (O.mul qy pz) p.z
  let h := O.sub v u
  let r := O.sub t s
  let hh := O.mul h h
  let hhh := O.mul hh h
  let w := O.mul u hh
  let x := O.sub (O.sub (O.mul r r) hhh) (O.add w w)
  ⟨x, O.sub (O.mul r (O.sub w x)) (O.mul s hhh), O.mul (O.mul p.z O.one) h⟩
def dbE {α : Type} (O : Ops α) (p : Jac α) : Jac α :=
  let a := O.mul p.x p.x
  let b := O.mul p.y p.y
  let s := O.mul p.x b
  let s := O.add s s
  let s := O.add s s
  let e := O.add (O.add a a) a
  let c := O.mul b b
  let c := O.add c c
  let c := O.add c c
  let c := O.add c c
  let x := O.sub (O.mul e e) (O.add s s)
  let z := O.mul p.y p.z
  ⟨x, O.sub (O.mul e (O.sub s x)) c, O.add z z⟩
def eJ : Ops E := ⟨.a, .s, .m, fun x => x, .s .o .o, .o⟩
def jE : Jac E := ⟨w1, w2, w3⟩
theorem chk_m1 : (E.s (mix eJ (sj eJ w0 jE) w4 w5).x (sj eJ l3 (mix eJ jE w4 w5)).x).chk = true := by decide +kernel
theorem chk_m2 : (E.s (mix eJ (sj eJ w0 jE) w4 w5).y (sj eJ l3 (mix eJ jE w4 w5)).y).chk = true := by decide +kernel
theorem chk_m3 : (E.s (mix eJ (sj eJ w0 jE) w4 w5).z (sj eJ l3 (mix eJ jE w4 w5)).z).chk = true := by decide +kernel
theorem chk_e1 : (E.s (dbE eJ (sj eJ w0 jE)).x (sj eJ l4 (dbE eJ jE)).x).chk = true := by decide +kernel
theorem chk_e2 : (E.s (dbE eJ (sj eJ w0 jE)).y (sj eJ l4 (dbE eJ jE)).y).chk = true := by decide +kernel
theorem chk_e3 : (E.s (dbE eJ (sj eJ w0 jE)).z (sj eJ l4 (dbE eJ jE)).z).chk = true := by decide +kernel
/-- u, v, s, t scaled -/
theorem chk_u : (E.s (.m (sj eJ w0 jE).x (.m .o .o)) (.m (.m jE.x (.m .o .o)) (.m w0 w0))).chk = true := by decide +kernel
theorem chk_v : (E.s (.m w4 (.m (sj eJ w0 jE).z (sj eJ w0 jE).z)) (.m (.m w4 (.m jE.z jE.z)) (.m w0 w0))).chk = true := by decide +kernel
theorem chk_s : (E.s (.m (.m (sj eJ w0 jE).y (.m .o .o)) .o) (.m (.m (.m jE.y (.m .o .o)) .o) (.m (.m w0 w0) w0))).chk = true := by decide +kernel
theorem chk_t : (E.s (.m (.m w5 (.m (sj eJ w0 jE).z (sj eJ w0 jE).z)) (sj eJ w0 jE).z) (.m (.m (.m w5 (.m jE.z jE.z)) jE.z) (.m (.m w0 w0) w0))).chk = true := by decide +kernel
/-- w0 = l, w1 = x, w2 = j -/
theorem chk_i1 : (E.s (.m (.m (.m w0 w0) w1) (.m w2 w2)) (.m w1 (.m (.m w0 w2) (.m w0 w2)))).chk = true := by decide +kernel
theorem chk_i2 : (E.s (.m (.m (.m (.m w0 w0) w0) w1) (.m w2 (.m w2 w2))) (.m w1 (.m (.m w0 w2) (.m (.m w0 w2) (.m w0 w2))))).chk = true := by decide +kernel
theorem chk_i3 : (E.s (.m (.m w1 (.m w2 w2)) w2) (.m w1 (.m w2 (.m w2 w2)))).chk = true := by decide +kernel
theorem chk_i4 : (E.s (.m (.m w0 w0) (.m w1 (.m w2 w2))) (.m w1 (.m (.m w0 w2) (.m w0 w2)))).chk = true := by decide +kernel
theorem chk_i5 : (E.s (.m (.m (.m w0 w0) w0) (.m (.m w1 (.m w2 w2)) w2)) (.m w1 (.m (.m w0 w2) (.m (.m w0 w2) (.m w0 w2))))).chk = true := by decide +kernel
section
variable {α : Type} [DecidableEq α] {O : Ops α} (F : Fd O)
include F
theorem mix_sj (l : α) (p : Jac α) (x y : α) : mix O (sj O l p) x y = sj O (O.mul (O.mul l l) l) (mix O p x y) := by
  obtain ⟨px, py, pz⟩ := p
  have h1 := F.eq_of_sub (van0 F.cr chk_m1 l px py pz x y O.zero O.zero)
  have h2 := F.eq_of_sub (van0 F.cr chk_m2 l px py pz x y O.zero O.zero)
  have h3 := F.eq_of_sub (van0 F.cr chk_m3 l px py pz x y O.zero O.zero)
  exact (Jac.mk.injEq ..).mpr ⟨h1, h2, h3⟩
theorem dbl_sj (l : α) (p : Jac α) : dbl O (sj O l p) = sj O (O.mul (O.mul l l) (O.mul l l)) (dbl O p) := by
  obtain ⟨px, py, pz⟩ := p
  have h1 := F.eq_of_sub (van0 F.cr chk_e1 l px py pz O.zero O.zero O.zero O.zero)
  have h2 := F.eq_of_sub (van0 F.cr chk_e2 l px py pz O.zero O.zero O.zero O.zero)
  have h3 := F.eq_of_sub (van0 F.cr chk_e3 l px py pz O.zero O.zero O.zero O.zero)
  exact (Jac.mk.injEq ..).mpr ⟨h1, h2, h3⟩
theorem sj_one (p : Jac α) : sj O O.one p = p := by
  obtain ⟨px, py, pz⟩ := p
  simp only [sj, F.one_mul]
theorem sj_inf (l : α) : sj O l (inf O) = inf O := by
  simp only [sj, inf, F.mul_zero]
theorem down_sj {l : α} (hl : l ≠ O.zero) (p : Jac α) : down O (sj O l p) = down O p := by
  obtain ⟨x, y, z⟩ := p
  unfold down sj
  dsimp only
  by_cases hz : z = O.zero
  · rw [if_pos (by rw [hz, F.mul_zero]), if_pos hz]
  · have hlz := F.mne hl hz
    rw [if_neg hlz, if_neg hz]
    have e1 : O.mul (O.mul l (O.inv (O.mul l z))) z = O.mul (O.inv z) z := by
      rw [F.mul_assoc, F.mul_comm (O.inv (O.mul l z)) z, ← F.mul_assoc, F.inv _ hlz, F.mul_comm, F.inv _ hz]
    have e2 : O.mul l (O.inv (O.mul l z)) = O.inv z := F.cancel hz e1
    generalize O.inv (O.mul l z) = j at *
    have h1 := F.eq_of_sub (van0 F.cr chk_i1 l x j O.zero O.zero O.zero O.zero O.zero)
    have h2 := F.eq_of_sub (van0 F.cr chk_i2 l y j O.zero O.zero O.zero O.zero O.zero)
    have h3 := F.eq_of_sub (van0 F.cr chk_i3 l (O.mul (O.mul (O.mul l l) l) y) j O.zero O.zero O.zero O.zero O.zero)
    have h4 := F.eq_of_sub (van0 F.cr chk_i3 l y (O.inv z) O.zero O.zero O.zero O.zero O.zero)
    have h1' : O.mul (O.mul (O.mul l l) x) (O.mul j j) = O.mul x (O.mul (O.mul l j) (O.mul l j)) := h1
    have h2' : O.mul (O.mul (O.mul (O.mul l l) l) y) (O.mul j (O.mul j j)) = O.mul y (O.mul (O.mul l j) (O.mul (O.mul l j) (O.mul l j))) := h2
    have h3' : O.mul (O.mul (O.mul (O.mul (O.mul l l) l) y) (O.mul j j)) j = O.mul (O.mul (O.mul (O.mul l l) l) y) (O.mul j (O.mul j j)) := h3
    have h4' : O.mul (O.mul y (O.mul (O.inv z) (O.inv z))) (O.inv z) = O.mul y (O.mul (O.inv z) (O.mul (O.inv z) (O.inv z))) := h4
    rw [h1', h3', h2', e2, h4']
theorem up_down {p : Jac α} (hz : p.z ≠ O.zero) : p = sj O p.z (up O (down O p)) := by
  obtain ⟨x, y, z⟩ := p
  dsimp only at hz
  unfold down
  rw [if_neg hz]
  have hi := F.inv z hz
  generalize O.inv z = i at *
  have h1 : O.mul (O.mul z z) (O.mul x (O.mul i i)) = O.mul x (O.mul (O.mul z i) (O.mul z i)) := F.eq_of_sub (van0 F.cr chk_i4 z x i O.zero O.zero O.zero O.zero O.zero)
  have h2 : O.mul (O.mul (O.mul z z) z) (O.mul (O.mul y (O.mul i i)) i) = O.mul y (O.mul (O.mul z i) (O.mul (O.mul z i) (O.mul z i))) := F.eq_of_sub (van0 F.cr chk_i5 z y i O.zero O.zero O.zero O.zero O.zero)
  rw [hi, F.one_mul, F.mul_one] at h1
  rw [hi, F.one_mul, F.one_mul, F.mul_one] at h2
  show _ = (⟨O.mul (O.mul z z) (O.mul x (O.mul i i)), O.mul (O.mul (O.mul z z) z) (O.mul (O.mul y (O.mul i i)) i), O.mul z O.one⟩ : Jac α)
  rw [h1, h2, F.mul_one]
theorem plus_sj {l : α} (hl : l ≠ O.zero) (p : Jac α) (x y : α) : ∃ m, m ≠ O.zero ∧ plus O (sj O l p) ⟨x, y, O.one⟩ = sj O m (plus O p ⟨x, y, O.one⟩) := by
  have hm := mix_sj F l p x y
  have hd := dbl_sj F l p
  by_cases hz : p.z = O.zero
  · refine ⟨O.one, F.ne, ?_⟩
    have hz' : (sj O l p).z = O.zero := by show O.mul l p.z = _; rw [hz, F.mul_zero]
    unfold plus
    rw [if_pos hz', if_pos hz, sj_one F]
  · have hz' : (sj O l p).z ≠ O.zero := F.mne hl hz
    obtain ⟨px, py, pz⟩ := p
    have hu : O.mul (sj O l ⟨px, py, pz⟩).x (O.mul O.one O.one) = O.mul (O.mul px (O.mul O.one O.one)) (O.mul l l) := F.eq_of_sub (van0 F.cr chk_u l px py pz x y O.zero O.zero)
    have hv : O.mul x (O.mul (sj O l ⟨px, py, pz⟩).z (sj O l ⟨px, py, pz⟩).z) = O.mul (O.mul x (O.mul pz pz)) (O.mul l l) := F.eq_of_sub (van0 F.cr chk_v l px py pz x y O.zero O.zero)
    have hs : O.mul (O.mul (sj O l ⟨px, py, pz⟩).y (O.mul O.one O.one)) O.one = O.mul (O.mul (O.mul py (O.mul O.one O.one)) O.one) (O.mul (O.mul l l) l) := F.eq_of_sub (van0 F.cr chk_s l px py pz x y O.zero O.zero)
    have ht : O.mul (O.mul y (O.mul (sj O l ⟨px, py, pz⟩).z (sj O l ⟨px, py, pz⟩).z)) (sj O l ⟨px, py, pz⟩).z = O.mul (O.mul (O.mul y (O.mul pz pz)) pz) (O.mul (O.mul l l) l) := F.eq_of_sub (van0 F.cr chk_t l px py pz x y O.zero O.zero)
    have l2 := F.mne hl hl
    have l3' := F.mne l2 hl
    unfold plus
    dsimp only at *
    rw [if_neg hz', if_neg hz, if_neg F.ne, if_neg F.ne]
    by_cases h1 : O.mul px (O.mul O.one O.one) = O.mul x (O.mul pz pz)
    · rw [if_pos (by rw [hu, hv, h1]), if_pos h1]
      by_cases h2 : O.mul (O.mul py (O.mul O.one O.one)) O.one = O.mul (O.mul y (O.mul pz pz)) pz
      · rw [if_pos (by rw [hs, ht, h2]), if_pos h2]
        exact ⟨_, F.mne l2 l2, hd⟩
      · rw [if_neg (fun e => h2 (F.cancel l3' (by rw [← hs, ← ht, e]))), if_neg h2]
        exact ⟨O.one, F.ne, (sj_inf F _).symm⟩
    · rw [if_neg (fun e => h1 (F.cancel l2 (by rw [← hu, ← hv, e]))), if_neg h1]
      exact ⟨_, l3', hm⟩
end
/-- A point added to itself so many times. -/
def mn {α : Type} [DecidableEq α] (O : Ops α) (P : Pt α) : Nat → Pt α
  | 0 => none
  | k + 1 => sumR O (mn O P k) P
section
variable {α : Type} [DecidableEq α] {O : Ops α} (F : Fd O) (L : Laws O) {b : α} (N : No2 O b) (hA : ∀ P Q : Pt α, onC O b P → onC O b Q → down O (plus O (up O P) (up O Q)) = sumR O P Q)
include F L N hA
theorem dbl_sum (p : Jac α) (hp : onC O b (down O p)) : down O (dbl O p) = sumR O (down O p) (down O p) := by
  by_cases hz : p.z = O.zero
  · have h1 : down O p = none := if_pos hz
    rw [h1]
    exact if_pos (dbl_inf L (.inl hz))
  · have e := up_down F hz
    obtain ⟨q, hq⟩ : ∃ q, q = down O p := ⟨_, rfl⟩
    rw [← hq] at e hp
    have h2 : down O (dbl O p) = down O (dbl O (up O q)) := by rw [e, dbl_sj F, down_sj F (F.mne (F.mne hz hz) (F.mne hz hz))]
    rw [h2, ← hq, ← hA q q hp hp]
    obtain _ | ⟨x, y⟩ := q
    · have : down O p = none := hq.symm
      unfold down at this
      rw [if_neg hz] at this
      cases this
    · unfold plus up
      dsimp only
      rw [if_neg F.ne, if_neg F.ne, if_pos rfl, if_pos rfl]
theorem plus_sum (p : Jac α) (x y : α) (hp : onC O b (down O p)) (hq : onC O b (some (x, y))) : down O (plus O p ⟨x, y, O.one⟩) = sumR O (down O p) (some (x, y)) := by
  by_cases hz : p.z = O.zero
  · have h1 : down O p = none := if_pos hz
    have h2 := hA none (some (x, y)) trivial hq
    rw [h1, ← h2]
    unfold plus
    rw [if_pos hz, if_pos (show (up O (none : Pt α)).z = O.zero from rfl)]
    rfl
  · have e := up_down F hz
    obtain ⟨q, hq'⟩ : ∃ q, q = down O p := ⟨_, rfl⟩
    rw [← hq'] at e hp
    obtain ⟨m, hm, h⟩ := plus_sj F hz (up O q) x y
    rw [← e] at h
    rw [h, down_sj F hm, ← hq']
    exact hA q (some (x, y)) hp hq
theorem mn_on {P : Pt α} (hP : onC O b P) : ∀ k, onC O b (mn O P k)
  | 0 => trivial
  | k + 1 => sum_on F N (mn_on hP k) hP
theorem mn_add {P : Pt α} (hP : onC O b P) (k : Nat) : ∀ l, sumR O (mn O P k) (mn O P l) = mn O P (k + l)
  | 0 => by show sumR O (mn O P k) none = mn O P k; cases mn O P k <;> rfl
  | l + 1 => by
    show sumR O (mn O P k) (sumR O (mn O P l) P) = sumR O (mn O P (k + l)) P
    rw [← mn_add hP k l, sum_assoc F N (mn_on F L N hA hP k) (mn_on F L N hA hP l) hP]
theorem tm_mn {x y : α} (hP : onC O b (some (x, y))) {k n : Nat} (hk : k < 2 ^ n) : ∀ i, i ≤ n → down O (tm O ⟨x, y, O.one⟩ k n i) = mn O (some (x, y)) (k / 2 ^ (n - i))
  | 0, _ => by
    rw [Nat.sub_zero, Nat.div_eq_of_lt hk]
    exact if_pos rfl
  | i + 1, hi => by
    have ih := tm_mn hP hk i (by omega)
    obtain ⟨j, hj⟩ : ∃ j, n = i + 1 + j := ⟨n - (i + 1), by omega⟩
    have e1 : n - (i + 1) = j := by omega
    have e2 : n - 1 - i = j := by omega
    have e3 : n - i = j + 1 := by omega
    have e4 : k / 2 ^ (j + 1) = k / 2 ^ j / 2 := by rw [Nat.pow_succ, Nat.div_div_eq_div_mul]
    rw [e3, e4] at ih
    have hon := mn_on F L N hA hP (k / 2 ^ j / 2)
    have hd := dbl_sum F L N hA (tm O ⟨x, y, O.one⟩ k n i) (by rw [ih]; exact hon)
    rw [ih, mn_add F L N hA hP] at hd
    rw [e1, tm, e2]
    by_cases hb : k / 2 ^ j % 2 = 1
    · rw [if_pos hb, plus_sum F L N hA _ _ _ (by rw [hd]; exact mn_on F L N hA hP _) hP, hd]
      show mn O (some (x, y)) (k / 2 ^ j / 2 + k / 2 ^ j / 2 + 1) = _
      congr 1
      omega
    · rw [if_neg hb, hd]
      congr 1
      omega
end
end Gp
end
section
set_option linter.unusedSectionVars false
set_option linter.unusedVariables false
set_option linter.unusedSimpArgs false
namespace Gp
open Cv NT
section
variable {p : Nat} [NeZero p]
theorem fd2 (hp : Pr p) (h2 : 2 < p) (h3 : p % 4 = 3) : Fd (ops2 (inv2 (p := p))) where
  cr :=
    { add_comm := fun a b => (F2.mk.injEq ..).mpr ⟨show a.a + b.a = b.a + a.a by grind, show a.b + b.b = b.b + a.b by grind⟩
      add_assoc := fun a b c => (F2.mk.injEq ..).mpr ⟨show a.a + b.a + c.a = a.a + (b.a + c.a) by grind, show a.b + b.b + c.b = a.b + (b.b + c.b) by grind⟩
      zero_add := fun a => (F2.mk.injEq ..).mpr ⟨show 0 + a.a = a.a by grind, show 0 + a.b = a.b by grind⟩
      sub_add := fun a b => (F2.mk.injEq ..).mpr ⟨show a.a - b.a + b.a = a.a by grind, show a.b - b.b + b.b = a.b by grind⟩
      mul_comm := fun a b => (F2.mk.injEq ..).mpr ⟨show a.a * b.a - a.b * b.b = b.a * a.a - b.b * a.b by grind, show a.a * b.b + a.b * b.a = b.a * a.b + b.b * a.a by grind⟩
      mul_assoc := fun a b c => (F2.mk.injEq ..).mpr ⟨show (a.a * b.a - a.b * b.b) * c.a - (a.a * b.b + a.b * b.a) * c.b = a.a * (b.a * c.a - b.b * c.b) - a.b * (b.a * c.b + b.b * c.a) by grind, show (a.a * b.a - a.b * b.b) * c.b + (a.a * b.b + a.b * b.a) * c.a = a.a * (b.a * c.b + b.b * c.a) + a.b * (b.a * c.a - b.b * c.b) by grind⟩
      one_mul := fun a => (F2.mk.injEq ..).mpr ⟨show 1 * a.a - 0 * a.b = a.a by grind, show 1 * a.b + 0 * a.a = a.b by grind⟩
      mul_add := fun a b c => (F2.mk.injEq ..).mpr ⟨show a.a * (b.a + c.a) - a.b * (b.b + c.b) = a.a * b.a - a.b * b.b + (a.a * c.a - a.b * c.b) by grind, show a.a * (b.b + c.b) + a.b * (b.a + c.a) = a.a * b.b + a.b * b.a + (a.a * c.b + a.b * c.a) by grind⟩ }
  inv := fun a h => inv2_ok hp h2 h3 a h
  ne := fun h => one_ne0 h2 (congrArg F2.a h)
  two := fun h => two_ne0 h2 (congrArg F2.a h)
/-- A number whose power is not one is no cube. -/
theorem no_cube (hp : Pr p) {f : Nat} {c : Fin p} (hc : c ≠ 0) (h3 : p % 3 = 1) (hf : (p - 1) / 3 < 2 ^ f) (h : pm p f c.val ((p - 1) / 3) ≠ 1) (x : Fin p) : x * x * x ≠ c := fun e => by
  rw [pm_eq p f _ _ hf] at h
  refine h ?_
  have hv : c.val = x.val ^ 3 % p := by
    rw [← e, Fin.val_mul, Fin.val_mul, Nat.mod_mul_mod]
    congr 1
    rw [Nat.pow_succ, Nat.pow_two]
  have hx : ¬ p ∣ x.val := fun hd => hc (by
    have := Nat.eq_zero_of_dvd_of_lt hd x.isLt
    refine Fin.ext ?_
    rw [hv, this, val_zero]
    exact Nat.zero_mod p)
  rw [hv, ← Nat.pow_mod, ← Nat.pow_mul, show 3 * ((p - 1) / 3) = p - 1 by omega]
  exact fermat hp hx
theorem no2_1 (hp : Pr p) {f : Nat} {b : Fin p} (hc : 0 - b ≠ 0) (h3 : p % 3 = 1) (hf : (p - 1) / 3 < 2 ^ f) (h : pm p f (0 - b).val ((p - 1) / 3) ≠ 1) : No2 (ops1 (inv1 (p := p))) b := fun x e => by
  have e : x * x * x + b = 0 := e
  exact no_cube hp hc h3 hf h x (by grind)
theorem no2_2 (hp : Pr p) {f : Nat} {b : F2 p} (hc : b.a * b.a + b.b * b.b ≠ 0) (h3 : p % 3 = 1) (hf : (p - 1) / 3 < 2 ^ f) (h : pm p f (b.a * b.a + b.b * b.b).val ((p - 1) / 3) ≠ 1) : No2 (ops2 (inv2 (p := p))) b := fun x e => by
  have e1 : ((x.a * x.a - x.b * x.b) * x.a - (x.a * x.b + x.b * x.a) * x.b) + b.a = 0 := congrArg F2.a e
  have e2 : ((x.a * x.a - x.b * x.b) * x.b + (x.a * x.b + x.b * x.a) * x.a) + b.b = 0 := congrArg F2.b e
  exact no_cube hp hc h3 hf h (x.a * x.a + x.b * x.b) (by
    have e3 : b.a = 0 - ((x.a * x.a - x.b * x.b) * x.a - (x.a * x.b + x.b * x.a) * x.b) := by grind
    have e4 : b.b = 0 - ((x.a * x.a - x.b * x.b) * x.b + (x.a * x.b + x.b * x.a) * x.a) := by grind
    rw [e3, e4]
    grind)
end
end Gp
end
