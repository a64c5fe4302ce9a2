import Derived.Test.YtmholgclgamnnaaGreatQYCJ
import Derived.Test.YtmholgclgamnnaaGreatQYCG
import Derived.Test.YtmholgclgamnnaaGreatQYBN
import Derived.Test.YtmholgclgamnnaaGreatQYY0
import Derived.Test.YtmholgclgamnnaaGreatQYCB
section
set_option linter.unusedVariables false
set_option linter.unusedSectionVars false
set_option linter.unusedSimpArgs false
namespace Go.Proofs.YtmholgclgamnnaaGreat
open Go Eng
set_option maxRecDepth 100000
set_option exponentiation.threshold 2000
set_option maxHeartbeats 4000000
section
variable {p : Nat} [NeZero p]
/-- Why a point may not be. -/
def good1 (b : Fin p) (P : PtA) : Nat :=
  if P.inf = true then (if P.x = 0 ∧ P.y = 0 then 0 else 70) else if P.x < p ∧ P.y < p then (if fo p P.y * fo p P.y = fo p P.x * fo p P.x * fo p P.x + b then 0 else 71) else 70
theorem good1S4 {H : H5} (hH : H = H5.real) (hp : PrM 256 p) (c : Cu p) (P : PtA) (hx : P.x < 2 ^ 256) (hy : P.y < 2 ^ 256) : Sp 31 [.ref (Cc4 H c) 0, P1_4 H P] (.s .i64 (good1 c.b1 P : Nat)) := by
  obtain ⟨x, y, inf⟩ := P
  dsimp only at hx hy
  have his := CisS4 (H := H) c
  have hmo := ModulusS4 (H := H) p
  have z1 := fun A hA => nz4 (A := A) hA hH hx
  have z2 := fun A hA => nz4 (A := A) hA hH hy
  have l1 := LessS4 hH x p hx hp.lt
  have l2 := LessS4 hH y p hy hp.lt
  have g1 := inF4 hH hp hx
  have g2 := inF4 hH hp hy
  have ho := onb4 (ok1_4 hH hp) c.b1 (fo p x) (fo p y)
  have hlt : ∀ a b, H.lt a b = decide (a < b) := fun a b => by rw [hH]; rfl
  rw [hlt] at l1 l2
  unfold good1
  dsimp only
  cases inf
  · rw [if_neg (by simp)]
    by_cases h1 : x < p
    · by_cases h2 : y < p
      · rw [if_pos ⟨h1, h2⟩]
        rw [decide_eq_true h1] at l1
        rw [decide_eq_true h2] at l2
        by_cases h3 : fo p y * fo p y = fo p x * fo p x * fo p x + c.b1
        · rw [if_pos h3]
          have h3' : (K1_4 H p).O.mul (fo p y) (fo p y) = (K1_4 H p).O.add ((K1_4 H p).O.mul ((K1_4 H p).O.mul (fo p x) (fo p x)) (fo p x)) c.b1 := h3
          rw [decide_eq_true h3'] at ho
          clear h3 h3'
          generalize fo p x = u at *
          generalize fo p y = v at *
          refine mk Tryz.func31 rfl rfl L0 R1 (by decide +kernel) fun A S hA hS => ?_
          have n1 := i_not hA (rfl : true = true)
          unfold bodyOf Tryz.f31
          cbv
          repeat (first
            | (refine ABr.t (by assumption) ?_; cbv)
            | (refine ABr.f (by assumption) ?_; cbv)
            | (refine ABr.t rfl ?_; cbv)
            | (refine ABr.f rfl ?_; cbv)
            | (refine ACall.mk _ (cf hS his) ?_; cbv)
            | (refine ACall.mk _ (cf hS hmo) ?_; cbv)
            | (refine ACall.mk _ (cf hS l1) ?_; cbv)
            | (refine ACall.mk _ (cf hS l2) ?_; cbv)
            | (refine ACall.mk _ (cf hS g1) ?_; cbv)
            | (refine ACall.mk _ (cf hS g2) ?_; cbv)
            | (refine ACall.mk _ (cf hS ho) ?_; cbv))
        · rw [if_neg h3]
          have h3' : ¬ (K1_4 H p).O.mul (fo p y) (fo p y) = (K1_4 H p).O.add ((K1_4 H p).O.mul ((K1_4 H p).O.mul (fo p x) (fo p x)) (fo p x)) c.b1 := h3
          rw [decide_eq_false h3'] at ho
          clear h3 h3'
          generalize fo p x = u at *
          generalize fo p y = v at *
          refine mk Tryz.func31 rfl rfl L0 R1 (by decide +kernel) fun A S hA hS => ?_
          have n1 := i_not hA (rfl : true = true)
          have n2 := i_not hA (rfl : false = false)
          unfold bodyOf Tryz.f31
          cbv
          repeat (first
            | (refine ABr.t (by assumption) ?_; cbv)
            | (refine ABr.f (by assumption) ?_; cbv)
            | (refine ABr.t rfl ?_; cbv)
            | (refine ABr.f rfl ?_; cbv)
            | (refine ACall.mk _ (cf hS his) ?_; cbv)
            | (refine ACall.mk _ (cf hS hmo) ?_; cbv)
            | (refine ACall.mk _ (cf hS l1) ?_; cbv)
            | (refine ACall.mk _ (cf hS l2) ?_; cbv)
            | (refine ACall.mk _ (cf hS g1) ?_; cbv)
            | (refine ACall.mk _ (cf hS g2) ?_; cbv)
            | (refine ACall.mk _ (cf hS ho) ?_; cbv))
      · rw [if_neg (fun h => h2 h.2)]
        rw [decide_eq_true h1] at l1
        rw [decide_eq_false h2] at l2
        clear ho g1 g2
        refine mk Tryz.func31 rfl rfl L0 R1 (by decide +kernel) fun A S hA hS => ?_
        have n1 := i_not hA (rfl : true = true)
        have n2 := i_not hA (rfl : false = false)
        unfold bodyOf Tryz.f31
        cbv
        repeat (first
          | (refine ABr.t (by assumption) ?_; cbv)
          | (refine ABr.f (by assumption) ?_; cbv)
          | (refine ABr.t rfl ?_; cbv)
          | (refine ABr.f rfl ?_; cbv)
          | (refine ACall.mk _ (cf hS his) ?_; cbv)
          | (refine ACall.mk _ (cf hS hmo) ?_; cbv)
          | (refine ACall.mk _ (cf hS l1) ?_; cbv)
          | (refine ACall.mk _ (cf hS l2) ?_; cbv))
    · rw [if_neg (fun h => h1 h.1)]
      rw [decide_eq_false h1] at l1
      clear ho g1 g2
      refine mk Tryz.func31 rfl rfl L0 R1 (by decide +kernel) fun A S hA hS => ?_
      have n2 := i_not hA (rfl : false = false)
      unfold bodyOf Tryz.f31
      cbv
      repeat (first
        | (refine ABr.t (by assumption) ?_; cbv)
        | (refine ABr.f (by assumption) ?_; cbv)
        | (refine ABr.t rfl ?_; cbv)
        | (refine ABr.f rfl ?_; cbv)
        | (refine ACall.mk _ (cf hS his) ?_; cbv)
        | (refine ACall.mk _ (cf hS hmo) ?_; cbv)
        | (refine ACall.mk _ (cf hS l1) ?_; cbv))
  · rw [if_pos rfl]
    clear ho g1 g2 l1 l2
    by_cases h1 : x = 0
    · by_cases h2 : y = 0
      · rw [if_pos ⟨h1, h2⟩]
        refine mk Tryz.func31 rfl rfl L0 R1 (by decide +kernel) fun A S hA hS => ?_
        have n1 := i_not hA ((z1 A hA).trans (decide_eq_true h1))
        have n2 := i_not hA ((z2 A hA).trans (decide_eq_true h2))
        clear z1 z2 h1 h2
        unfold bodyOf Tryz.f31
        cbv
        repeat (first
          | (refine ABr.t (by assumption) ?_; cbv)
          | (refine ABr.f (by assumption) ?_; cbv)
          | (refine ABr.t rfl ?_; cbv)
          | (refine ABr.f rfl ?_; cbv)
          | (refine ACall.mk _ (cf hS his) ?_; cbv)
          | (refine ACall.mk _ (cf hS hmo) ?_; cbv))
      · rw [if_neg (fun h => h2 h.2)]
        refine mk Tryz.func31 rfl rfl L0 R1 (by decide +kernel) fun A S hA hS => ?_
        have n1 := i_not hA ((z1 A hA).trans (decide_eq_true h1))
        have n2 := i_not hA ((z2 A hA).trans (decide_eq_false h2))
        clear z1 z2 h1 h2
        unfold bodyOf Tryz.f31
        cbv
        repeat (first
          | (refine ABr.t (by assumption) ?_; cbv)
          | (refine ABr.f (by assumption) ?_; cbv)
          | (refine ABr.t rfl ?_; cbv)
          | (refine ABr.f rfl ?_; cbv)
          | (refine ACall.mk _ (cf hS his) ?_; cbv)
          | (refine ACall.mk _ (cf hS hmo) ?_; cbv))
    · rw [if_neg (fun h => h1 h.1)]
      refine mk Tryz.func31 rfl rfl L0 R1 (by decide +kernel) fun A S hA hS => ?_
      have n1 := i_not hA ((z1 A hA).trans (decide_eq_false h1))
      clear z1 z2 h1
      unfold bodyOf Tryz.f31
      cbv
      repeat (first
        | (refine ABr.t (by assumption) ?_; cbv)
        | (refine ABr.f (by assumption) ?_; cbv)
        | (refine ABr.t rfl ?_; cbv)
        | (refine ABr.f rfl ?_; cbv)
        | (refine ACall.mk _ (cf hS his) ?_; cbv)
        | (refine ACall.mk _ (cf hS hmo) ?_; cbv))
theorem good1S6 {H : H5} (hH : H = H5.real) (hp : PrM 384 p) (c : Cu p) (P : PtA) (hx : P.x < 2 ^ 384) (hy : P.y < 2 ^ 384) : Sp 18 [.ref (Cc6 H c) 0, P1_6 H P] (.s .i64 (good1 c.b1 P : Nat)) := by
  obtain ⟨x, y, inf⟩ := P
  dsimp only at hx hy
  have his := CisS6 (H := H) c
  have hmo := ModulusS6 (H := H) p
  have z1 := fun A hA => nz6 (A := A) hA hH hx
  have z2 := fun A hA => nz6 (A := A) hA hH hy
  have l1 := LessS6 hH x p hx hp.lt
  have l2 := LessS6 hH y p hy hp.lt
  have g1 := inF6 hH hp hx
  have g2 := inF6 hH hp hy
  have ho := onb6 (ok1_6 hH hp) c.b1 (fo p x) (fo p y)
  have hlt : ∀ a b, H.lt a b = decide (a < b) := fun a b => by rw [hH]; rfl
  rw [hlt] at l1 l2
  unfold good1
  dsimp only
  cases inf
  · rw [if_neg (by simp)]
    by_cases h1 : x < p
    · by_cases h2 : y < p
      · rw [if_pos ⟨h1, h2⟩]
        rw [decide_eq_true h1] at l1
        rw [decide_eq_true h2] at l2
        by_cases h3 : fo p y * fo p y = fo p x * fo p x * fo p x + c.b1
        · rw [if_pos h3]
          have h3' : (K1_6 H p).O.mul (fo p y) (fo p y) = (K1_6 H p).O.add ((K1_6 H p).O.mul ((K1_6 H p).O.mul (fo p x) (fo p x)) (fo p x)) c.b1 := h3
          rw [decide_eq_true h3'] at ho
          clear h3 h3'
          generalize fo p x = u at *
          generalize fo p y = v at *
          refine mk Tryz.func18 rfl rfl L0 R1 (by decide +kernel) fun A S hA hS => ?_
          have n1 := i_not hA (rfl : true = true)
          unfold bodyOf Tryz.f18
          cbv
          repeat (first
            | (refine ABr.t (by assumption) ?_; cbv)
            | (refine ABr.f (by assumption) ?_; cbv)
            | (refine ABr.t rfl ?_; cbv)
            | (refine ABr.f rfl ?_; cbv)
            | (refine ACall.mk _ (cf hS his) ?_; cbv)
            | (refine ACall.mk _ (cf hS hmo) ?_; cbv)
            | (refine ACall.mk _ (cf hS l1) ?_; cbv)
            | (refine ACall.mk _ (cf hS l2) ?_; cbv)
            | (refine ACall.mk _ (cf hS g1) ?_; cbv)
            | (refine ACall.mk _ (cf hS g2) ?_; cbv)
            | (refine ACall.mk _ (cf hS ho) ?_; cbv))
        · rw [if_neg h3]
          have h3' : ¬ (K1_6 H p).O.mul (fo p y) (fo p y) = (K1_6 H p).O.add ((K1_6 H p).O.mul ((K1_6 H p).O.mul (fo p x) (fo p x)) (fo p x)) c.b1 := h3
          rw [decide_eq_false h3'] at ho
          clear h3 h3'
          generalize fo p x = u at *
          generalize fo p y = v at *
          refine mk Tryz.func18 rfl rfl L0 R1 (by decide +kernel) fun A S hA hS => ?_
          have n1 := i_not hA (rfl : true = true)
          have n2 := i_not hA (rfl : false = false)
          unfold bodyOf Tryz.f18
          cbv
          repeat (first
            | (refine ABr.t (by assumption) ?_; cbv)
            | (refine ABr.f (by assumption) ?_; cbv)
            | (refine ABr.t rfl ?_; cbv)
            | (refine ABr.f rfl ?_; cbv)
            | (refine ACall.mk _ (cf hS his) ?_; cbv)
            | (refine ACall.mk _ (cf hS hmo) ?_; cbv)
            | (refine ACall.mk _ (cf hS l1) ?_; cbv)
            | (refine ACall.mk _ (cf hS l2) ?_; cbv)
            | (refine ACall.mk _ (cf hS g1) ?_; cbv)
            | (refine ACall.mk _ (cf hS g2) ?_; cbv)
            | (refine ACall.mk _ (cf hS ho) ?_; cbv))
      · rw [if_neg (fun h => h2 h.2)]
        rw [decide_eq_true h1] at l1
        rw [decide_eq_false h2] at l2
        clear ho g1 g2
        refine mk Tryz.func18 rfl rfl L0 R1 (by decide +kernel) fun A S hA hS => ?_
        have n1 := i_not hA (rfl : true = true)
        have n2 := i_not hA (rfl : false = false)
        unfold bodyOf Tryz.f18
        cbv
        repeat (first
          | (refine ABr.t (by assumption) ?_; cbv)
          | (refine ABr.f (by assumption) ?_; cbv)
          | (refine ABr.t rfl ?_; cbv)
          | (refine ABr.f rfl ?_; cbv)
          | (refine ACall.mk _ (cf hS his) ?_; cbv)
          | (refine ACall.mk _ (cf hS hmo) ?_; cbv)
          | (refine ACall.mk _ (cf hS l1) ?_; cbv)
          | (refine ACall.mk _ (cf hS l2) ?_; cbv))
    · rw [if_neg (fun h => h1 h.1)]
      rw [decide_eq_false h1] at l1
      clear ho g1 g2
      refine mk Tryz.func18 rfl rfl L0 R1 (by decide +kernel) fun A S hA hS => ?_
      have n2 := i_not hA (rfl : false = false)
      unfold bodyOf Tryz.f18
      cbv
      repeat (first
        | (refine ABr.t (by assumption) ?_; cbv)
        | (refine ABr.f (by assumption) ?_; cbv)
        | (refine ABr.t rfl ?_; cbv)
        | (refine ABr.f rfl ?_; cbv)
        | (refine ACall.mk _ (cf hS his) ?_; cbv)
        | (refine ACall.mk _ (cf hS hmo) ?_; cbv)
        | (refine ACall.mk _ (cf hS l1) ?_; cbv))
  · rw [if_pos rfl]
    clear ho g1 g2 l1 l2
    by_cases h1 : x = 0
    · by_cases h2 : y = 0
      · rw [if_pos ⟨h1, h2⟩]
        refine mk Tryz.func18 rfl rfl L0 R1 (by decide +kernel) fun A S hA hS => ?_
        have n1 := i_not hA ((z1 A hA).trans (decide_eq_true h1))
        have n2 := i_not hA ((z2 A hA).trans (decide_eq_true h2))
        clear z1 z2 h1 h2
        unfold bodyOf Tryz.f18
        cbv
        repeat (first
          | (refine ABr.t (by assumption) ?_; cbv)
          | (refine ABr.f (by assumption) ?_; cbv)
          | (refine ABr.t rfl ?_; cbv)
          | (refine ABr.f rfl ?_; cbv)
          | (refine ACall.mk _ (cf hS his) ?_; cbv)
          | (refine ACall.mk _ (cf hS hmo) ?_; cbv))
      · rw [if_neg (fun h => h2 h.2)]
        refine mk Tryz.func18 rfl rfl L0 R1 (by decide +kernel) fun A S hA hS => ?_
        have n1 := i_not hA ((z1 A hA).trans (decide_eq_true h1))
        have n2 := i_not hA ((z2 A hA).trans (decide_eq_false h2))
        clear z1 z2 h1 h2
        unfold bodyOf Tryz.f18
        cbv
        repeat (first
          | (refine ABr.t (by assumption) ?_; cbv)
          | (refine ABr.f (by assumption) ?_; cbv)
          | (refine ABr.t rfl ?_; cbv)
          | (refine ABr.f rfl ?_; cbv)
          | (refine ACall.mk _ (cf hS his) ?_; cbv)
          | (refine ACall.mk _ (cf hS hmo) ?_; cbv))
    · rw [if_neg (fun h => h1 h.1)]
      refine mk Tryz.func18 rfl rfl L0 R1 (by decide +kernel) fun A S hA hS => ?_
      have n1 := i_not hA ((z1 A hA).trans (decide_eq_false h1))
      clear z1 z2 h1
      unfold bodyOf Tryz.f18
      cbv
      repeat (first
        | (refine ABr.t (by assumption) ?_; cbv)
        | (refine ABr.f (by assumption) ?_; cbv)
        | (refine ABr.t rfl ?_; cbv)
        | (refine ABr.f rfl ?_; cbv)
        | (refine ACall.mk _ (cf hS his) ?_; cbv)
        | (refine ACall.mk _ (cf hS hmo) ?_; cbv))
end
end Go.Proofs.YtmholgclgamnnaaGreat
end
section
set_option linter.unusedVariables false
set_option linter.unusedSectionVars false
set_option linter.unusedSimpArgs false
namespace Go.Proofs.YtmholgclgamnnaaGreat
open Go Eng
set_option maxRecDepth 100000
set_option exponentiation.threshold 2000
set_option maxHeartbeats 4000000
section
variable {p : Nat} [NeZero p]
theorem one_ne {b : Nat} (hp : PrM b p) : (1 : Fin p) ≠ 0 := fun h => by
  have := congrArg Fin.val h
  rw [Cv.val_one, Cv.val_zero, hp.ne] at this
  omega
def mulP (b : Fin p) (P : PtA) (k : Nat) : PtA × Nat := if good1 b P ≠ 0 then (⟨0, 0, false⟩, good1 b P) else (ofPt (Cv.down (Cv.ops1 Cv.inv1) (Cv.tm (Cv.ops1 Cv.inv1) (Cv.up (Cv.ops1 Cv.inv1) (ptOf p P)) k 256 256)), 0)
def grpP (b : Fin p) (P : PtA) (r : Nat) : Nat := if good1 b P ≠ 0 then good1 b P else if (Cv.tm (Cv.ops1 Cv.inv1) (Cv.up (Cv.ops1 Cv.inv1) (ptOf p P)) r 256 256).z = 0 then 0 else 72
theorem infS1_4 {H : H5} (hH : H = H5.real) (c : Cu p) : Sp 114 [.ref (Cc4 H c) 0] (P1_4 H ⟨0, 0, false⟩) := by
  have h := CisS4 (H := H) c
  have l0 := lim04 hH
  refine mk Tryz.func114 rfl rfl L0 R1 (by decide +kernel) fun A S hA hS => ?_
  unfold bodyOf Tryz.f114
  cbv
  refine ACall.mk _ (cf hS h) ?_
  cbv
  exact ⟨(l0 0).symm, (l0 1).symm, (l0 2).symm, (l0 3).symm, (l0 0).symm, (l0 1).symm, (l0 2).symm, (l0 3).symm, trivial⟩
theorem mulS1_4 {H : H5} (hH : H = H5.real) (hp : PrM 256 p) {c : Cu p} (h1c : c.one = fo p 1) (P : PtA) (hPx : P.x < 2 ^ 256) (hPy : P.y < 2 ^ 256) (k : Nat) (hk : k < 2 ^ 256) :
    Sp 37 [.ref (Cc4 H c) 0, P1_4 H P, u4 H.lim k] (.tup [P1_4 H (mulP c.b1 P k).1, .s .i64 ((mulP c.b1 P k).2 : Nat)]) := by
  have g1 := good1S4 hH hp c P hPx hPy
  have u1 := up1S4 hH hp h1c P hPx hPy
  have hi := infS1_4 hH c
  have ne := fun A hA x => i_ne (A := A) hA (x := x) (y := 0)
  unfold mulP
  by_cases h1 : good1 c.b1 P = 0
  · rw [if_neg (fun h => h h1)]
    have tm := timesb4 (ok1_4 hH hp) c.b1 (Cv.up (K1_4 H p).O (ptOf p P)) (H5.hlim hH) k hk
    have dn := down1S4 hH hp c (Cv.tm (K1_4 H p).O (Cv.up (K1_4 H p).O (ptOf p P)) k 256 256)
    rw [h1] at g1
    clear h1
    dsimp only
    change Sp _ _ (P1_4 H (ofPt (Cv.down (Cv.ops1 Cv.inv1) (Cv.tm (Cv.ops1 Cv.inv1) (Cv.up (Cv.ops1 Cv.inv1) (ptOf p P)) k 256 256)))) at dn
    generalize ofPt (Cv.down (Cv.ops1 Cv.inv1) (Cv.tm (Cv.ops1 Cv.inv1) (Cv.up (Cv.ops1 Cv.inv1) (ptOf p P)) k 256 256)) = R at *
    generalize Cv.tm (K1_4 H p).O (Cv.up (K1_4 H p).O (ptOf p P)) k 256 256 = j at *
    generalize Cv.up (K1_4 H p).O (ptOf p P) = j1 at *
    refine mk Tryz.func37 rfl rfl L0 R1 (by decide +kernel) fun A S hA hS => ?_
    have e0 : A.cmp .neq ((0 : Nat) : Int) 0 = false := ne A hA _
    unfold bodyOf Tryz.f37
    cbv
    repeat (first
      | (refine ABr.t (by assumption) ?_; cbv)
      | (refine ABr.f (by assumption) ?_; cbv)
      | (refine ABr.t rfl ?_; cbv)
      | (refine ABr.f rfl ?_; cbv)
      | (refine ACall.mk _ (cf hS g1) ?_; cbv)
      | (refine ACall.mk _ (cf hS u1) ?_; cbv)
      | (refine ACall.mk _ (cf hS tm) ?_; cbv)
      | (refine ACall.mk _ (cf hS dn) ?_; cbv))
  · rw [if_pos h1]
    clear u1
    have h1' : ((good1 c.b1 P : Nat) : Int) ≠ 0 := by omega
    dsimp only
    generalize ((good1 c.b1 P : Nat) : Int) = e at *
    refine mk Tryz.func37 rfl rfl L0 R1 (by decide +kernel) fun A S hA hS => ?_
    have e1 : A.cmp .neq e 0 = true := by rw [ne A hA, decide_eq_false h1']; rfl
    unfold bodyOf Tryz.f37
    cbv
    repeat (first
      | (refine ABr.t (by assumption) ?_; cbv)
      | (refine ABr.f (by assumption) ?_; cbv)
      | (refine ABr.t rfl ?_; cbv)
      | (refine ABr.f rfl ?_; cbv)
      | (refine ACall.mk _ (cf hS g1) ?_; cbv)
      | (refine ACall.mk _ (cf hS hi) ?_; cbv))
end
end Go.Proofs.YtmholgclgamnnaaGreat
end
section
set_option linter.unusedVariables false
set_option linter.unusedSimpArgs false
namespace Go.Proofs.YtmholgclgamnnaaGreat
open Go Eng
set_option maxRecDepth 100000
set_option exponentiation.threshold 2000
set_option maxHeartbeats 4000000
theorem rBnRS {H : H5} (hH : H = H5.real) : Sp 56 [] (.new false 4 1 (ws4 H.lim bnR)) := by
  refine mk Tryz.func56 rfl rfl L0 R0 (by decide +kernel) ?_
  intro A S hA hS
  unfold bodyOf Tryz.f56
  cbv
  refine ACall.mk _ (cf hS (rHex4 (H5.hlim hH) _ (by decide +kernel) (by decide +kernel))) ?_
  rw [show hexN _ = bnR from (by decide +kernel)]
  cbv
theorem rBlsRS {H : H5} (hH : H = H5.real) : Sp 57 [] (.new false 4 1 (ws4 H.lim blsR)) := by
  refine mk Tryz.func57 rfl rfl L0 R0 (by decide +kernel) ?_
  intro A S hA hS
  unfold bodyOf Tryz.f57
  cbv
  refine ACall.mk _ (cf hS (rHex4 (H5.hlim hH) _ (by decide +kernel) (by decide +kernel))) ?_
  rw [show hexN _ = blsR from (by decide +kernel)]
  cbv
end Go.Proofs.YtmholgclgamnnaaGreat
end
section
set_option linter.unusedVariables false
set_option linter.unusedSectionVars false
set_option linter.unusedSimpArgs false
namespace Go.Proofs.YtmholgclgamnnaaGreat
open Go Eng
set_option maxRecDepth 100000
set_option exponentiation.threshold 2000
set_option maxHeartbeats 4000000
/-- The reference's elements as rows: what a walk is not to open. -/
structure Rk (α : Type) where
  O : Cv.Ops α
  row : α → List AVal
  d : Nat
  n : Nat
  M : List AVal
  f : Int
  T : List AVal
  D : Int
  R : List AVal
  BX : List AVal
  BY : List AVal
section
variable {α : Type} [DecidableEq α]
def Ct (k : Rk α) (b : α) : AVal := .agg [.lst true k.n k.M, .s .u64 k.f, .lst true k.n k.T, .s .i64 k.D, .lst true k.d (k.row b), .lst true 4 k.R, .lst true k.d k.BX, .lst true k.d k.BY, .b false]
def Et (k : Rk α) (a : α) : AVal := .lst true k.d (k.row a)
def Nt (k : Rk α) (a : α) : AVal := .new true k.d 1 (k.row a)
def Jt (k : Rk α) (p : Cv.Jac α) : AVal := .agg [.lst true k.d (k.row p.x), .lst true k.d (k.row p.y), .lst true k.d (k.row p.z)]
structure OkR (k : Rk α) (b : α) : Prop where
  add : ∀ a c, Sp 90 [Ct k b, Et k a, Et k c] (Nt k (k.O.add a c))
  sub : ∀ a c, Sp 118 [Ct k b, Et k a, Et k c] (Nt k (k.O.sub a c))
  mul : ∀ a c, Sp 89 [Ct k b, Et k a, Et k c] (Nt k (k.O.mul a c))
  inv : ∀ a, Sp 127 [Ct k b, Et k a] (Nt k (k.O.inv a))
  same : ∀ a c, Sp 88 [Et k a, Et k c] (.sb (decide (a = c)))
  zero : ∀ a, Sp 165 [Et k a] (.sb (decide (a = k.O.zero)))
  none : Sp 119 [Ct k b] (Nt k k.O.zero)
  one : Sp 208 [Ct k b] (Nt k k.O.one)
variable {k : Rk α} {b : α} (hK : OkR k b)
include hK
theorem twiceR (p : Cv.Jac α) : Sp 166 [Ct k b, Jt k p] (Jt k (Cv.dblR k.O p)) := by
  obtain ⟨px, py, pz⟩ := p
  have z1 := hK.zero pz
  have z2 := hK.zero py
  have no := hK.none
  unfold Cv.dblR
  dsimp only
  by_cases h1 : pz = k.O.zero
  · rw [if_pos (.inl h1)]
    rw [decide_eq_true h1] at z1
    generalize k.O.zero = z at *
    refine mk Tryz.func166 rfl rfl L0 R1 (by decide +kernel) fun A S hA hS => ?_
    unfold bodyOf Tryz.f166
    cbv
    repeat (first
      | (refine ABr.t (by assumption) ?_; cbv)
      | (refine ABr.f (by assumption) ?_; cbv)
      | (refine ABr.t rfl ?_; cbv)
      | (refine ABr.f rfl ?_; cbv)
      | (refine ACall.mk _ (cf hS z1) ?_; cbv)
      | (refine ACall.mk _ (cf hS no) ?_; cbv))
  by_cases h2 : py = k.O.zero
  · rw [if_pos (.inr h2)]
    rw [decide_eq_false h1] at z1
    rw [decide_eq_true h2] at z2
    generalize k.O.zero = z at *
    refine mk Tryz.func166 rfl rfl L0 R1 (by decide +kernel) fun A S hA hS => ?_
    unfold bodyOf Tryz.f166
    cbv
    repeat (first
      | (refine ABr.t (by assumption) ?_; cbv)
      | (refine ABr.f (by assumption) ?_; cbv)
      | (refine ABr.t rfl ?_; cbv)
      | (refine ABr.f rfl ?_; cbv)
      | (refine ACall.mk _ (cf hS z1) ?_; cbv)
      | (refine ACall.mk _ (cf hS z2) ?_; cbv)
      | (refine ACall.mk _ (cf hS no) ?_; cbv))
  rw [if_neg (fun h => h.elim h1 h2)]
  rw [decide_eq_false h1] at z1
  rw [decide_eq_false h2] at z2
  unfold Cv.dbl
  dsimp only
  obtain ⟨a, ha⟩ : ∃ q_, q_ = k.O.mul px px := ⟨_, rfl⟩
  have ca := hK.mul px px
  rw [← ha] at ca ⊢
  obtain ⟨bb, hbb⟩ : ∃ q_, q_ = k.O.mul py py := ⟨_, rfl⟩
  have cbb := hK.mul py py
  rw [← hbb] at cbb ⊢
  obtain ⟨s0, hs0⟩ : ∃ q_, q_ = k.O.mul px bb := ⟨_, rfl⟩
  have cs0 := hK.mul px bb
  rw [← hs0] at cs0 ⊢
  obtain ⟨s1, hs1⟩ : ∃ q_, q_ = k.O.add s0 s0 := ⟨_, rfl⟩
  have cs1 := hK.add s0 s0
  rw [← hs1] at cs1 ⊢
  obtain ⟨s2, hs2⟩ : ∃ q_, q_ = k.O.add s1 s1 := ⟨_, rfl⟩
  have cs2 := hK.add s1 s1
  rw [← hs2] at cs2 ⊢
  obtain ⟨aa, haa⟩ : ∃ q_, q_ = k.O.add a a := ⟨_, rfl⟩
  have caa := hK.add a a
  rw [← haa] at caa ⊢
  obtain ⟨e, he⟩ : ∃ q_, q_ = k.O.add aa a := ⟨_, rfl⟩
  have ce := hK.add aa a
  rw [← he] at ce ⊢
  obtain ⟨c0, hc0⟩ : ∃ q_, q_ = k.O.mul bb bb := ⟨_, rfl⟩
  have cc0 := hK.mul bb bb
  rw [← hc0] at cc0 ⊢
  obtain ⟨d1, hd1⟩ : ∃ q_, q_ = k.O.add c0 c0 := ⟨_, rfl⟩
  have cd1 := hK.add c0 c0
  rw [← hd1] at cd1 ⊢
  obtain ⟨d2, hd2⟩ : ∃ q_, q_ = k.O.add d1 d1 := ⟨_, rfl⟩
  have cd2 := hK.add d1 d1
  rw [← hd2] at cd2 ⊢
  obtain ⟨d3, hd3⟩ : ∃ q_, q_ = k.O.add d2 d2 := ⟨_, rfl⟩
  have cd3 := hK.add d2 d2
  rw [← hd3] at cd3 ⊢
  obtain ⟨ee, hee⟩ : ∃ q_, q_ = k.O.mul e e := ⟨_, rfl⟩
  have cee := hK.mul e e
  rw [← hee] at cee ⊢
  obtain ⟨ss, hss⟩ : ∃ q_, q_ = k.O.add s2 s2 := ⟨_, rfl⟩
  have css := hK.add s2 s2
  rw [← hss] at css ⊢
  obtain ⟨x, hx⟩ : ∃ q_, q_ = k.O.sub ee ss := ⟨_, rfl⟩
  have cx := hK.sub ee ss
  rw [← hx] at cx ⊢
  obtain ⟨z0, hz0⟩ : ∃ q_, q_ = k.O.mul py pz := ⟨_, rfl⟩
  have cz0 := hK.mul py pz
  rw [← hz0] at cz0 ⊢
  obtain ⟨d, hd⟩ : ∃ q_, q_ = k.O.sub s2 x := ⟨_, rfl⟩
  have cd := hK.sub s2 x
  rw [← hd] at cd ⊢
  obtain ⟨ed, hed⟩ : ∃ q_, q_ = k.O.mul e d := ⟨_, rfl⟩
  have ced := hK.mul e d
  rw [← hed] at ced ⊢
  obtain ⟨y, hy⟩ : ∃ q_, q_ = k.O.sub ed d3 := ⟨_, rfl⟩
  have cy := hK.sub ed d3
  rw [← hy] at cy ⊢
  obtain ⟨z, hz⟩ : ∃ q_, q_ = k.O.add z0 z0 := ⟨_, rfl⟩
  have cz := hK.add z0 z0
  rw [← hz] at cz ⊢
  refine mk Tryz.func166 rfl rfl L0 R1 (by decide +kernel) fun A S hA hS => ?_
  unfold bodyOf Tryz.f166
  cbv
  repeat (first
    | (refine ABr.t (by assumption) ?_; cbv)
    | (refine ABr.f (by assumption) ?_; cbv)
    | (refine ABr.t rfl ?_; cbv)
    | (refine ABr.f rfl ?_; cbv)
    | (refine ACall.mk _ (cf hS z1) ?_; cbv)
    | (refine ACall.mk _ (cf hS z2) ?_; cbv)
    | (refine ACall.mk _ (cf hS ca) ?_; cbv)
    | (refine ACall.mk _ (cf hS cbb) ?_; cbv)
    | (refine ACall.mk _ (cf hS cs0) ?_; cbv)
    | (refine ACall.mk _ (cf hS cs1) ?_; cbv)
    | (refine ACall.mk _ (cf hS cs2) ?_; cbv)
    | (refine ACall.mk _ (cf hS caa) ?_; cbv)
    | (refine ACall.mk _ (cf hS ce) ?_; cbv)
    | (refine ACall.mk _ (cf hS cee) ?_; cbv)
    | (refine ACall.mk _ (cf hS css) ?_; cbv)
    | (refine ACall.mk _ (cf hS cx) ?_; cbv)
    | (refine ACall.mk _ (cf hS cc0) ?_; cbv)
    | (refine ACall.mk _ (cf hS cd1) ?_; cbv)
    | (refine ACall.mk _ (cf hS cd2) ?_; cbv)
    | (refine ACall.mk _ (cf hS cd3) ?_; cbv)
    | (refine ACall.mk _ (cf hS cz0) ?_; cbv)
    | (refine ACall.mk _ (cf hS cd) ?_; cbv)
    | (refine ACall.mk _ (cf hS ced) ?_; cbv)
    | (refine ACall.mk _ (cf hS cy) ?_; cbv)
    | (refine ACall.mk _ (cf hS cz) ?_; cbv))
theorem plusR (p : Cv.Jac α) (x y : α) : Sp 167 [Ct k b, Jt k p, .agg [.lst true k.d (k.row x), .lst true k.d (k.row y), .sb false]] (Jt k (Cv.plusR k.O p x y)) := by
  have tw := twiceR hK p
  obtain ⟨px, py, pz⟩ := p
  have z1 := hK.zero pz
  have no := hK.none
  have on := hK.one
  unfold Cv.plusR
  dsimp only
  by_cases h1 : pz = k.O.zero
  · rw [if_pos h1]
    rw [decide_eq_true h1] at z1
    generalize k.O.zero = z at *
    generalize k.O.one = o at *
    refine mk Tryz.func167 rfl rfl L0 R1 (by decide +kernel) fun A S hA hS => ?_
    unfold bodyOf Tryz.f167
    cbv
    repeat (first
      | (refine ABr.t (by assumption) ?_; cbv)
      | (refine ABr.f (by assumption) ?_; cbv)
      | (refine ABr.t rfl ?_; cbv)
      | (refine ABr.f rfl ?_; cbv)
      | (refine ACall.mk _ (cf hS z1) ?_; cbv)
      | (refine ACall.mk _ (cf hS on) ?_; cbv))
  rw [if_neg h1]
  rw [decide_eq_false h1] at z1
  obtain ⟨zz, hzz⟩ : ∃ q_, q_ = k.O.mul pz pz := ⟨_, rfl⟩
  have czz := hK.mul pz pz
  rw [← hzz] at czz ⊢
  obtain ⟨qx, hqx⟩ : ∃ q_, q_ = k.O.mul x zz := ⟨_, rfl⟩
  have cqx := hK.mul x zz
  rw [← hqx] at cqx ⊢
  obtain ⟨h, hh⟩ : ∃ q_, q_ = k.O.sub qx px := ⟨_, rfl⟩
  have ch := hK.sub qx px
  rw [← hh] at ch ⊢
  obtain ⟨z3, hz3⟩ : ∃ q_, q_ = k.O.mul zz pz := ⟨_, rfl⟩
  have cz3 := hK.mul zz pz
  rw [← hz3] at cz3 ⊢
  obtain ⟨qy, hqy⟩ : ∃ q_, q_ = k.O.mul y z3 := ⟨_, rfl⟩
  have cqy := hK.mul y z3
  rw [← hqy] at cqy ⊢
  obtain ⟨r, hr⟩ : ∃ q_, q_ = k.O.sub qy py := ⟨_, rfl⟩
  have cr := hK.sub qy py
  rw [← hr] at cr ⊢
  have zh := hK.zero h
  have zr := hK.zero r
  by_cases h2 : h = k.O.zero
  · rw [if_pos h2]
    rw [decide_eq_true h2] at zh
    by_cases h3 : r = k.O.zero
    · rw [if_pos h3]
      rw [decide_eq_true h3] at zr
      clear hqx hh hz3 hqy hr hzz
      generalize Cv.dblR k.O ⟨px, py, pz⟩ = t at *
      refine mk Tryz.func167 rfl rfl L0 R1 (by decide +kernel) fun A S hA hS => ?_
      unfold bodyOf Tryz.f167
      cbv
      repeat (first
        | (refine ABr.t (by assumption) ?_; cbv)
        | (refine ABr.f (by assumption) ?_; cbv)
        | (refine ABr.t rfl ?_; cbv)
        | (refine ABr.f rfl ?_; cbv)
        | (refine ACall.mk _ (cf hS z1) ?_; cbv)
        | (refine ACall.mk _ (cf hS czz) ?_; cbv)
        | (refine ACall.mk _ (cf hS cqx) ?_; cbv)
        | (refine ACall.mk _ (cf hS ch) ?_; cbv)
        | (refine ACall.mk _ (cf hS cz3) ?_; cbv)
        | (refine ACall.mk _ (cf hS cqy) ?_; cbv)
        | (refine ACall.mk _ (cf hS cr) ?_; cbv)
        | (refine ACall.mk _ (cf hS zh) ?_; cbv)
        | (refine ACall.mk _ (cf hS zr) ?_; cbv)
        | (refine ACall.mk _ (cf hS tw) ?_; cbv))
    · rw [if_neg h3]
      rw [decide_eq_false h3] at zr
      clear hqx hh hz3 hqy hr hzz
      generalize k.O.zero = z at *
      refine mk Tryz.func167 rfl rfl L0 R1 (by decide +kernel) fun A S hA hS => ?_
      unfold bodyOf Tryz.f167
      cbv
      repeat (first
        | (refine ABr.t (by assumption) ?_; cbv)
        | (refine ABr.f (by assumption) ?_; cbv)
        | (refine ABr.t rfl ?_; cbv)
        | (refine ABr.f rfl ?_; cbv)
        | (refine ACall.mk _ (cf hS z1) ?_; cbv)
        | (refine ACall.mk _ (cf hS czz) ?_; cbv)
        | (refine ACall.mk _ (cf hS cqx) ?_; cbv)
        | (refine ACall.mk _ (cf hS ch) ?_; cbv)
        | (refine ACall.mk _ (cf hS cz3) ?_; cbv)
        | (refine ACall.mk _ (cf hS cqy) ?_; cbv)
        | (refine ACall.mk _ (cf hS cr) ?_; cbv)
        | (refine ACall.mk _ (cf hS zh) ?_; cbv)
        | (refine ACall.mk _ (cf hS zr) ?_; cbv)
        | (refine ACall.mk _ (cf hS no) ?_; cbv))
  rw [if_neg h2]
  rw [decide_eq_false h2] at zh
  obtain ⟨hh2, hhh2⟩ : ∃ q_, q_ = k.O.mul h h := ⟨_, rfl⟩
  have chh2 := hK.mul h h
  rw [← hhh2] at chh2 ⊢
  obtain ⟨hhh, hhhh⟩ : ∃ q_, q_ = k.O.mul hh2 h := ⟨_, rfl⟩
  have chhh := hK.mul hh2 h
  rw [← hhhh] at chhh ⊢
  obtain ⟨v, hv⟩ : ∃ q_, q_ = k.O.mul px hh2 := ⟨_, rfl⟩
  have cv := hK.mul px hh2
  rw [← hv] at cv ⊢
  obtain ⟨rr, hrr⟩ : ∃ q_, q_ = k.O.mul r r := ⟨_, rfl⟩
  have crr := hK.mul r r
  rw [← hrr] at crr ⊢
  obtain ⟨x0, hx0⟩ : ∃ q_, q_ = k.O.sub rr hhh := ⟨_, rfl⟩
  have cx0 := hK.sub rr hhh
  rw [← hx0] at cx0 ⊢
  obtain ⟨vv, hvv⟩ : ∃ q_, q_ = k.O.add v v := ⟨_, rfl⟩
  have cvv := hK.add v v
  rw [← hvv] at cvv ⊢
  obtain ⟨nx, hnx⟩ : ∃ q_, q_ = k.O.sub x0 vv := ⟨_, rfl⟩
  have cnx := hK.sub x0 vv
  rw [← hnx] at cnx ⊢
  obtain ⟨vx, hvx⟩ : ∃ q_, q_ = k.O.sub v nx := ⟨_, rfl⟩
  have cvx := hK.sub v nx
  rw [← hvx] at cvx ⊢
  obtain ⟨rv, hrv⟩ : ∃ q_, q_ = k.O.mul r vx := ⟨_, rfl⟩
  have crv := hK.mul r vx
  rw [← hrv] at crv ⊢
  obtain ⟨yh, hyh⟩ : ∃ q_, q_ = k.O.mul py hhh := ⟨_, rfl⟩
  have cyh := hK.mul py hhh
  rw [← hyh] at cyh ⊢
  obtain ⟨ny, hny⟩ : ∃ q_, q_ = k.O.sub rv yh := ⟨_, rfl⟩
  have cny := hK.sub rv yh
  rw [← hny] at cny ⊢
  obtain ⟨nz, hnz⟩ : ∃ q_, q_ = k.O.mul pz h := ⟨_, rfl⟩
  have cnz := hK.mul pz h
  rw [← hnz] at cnz ⊢
  refine mk Tryz.func167 rfl rfl L0 R1 (by decide +kernel) fun A S hA hS => ?_
  unfold bodyOf Tryz.f167
  cbv
  repeat (first
    | (refine ABr.t (by assumption) ?_; cbv)
    | (refine ABr.f (by assumption) ?_; cbv)
    | (refine ABr.t rfl ?_; cbv)
    | (refine ABr.f rfl ?_; cbv)
    | (refine ACall.mk _ (cf hS z1) ?_; cbv)
    | (refine ACall.mk _ (cf hS czz) ?_; cbv)
    | (refine ACall.mk _ (cf hS cqx) ?_; cbv)
    | (refine ACall.mk _ (cf hS ch) ?_; cbv)
    | (refine ACall.mk _ (cf hS cz3) ?_; cbv)
    | (refine ACall.mk _ (cf hS cqy) ?_; cbv)
    | (refine ACall.mk _ (cf hS cr) ?_; cbv)
    | (refine ACall.mk _ (cf hS zh) ?_; cbv)
    | (refine ACall.mk _ (cf hS chh2) ?_; cbv)
    | (refine ACall.mk _ (cf hS chhh) ?_; cbv)
    | (refine ACall.mk _ (cf hS cv) ?_; cbv)
    | (refine ACall.mk _ (cf hS crr) ?_; cbv)
    | (refine ACall.mk _ (cf hS cx0) ?_; cbv)
    | (refine ACall.mk _ (cf hS cvv) ?_; cbv)
    | (refine ACall.mk _ (cf hS cnx) ?_; cbv)
    | (refine ACall.mk _ (cf hS cvx) ?_; cbv)
    | (refine ACall.mk _ (cf hS crv) ?_; cbv)
    | (refine ACall.mk _ (cf hS cyh) ?_; cbv)
    | (refine ACall.mk _ (cf hS cny) ?_; cbv)
    | (refine ACall.mk _ (cf hS cnz) ?_; cbv))
end
end Go.Proofs.YtmholgclgamnnaaGreat
end
section
set_option linter.unusedVariables false
set_option linter.unusedSectionVars false
set_option linter.unusedSimpArgs false
namespace Go.Proofs.YtmholgclgamnnaaGreat
open Go Eng
set_option maxRecDepth 100000
set_option exponentiation.threshold 2000
set_option maxHeartbeats 4000000
section
variable {p : Nat} [NeZero p]
theorem fo_val (u : Fin p) : fo p u.val = u := Fin.ext (Nat.mod_eq_of_lt u.isLt)
end
end Go.Proofs.YtmholgclgamnnaaGreat
end
