import Derived.Test.YtmholgclgamnnaaGreatQZCL
section
set_option linter.unusedVariables false
set_option linter.unusedSectionVars false
set_option linter.unusedSimpArgs false
namespace Go.Proofs.YtmholgclgamnnaaGreat
open Go Eng
set_option maxRecDepth 100000
set_option exponentiation.threshold 2000
set_option maxHeartbeats 4000000
section
variable {p : Nat} [NeZero p]
theorem one_ne {b : Nat} (hp : PrM b p) : (1 : Fin p) ≠ 0 := fun h => by
  have := congrArg Fin.val h
  rw [Cv.val_one, Cv.val_zero, hp.ne] at this
  omega
theorem good1_on {b : Fin p} {P : PtA} (h : good1 b P = 0) : Cv.onC (Cv.ops1 Cv.inv1) b (ptOf p P) := by
  obtain ⟨x, y, inf⟩ := P
  unfold good1 at h
  dsimp only at h
  cases inf
  · rw [if_neg (by simp)] at h
    split at h
    · split at h
      · rename_i h3; exact h3
      · cases h
    · cases h
  · exact trivial
theorem good2_on {b : Cv.F2 p} {P : PtB} (h : good2 b P = 0) : Cv.onC (Cv.ops2 Cv.inv2) b (ptOf2 p P) := by
  obtain ⟨xa, xb, ya, yb, inf⟩ := P
  unfold good2 at h
  dsimp only at h
  cases inf
  · rw [if_neg (by simp)] at h
    split at h
    · split at h
      · rename_i h3; exact h3
      · cases h
    · cases h
  · exact trivial
def addP (b : Fin p) (P Q : PtA) : PtA × Nat := if good1 b P ≠ 0 then (⟨0, 0, false⟩, good1 b P) else if good1 b Q ≠ 0 then (⟨0, 0, false⟩, good1 b Q) else (ofPt (Cv.sumR (Cv.ops1 Cv.inv1) (ptOf p P) (ptOf p Q)), 0)
def addQ (b : Cv.F2 p) (P Q : PtB) : PtB × Nat := if good2 b P ≠ 0 then (⟨0, 0, 0, 0, false⟩, good2 b P) else if good2 b Q ≠ 0 then (⟨0, 0, 0, 0, false⟩, good2 b Q) else (ofPt2 (Cv.sumR (Cv.ops2 Cv.inv2) (ptOf2 p P) (ptOf2 p Q)), 0)
def mulP (b : Fin p) (P : PtA) (k : Nat) : PtA × Nat := if good1 b P ≠ 0 then (⟨0, 0, false⟩, good1 b P) else (ofPt (Cv.down (Cv.ops1 Cv.inv1) (Cv.tm (Cv.ops1 Cv.inv1) (Cv.up (Cv.ops1 Cv.inv1) (ptOf p P)) k 256 256)), 0)
def mulQ (b : Cv.F2 p) (P : PtB) (k : Nat) : PtB × Nat := if good2 b P ≠ 0 then (⟨0, 0, 0, 0, false⟩, good2 b P) else (ofPt2 (Cv.down (Cv.ops2 Cv.inv2) (Cv.tm (Cv.ops2 Cv.inv2) (Cv.up (Cv.ops2 Cv.inv2) (ptOf2 p P)) k 256 256)), 0)
def grpP (b : Fin p) (P : PtA) (r : Nat) : Nat := if good1 b P ≠ 0 then good1 b P else if (Cv.tm (Cv.ops1 Cv.inv1) (Cv.up (Cv.ops1 Cv.inv1) (ptOf p P)) r 256 256).z = 0 then 0 else 72
def grpQ (b : Cv.F2 p) (P : PtB) (r : Nat) : Nat := if good2 b P ≠ 0 then good2 b P else if (Cv.tm (Cv.ops2 Cv.inv2) (Cv.up (Cv.ops2 Cv.inv2) (ptOf2 p P)) r 256 256).z = ⟨0, 0⟩ then 0 else 72
theorem infS1_4 {H : H5} (hH : H = H5.real) (c : Cu p) : Sp 114 [.ref (Cc4 H c) 0] (P1_4 H ⟨0, 0, false⟩) := by
  have h := CisS4 (H := H) c
  have l0 := lim04 hH
  refine mk Tryz.func114 rfl rfl L0 R1 (by decide +kernel) fun A S hA hS => ?_
  unfold bodyOf Tryz.f114
  cbv
  refine ACall.mk _ (cf hS h) ?_
  cbv
  exact ⟨(l0 0).symm, (l0 1).symm, (l0 2).symm, (l0 3).symm, (l0 0).symm, (l0 1).symm, (l0 2).symm, (l0 3).symm, trivial⟩
theorem mulS1_4 {H : H5} (hH : H = H5.real) (hp : PrM 256 p) {c : Cu p} (h1c : c.one = fo p 1) (P : PtA) (hPx : P.x < 2 ^ 256) (hPy : P.y < 2 ^ 256) (k : Nat) (hk : k < 2 ^ 256) :
    Sp 37 [.ref (Cc4 H c) 0, P1_4 H P, u4 H.lim k] (.tup [P1_4 H (mulP c.b1 P k).1, .s .i64 ((mulP c.b1 P k).2 : Nat)]) := by
  have g1 := good1S4 hH hp c P hPx hPy
  have u1 := up1S4 hH hp h1c P hPx hPy
  have hi := infS1_4 hH c
  have ne := fun A hA x => i_ne (A := A) hA (x := x) (y := 0)
  unfold mulP
  by_cases h1 : good1 c.b1 P = 0
  · rw [if_neg (fun h => h h1)]
    have tm := timesb4 (ok1_4 hH hp) c.b1 (Cv.up (K1_4 H p).O (ptOf p P)) (H5.hlim hH) k hk
    have dn := down1S4 hH hp c (Cv.tm (K1_4 H p).O (Cv.up (K1_4 H p).O (ptOf p P)) k 256 256)
    rw [h1] at g1
    clear h1
    dsimp only
    change Sp _ _ (P1_4 H (ofPt (Cv.down (Cv.ops1 Cv.inv1) (Cv.tm (Cv.ops1 Cv.inv1) (Cv.up (Cv.ops1 Cv.inv1) (ptOf p P)) k 256 256)))) at dn
    generalize ofPt (Cv.down (Cv.ops1 Cv.inv1) (Cv.tm (Cv.ops1 Cv.inv1) (Cv.up (Cv.ops1 Cv.inv1) (ptOf p P)) k 256 256)) = R at *
    generalize Cv.tm (K1_4 H p).O (Cv.up (K1_4 H p).O (ptOf p P)) k 256 256 = j at *
    generalize Cv.up (K1_4 H p).O (ptOf p P) = j1 at *
    refine mk Tryz.func37 rfl rfl L0 R1 (by decide +kernel) fun A S hA hS => ?_
    have e0 : A.cmp .neq ((0 : Nat) : Int) 0 = false := ne A hA _
    unfold bodyOf Tryz.f37
    cbv
    repeat (first
      | (refine ABr.t (by assumption) ?_; cbv)
      | (refine ABr.f (by assumption) ?_; cbv)
      | (refine ABr.t rfl ?_; cbv)
      | (refine ABr.f rfl ?_; cbv)
      | (refine ACall.mk _ (cf hS g1) ?_; cbv)
      | (refine ACall.mk _ (cf hS u1) ?_; cbv)
      | (refine ACall.mk _ (cf hS tm) ?_; cbv)
      | (refine ACall.mk _ (cf hS dn) ?_; cbv))
  · rw [if_pos h1]
    clear u1
    have h1' : ((good1 c.b1 P : Nat) : Int) ≠ 0 := by omega
    dsimp only
    generalize ((good1 c.b1 P : Nat) : Int) = e at *
    refine mk Tryz.func37 rfl rfl L0 R1 (by decide +kernel) fun A S hA hS => ?_
    have e1 : A.cmp .neq e 0 = true := by rw [ne A hA, decide_eq_false h1']; rfl
    unfold bodyOf Tryz.f37
    cbv
    repeat (first
      | (refine ABr.t (by assumption) ?_; cbv)
      | (refine ABr.f (by assumption) ?_; cbv)
      | (refine ABr.t rfl ?_; cbv)
      | (refine ABr.f rfl ?_; cbv)
      | (refine ACall.mk _ (cf hS g1) ?_; cbv)
      | (refine ACall.mk _ (cf hS hi) ?_; cbv))
end
end Go.Proofs.YtmholgclgamnnaaGreat
end
section
set_option linter.unusedVariables false
set_option linter.unusedSectionVars false
set_option linter.unusedSimpArgs false
namespace Go.Proofs.YtmholgclgamnnaaGreat
open Go Eng
set_option maxRecDepth 100000
set_option exponentiation.threshold 2000
set_option maxHeartbeats 4000000
section
variable {p : Nat} [NeZero p]
theorem grpS1_4 {H : H5} (hH : H = H5.real) (hp : PrM 256 p) {c : Cu p} (h1c : c.one = fo p 1) (hr : c.r < 2 ^ 256) (P : PtA) (hPx : P.x < 2 ^ 256) (hPy : P.y < 2 ^ 256) :
    Sp 32 [.ref (Cc4 H c) 0, P1_4 H P] (.s .i64 (grpP c.b1 P c.r : Nat)) := by
  have g1 := good1S4 hH hp c P hPx hPy
  have u1 := up1S4 hH hp h1c P hPx hPy
  have ne := fun A hA x => i_ne (A := A) hA (x := x) (y := 0)
  unfold grpP
  by_cases h1 : good1 c.b1 P = 0
  · rw [if_neg (fun h => h h1)]
    have tm := timesb4 (ok1_4 hH hp) c.b1 (Cv.up (K1_4 H p).O (ptOf p P)) (H5.hlim hH) c.r hr
    have hz := fun A hA x => (ok1_4 hH hp).eqz (A := A) hA x
    rw [h1] at g1
    clear h1
    change Sp _ _ (Jb4 (K1_4 H p) (Cv.tm (Cv.ops1 Cv.inv1) (Cv.up (Cv.ops1 Cv.inv1) (ptOf p P)) c.r 256 256)) at tm
    generalize Cv.tm (Cv.ops1 Cv.inv1) (Cv.up (Cv.ops1 Cv.inv1) (ptOf p P)) c.r 256 256 = j at *
    change Sp _ [_, _] (Jb4 (K1_4 H p) (Cv.up (Cv.ops1 Cv.inv1) (ptOf p P))) at u1
    change Sp _ [_, Jb4 (K1_4 H p) (Cv.up (Cv.ops1 Cv.inv1) (ptOf p P)), _] _ at tm
    generalize Cv.up (Cv.ops1 Cv.inv1) (ptOf p P) = j1 at *
    by_cases h2 : j.z = 0
    · rw [if_pos h2]
      refine mk Tryz.func32 rfl rfl L0 R1 (by decide +kernel) fun A S hA hS => ?_
      have e0 : A.cmp .neq ((0 : Nat) : Int) 0 = false := ne A hA _
      have e2 := i_not hA ((hz A hA j.z).trans (decide_eq_true h2))
      unfold bodyOf Tryz.f32
      cbv
      repeat (first
        | (refine ABr.t (by assumption) ?_; cbv)
        | (refine ABr.f (by assumption) ?_; cbv)
        | (refine ABr.t rfl ?_; cbv)
        | (refine ABr.f rfl ?_; cbv)
        | (refine ACall.mk _ (cf hS g1) ?_; cbv)
        | (refine ACall.mk _ (cf hS u1) ?_; cbv)
        | (refine ACall.mk _ (cf hS tm) ?_; cbv))
    · rw [if_neg h2]
      refine mk Tryz.func32 rfl rfl L0 R1 (by decide +kernel) fun A S hA hS => ?_
      have e0 : A.cmp .neq ((0 : Nat) : Int) 0 = false := ne A hA _
      have e2 := i_not hA ((hz A hA j.z).trans (decide_eq_false h2))
      unfold bodyOf Tryz.f32
      cbv
      repeat (first
        | (refine ABr.t (by assumption) ?_; cbv)
        | (refine ABr.f (by assumption) ?_; cbv)
        | (refine ABr.t rfl ?_; cbv)
        | (refine ABr.f rfl ?_; cbv)
        | (refine ACall.mk _ (cf hS g1) ?_; cbv)
        | (refine ACall.mk _ (cf hS u1) ?_; cbv)
        | (refine ACall.mk _ (cf hS tm) ?_; cbv))
  · rw [if_pos h1]
    clear u1
    have h1' : ((good1 c.b1 P : Nat) : Int) ≠ 0 := by omega
    generalize ((good1 c.b1 P : Nat) : Int) = e at *
    refine mk Tryz.func32 rfl rfl L0 R1 (by decide +kernel) fun A S hA hS => ?_
    have e1 : A.cmp .neq e 0 = true := by rw [ne A hA, decide_eq_false h1']; rfl
    unfold bodyOf Tryz.f32
    cbv
    repeat (first
      | (refine ABr.t (by assumption) ?_; cbv)
      | (refine ABr.f (by assumption) ?_; cbv)
      | (refine ABr.t rfl ?_; cbv)
      | (refine ABr.f rfl ?_; cbv)
      | (refine ACall.mk _ (cf hS g1) ?_; cbv))
theorem grpS1_6 {H : H5} (hH : H = H5.real) (hp : PrM 384 p) {c : Cu p} (h1c : c.one = fo p 1) (hr : c.r < 2 ^ 256) (P : PtA) (hPx : P.x < 2 ^ 384) (hPy : P.y < 2 ^ 384) :
    Sp 20 [.ref (Cc6 H c) 0, P1_6 H P] (.s .i64 (grpP c.b1 P c.r : Nat)) := by
  have g1 := good1S6 hH hp c P hPx hPy
  have u1 := up1S6 hH hp h1c P hPx hPy
  have ne := fun A hA x => i_ne (A := A) hA (x := x) (y := 0)
  unfold grpP
  by_cases h1 : good1 c.b1 P = 0
  · rw [if_neg (fun h => h h1)]
    have tm := timesb6 (ok1_6 hH hp) c.b1 (Cv.up (K1_6 H p).O (ptOf p P)) (H5.hlim hH) c.r hr
    have hz := fun A hA x => (ok1_6 hH hp).eqz (A := A) hA x
    rw [h1] at g1
    clear h1
    change Sp _ _ (Jb6 (K1_6 H p) (Cv.tm (Cv.ops1 Cv.inv1) (Cv.up (Cv.ops1 Cv.inv1) (ptOf p P)) c.r 256 256)) at tm
    generalize Cv.tm (Cv.ops1 Cv.inv1) (Cv.up (Cv.ops1 Cv.inv1) (ptOf p P)) c.r 256 256 = j at *
    change Sp _ [_, _] (Jb6 (K1_6 H p) (Cv.up (Cv.ops1 Cv.inv1) (ptOf p P))) at u1
    change Sp _ [_, Jb6 (K1_6 H p) (Cv.up (Cv.ops1 Cv.inv1) (ptOf p P)), _] _ at tm
    generalize Cv.up (Cv.ops1 Cv.inv1) (ptOf p P) = j1 at *
    by_cases h2 : j.z = 0
    · rw [if_pos h2]
      refine mk Tryz.func20 rfl rfl L0 R1 (by decide +kernel) fun A S hA hS => ?_
      have e0 : A.cmp .neq ((0 : Nat) : Int) 0 = false := ne A hA _
      have e2 := i_not hA ((hz A hA j.z).trans (decide_eq_true h2))
      unfold bodyOf Tryz.f20
      cbv
      repeat (first
        | (refine ABr.t (by assumption) ?_; cbv)
        | (refine ABr.f (by assumption) ?_; cbv)
        | (refine ABr.t rfl ?_; cbv)
        | (refine ABr.f rfl ?_; cbv)
        | (refine ACall.mk _ (cf hS g1) ?_; cbv)
        | (refine ACall.mk _ (cf hS u1) ?_; cbv)
        | (refine ACall.mk _ (cf hS tm) ?_; cbv))
    · rw [if_neg h2]
      refine mk Tryz.func20 rfl rfl L0 R1 (by decide +kernel) fun A S hA hS => ?_
      have e0 : A.cmp .neq ((0 : Nat) : Int) 0 = false := ne A hA _
      have e2 := i_not hA ((hz A hA j.z).trans (decide_eq_false h2))
      unfold bodyOf Tryz.f20
      cbv
      repeat (first
        | (refine ABr.t (by assumption) ?_; cbv)
        | (refine ABr.f (by assumption) ?_; cbv)
        | (refine ABr.t rfl ?_; cbv)
        | (refine ABr.f rfl ?_; cbv)
        | (refine ACall.mk _ (cf hS g1) ?_; cbv)
        | (refine ACall.mk _ (cf hS u1) ?_; cbv)
        | (refine ACall.mk _ (cf hS tm) ?_; cbv))
  · rw [if_pos h1]
    clear u1
    have h1' : ((good1 c.b1 P : Nat) : Int) ≠ 0 := by omega
    generalize ((good1 c.b1 P : Nat) : Int) = e at *
    refine mk Tryz.func20 rfl rfl L0 R1 (by decide +kernel) fun A S hA hS => ?_
    have e1 : A.cmp .neq e 0 = true := by rw [ne A hA, decide_eq_false h1']; rfl
    unfold bodyOf Tryz.f20
    cbv
    repeat (first
      | (refine ABr.t (by assumption) ?_; cbv)
      | (refine ABr.f (by assumption) ?_; cbv)
      | (refine ABr.t rfl ?_; cbv)
      | (refine ABr.f rfl ?_; cbv)
      | (refine ACall.mk _ (cf hS g1) ?_; cbv))
theorem grpS2_4 {H : H5} (hH : H = H5.real) (hp : PrM 256 p) {c : Cu p} (h1c : c.one = fo p 1) (hr : c.r < 2 ^ 256) (P : PtB) (hPxa : P.xa < 2 ^ 256) (hPxb : P.xb < 2 ^ 256) (hPya : P.ya < 2 ^ 256) (hPyb : P.yb < 2 ^ 256) :
    Sp 51 [.ref (Cc4 H c) 0, P2_4 H P] (.s .i64 (grpQ c.b2 P c.r : Nat)) := by
  have g1 := good2S4 hH hp c P hPxa hPxb hPya hPyb
  have u1 := up2S4 hH hp h1c P hPxa hPxb hPya hPyb
  have ne := fun A hA x => i_ne (A := A) hA (x := x) (y := 0)
  unfold grpQ
  by_cases h1 : good2 c.b2 P = 0
  · rw [if_neg (fun h => h h1)]
    have tm := timest4 (ok2_4 hH hp) c.b2 (Cv.up (K2_4 H p).O (ptOf2 p P)) (H5.hlim hH) c.r hr
    have hz := fun A hA x => (ok2_4 hH hp).eqz (A := A) hA x
    rw [h1] at g1
    clear h1
    change Sp _ _ (Jt4 (K2_4 H p) (Cv.tm (Cv.ops2 Cv.inv2) (Cv.up (Cv.ops2 Cv.inv2) (ptOf2 p P)) c.r 256 256)) at tm
    generalize Cv.tm (Cv.ops2 Cv.inv2) (Cv.up (Cv.ops2 Cv.inv2) (ptOf2 p P)) c.r 256 256 = j at *
    change Sp _ [_, _] (Jt4 (K2_4 H p) (Cv.up (Cv.ops2 Cv.inv2) (ptOf2 p P))) at u1
    change Sp _ [_, Jt4 (K2_4 H p) (Cv.up (Cv.ops2 Cv.inv2) (ptOf2 p P)), _] _ at tm
    generalize Cv.up (Cv.ops2 Cv.inv2) (ptOf2 p P) = j1 at *
    by_cases h2 : j.z = ⟨0, 0⟩
    · rw [if_pos h2]
      refine mk Tryz.func51 rfl rfl L0 R1 (by decide +kernel) fun A S hA hS => ?_
      have e0 : A.cmp .neq ((0 : Nat) : Int) 0 = false := ne A hA _
      have e2 := i_not hA ((hz A hA j.z).trans (decide_eq_true h2))
      unfold bodyOf Tryz.f51
      cbv
      repeat (first
        | (refine ABr.t (by assumption) ?_; cbv)
        | (refine ABr.f (by assumption) ?_; cbv)
        | (refine ABr.t rfl ?_; cbv)
        | (refine ABr.f rfl ?_; cbv)
        | (refine ACall.mk _ (cf hS g1) ?_; cbv)
        | (refine ACall.mk _ (cf hS u1) ?_; cbv)
        | (refine ACall.mk _ (cf hS tm) ?_; cbv))
    · rw [if_neg h2]
      refine mk Tryz.func51 rfl rfl L0 R1 (by decide +kernel) fun A S hA hS => ?_
      have e0 : A.cmp .neq ((0 : Nat) : Int) 0 = false := ne A hA _
      have e2 := i_not hA ((hz A hA j.z).trans (decide_eq_false h2))
      unfold bodyOf Tryz.f51
      cbv
      repeat (first
        | (refine ABr.t (by assumption) ?_; cbv)
        | (refine ABr.f (by assumption) ?_; cbv)
        | (refine ABr.t rfl ?_; cbv)
        | (refine ABr.f rfl ?_; cbv)
        | (refine ACall.mk _ (cf hS g1) ?_; cbv)
        | (refine ACall.mk _ (cf hS u1) ?_; cbv)
        | (refine ACall.mk _ (cf hS tm) ?_; cbv))
  · rw [if_pos h1]
    clear u1
    have h1' : ((good2 c.b2 P : Nat) : Int) ≠ 0 := by omega
    generalize ((good2 c.b2 P : Nat) : Int) = e at *
    refine mk Tryz.func51 rfl rfl L0 R1 (by decide +kernel) fun A S hA hS => ?_
    have e1 : A.cmp .neq e 0 = true := by rw [ne A hA, decide_eq_false h1']; rfl
    unfold bodyOf Tryz.f51
    cbv
    repeat (first
      | (refine ABr.t (by assumption) ?_; cbv)
      | (refine ABr.f (by assumption) ?_; cbv)
      | (refine ABr.t rfl ?_; cbv)
      | (refine ABr.f rfl ?_; cbv)
      | (refine ACall.mk _ (cf hS g1) ?_; cbv))
end
end Go.Proofs.YtmholgclgamnnaaGreat
end
