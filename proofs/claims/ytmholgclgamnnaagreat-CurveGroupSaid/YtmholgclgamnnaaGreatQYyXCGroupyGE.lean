import Derived.Test.YtmholgclgamnnaaGreatQYCS
import Derived.Test.YtmholgclgamnnaaGreatQYDB
import Derived.Test.YtmholgclgamnnaaGreatQYCA
import Derived.Test.YtmholgclgamnnaaGreatQYyXCGroupyCL
section
set_option linter.unusedVariables false
set_option linter.unusedSectionVars false
set_option linter.unusedSimpArgs false
namespace Go.Proofs.YtmholgclgamnnaaGreat
open Go Eng
set_option maxRecDepth 100000
set_option exponentiation.threshold 2000
set_option maxHeartbeats 4000000
section
variable {p : Nat} [NeZero p]
theorem good1_on {b : Fin p} {P : PtA} (h : good1 b P = 0) : Cv.onC (Cv.ops1 Cv.inv1) b (ptOf p P) := by
  obtain ⟨x, y, inf⟩ := P
  unfold good1 at h
  dsimp only at h
  cases inf
  · rw [if_neg (by simp)] at h
    split at h
    · split at h
      · rename_i h3; exact h3
      · cases h
    · cases h
  · exact trivial
theorem good2_on {b : Cv.F2 p} {P : PtB} (h : good2 b P = 0) : Cv.onC (Cv.ops2 Cv.inv2) b (ptOf2 p P) := by
  obtain ⟨xa, xb, ya, yb, inf⟩ := P
  unfold good2 at h
  dsimp only at h
  cases inf
  · rw [if_neg (by simp)] at h
    split at h
    · split at h
      · rename_i h3; exact h3
      · cases h
    · cases h
  · exact trivial
def addP (b : Fin p) (P Q : PtA) : PtA × Nat := if good1 b P ≠ 0 then (⟨0, 0, false⟩, good1 b P) else if good1 b Q ≠ 0 then (⟨0, 0, false⟩, good1 b Q) else (ofPt (Cv.sumR (Cv.ops1 Cv.inv1) (ptOf p P) (ptOf p Q)), 0)
def addQ (b : Cv.F2 p) (P Q : PtB) : PtB × Nat := if good2 b P ≠ 0 then (⟨0, 0, 0, 0, false⟩, good2 b P) else if good2 b Q ≠ 0 then (⟨0, 0, 0, 0, false⟩, good2 b Q) else (ofPt2 (Cv.sumR (Cv.ops2 Cv.inv2) (ptOf2 p P) (ptOf2 p Q)), 0)
def mulQ (b : Cv.F2 p) (P : PtB) (k : Nat) : PtB × Nat := if good2 b P ≠ 0 then (⟨0, 0, 0, 0, false⟩, good2 b P) else (ofPt2 (Cv.down (Cv.ops2 Cv.inv2) (Cv.tm (Cv.ops2 Cv.inv2) (Cv.up (Cv.ops2 Cv.inv2) (ptOf2 p P)) k 256 256)), 0)
theorem addS1_4 {H : H5} (hH : H = H5.real) (hp : PrM 256 p) {c : Cu p} (h1c : c.one = fo p 1) (P Q : PtA) (hPx : P.x < 2 ^ 256) (hPy : P.y < 2 ^ 256) (hQx : Q.x < 2 ^ 256) (hQy : Q.y < 2 ^ 256) :
    Sp 33 [.ref (Cc4 H c) 0, P1_4 H P, P1_4 H Q] (.tup [P1_4 H (addP c.b1 P Q).1, .s .i64 ((addP c.b1 P Q).2 : Nat)]) := by
  have g1 := good1S4 hH hp c P hPx hPy
  have g2 := good1S4 hH hp c Q hQx hQy
  have u1 := up1S4 hH hp h1c P hPx hPy
  have u2 := up1S4 hH hp h1c Q hQx hQy
  have hi := infS1_4 hH c
  have ne := fun A hA x => i_ne (A := A) hA (x := x) (y := 0)
  unfold addP
  by_cases h1 : good1 c.b1 P = 0
  · have o1 := good1_on h1
    rw [if_neg (fun h => h h1)]
    by_cases h2 : good1 c.b1 Q = 0
    · have o2 := good1_on h2
      rw [if_neg (fun h => h h2)]
      have pl := plusb4 (ok1_4 hH hp) c.b1 (Cv.up (K1_4 H p).O (ptOf p P)) (Cv.up (K1_4 H p).O (ptOf p Q))
      have dn := down1S4 hH hp c (Cv.plus (K1_4 H p).O (Cv.up (K1_4 H p).O (ptOf p P)) (Cv.up (K1_4 H p).O (ptOf p Q)))
      have e : Cv.down (K1_4 H p).O (Cv.plus (K1_4 H p).O (Cv.up (K1_4 H p).O (ptOf p P)) (Cv.up (K1_4 H p).O (ptOf p Q))) = Cv.sumR (Cv.ops1 Cv.inv1) (ptOf p P) (ptOf p Q) :=
        Cv.add1 Cv.inv1 (one_ne hp) (fun a h => Cv.inv1_ok hp.pr hp.two a h) c.b1 _ _ o1 o2
      rw [e] at dn
      rw [h1] at g1
      rw [h2] at g2
      clear e o1 o2 h1 h2
      dsimp only
      generalize ofPt (Cv.sumR (Cv.ops1 Cv.inv1) (ptOf p P) (ptOf p Q)) = R at *
      generalize Cv.plus (K1_4 H p).O (Cv.up (K1_4 H p).O (ptOf p P)) (Cv.up (K1_4 H p).O (ptOf p Q)) = j at *
      generalize Cv.up (K1_4 H p).O (ptOf p P) = j1 at *
      generalize Cv.up (K1_4 H p).O (ptOf p Q) = j2 at *
      refine mk Tryz.func33 rfl rfl L0 R1 (by decide +kernel) fun A S hA hS => ?_
      have e0 : A.cmp .neq ((0 : Nat) : Int) 0 = false := ne A hA _
      unfold bodyOf Tryz.f33
      cbv
      repeat (first
        | (refine ABr.t (by assumption) ?_; cbv)
        | (refine ABr.f (by assumption) ?_; cbv)
        | (refine ABr.t rfl ?_; cbv)
        | (refine ABr.f rfl ?_; cbv)
        | (refine ACall.mk _ (cf hS g1) ?_; cbv)
        | (refine ACall.mk _ (cf hS g2) ?_; cbv)
        | (refine ACall.mk _ (cf hS u1) ?_; cbv)
        | (refine ACall.mk _ (cf hS u2) ?_; cbv)
        | (refine ACall.mk _ (cf hS pl) ?_; cbv)
        | (refine ACall.mk _ (cf hS dn) ?_; cbv))
    · rw [if_pos h2]
      rw [h1] at g1
      clear u1 u2 o1
      have h2' : ((good1 c.b1 Q : Nat) : Int) ≠ 0 := by omega
      dsimp only
      generalize ((good1 c.b1 Q : Nat) : Int) = e at *
      refine mk Tryz.func33 rfl rfl L0 R1 (by decide +kernel) fun A S hA hS => ?_
      have e0 : A.cmp .neq ((0 : Nat) : Int) 0 = false := ne A hA _
      have e1 : A.cmp .neq e 0 = true := by rw [ne A hA, decide_eq_false h2']; rfl
      unfold bodyOf Tryz.f33
      cbv
      repeat (first
        | (refine ABr.t (by assumption) ?_; cbv)
        | (refine ABr.f (by assumption) ?_; cbv)
        | (refine ABr.t rfl ?_; cbv)
        | (refine ABr.f rfl ?_; cbv)
        | (refine ACall.mk _ (cf hS g1) ?_; cbv)
        | (refine ACall.mk _ (cf hS g2) ?_; cbv)
        | (refine ACall.mk _ (cf hS hi) ?_; cbv))
  · rw [if_pos h1]
    clear u1 u2 g2
    have h1' : ((good1 c.b1 P : Nat) : Int) ≠ 0 := by omega
    dsimp only
    generalize ((good1 c.b1 P : Nat) : Int) = e at *
    refine mk Tryz.func33 rfl rfl L0 R1 (by decide +kernel) fun A S hA hS => ?_
    have e1 : A.cmp .neq e 0 = true := by rw [ne A hA, decide_eq_false h1']; rfl
    unfold bodyOf Tryz.f33
    cbv
    repeat (first
      | (refine ABr.t (by assumption) ?_; cbv)
      | (refine ABr.f (by assumption) ?_; cbv)
      | (refine ABr.t rfl ?_; cbv)
      | (refine ABr.f rfl ?_; cbv)
      | (refine ACall.mk _ (cf hS g1) ?_; cbv)
      | (refine ACall.mk _ (cf hS hi) ?_; cbv))
theorem infS1_6 {H : H5} (hH : H = H5.real) (c : Cu p) : Sp 94 [.ref (Cc6 H c) 0] (P1_6 H ⟨0, 0, false⟩) := by
  have h := CisS6 (H := H) c
  have l0 := lim06 hH
  refine mk Tryz.func94 rfl rfl L0 R1 (by decide +kernel) fun A S hA hS => ?_
  unfold bodyOf Tryz.f94
  cbv
  refine ACall.mk _ (cf hS h) ?_
  cbv
  exact ⟨(l0 0).symm, (l0 1).symm, (l0 2).symm, (l0 3).symm, (l0 4).symm, (l0 5).symm, (l0 0).symm, (l0 1).symm, (l0 2).symm, (l0 3).symm, (l0 4).symm, (l0 5).symm, trivial⟩
theorem addS1_6 {H : H5} (hH : H = H5.real) (hp : PrM 384 p) {c : Cu p} (h1c : c.one = fo p 1) (P Q : PtA) (hPx : P.x < 2 ^ 384) (hPy : P.y < 2 ^ 384) (hQx : Q.x < 2 ^ 384) (hQy : Q.y < 2 ^ 384) :
    Sp 22 [.ref (Cc6 H c) 0, P1_6 H P, P1_6 H Q] (.tup [P1_6 H (addP c.b1 P Q).1, .s .i64 ((addP c.b1 P Q).2 : Nat)]) := by
  have g1 := good1S6 hH hp c P hPx hPy
  have g2 := good1S6 hH hp c Q hQx hQy
  have u1 := up1S6 hH hp h1c P hPx hPy
  have u2 := up1S6 hH hp h1c Q hQx hQy
  have hi := infS1_6 hH c
  have ne := fun A hA x => i_ne (A := A) hA (x := x) (y := 0)
  unfold addP
  by_cases h1 : good1 c.b1 P = 0
  · have o1 := good1_on h1
    rw [if_neg (fun h => h h1)]
    by_cases h2 : good1 c.b1 Q = 0
    · have o2 := good1_on h2
      rw [if_neg (fun h => h h2)]
      have pl := plusb6 (ok1_6 hH hp) c.b1 (Cv.up (K1_6 H p).O (ptOf p P)) (Cv.up (K1_6 H p).O (ptOf p Q))
      have dn := down1S6 hH hp c (Cv.plus (K1_6 H p).O (Cv.up (K1_6 H p).O (ptOf p P)) (Cv.up (K1_6 H p).O (ptOf p Q)))
      have e : Cv.down (K1_6 H p).O (Cv.plus (K1_6 H p).O (Cv.up (K1_6 H p).O (ptOf p P)) (Cv.up (K1_6 H p).O (ptOf p Q))) = Cv.sumR (Cv.ops1 Cv.inv1) (ptOf p P) (ptOf p Q) :=
        Cv.add1 Cv.inv1 (one_ne hp) (fun a h => Cv.inv1_ok hp.pr hp.two a h) c.b1 _ _ o1 o2
      rw [e] at dn
      rw [h1] at g1
      rw [h2] at g2
      clear e o1 o2 h1 h2
      dsimp only
      generalize ofPt (Cv.sumR (Cv.ops1 Cv.inv1) (ptOf p P) (ptOf p Q)) = R at *
      generalize Cv.plus (K1_6 H p).O (Cv.up (K1_6 H p).O (ptOf p P)) (Cv.up (K1_6 H p).O (ptOf p Q)) = j at *
      generalize Cv.up (K1_6 H p).O (ptOf p P) = j1 at *
      generalize Cv.up (K1_6 H p).O (ptOf p Q) = j2 at *
      refine mk Tryz.func22 rfl rfl L0 R1 (by decide +kernel) fun A S hA hS => ?_
      have e0 : A.cmp .neq ((0 : Nat) : Int) 0 = false := ne A hA _
      unfold bodyOf Tryz.f22
      cbv
      repeat (first
        | (refine ABr.t (by assumption) ?_; cbv)
        | (refine ABr.f (by assumption) ?_; cbv)
        | (refine ABr.t rfl ?_; cbv)
        | (refine ABr.f rfl ?_; cbv)
        | (refine ACall.mk _ (cf hS g1) ?_; cbv)
        | (refine ACall.mk _ (cf hS g2) ?_; cbv)
        | (refine ACall.mk _ (cf hS u1) ?_; cbv)
        | (refine ACall.mk _ (cf hS u2) ?_; cbv)
        | (refine ACall.mk _ (cf hS pl) ?_; cbv)
        | (refine ACall.mk _ (cf hS dn) ?_; cbv))
    · rw [if_pos h2]
      rw [h1] at g1
      clear u1 u2 o1
      have h2' : ((good1 c.b1 Q : Nat) : Int) ≠ 0 := by omega
      dsimp only
      generalize ((good1 c.b1 Q : Nat) : Int) = e at *
      refine mk Tryz.func22 rfl rfl L0 R1 (by decide +kernel) fun A S hA hS => ?_
      have e0 : A.cmp .neq ((0 : Nat) : Int) 0 = false := ne A hA _
      have e1 : A.cmp .neq e 0 = true := by rw [ne A hA, decide_eq_false h2']; rfl
      unfold bodyOf Tryz.f22
      cbv
      repeat (first
        | (refine ABr.t (by assumption) ?_; cbv)
        | (refine ABr.f (by assumption) ?_; cbv)
        | (refine ABr.t rfl ?_; cbv)
        | (refine ABr.f rfl ?_; cbv)
        | (refine ACall.mk _ (cf hS g1) ?_; cbv)
        | (refine ACall.mk _ (cf hS g2) ?_; cbv)
        | (refine ACall.mk _ (cf hS hi) ?_; cbv))
  · rw [if_pos h1]
    clear u1 u2 g2
    have h1' : ((good1 c.b1 P : Nat) : Int) ≠ 0 := by omega
    dsimp only
    generalize ((good1 c.b1 P : Nat) : Int) = e at *
    refine mk Tryz.func22 rfl rfl L0 R1 (by decide +kernel) fun A S hA hS => ?_
    have e1 : A.cmp .neq e 0 = true := by rw [ne A hA, decide_eq_false h1']; rfl
    unfold bodyOf Tryz.f22
    cbv
    repeat (first
      | (refine ABr.t (by assumption) ?_; cbv)
      | (refine ABr.f (by assumption) ?_; cbv)
      | (refine ABr.t rfl ?_; cbv)
      | (refine ABr.f rfl ?_; cbv)
      | (refine ACall.mk _ (cf hS g1) ?_; cbv)
      | (refine ACall.mk _ (cf hS hi) ?_; cbv))
theorem mulS1_6 {H : H5} (hH : H = H5.real) (hp : PrM 384 p) {c : Cu p} (h1c : c.one = fo p 1) (P : PtA) (hPx : P.x < 2 ^ 384) (hPy : P.y < 2 ^ 384) (k : Nat) (hk : k < 2 ^ 256) :
    Sp 26 [.ref (Cc6 H c) 0, P1_6 H P, u4 H.lim k] (.tup [P1_6 H (mulP c.b1 P k).1, .s .i64 ((mulP c.b1 P k).2 : Nat)]) := by
  have g1 := good1S6 hH hp c P hPx hPy
  have u1 := up1S6 hH hp h1c P hPx hPy
  have hi := infS1_6 hH c
  have ne := fun A hA x => i_ne (A := A) hA (x := x) (y := 0)
  unfold mulP
  by_cases h1 : good1 c.b1 P = 0
  · rw [if_neg (fun h => h h1)]
    have tm := timesb6 (ok1_6 hH hp) c.b1 (Cv.up (K1_6 H p).O (ptOf p P)) (H5.hlim hH) k hk
    have dn := down1S6 hH hp c (Cv.tm (K1_6 H p).O (Cv.up (K1_6 H p).O (ptOf p P)) k 256 256)
    rw [h1] at g1
    clear h1
    dsimp only
    change Sp _ _ (P1_6 H (ofPt (Cv.down (Cv.ops1 Cv.inv1) (Cv.tm (Cv.ops1 Cv.inv1) (Cv.up (Cv.ops1 Cv.inv1) (ptOf p P)) k 256 256)))) at dn
    generalize ofPt (Cv.down (Cv.ops1 Cv.inv1) (Cv.tm (Cv.ops1 Cv.inv1) (Cv.up (Cv.ops1 Cv.inv1) (ptOf p P)) k 256 256)) = R at *
    generalize Cv.tm (K1_6 H p).O (Cv.up (K1_6 H p).O (ptOf p P)) k 256 256 = j at *
    generalize Cv.up (K1_6 H p).O (ptOf p P) = j1 at *
    refine mk Tryz.func26 rfl rfl L0 R1 (by decide +kernel) fun A S hA hS => ?_
    have e0 : A.cmp .neq ((0 : Nat) : Int) 0 = false := ne A hA _
    unfold bodyOf Tryz.f26
    cbv
    repeat (first
      | (refine ABr.t (by assumption) ?_; cbv)
      | (refine ABr.f (by assumption) ?_; cbv)
      | (refine ABr.t rfl ?_; cbv)
      | (refine ABr.f rfl ?_; cbv)
      | (refine ACall.mk _ (cf hS g1) ?_; cbv)
      | (refine ACall.mk _ (cf hS u1) ?_; cbv)
      | (refine ACall.mk _ (cf hS tm) ?_; cbv)
      | (refine ACall.mk _ (cf hS dn) ?_; cbv))
  · rw [if_pos h1]
    clear u1
    have h1' : ((good1 c.b1 P : Nat) : Int) ≠ 0 := by omega
    dsimp only
    generalize ((good1 c.b1 P : Nat) : Int) = e at *
    refine mk Tryz.func26 rfl rfl L0 R1 (by decide +kernel) fun A S hA hS => ?_
    have e1 : A.cmp .neq e 0 = true := by rw [ne A hA, decide_eq_false h1']; rfl
    unfold bodyOf Tryz.f26
    cbv
    repeat (first
      | (refine ABr.t (by assumption) ?_; cbv)
      | (refine ABr.f (by assumption) ?_; cbv)
      | (refine ABr.t rfl ?_; cbv)
      | (refine ABr.f rfl ?_; cbv)
      | (refine ACall.mk _ (cf hS g1) ?_; cbv)
      | (refine ACall.mk _ (cf hS hi) ?_; cbv))
theorem infS2_4 {H : H5} (hH : H = H5.real) (c : Cu p) : Sp 130 [.ref (Cc4 H c) 0] (P2_4 H ⟨0, 0, 0, 0, false⟩) := by
  have h := CisS4 (H := H) c
  have l0 := lim04 hH
  refine mk Tryz.func130 rfl rfl L0 R1 (by decide +kernel) fun A S hA hS => ?_
  unfold bodyOf Tryz.f130
  cbv
  refine ACall.mk _ (cf hS h) ?_
  cbv
  exact ⟨(l0 0).symm, (l0 1).symm, (l0 2).symm, (l0 3).symm, (l0 0).symm, (l0 1).symm, (l0 2).symm, (l0 3).symm, (l0 0).symm, (l0 1).symm, (l0 2).symm, (l0 3).symm, (l0 0).symm, (l0 1).symm, (l0 2).symm, (l0 3).symm, trivial⟩
theorem addS2_4 {H : H5} (hH : H = H5.real) (hp : PrM 256 p) {c : Cu p} (h1c : c.one = fo p 1) (P Q : PtB) (hPxa : P.xa < 2 ^ 256) (hPxb : P.xb < 2 ^ 256) (hPya : P.ya < 2 ^ 256) (hPyb : P.yb < 2 ^ 256) (hQxa : Q.xa < 2 ^ 256) (hQxb : Q.xb < 2 ^ 256) (hQya : Q.ya < 2 ^ 256) (hQyb : Q.yb < 2 ^ 256) :
    Sp 55 [.ref (Cc4 H c) 0, P2_4 H P, P2_4 H Q] (.tup [P2_4 H (addQ c.b2 P Q).1, .s .i64 ((addQ c.b2 P Q).2 : Nat)]) := by
  have g1 := good2S4 hH hp c P hPxa hPxb hPya hPyb
  have g2 := good2S4 hH hp c Q hQxa hQxb hQya hQyb
  have u1 := up2S4 hH hp h1c P hPxa hPxb hPya hPyb
  have u2 := up2S4 hH hp h1c Q hQxa hQxb hQya hQyb
  have hi := infS2_4 hH c
  have ne := fun A hA x => i_ne (A := A) hA (x := x) (y := 0)
  unfold addQ
  by_cases h1 : good2 c.b2 P = 0
  · have o1 := good2_on h1
    rw [if_neg (fun h => h h1)]
    by_cases h2 : good2 c.b2 Q = 0
    · have o2 := good2_on h2
      rw [if_neg (fun h => h h2)]
      have pl := plust4 (ok2_4 hH hp) c.b2 (Cv.up (K2_4 H p).O (ptOf2 p P)) (Cv.up (K2_4 H p).O (ptOf2 p Q))
      have dn := down2S4 hH hp c (Cv.plus (K2_4 H p).O (Cv.up (K2_4 H p).O (ptOf2 p P)) (Cv.up (K2_4 H p).O (ptOf2 p Q)))
      have e : Cv.down (K2_4 H p).O (Cv.plus (K2_4 H p).O (Cv.up (K2_4 H p).O (ptOf2 p P)) (Cv.up (K2_4 H p).O (ptOf2 p Q))) = Cv.sumR (Cv.ops2 Cv.inv2) (ptOf2 p P) (ptOf2 p Q) :=
        Cv.add2 Cv.inv2 (one_ne hp) (fun a h => Cv.inv2_ok hp.pr hp.two hp.four a h) c.b2 _ _ o1 o2
      rw [e] at dn
      rw [h1] at g1
      rw [h2] at g2
      clear e o1 o2 h1 h2
      dsimp only
      generalize ofPt2 (Cv.sumR (Cv.ops2 Cv.inv2) (ptOf2 p P) (ptOf2 p Q)) = R at *
      generalize Cv.plus (K2_4 H p).O (Cv.up (K2_4 H p).O (ptOf2 p P)) (Cv.up (K2_4 H p).O (ptOf2 p Q)) = j at *
      generalize Cv.up (K2_4 H p).O (ptOf2 p P) = j1 at *
      generalize Cv.up (K2_4 H p).O (ptOf2 p Q) = j2 at *
      refine mk Tryz.func55 rfl rfl L0 R1 (by decide +kernel) fun A S hA hS => ?_
      have e0 : A.cmp .neq ((0 : Nat) : Int) 0 = false := ne A hA _
      unfold bodyOf Tryz.f55
      cbv
      repeat (first
        | (refine ABr.t (by assumption) ?_; cbv)
        | (refine ABr.f (by assumption) ?_; cbv)
        | (refine ABr.t rfl ?_; cbv)
        | (refine ABr.f rfl ?_; cbv)
        | (refine ACall.mk _ (cf hS g1) ?_; cbv)
        | (refine ACall.mk _ (cf hS g2) ?_; cbv)
        | (refine ACall.mk _ (cf hS u1) ?_; cbv)
        | (refine ACall.mk _ (cf hS u2) ?_; cbv)
        | (refine ACall.mk _ (cf hS pl) ?_; cbv)
        | (refine ACall.mk _ (cf hS dn) ?_; cbv))
    · rw [if_pos h2]
      rw [h1] at g1
      clear u1 u2 o1
      have h2' : ((good2 c.b2 Q : Nat) : Int) ≠ 0 := by omega
      dsimp only
      generalize ((good2 c.b2 Q : Nat) : Int) = e at *
      refine mk Tryz.func55 rfl rfl L0 R1 (by decide +kernel) fun A S hA hS => ?_
      have e0 : A.cmp .neq ((0 : Nat) : Int) 0 = false := ne A hA _
      have e1 : A.cmp .neq e 0 = true := by rw [ne A hA, decide_eq_false h2']; rfl
      unfold bodyOf Tryz.f55
      cbv
      repeat (first
        | (refine ABr.t (by assumption) ?_; cbv)
        | (refine ABr.f (by assumption) ?_; cbv)
        | (refine ABr.t rfl ?_; cbv)
        | (refine ABr.f rfl ?_; cbv)
        | (refine ACall.mk _ (cf hS g1) ?_; cbv)
        | (refine ACall.mk _ (cf hS g2) ?_; cbv)
        | (refine ACall.mk _ (cf hS hi) ?_; cbv))
  · rw [if_pos h1]
    clear u1 u2 g2
    have h1' : ((good2 c.b2 P : Nat) : Int) ≠ 0 := by omega
    dsimp only
    generalize ((good2 c.b2 P : Nat) : Int) = e at *
    refine mk Tryz.func55 rfl rfl L0 R1 (by decide +kernel) fun A S hA hS => ?_
    have e1 : A.cmp .neq e 0 = true := by rw [ne A hA, decide_eq_false h1']; rfl
    unfold bodyOf Tryz.f55
    cbv
    repeat (first
      | (refine ABr.t (by assumption) ?_; cbv)
      | (refine ABr.f (by assumption) ?_; cbv)
      | (refine ABr.t rfl ?_; cbv)
      | (refine ABr.f rfl ?_; cbv)
      | (refine ACall.mk _ (cf hS g1) ?_; cbv)
      | (refine ACall.mk _ (cf hS hi) ?_; cbv))
theorem mulS2_4 {H : H5} (hH : H = H5.real) (hp : PrM 256 p) {c : Cu p} (h1c : c.one = fo p 1) (P : PtB) (hPxa : P.xa < 2 ^ 256) (hPxb : P.xb < 2 ^ 256) (hPya : P.ya < 2 ^ 256) (hPyb : P.yb < 2 ^ 256) (k : Nat) (hk : k < 2 ^ 256) :
    Sp 54 [.ref (Cc4 H c) 0, P2_4 H P, u4 H.lim k] (.tup [P2_4 H (mulQ c.b2 P k).1, .s .i64 ((mulQ c.b2 P k).2 : Nat)]) := by
  have g1 := good2S4 hH hp c P hPxa hPxb hPya hPyb
  have u1 := up2S4 hH hp h1c P hPxa hPxb hPya hPyb
  have hi := infS2_4 hH c
  have ne := fun A hA x => i_ne (A := A) hA (x := x) (y := 0)
  unfold mulQ
  by_cases h1 : good2 c.b2 P = 0
  · rw [if_neg (fun h => h h1)]
    have tm := timest4 (ok2_4 hH hp) c.b2 (Cv.up (K2_4 H p).O (ptOf2 p P)) (H5.hlim hH) k hk
    have dn := down2S4 hH hp c (Cv.tm (K2_4 H p).O (Cv.up (K2_4 H p).O (ptOf2 p P)) k 256 256)
    rw [h1] at g1
    clear h1
    dsimp only
    change Sp _ _ (P2_4 H (ofPt2 (Cv.down (Cv.ops2 Cv.inv2) (Cv.tm (Cv.ops2 Cv.inv2) (Cv.up (Cv.ops2 Cv.inv2) (ptOf2 p P)) k 256 256)))) at dn
    generalize ofPt2 (Cv.down (Cv.ops2 Cv.inv2) (Cv.tm (Cv.ops2 Cv.inv2) (Cv.up (Cv.ops2 Cv.inv2) (ptOf2 p P)) k 256 256)) = R at *
    generalize Cv.tm (K2_4 H p).O (Cv.up (K2_4 H p).O (ptOf2 p P)) k 256 256 = j at *
    generalize Cv.up (K2_4 H p).O (ptOf2 p P) = j1 at *
    refine mk Tryz.func54 rfl rfl L0 R1 (by decide +kernel) fun A S hA hS => ?_
    have e0 : A.cmp .neq ((0 : Nat) : Int) 0 = false := ne A hA _
    unfold bodyOf Tryz.f54
    cbv
    repeat (first
      | (refine ABr.t (by assumption) ?_; cbv)
      | (refine ABr.f (by assumption) ?_; cbv)
      | (refine ABr.t rfl ?_; cbv)
      | (refine ABr.f rfl ?_; cbv)
      | (refine ACall.mk _ (cf hS g1) ?_; cbv)
      | (refine ACall.mk _ (cf hS u1) ?_; cbv)
      | (refine ACall.mk _ (cf hS tm) ?_; cbv)
      | (refine ACall.mk _ (cf hS dn) ?_; cbv))
  · rw [if_pos h1]
    clear u1
    have h1' : ((good2 c.b2 P : Nat) : Int) ≠ 0 := by omega
    dsimp only
    generalize ((good2 c.b2 P : Nat) : Int) = e at *
    refine mk Tryz.func54 rfl rfl L0 R1 (by decide +kernel) fun A S hA hS => ?_
    have e1 : A.cmp .neq e 0 = true := by rw [ne A hA, decide_eq_false h1']; rfl
    unfold bodyOf Tryz.f54
    cbv
    repeat (first
      | (refine ABr.t (by assumption) ?_; cbv)
      | (refine ABr.f (by assumption) ?_; cbv)
      | (refine ABr.t rfl ?_; cbv)
      | (refine ABr.f rfl ?_; cbv)
      | (refine ACall.mk _ (cf hS g1) ?_; cbv)
      | (refine ACall.mk _ (cf hS hi) ?_; cbv))
end
end Go.Proofs.YtmholgclgamnnaaGreat
end
section
set_option linter.unusedVariables false
set_option linter.unusedSectionVars false
set_option linter.unusedSimpArgs false
namespace Go.Proofs.YtmholgclgamnnaaGreat
open Go Eng
set_option maxRecDepth 100000
set_option exponentiation.threshold 2000
set_option maxHeartbeats 4000000
/-- The reference's multiple. -/
def timesPt {α : Type} [DecidableEq α] (O : Cv.Ops α) (P : Cv.Pt α) (e : Nat) : Cv.Pt α :=
  match P with
  | none => none
  | some (x, y) => let z := Cv.tr O x y e 256 256
    if z.z = O.zero then none else some (O.mul z.x (O.mul (O.inv z.z) (O.inv z.z)), O.mul z.y (O.mul (O.mul (O.inv z.z) (O.inv z.z)) (O.inv z.z)))
section
variable {α : Type} [DecidableEq α] {k : Rk α} {b : α}
end
end Go.Proofs.YtmholgclgamnnaaGreat
end
section
set_option linter.unusedVariables false
set_option linter.unusedSectionVars false
set_option linter.unusedSimpArgs false
namespace Go.Proofs.YtmholgclgamnnaaGreat
open Go Eng
set_option maxRecDepth 100000
set_option exponentiation.threshold 2000
set_option maxHeartbeats 4000000
theorem lim_top {H : H5} (hH : H = H5.real) {x n : Nat} (hx : x < 2 ^ (64 * n)) (i : Nat) (hi : n ≤ i) : H.lim x i = 0 := by
  rw [hH]
  show ((x / 2 ^ (64 * i) % 2 ^ 64 : Nat) : Int) = 0
  rw [Nat.div_eq_of_lt (Nat.lt_of_lt_of_le hx (Nat.pow_le_pow_right (by decide) (by omega))), Nat.zero_mod]; rfl
end Go.Proofs.YtmholgclgamnnaaGreat
end
section
set_option linter.unusedVariables false
set_option linter.unusedSimpArgs false
set_option linter.unusedSectionVars false
namespace Gp
def vals {α : Type} (O : Op α) (x1 y1 x2 y2 x3 y3 b : α) (i : Nat) : α := [x1, x2, x3, b, O.zero, O.zero, O.zero, O.zero, O.zero, O.zero, O.zero, O.zero, y1, y2, y3].getD i O.zero
section
variable {α : Type} {O : Op α} (L : CR O)
include L
theorem van {e : E} (h : e.chk = true) {x1 y1 x2 y2 x3 y3 b : α} (h1 : O.mul y1 y1 = O.add (O.mul (O.mul x1 x1) x1) b) (h2 : O.mul y2 y2 = O.add (O.mul (O.mul x2 x2) x2) b) (h3 : O.mul y3 y3 = O.add (O.mul (O.mul x3 x3) x3) b) :
    e.ev O (vals O x1 y1 x2 y2 x3 y3 b) = O.zero :=
  vanish L e e.dl e.kk (fun i _ => by unfold E.dl; omega) (Nat.lt_succ_self _) (of_decide_eq_true h) [x1, x2, x3, b, O.zero, O.zero, O.zero, O.zero, O.zero, O.zero, O.zero, O.zero, y1, y2, y3] (Nat.le_refl 15) h1 h2 h3
end
section
variable {α : Type} (O : Op α)
def thr (b : α) : α := O.add (O.add b b) b
def rc (b : α) (p q : T3 α) : T3 α :=
  let b3 := thr O b
  let xy := O.add (O.mul p.x q.y) (O.mul q.x p.y)
  let yz := O.add (O.mul p.y q.z) (O.mul q.y p.z)
  let xz := O.add (O.mul p.x q.z) (O.mul q.x p.z)
  let yy := O.mul p.y q.y
  let zz := O.mul b3 (O.mul p.z q.z)
  let xx := O.mul p.x q.x
  ⟨O.sub (O.mul xy (O.sub yy zz)) (O.mul b3 (O.mul yz xz)), O.add (O.mul (O.add yy zz) (O.sub yy zz)) (O.mul (thr O b3) (O.mul xx xz)), O.add (O.mul yz (O.add yy zz)) (O.mul (thr O xx) xy)⟩
end
def eO : Op E := ⟨.a, .s, .m, .s .o .o, .o⟩
def eA : T3 E := rc eO bb (rc eO bb ⟨x1, y1, .o⟩ ⟨x2, y2, .o⟩) ⟨x3, y3, .o⟩
def eB : T3 E := rc eO bb ⟨x1, y1, .o⟩ (rc eO bb ⟨x2, y2, .o⟩ ⟨x3, y3, .o⟩)
set_option maxRecDepth 100000
theorem chk_xz : (E.s (.m eA.x eB.z) (.m eB.x eA.z)).chk = true := by decide +kernel
theorem chk_yz : (E.s (.m eA.y eB.z) (.m eB.y eA.z)).chk = true := by decide +kernel
/-- Chords, times d d and d d d. -/
def nn (y1 y2 : E) : E := .s y2 y1
def eU (y1 y2 : E) : E := .s (.m (nn y1 y2) (nn y1 y2)) (.m (.a x1 x2) (.m dd dd))
def eV (y1 y2 : E) : E := .s (.m (nn y1 y2) (.s (.m x1 (.m dd dd)) (eU y1 y2))) (.m y1 (.m dd (.m dd dd)))
def eS : T3 E := rc eO bb ⟨x1, y1, .o⟩ ⟨x2, y2, .o⟩
theorem chk_c1 : (E.s (.m eS.x (.m dd dd)) (.m eS.z (eU y1 y2))).chk = true := by decide +kernel
theorem chk_c2 : (E.s (.m eS.y (.m dd (.m dd dd))) (.m eS.z (eV y1 y2))).chk = true := by decide +kernel
theorem chk_c3 : (E.s eS.z (eV y1 (neg y2))).chk = true := by decide +kernel
theorem chk_c4 : (E.s (.m (eV y1 y2) (eV y1 y2)) (.a (.m (.m (eU y1 y2) (eU y1 y2)) (eU y1 y2)) (.m bb (.m (.m dd (.m dd dd)) (.m dd (.m dd dd)))))).chk = true := by decide +kernel
def eU2 : E := .s (.m ee ee) (.m (.a x1 x1) (.m tt tt))
def eV2 : E := .s (.m ee (.s (.m x1 (.m tt tt)) eU2)) (.m y1 (.m tt (.m tt tt)))
def eD : T3 E := rc eO bb ⟨x1, y1, .o⟩ ⟨x1, y1, .o⟩
def eN : T3 E := rc eO bb ⟨x1, y1, .o⟩ ⟨x1, neg y1, .o⟩
theorem chk_t1 : (E.s (.m eD.x (.m tt tt)) (.m eD.z eU2)).chk = true := by decide +kernel
theorem chk_t2 : (E.s (.m eD.y (.m tt (.m tt tt))) (.m eD.z eV2)).chk = true := by decide +kernel
theorem chk_t3 : (E.s eD.z (.m tt (.m tt tt))).chk = true := by decide +kernel
theorem chk_t4 : (E.s (.m eV2 eV2) (.a (.m (.m eU2 eU2) eU2) (.m bb (.m (.m tt (.m tt tt)) (.m tt (.m tt tt)))))).chk = true := by decide +kernel
theorem chk_n1 : eN.x.chk = true := by decide +kernel
theorem chk_n2 : eN.z.chk = true := by decide +kernel
theorem chk_n3 : (E.s eN.y eV2).chk = true := by decide +kernel
end Gp
end
section
set_option linter.unusedSectionVars false
set_option linter.unusedVariables false
namespace Gp
open Cv
section
variable {α : Type} [DecidableEq α] {O : Ops α} (F : Fd O)
include F
theorem Fd.twice_ne {a : α} (h : a ≠ O.zero) : O.add a a ≠ O.zero := by
  have e : O.add a a = O.mul (O.add O.one O.one) a := by
    have h1 : O.mul O.one a = a := F.one_mul a
    refine Eq.symm ((F.cr.add_mul O.one O.one a).trans ?_)
    show O.add (O.mul O.one a) (O.mul O.one a) = _
    rw [h1]
  rw [e]
  exact F.mne F.two h
theorem Fd.neg_sq (a : α) : O.mul (O.sub O.zero a) (O.sub O.zero a) = O.mul a a := by
  have h1 := F.cr.neg_mul a (O.sub O.zero a)
  have h2 := F.cr.mul_neg a a
  have h3 := F.cr.neg_neg (O.mul a a)
  exact h1.trans ((congrArg (O.sub O.zero) h2).trans h3)
theorem Fd.neg_eq {a b : α} (h : O.add a b = O.zero) : b = O.sub O.zero a := by
  have h1 := F.cr.sub_add O.zero a
  refine F.cr.add_cancel (c := a) ?_
  exact (F.add_comm b a).trans (h.trans h1.symm)
end
theorem chk_l1 : (E.s (.m (.s (.s (.m w0 w0) w2) w3) (.m w1 w1)) (.s (.m (.m w0 w1) (.m w0 w1)) (.m (.a w2 w3) (.m w1 w1)))).chk = true := by decide +kernel
theorem chk_l2 : (E.s (.m (.s (.m w0 (.s w2 w3)) w4) (.m w1 (.m w1 w1))) (.s (.m (.m w0 w1) (.s (.m w2 (.m w1 w1)) (.m w3 (.m w1 w1)))) (.m w4 (.m w1 (.m w1 w1))))).chk = true := by decide +kernel
section
variable {α : Type} [DecidableEq α] {O : Ops α} (F : Fd O)
include F
/-- A line through two points, or touching one. -/
theorem line {d n s x1 y1 x2 : α} (hs : O.mul s d = n) (hd : d ≠ O.zero) :
    O.mul (O.sub (O.sub (O.mul s s) x1) x2) (O.mul d d) = O.sub (O.mul n n) (O.mul (O.add x1 x2) (O.mul d d)) ∧
    O.mul (O.sub (O.mul s (O.sub x1 (O.sub (O.sub (O.mul s s) x1) x2))) y1) (O.mul d (O.mul d d)) =
      O.sub (O.mul n (O.sub (O.mul x1 (O.mul d d)) (O.mul (O.sub (O.sub (O.mul s s) x1) x2) (O.mul d d)))) (O.mul y1 (O.mul d (O.mul d d))) := by
  constructor
  · have := F.eq_of_sub (van0 F.cr chk_l1 s d x1 x2 O.zero O.zero O.zero O.zero)
    rw [← hs]; exact this
  · have := F.eq_of_sub (van0 F.cr chk_l2 s d x1 (O.sub (O.sub (O.mul s s) x1) x2) y1 O.zero O.zero O.zero)
    rw [← hs]; exact this
variable {b : α}
/-- A chord. -/
theorem chord {x1 y1 x2 y2 s : α} (h1 : O.mul y1 y1 = O.add (O.mul (O.mul x1 x1) x1) b) (h2 : O.mul y2 y2 = O.add (O.mul (O.mul x2 x2) x2) b) (hx : O.sub x2 x1 ≠ O.zero) (hs : O.mul s (O.sub x2 x1) = O.sub y2 y1)
    (X Y : α) (hX : X = O.sub (O.sub (O.mul s s) x1) x2) (hY : Y = O.sub (O.mul s (O.sub x1 X)) y1) (R : T3 α) (hR : R = rc (opOf O) b ⟨x1, y1, O.one⟩ ⟨x2, y2, O.one⟩) :
    O.mul Y Y = O.add (O.mul (O.mul X X) X) b ∧ R.x = O.mul R.z X ∧ R.y = O.mul R.z Y ∧
      (eV Gp.y1 Gp.y2).ev (opOf O) (vals (opOf O) x1 y1 x2 y2 x1 y1 b) = O.mul Y (O.mul (O.sub x2 x1) (O.mul (O.sub x2 x1) (O.sub x2 x1))) := by
  obtain ⟨l1, l2⟩ := line F (x1 := x1) (y1 := y1) (x2 := x2) hs hx
  rw [← hX] at l1 l2
  rw [← hY, l1] at l2
  have c1 := F.eq_of_sub (van F.cr chk_c1 h1 h2 h1)
  have c2 := F.eq_of_sub (van F.cr chk_c2 h1 h2 h1)
  have c4 := F.eq_of_sub (van F.cr chk_c4 h1 h2 h1)
  have eU : (eU Gp.y1 Gp.y2).ev (opOf O) (vals (opOf O) x1 y1 x2 y2 x1 y1 b) = O.mul X (O.mul (O.sub x2 x1) (O.sub x2 x1)) := l1.symm
  have eV : (eV Gp.y1 Gp.y2).ev (opOf O) (vals (opOf O) x1 y1 x2 y2 x1 y1 b) = O.mul Y (O.mul (O.sub x2 x1) (O.mul (O.sub x2 x1) (O.sub x2 x1))) := l2.symm
  refine ⟨?_, ?_, ?_, eV⟩
  · refine back F (d := O.sub x2 x1) hx ?_
    rw [← eU, ← eV]
    exact c4
  · subst hR
    refine F.cancel (c := O.mul (O.sub x2 x1) (O.sub x2 x1)) (F.mne hx hx) ?_
    rw [F.mul_assoc _ X, ← eU]
    exact c1
  · subst hR
    refine F.cancel (c := O.mul (O.sub x2 x1) (O.mul (O.sub x2 x1) (O.sub x2 x1))) (F.mne hx (F.mne hx hx)) ?_
    rw [F.mul_assoc _ Y, ← eV]
    exact c2
/-- A tangent. -/
theorem tang {x1 y1 s : α} (h1 : O.mul y1 y1 = O.add (O.mul (O.mul x1 x1) x1) b) (hy : O.add y1 y1 ≠ O.zero) (hs : O.mul s (O.add y1 y1) = O.add (O.add (O.mul x1 x1) (O.mul x1 x1)) (O.mul x1 x1))
    (X Y : α) (hX : X = O.sub (O.sub (O.mul s s) x1) x1) (hY : Y = O.sub (O.mul s (O.sub x1 X)) y1) (R : T3 α) (hR : R = rc (opOf O) b ⟨x1, y1, O.one⟩ ⟨x1, y1, O.one⟩) :
    O.mul Y Y = O.add (O.mul (O.mul X X) X) b ∧ R.x = O.mul R.z X ∧ R.y = O.mul R.z Y ∧ R.z ≠ O.zero ∧
      eV2.ev (opOf O) (vals (opOf O) x1 y1 x1 y1 x1 y1 b) = O.mul Y (O.mul (O.add y1 y1) (O.mul (O.add y1 y1) (O.add y1 y1))) := by
  obtain ⟨l1, l2⟩ := line F (x1 := x1) (y1 := y1) (x2 := x1) hs hy
  rw [← hX] at l1 l2
  rw [← hY, l1] at l2
  have c1 := F.eq_of_sub (van F.cr chk_t1 h1 h1 h1)
  have c2 := F.eq_of_sub (van F.cr chk_t2 h1 h1 h1)
  have c3 := F.eq_of_sub (van F.cr chk_t3 h1 h1 h1)
  have c4 := F.eq_of_sub (van F.cr chk_t4 h1 h1 h1)
  have eU : eU2.ev (opOf O) (vals (opOf O) x1 y1 x1 y1 x1 y1 b) = O.mul X (O.mul (O.add y1 y1) (O.add y1 y1)) := l1.symm
  have eV : eV2.ev (opOf O) (vals (opOf O) x1 y1 x1 y1 x1 y1 b) = O.mul Y (O.mul (O.add y1 y1) (O.mul (O.add y1 y1) (O.add y1 y1))) := l2.symm
  refine ⟨?_, ?_, ?_, ?_, eV⟩
  · refine back F (d := O.add y1 y1) hy ?_
    rw [← eU, ← eV]
    exact c4
  · subst hR
    refine F.cancel (c := O.mul (O.add y1 y1) (O.add y1 y1)) (F.mne hy hy) ?_
    rw [F.mul_assoc _ X, ← eU]
    exact c1
  · subst hR
    refine F.cancel (c := O.mul (O.add y1 y1) (O.mul (O.add y1 y1) (O.add y1 y1))) (F.mne hy (F.mne hy hy)) ?_
    rw [F.mul_assoc _ Y, ← eV]
    exact c2
  · subst hR
    intro h
    exact F.mne hy (F.mne hy hy) (c3.symm.trans h)
end
end Gp
end
