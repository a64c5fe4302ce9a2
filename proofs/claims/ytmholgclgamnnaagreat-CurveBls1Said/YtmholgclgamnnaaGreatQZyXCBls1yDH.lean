import Derived.Test.YtmholgclgamnnaaGreatQZCU
import Derived.Test.YtmholgclgamnnaaGreatQZCW
import Derived.Test.YtmholgclgamnnaaGreatQZCZ
import Derived.Test.YtmholgclgamnnaaGreatQZDD
import Derived.Test.YtmholgclgamnnaaGreatQZyXCBls1yCS
section
set_option linter.unusedVariables false
set_option linter.unusedSectionVars false
set_option linter.unusedSimpArgs false
namespace Go.Proofs.YtmholgclgamnnaaGreat
open Go Eng
set_option maxRecDepth 100000
set_option exponentiation.threshold 2000
set_option maxHeartbeats 4000000
section
variable {p : Nat} [NeZero p]
def kR6_1 (H : H5) (c : Cu p) : Rk (Fin p) := ⟨(Cv.ops1 Cv.inv1), fun a => [.lst false 6 (ws6 H.lim a.val)], 1, 6, ws6 H.lim p, (H.minv p : Nat), ws6 H.lim (H.mf (2 * 384) p 1), 1, ws4 H.lim c.r, [.lst false 6 (ws6 H.lim c.x1)], [.lst false 6 (ws6 H.lim c.y1)]⟩
theorem okR6_1 {H : H5} (hH : H = H5.real) (hp : PrM 384 p) {c : Cu p} (h1c : c.one = fo p 1) : OkR (kR6_1 H c) c.b1 where
  add a b := Spec.res (Spec.args (addR6_1 hH hp c a b) (by cbv)) (by cbv)
  sub a b := Spec.res (Spec.args (subR6_1 hH hp c a b) (by cbv)) (by cbv)
  mul a b := Spec.res (Spec.args (mulR6_1 hH hp c a b) (by cbv)) (by cbv)
  inv a := by
    have h := invR6_1 hH hp c a
    show Sp _ _ (Nt (kR6_1 H c) (Cv.inv1 a))
    generalize Cv.inv1 a = i at *
    exact Spec.res (Spec.args h (by cbv)) (by cbv)
  same a b := Spec.args (sameR6_1 hH hp a b) (by cbv)
  zero a := Spec.args (zeroR6_1 hH hp a) (by cbv)
  none := by
    have h := noneR6_1 hH hp c
    show Sp _ _ (Nt (kR6_1 H c) (0 : Fin p))
    generalize (0 : Fin p) = z at *
    exact Spec.res (Spec.args h (by cbv)) (by cbv)
  one := by
    have h := oneR6_1 hH hp h1c
    have e : (kR6_1 H c).O.one = c.one := by rw [h1c]; rfl
    rw [e]
    generalize (c.one : Fin p) = z at *
    exact Spec.res (Spec.args h (by cbv)) (by cbv)
theorem good_pt6_1 {H : H5} (hH : H = H5.real) {c : Cu p} {P : PtA} (h : good1 c.b1 P = 0) : Sim (PR6_1 H P) (Pt_ (kR6_1 H c) (ptOf p P)) := by
  obtain ⟨x, y, inf⟩ := P
  unfold good1 at h
  dsimp only at h
  cases inf
  · rw [if_neg (by simp)] at h
    have hxy : x < p ∧ y < p := by
      apply Classical.byContradiction
      intro hn
      rw [if_neg hn] at h
      cases h
    have ex : (fo p x).val = x := Nat.mod_eq_of_lt hxy.1
    have ey : (fo p y).val = y := Nat.mod_eq_of_lt hxy.2
    show Sim _ (.agg [.lst true 1 [.lst false 6 (ws6 H.lim (fo p x).val)], .lst true 1 [.lst false 6 (ws6 H.lim (fo p y).val)], .sb false])
    rw [ex, ey]
    cbv
  · rw [if_pos rfl] at h
    have hxy : x = 0 ∧ y = 0 := by
      apply Classical.byContradiction
      intro hn
      rw [if_neg hn] at h
      cases h
    obtain ⟨rfl, rfl⟩ := hxy
    show Sim _ (.agg [.lst true 1 [.lst false 6 (ws6 H.lim (0 : Fin p).val)], .lst true 1 [.lst false 6 (ws6 H.lim (0 : Fin p).val)], .sb true])
    rw [Cv.val_zero]
    cbv
/-- What the reference tells of a point: nothing where there was an error. -/
def Rp6_1 (H : H5) (c : Cu p) (e : Nat) (P : Cv.Pt (Fin p)) : AVal := match e with
  | 0 => Pt_ (kR6_1 H c) P
  | _ + 1 => .agg [.v (.slice none 0 0), .v (.slice none 0 0), .b false]
theorem Ctr6_1 (H : H5) (c : Cu p) : Sim (Cr6_1 H c) (Ct (kR6_1 H c) c.b1) := by cbv
theorem rAdd6_1 {H : H5} (hH : H = H5.real) (hp : PrM 384 p) {c : Cu p} (h1c : c.one = fo p 1) (P Q : PtA) (hPx : P.x < 2 ^ 384) (hPy : P.y < 2 ^ 384) (hQx : Q.x < 2 ^ 384) (hQy : Q.y < 2 ^ 384) :
    Sp 23 [Cr6_1 H c, PR6_1 H P, PR6_1 H Q] (.tup [Rp6_1 H c (addE (good1 c.b1 P) (good1 c.b1 Q)) (Cv.sumR (Cv.ops1 Cv.inv1) (ptOf p P) (ptOf p Q)), .s .i64 (addE (good1 c.b1 P) (good1 c.b1 Q) : Nat)]) := by
  have g1 := rGood6_1 hH hp c P hPx hPy
  have g2 := rGood6_1 hH hp c Q hQx hQy
  have ne := fun A hA x => i_ne (A := A) hA (x := x) (y := 0)
  have eq := fun A hA x => i_eq (A := A) hA (x := x) (y := 0)
  by_cases h1 : good1 c.b1 P = 0
  · by_cases h2 : good1 c.b1 Q = 0
    · have sm : Sp 97 [Cr6_1 H c, PR6_1 H P, PR6_1 H Q] _ := Spec.args (sumRS (okR6_1 hH hp h1c) (ptOf p P) (ptOf p Q)) ⟨Ctr6_1 H c, good_pt6_1 hH h1, good_pt6_1 hH h2⟩
      rw [h1] at g1
      rw [h2] at g2
      rw [h1, h2]
      have ok := pt_agg (kR6_1 H c) (Cv.sumR (kR6_1 H c).O (ptOf p P) (ptOf p Q))
      show Sp _ _ (.tup [Pt_ (kR6_1 H c) (Cv.sumR (kR6_1 H c).O (ptOf p P) (ptOf p Q)), .s .i64 ((0 : Nat) : Int)])
      obtain ⟨X, Y, t, e⟩ := ok
      rw [e] at sm ⊢
      clear e h1 h2
      refine mk Tryz.func23 rfl rfl L0 R1 (by decide +kernel) fun A S hA hS => ?_
      have e0 : A.cmp .neq ((0 : Nat) : Int) 0 = false := ne A hA _
      have e1 : A.cmp .eql ((0 : Nat) : Int) 0 = true := eq A hA _
      unfold bodyOf Tryz.f23
      cbv
      repeat (first
        | (refine ABr.t (by assumption) ?_; cbv)
        | (refine ABr.f (by assumption) ?_; cbv)
        | (refine ABr.t rfl ?_; cbv)
        | (refine ABr.f rfl ?_; cbv)
        | (refine ACall.mk _ (cf hS g1) ?_; cbv)
        | (refine ACall.mk _ (cf hS g2) ?_; cbv)
        | (refine ACall.mk _ (cf hS sm) ?_; cbv))
    · rw [h1] at g1
      obtain ⟨e, he⟩ : ∃ e, good1 c.b1 Q = e + 1 := ⟨good1 c.b1 Q - 1, by omega⟩
      rw [h1]
      rw [he] at g2 ⊢
      show Sp _ _ (.tup [.agg [.v (.slice none 0 0), .v (.slice none 0 0), .b false], .s .i64 ((e + 1 : Nat) : Int)])
      have h2' : ((e + 1 : Nat) : Int) ≠ 0 := by omega
      generalize ((e + 1 : Nat) : Int) = v at *
      clear h1 h2 he
      refine mk Tryz.func23 rfl rfl L0 R1 (by decide +kernel) fun A S hA hS => ?_
      have e0 : A.cmp .neq v 0 = true := by rw [ne A hA, decide_eq_false h2']; rfl
      have e1 : A.cmp .eql ((0 : Nat) : Int) 0 = true := eq A hA _
      unfold bodyOf Tryz.f23
      cbv
      repeat (first
        | (refine ABr.t (by assumption) ?_; cbv)
        | (refine ABr.f (by assumption) ?_; cbv)
        | (refine ABr.t rfl ?_; cbv)
        | (refine ABr.f rfl ?_; cbv)
        | (refine ACall.mk _ (cf hS g1) ?_; cbv)
        | (refine ACall.mk _ (cf hS g2) ?_; cbv))
  · obtain ⟨e, he⟩ : ∃ e, good1 c.b1 P = e + 1 := ⟨good1 c.b1 P - 1, by omega⟩
    rw [he] at g1 ⊢
    show Sp _ _ (.tup [.agg [.v (.slice none 0 0), .v (.slice none 0 0), .b false], .s .i64 ((e + 1 : Nat) : Int)])
    have h2' : ((e + 1 : Nat) : Int) ≠ 0 := by omega
    generalize ((e + 1 : Nat) : Int) = v at *
    clear h1 he g2
    refine mk Tryz.func23 rfl rfl L0 R1 (by decide +kernel) fun A S hA hS => ?_
    have e0 : A.cmp .neq v 0 = true := by rw [ne A hA, decide_eq_false h2']; rfl
    have e1 : A.cmp .eql v 0 = false := by rw [eq A hA, decide_eq_false h2']
    unfold bodyOf Tryz.f23
    cbv
    repeat (first
      | (refine ABr.t (by assumption) ?_; cbv)
      | (refine ABr.f (by assumption) ?_; cbv)
      | (refine ABr.t rfl ?_; cbv)
      | (refine ABr.f rfl ?_; cbv)
      | (refine ACall.mk _ (cf hS g1) ?_; cbv))
theorem rMul6_1 {H : H5} (hH : H = H5.real) (hp : PrM 384 p) {c : Cu p} (h1c : c.one = fo p 1) (P : PtA) (hPx : P.x < 2 ^ 384) (hPy : P.y < 2 ^ 384) {row : List AVal} {k : Nat} (hrow : IsRow row (H.lim k) 4) :
    Sp 27 [Cr6_1 H c, PR6_1 H P, .lst true 4 row] (.tup [Rp6_1 H c (good1 c.b1 P) (timesPt (Cv.ops1 Cv.inv1) (ptOf p P) k), .s .i64 (good1 c.b1 P : Nat)]) := by
  have g1 := rGood6_1 hH hp c P hPx hPy
  have ne := fun A hA x => i_ne (A := A) hA (x := x) (y := 0)
  by_cases h1 : good1 c.b1 P = 0
  · have sm : Sp 93 [Cr6_1 H c, PR6_1 H P, .lst true 4 row] _ := Spec.args (timesRS (okR6_1 hH hp h1c) (ptOf p P) (H5.hlim hH) hrow) ⟨Ctr6_1 H c, good_pt6_1 hH h1, rfl, rfl⟩
    rw [h1] at g1
    rw [h1]
    show Sp _ _ (.tup [Pt_ (kR6_1 H c) (timesPt (kR6_1 H c).O (ptOf p P) k), .s .i64 ((0 : Nat) : Int)])
    obtain ⟨X, Y, t, e⟩ := pt_agg (kR6_1 H c) (timesPt (kR6_1 H c).O (ptOf p P) k)
    rw [e] at sm ⊢
    clear e h1
    refine mk Tryz.func27 rfl rfl L0 R1 (by decide +kernel) fun A S hA hS => ?_
    have e0 : A.cmp .neq ((0 : Nat) : Int) 0 = false := ne A hA _
    unfold bodyOf Tryz.f27
    cbv
    repeat (first
      | (refine ABr.t (by assumption) ?_; cbv)
      | (refine ABr.f (by assumption) ?_; cbv)
      | (refine ABr.t rfl ?_; cbv)
      | (refine ABr.f rfl ?_; cbv)
      | (refine ACall.mk _ (cf hS g1) ?_; cbv)
      | (refine ACall.mk _ (cf hS sm) ?_; cbv))
  · obtain ⟨e, he⟩ : ∃ e, good1 c.b1 P = e + 1 := ⟨good1 c.b1 P - 1, by omega⟩
    rw [he] at g1 ⊢
    show Sp _ _ (.tup [.agg [.v (.slice none 0 0), .v (.slice none 0 0), .b false], .s .i64 ((e + 1 : Nat) : Int)])
    have h2' : ((e + 1 : Nat) : Int) ≠ 0 := by omega
    generalize ((e + 1 : Nat) : Int) = v at *
    clear h1 he
    refine mk Tryz.func27 rfl rfl L0 R1 (by decide +kernel) fun A S hA hS => ?_
    have e0 : A.cmp .neq v 0 = true := by rw [ne A hA, decide_eq_false h2']; rfl
    unfold bodyOf Tryz.f27
    cbv
    repeat (first
      | (refine ABr.t (by assumption) ?_; cbv)
      | (refine ABr.f (by assumption) ?_; cbv)
      | (refine ABr.t rfl ?_; cbv)
      | (refine ABr.f rfl ?_; cbv)
      | (refine ACall.mk _ (cf hS g1) ?_; cbv))
theorem rGrp6_1 {H : H5} (hH : H = H5.real) (hp : PrM 384 p) {c : Cu p} (h1c : c.one = fo p 1) (P : PtA) (hPx : P.x < 2 ^ 384) (hPy : P.y < 2 ^ 384) :
    Sp 21 [Cr6_1 H c, PR6_1 H P] (.s .i64 (grpE (good1 c.b1 P) (timesPt (Cv.ops1 Cv.inv1) (ptOf p P) c.r) : Nat)) := by
  have g1 := rGood6_1 hH hp c P hPx hPy
  have ne := fun A hA x => i_ne (A := A) hA (x := x) (y := 0)
  by_cases h1 : good1 c.b1 P = 0
  · have sm : Sp 93 [Cr6_1 H c, PR6_1 H P, .lst false 4 (ws4 H.lim c.r)] _ := Spec.args (timesRS (okR6_1 hH hp h1c) (ptOf p P) (H5.hlim hH) (row4u H.lim c.r)) ⟨Ctr6_1 H c, good_pt6_1 hH h1, by cbv⟩
    rw [h1] at g1
    rw [h1]
    change Sp _ _ (Pt_ (kR6_1 H c) (timesPt (Cv.ops1 Cv.inv1) (ptOf p P) c.r)) at sm
    generalize timesPt (Cv.ops1 Cv.inv1) (ptOf p P) c.r = R at *
    obtain _ | ⟨x, y⟩ := R
    · show Sp _ _ (.s .i64 ((0 : Nat) : Int))
      generalize (kR6_1 H c).O.zero = z at *
      refine mk Tryz.func21 rfl rfl L0 R1 (by decide +kernel) fun A S hA hS => ?_
      have e0 : A.cmp .neq ((0 : Nat) : Int) 0 = false := ne A hA _
      have nt := i_not hA (rfl : true = true)
      unfold bodyOf Tryz.f21
      cbv
      repeat (first
        | (refine ABr.t (by assumption) ?_; cbv)
        | (refine ABr.f (by assumption) ?_; cbv)
        | (refine ABr.t rfl ?_; cbv)
        | (refine ABr.f rfl ?_; cbv)
        | (refine ACall.mk _ (cf hS g1) ?_; cbv)
        | (refine ACall.mk _ (cf hS sm) ?_; cbv))
    · show Sp _ _ (.s .i64 ((72 : Nat) : Int))
      refine mk Tryz.func21 rfl rfl L0 R1 (by decide +kernel) fun A S hA hS => ?_
      have e0 : A.cmp .neq ((0 : Nat) : Int) 0 = false := ne A hA _
      have nt := i_not hA (rfl : false = false)
      unfold bodyOf Tryz.f21
      cbv
      repeat (first
        | (refine ABr.t (by assumption) ?_; cbv)
        | (refine ABr.f (by assumption) ?_; cbv)
        | (refine ABr.t rfl ?_; cbv)
        | (refine ABr.f rfl ?_; cbv)
        | (refine ACall.mk _ (cf hS g1) ?_; cbv)
        | (refine ACall.mk _ (cf hS sm) ?_; cbv))
  · obtain ⟨e, he⟩ : ∃ e, good1 c.b1 P = e + 1 := ⟨good1 c.b1 P - 1, by omega⟩
    rw [he] at g1 ⊢
    show Sp _ _ (.s .i64 ((e + 1 : Nat) : Int))
    have h2' : ((e + 1 : Nat) : Int) ≠ 0 := by omega
    generalize ((e + 1 : Nat) : Int) = v at *
    clear h1 he
    refine mk Tryz.func21 rfl rfl L0 R1 (by decide +kernel) fun A S hA hS => ?_
    have e0 : A.cmp .neq v 0 = true := by rw [ne A hA, decide_eq_false h2']; rfl
    unfold bodyOf Tryz.f21
    cbv
    repeat (first
      | (refine ABr.t (by assumption) ?_; cbv)
      | (refine ABr.f (by assumption) ?_; cbv)
      | (refine ABr.t rfl ?_; cbv)
      | (refine ABr.f rfl ?_; cbv)
      | (refine ACall.mk _ (cf hS g1) ?_; cbv))
end
end Go.Proofs.YtmholgclgamnnaaGreat
end
section
set_option linter.unusedVariables false
set_option linter.unusedSectionVars false
set_option linter.unusedSimpArgs false
namespace Go.Proofs.YtmholgclgamnnaaGreat
open Go Eng
set_option maxRecDepth 100000
set_option exponentiation.threshold 2000
set_option maxHeartbeats 4000000
theorem ref6_1 {H : H5} (hH : H = H5.real) (x0 x1 y0 y1 : Nat) (inf : Bool) : Sp 16 [PLv H x0 x1 y0 y1 inf, .i .i64 6, .i .i64 1] (PR6_1 H ⟨x0 % 2 ^ (64 * 6), y0 % 2 ^ (64 * 6), inf⟩) := by
  have cx0 := cutS6 (H := H) x0
  have cy0 := cutS6 (H := H) y0
  have rx0 := fun i hi => lim_red hH x0 6 i hi
  have ry0 := fun i hi => lim_red hH y0 6 i hi
  generalize x0 % 2 ^ (64 * 6) = mx0 at *
  generalize y0 % 2 ^ (64 * 6) = my0 at *
  refine mk Tryz.func16 rfl rfl L0 RRef (by decide +kernel) fun A S hA hS => ?_
  unfold bodyOf Tryz.f16
  cbv
  refine ACall.mk _ (cf hS cx0) ?_
  cbv
  refine ACall.mk _ (cf hS cy0) ?_
  cbv
  repeat' (first | exact (rx0 _ (by decide)).symm | exact (ry0 _ (by decide)).symm | exact trivial | constructor)
theorem to6_1 {H : H5} (hH : H = H5.real) (x0 x1 y0 y1 : Nat) (inf : Bool) : Sp 15 [PLv H x0 x1 y0 y1 inf] (P1_6 H ⟨x0 % 2 ^ (64 * 6), y0 % 2 ^ (64 * 6), inf⟩) := by
  have rx0 := fun i hi => lim_red hH x0 6 i hi
  have ry0 := fun i hi => lim_red hH y0 6 i hi
  generalize x0 % 2 ^ (64 * 6) = mx0 at *
  generalize y0 % 2 ^ (64 * 6) = my0 at *
  refine mk Tryz.func15 rfl rfl L0 RTo (by decide +kernel) fun A S hA hS => ?_
  unfold bodyOf Tryz.f15
  cbv
  exact ⟨(rx0 0 (by decide)).symm, (rx0 1 (by decide)).symm, (rx0 2 (by decide)).symm, (rx0 3 (by decide)).symm, (rx0 4 (by decide)).symm, (rx0 5 (by decide)).symm, (ry0 0 (by decide)).symm, (ry0 1 (by decide)).symm, (ry0 2 (by decide)).symm, (ry0 3 (by decide)).symm, (ry0 4 (by decide)).symm, (ry0 5 (by decide)).symm, trivial⟩
end Go.Proofs.YtmholgclgamnnaaGreat
end
section
set_option linter.unusedVariables false
set_option linter.unusedSectionVars false
set_option linter.unusedSimpArgs false
namespace Go.Proofs.YtmholgclgamnnaaGreat
open Go Eng
set_option maxRecDepth 100000
set_option exponentiation.threshold 2000
set_option maxHeartbeats 4000000
section
variable {p : Nat} [NeZero p]
theorem of_lt6_1 (hp : PrM 384 p) (Q : Cv.Pt (Fin p)) : (ofPt Q).x < 2 ^ 384 ∧ (ofPt Q).y < 2 ^ 384 := by
  obtain _ | ⟨x, y⟩ := Q
  · exact ⟨Nat.two_pow_pos _, Nat.two_pow_pos _⟩
  · exact ⟨Nat.lt_trans x.isLt hp.lt, Nat.lt_trans y.isLt hp.lt⟩
theorem pt_sim6_1 {H : H5} (hH : H = H5.real) (c : Cu p) (Q : Cv.Pt (Fin p)) : Sim (Pt_ (kR6_1 H c) Q) (PR6_1 H (ofPt Q)) := by
  obtain _ | ⟨x, y⟩ := Q
  · show Sim (.agg [.lst true 1 [.lst false 6 (ws6 H.lim (0 : Fin p).val)], .lst true 1 [.lst false 6 (ws6 H.lim (0 : Fin p).val)], .sb true]) _
    rw [Cv.val_zero]
    cbv
  · cbv
theorem ansS6_1 {H : H5} (hH : H = H5.real) (hp : PrM 384 p) (c : Cu p) (e : Nat) (Q : Cv.Pt (Fin p)) : Sp 24 [PLv H (resA e Q).x 0 (resA e Q).y 0 (resA e Q).inf, .s .i64 (e : Nat), Rp6_1 H c e Q, .s .i64 (e : Nat)] (.sb true) := by
  cases e with
  | zero =>
    have h := of_lt6_1 hp Q
    have ho : Sp 45 [Pt_ (kR6_1 H c) Q] _ := Spec.args (of6_1 hH (ofPt Q) h.1 h.2) (pt_sim6_1 hH c Q)
    show Sp _ [PLv H (ofPt Q).x 0 (ofPt Q).y 0 (ofPt Q).inf, .s .i64 ((0 : Nat) : Int), Pt_ (kR6_1 H c) Q, .s .i64 ((0 : Nat) : Int)] _
    obtain ⟨X, Y, t, e⟩ := pt_agg (kR6_1 H c) Q
    rw [e] at ho ⊢
    exact ans0S _ _ _ _ _ ho
  | succ e => exact ans1S hH e
end
end Go.Proofs.YtmholgclgamnnaaGreat
end
section
set_option linter.unusedVariables false
set_option linter.unusedSectionVars false
set_option linter.unusedSimpArgs false
namespace Go.Proofs.YtmholgclgamnnaaGreat
open Go Eng
set_option maxRecDepth 100000
set_option exponentiation.threshold 2000
set_option maxHeartbeats 4000000
theorem Rp_or6_1 {p : Nat} [NeZero p] (H : H5) (c : Cu p) (e : Nat) (Q : Cv.Pt (Fin p)) : (∃ X Y t, Rp6_1 H c e Q = .agg [.lst true 1 X, .lst true 1 Y, .sb t]) ∨ Rp6_1 H c e Q = .agg [.v (.slice none 0 0), .v (.slice none 0 0), .b false] := by
  cases e with
  | zero => obtain ⟨X, Y, t, h⟩ := pt_agg (kR6_1 H c) Q; exact .inl ⟨_, _, _, h⟩
  | succ e => exact .inr rfl
end Go.Proofs.YtmholgclgamnnaaGreat
end
section
set_option linter.unusedVariables false
set_option linter.unusedSectionVars false
set_option linter.unusedSimpArgs false
namespace Go.Proofs.YtmholgclgamnnaaGreat
open Go Eng
set_option maxRecDepth 100000
set_option exponentiation.threshold 2000
set_option maxHeartbeats 4000000
theorem lw_bls1 {H : H5} (hH : H = H5.real) (x0 x1 y0 y1 : Nat) (i : Bool) (u0 u1 v0 v1 : Nat) (j : Bool) (k : Nat) (hk : k < 2 ^ 256) :
    Sp 3 [PLv H x0 x1 y0 y1 i, PLv H u0 u1 v0 v1 j, u4 H.lim k] (.sb true) := by
  obtain ⟨c, hc⟩ : ∃ c, c = blsC := ⟨_, rfl⟩
  have h1c : c.one = fo blsP 1 := by rw [hc]; rfl
  have hr : c.r < 2 ^ 256 := by rw [hc]; decide
  have sh := shortS hH k hk
  have hk' : short_ k < 2 ^ 256 := by unfold short_; split; exact hk; exact Nat.lt_of_le_of_lt (Nat.mod_le _ _) hk
  generalize short_ k = k' at *
  have tP := to6_1 hH x0 x1 y0 y1 i
  have rP := ref6_1 hH x0 x1 y0 y1 i
  have tQ := to6_1 hH u0 u1 v0 v1 j
  have rQ := ref6_1 hH u0 u1 v0 v1 j
  obtain ⟨P, hP⟩ : ∃ P : PtA, P = ⟨x0 % 2 ^ (64 * 6), y0 % 2 ^ (64 * 6), i⟩ := ⟨_, rfl⟩
  obtain ⟨Q, hQ⟩ : ∃ P : PtA, P = ⟨u0 % 2 ^ (64 * 6), v0 % 2 ^ (64 * 6), j⟩ := ⟨_, rfl⟩
  rw [← hP] at tP rP
  rw [← hQ] at tQ rQ
  have hPx : P.x < 2 ^ 384 := by rw [hP]; exact Nat.mod_lt _ (Nat.two_pow_pos _)
  have hPy : P.y < 2 ^ 384 := by rw [hP]; exact Nat.mod_lt _ (Nat.two_pow_pos _)
  have hQx : Q.x < 2 ^ 384 := by rw [hQ]; exact Nat.mod_lt _ (Nat.two_pow_pos _)
  have hQy : Q.y < 2 ^ 384 := by rw [hQ]; exact Nat.mod_lt _ (Nat.two_pow_pos _)
  clear hP hQ
  have aw := awakeS
  have cB := BlsS hH hc
  have rB := rBls1S hH hc
  have cG := good1S6 hH blsPr c P hPx hPy
  have rG := rGood6_1 hH blsPr c P hPx hPy
  have cR := grpS1_6 hH blsPr h1c hr P hPx hPy
  rw [grpP_eq blsPr] at cR
  have rR := rGrp6_1 hH blsPr h1c P hPx hPy
  generalize grpE (good1 c.b1 P) (timesPt (Cv.ops1 Cv.inv1) (ptOf blsP P) c.r) = gr at *
  have cA := addS1_6 hH blsPr h1c P Q hPx hPy hQx hQy
  rw [addP_eq] at cA
  have rA := rAdd6_1 hH blsPr h1c P Q hPx hPy hQx hQy
  have cM := mulS1_6 hH blsPr h1c P hPx hPy k' hk'
  rw [mulP_eq blsPr] at cM
  have rM := rMul6_1 hH blsPr h1c P hPx hPy (row4u H.lim k')
  generalize addE (good1 c.b1 P) (good1 c.b1 Q) = eA at *
  generalize good1 c.b1 P = eP at *
  generalize Cv.sumR (Cv.ops1 Cv.inv1) (ptOf blsP P) (ptOf blsP Q) = sA at *
  generalize timesPt (Cv.ops1 Cv.inv1) (ptOf blsP P) k' = sM at *
  have aA := ansS6_1 hH blsPr c eA sA
  have lA := res_lt1 blsPr eA sA
  have fA := from6_1 (H := H) hH (resA eA sA) lA.1 lA.2
  dsimp only at cA
  generalize resA eA sA = pA at *
  clear lA
  have aM := ansS6_1 hH blsPr c eP sM
  have lM := res_lt1 blsPr eP sM
  have fM := from6_1 (H := H) hH (resA eP sM) lM.1 lM.2
  dsimp only at cM
  generalize resA eP sM = pM at *
  clear lM
  have hM := Rp_or6_1 H c eP sM
  generalize Rp6_1 H c eP sM = wM at *
  have hA := Rp_or6_1 H c eA sA
  generalize Rp6_1 H c eA sA = wA at *
  clear hc h1c hr hk hk' hPx hPy hQx hQy
  have key : ∀ A : Ar, A = Ar.real → A.cmp .eql (A.bin .rem .u64 (H.lim k' 0) 8) 0 = Ar.real.cmp .eql (Ar.real.bin .rem .u64 (H.lim k' 0) 8) 0 := fun A hA => by rw [hA]
  generalize Ar.real.cmp .eql (Ar.real.bin .rem .u64 (H.lim k' 0) 8) 0 = t at *
  obtain ⟨XA, YA, TA, rfl⟩ | rfl := hA <;> obtain ⟨XM, YM, TM, rfl⟩ | rfl := hM <;> cases t
  all_goals
    refine mk Tryz.func3 rfl rfl L0 RLw4 (by decide +kernel) fun A S hA hS => ?_
    have e8 := key A hA
    have eG : A.cmp .neq (eP : Int) (eP : Int) = false := by rw [i_ne hA]; exact congrArg not (decide_eq_true rfl)
    have en : A.not true = false := i_not hA (rfl : true = true)
    have eR : A.cmp .neq (gr : Int) (gr : Int) = false := by rw [i_ne hA]; exact congrArg not (decide_eq_true rfl)
    unfold bodyOf Tryz.f3
    cbv
    repeat (first
      | (refine ABr.t (by assumption) ?_; cbv)
      | (refine ABr.f (by assumption) ?_; cbv)
      | (refine ABr.t rfl ?_; cbv)
      | (refine ABr.f rfl ?_; cbv)
      | (refine ACall.mk _ (cf hS aw) ?_; cbv)
      | (refine ACall.mk _ (cf hS cB) ?_; cbv)
      | (refine ACall.mk _ (cf hS rB) ?_; cbv)
      | (refine ACall.mk _ (cf hS sh) ?_; cbv)
      | (refine ACall.mk _ (cf hS tP) ?_; cbv)
      | (refine ACall.mk _ (cf hS rP) ?_; cbv)
      | (refine ACall.mk _ (cf hS tQ) ?_; cbv)
      | (refine ACall.mk _ (cf hS rQ) ?_; cbv)
      | (refine ACall.mk _ (cf hS cG) ?_; cbv)
      | (refine ACall.mk _ (cf hS rG) ?_; cbv)
      | (refine ACall.mk _ (cf hS cR) ?_; cbv)
      | (refine ACall.mk _ (cf hS rR) ?_; cbv)
      | (refine ACall.mk _ (cf hS cA) ?_; cbv)
      | (refine ACall.mk _ (cf hS rA) ?_; cbv)
      | (refine ACall.mk _ (cf hS fA) ?_; cbv)
      | (refine ACall.mk _ (cf hS aA) ?_; cbv)
      | (refine ACall.mk _ (cf hS cM) ?_; cbv)
      | (refine ACall.mk _ (cg hS rM ?_) ?_; (focus (cbv; done)); cbv)
      | (refine ACall.mk _ (cf hS fM) ?_; cbv)
      | (refine ACall.mk _ (cf hS aM) ?_; cbv))
    done
end Go.Proofs.YtmholgclgamnnaaGreat
end
