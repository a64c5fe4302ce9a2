import Derived.Test.YtmholgclgamnnaaGreatQYCS
import Derived.Test.YtmholgclgamnnaaGreatQYD
import Derived.Test.YtmholgclgamnnaaGreatQYyXCWritesyCP
section
set_option linter.unusedVariables false
set_option linter.unusedSectionVars false
set_option linter.unusedSimpArgs false
namespace Go.Proofs.YtmholgclgamnnaaGreat
open Go Eng
set_option maxRecDepth 100000
set_option exponentiation.threshold 2000
set_option maxHeartbeats 4000000
def RGood : Nat → Md := fun r => match r with | 0 => .all | 1 => .owl [7, 10] | _ => .mid
section
variable {p : Nat} [NeZero p]
/-- A point by its numbers, whatever they are. -/
def PR4_1 (H : H5) (P : PtA) : AVal := .agg [.lst false 1 [.lst false 4 (ws4 H.lim P.x)], .lst false 1 [.lst false 4 (ws4 H.lim P.y)], .sb P.inf]
/-- A point by its numbers, whatever they are. -/
def PR4_2 (H : H5) (P : PtB) : AVal := .agg [.lst false 2 [.lst false 4 (ws4 H.lim P.xa), .lst false 4 (ws4 H.lim P.xb)], .lst false 2 [.lst false 4 (ws4 H.lim P.ya), .lst false 4 (ws4 H.lim P.yb)], .sb P.inf]
/-- A point by its numbers, whatever they are. -/
def PR6_1 (H : H5) (P : PtA) : AVal := .agg [.lst false 1 [.lst false 6 (ws6 H.lim P.x)], .lst false 1 [.lst false 6 (ws6 H.lim P.y)], .sb P.inf]
theorem rGood6_1 {H : H5} (hH : H = H5.real) (hp : PrM 384 p) (c : Cu p) (P : PtA) (hx : P.x < 2 ^ 384) (hy : P.y < 2 ^ 384) : Sp 19 [Cr6_1 H c, PR6_1 H P] (.s .i64 (good1 c.b1 P : Nat)) := by
  obtain ⟨x, y, inf⟩ := P
  dsimp only at hx hy
  have pp := hp.pos
  have lx := fun t ht => rLess6 (H5.hlim hH) x p hx hp.lt t ht
  have zx := rZeroS6 hH x hx
  have ly := fun t ht => rLess6 (H5.hlim hH) y p hy hp.lt t ht
  have zy := rZeroS6 hH y hy
  cases inf
  · by_cases qx : x < p
    · by_cases qy : y < p
      · rw [show good1 c.b1 ⟨x, y, false⟩ = (if _ then 0 else 71) from by unfold good1; rw [if_neg (by simp), if_pos ⟨qx, qy⟩]]
        have lx := lx true (decide_eq_true qx).symm
        have ly := ly true (decide_eq_true qy).symm
        clear zx zy
        obtain ⟨u0, rfl⟩ : ∃ u : Fin p, x = u.val := ⟨⟨x, qx⟩, rfl⟩
        obtain ⟨u1, rfl⟩ : ∃ u : Fin p, y = u.val := ⟨⟨y, qy⟩, rfl⟩
        simp only [fo_val]
        have m1 := mulR6_1 hH hp c u1 u1
        have m2 := mulR6_1 hH hp c u0 u0
        have m3 := mulR6_1 hH hp c (u0 * u0) u0
        have a4 := addR6_1 hH hp c (u0 * u0 * u0) c.b1
        have sm := sameR6_1 hH hp (u1 * u1) (u0 * u0 * u0 + c.b1)
        generalize hyy : u1 * u1 = yy at *
        generalize hs : u0 * u0 * u0 + c.b1 = s at *
        generalize hx3 : u0 * u0 * u0 = x3 at *
        generalize hx2 : u0 * u0 = x2 at *
        clear hyy hs hx3 hx2
        by_cases he : yy = s
        · rw [if_pos he]
          rw [decide_eq_true he] at sm
          refine mk Tryz.func19 rfl rfl L0 RGood (by decide +kernel) fun A S hA hS => ?_
          have nt := i_not hA (rfl : true = true)
          have nf := i_not hA (rfl : false = false)
          unfold bodyOf Tryz.f19
          cbv
          repeat (first
            | (refine ABr.t (by assumption) ?_; cbv)
            | (refine ABr.f (by assumption) ?_; cbv)
            | (refine ABr.t rfl ?_; cbv)
            | (refine ABr.f rfl ?_; cbv)
            | (refine ACall.mk _ (cf hS lx) ?_; cbv)
            | (refine ACall.mk _ (cf hS ly) ?_; cbv)
            | (refine ACall.mk _ (cf hS m1) ?_; cbv)
            | (refine ACall.mk _ (cf hS m2) ?_; cbv)
            | (refine ACall.mk _ (cf hS m3) ?_; cbv)
            | (refine ACall.mk _ (cf hS a4) ?_; cbv)
            | (refine ACall.mk _ (cf hS sm) ?_; cbv))
        · rw [if_neg he]
          rw [decide_eq_false he] at sm
          refine mk Tryz.func19 rfl rfl L0 RGood (by decide +kernel) fun A S hA hS => ?_
          have nt := i_not hA (rfl : true = true)
          have nf := i_not hA (rfl : false = false)
          unfold bodyOf Tryz.f19
          cbv
          repeat (first
            | (refine ABr.t (by assumption) ?_; cbv)
            | (refine ABr.f (by assumption) ?_; cbv)
            | (refine ABr.t rfl ?_; cbv)
            | (refine ABr.f rfl ?_; cbv)
            | (refine ACall.mk _ (cf hS lx) ?_; cbv)
            | (refine ACall.mk _ (cf hS ly) ?_; cbv)
            | (refine ACall.mk _ (cf hS m1) ?_; cbv)
            | (refine ACall.mk _ (cf hS m2) ?_; cbv)
            | (refine ACall.mk _ (cf hS m3) ?_; cbv)
            | (refine ACall.mk _ (cf hS a4) ?_; cbv)
            | (refine ACall.mk _ (cf hS sm) ?_; cbv))
      · rw [show good1 c.b1 ⟨x, y, false⟩ = 70 from by unfold good1; rw [if_neg (by simp), if_neg (by dsimp only; omega)]]
        have lx := lx true (decide_eq_true qx).symm
        have ly := ly false (decide_eq_false qy).symm
        refine mk Tryz.func19 rfl rfl L0 RGood (by decide +kernel) fun A S hA hS => ?_
        have nt := i_not hA (rfl : true = true)
        have nf := i_not hA (rfl : false = false)
        unfold bodyOf Tryz.f19
        cbv
        repeat (first
          | (refine ABr.t (by assumption) ?_; cbv)
          | (refine ABr.f (by assumption) ?_; cbv)
          | (refine ABr.t rfl ?_; cbv)
          | (refine ABr.f rfl ?_; cbv)
          | (refine ACall.mk _ (cf hS lx) ?_; cbv)
          | (refine ACall.mk _ (cf hS ly) ?_; cbv))
    · rw [show good1 c.b1 ⟨x, y, false⟩ = 70 from by unfold good1; rw [if_neg (by simp), if_neg (by dsimp only; omega)]]
      have lx := lx false (decide_eq_false qx).symm
      refine mk Tryz.func19 rfl rfl L0 RGood (by decide +kernel) fun A S hA hS => ?_
      have nt := i_not hA (rfl : true = true)
      have nf := i_not hA (rfl : false = false)
      unfold bodyOf Tryz.f19
      cbv
      repeat (first
        | (refine ABr.t (by assumption) ?_; cbv)
        | (refine ABr.f (by assumption) ?_; cbv)
        | (refine ABr.t rfl ?_; cbv)
        | (refine ABr.f rfl ?_; cbv)
        | (refine ACall.mk _ (cf hS lx) ?_; cbv))
  · by_cases qx : x < p
    · by_cases wx : x = 0
      · by_cases qy : y < p
        · by_cases wy : y = 0
          · rw [show good1 c.b1 ⟨x, y, true⟩ = 0 from by unfold good1; rw [if_pos rfl, if_pos (by dsimp only; omega)]]
            have lx := lx true (decide_eq_true qx).symm
            rw [decide_eq_true wx] at zx
            have ly := ly true (decide_eq_true qy).symm
            rw [decide_eq_true wy] at zy
            refine mk Tryz.func19 rfl rfl L0 RGood (by decide +kernel) fun A S hA hS => ?_
            have nt := i_not hA (rfl : true = true)
            have nf := i_not hA (rfl : false = false)
            unfold bodyOf Tryz.f19
            cbv
            repeat (first
              | (refine ABr.t (by assumption) ?_; cbv)
              | (refine ABr.f (by assumption) ?_; cbv)
              | (refine ABr.t rfl ?_; cbv)
              | (refine ABr.f rfl ?_; cbv)
              | (refine ACall.mk _ (cf hS lx) ?_; cbv)
              | (refine ACall.mk _ (cf hS ly) ?_; cbv)
              | (refine ACall.mk _ (cf hS zx) ?_; cbv)
              | (refine ACall.mk _ (cf hS zy) ?_; cbv))
          · rw [show good1 c.b1 ⟨x, y, true⟩ = 70 from by unfold good1; rw [if_pos rfl, if_neg (by dsimp only; omega)]]
            have lx := lx true (decide_eq_true qx).symm
            rw [decide_eq_true wx] at zx
            have ly := ly true (decide_eq_true qy).symm
            rw [decide_eq_false wy] at zy
            refine mk Tryz.func19 rfl rfl L0 RGood (by decide +kernel) fun A S hA hS => ?_
            have nt := i_not hA (rfl : true = true)
            have nf := i_not hA (rfl : false = false)
            unfold bodyOf Tryz.f19
            cbv
            repeat (first
              | (refine ABr.t (by assumption) ?_; cbv)
              | (refine ABr.f (by assumption) ?_; cbv)
              | (refine ABr.t rfl ?_; cbv)
              | (refine ABr.f rfl ?_; cbv)
              | (refine ACall.mk _ (cf hS lx) ?_; cbv)
              | (refine ACall.mk _ (cf hS ly) ?_; cbv)
              | (refine ACall.mk _ (cf hS zx) ?_; cbv)
              | (refine ACall.mk _ (cf hS zy) ?_; cbv))
        · rw [show good1 c.b1 ⟨x, y, true⟩ = 70 from by unfold good1; rw [if_pos rfl, if_neg (by dsimp only; omega)]]
          have lx := lx true (decide_eq_true qx).symm
          rw [decide_eq_true wx] at zx
          have ly := ly false (decide_eq_false qy).symm
          refine mk Tryz.func19 rfl rfl L0 RGood (by decide +kernel) fun A S hA hS => ?_
          have nt := i_not hA (rfl : true = true)
          have nf := i_not hA (rfl : false = false)
          unfold bodyOf Tryz.f19
          cbv
          repeat (first
            | (refine ABr.t (by assumption) ?_; cbv)
            | (refine ABr.f (by assumption) ?_; cbv)
            | (refine ABr.t rfl ?_; cbv)
            | (refine ABr.f rfl ?_; cbv)
            | (refine ACall.mk _ (cf hS lx) ?_; cbv)
            | (refine ACall.mk _ (cf hS ly) ?_; cbv)
            | (refine ACall.mk _ (cf hS zx) ?_; cbv))
      · rw [show good1 c.b1 ⟨x, y, true⟩ = 70 from by unfold good1; rw [if_pos rfl, if_neg (by dsimp only; omega)]]
        have lx := lx true (decide_eq_true qx).symm
        rw [decide_eq_false wx] at zx
        refine mk Tryz.func19 rfl rfl L0 RGood (by decide +kernel) fun A S hA hS => ?_
        have nt := i_not hA (rfl : true = true)
        have nf := i_not hA (rfl : false = false)
        unfold bodyOf Tryz.f19
        cbv
        repeat (first
          | (refine ABr.t (by assumption) ?_; cbv)
          | (refine ABr.f (by assumption) ?_; cbv)
          | (refine ABr.t rfl ?_; cbv)
          | (refine ABr.f rfl ?_; cbv)
          | (refine ACall.mk _ (cf hS lx) ?_; cbv)
          | (refine ACall.mk _ (cf hS zx) ?_; cbv))
    · rw [show good1 c.b1 ⟨x, y, true⟩ = 70 from by unfold good1; rw [if_pos rfl, if_neg (by dsimp only; omega)]]
      have lx := lx false (decide_eq_false qx).symm
      refine mk Tryz.func19 rfl rfl L0 RGood (by decide +kernel) fun A S hA hS => ?_
      have nt := i_not hA (rfl : true = true)
      have nf := i_not hA (rfl : false = false)
      unfold bodyOf Tryz.f19
      cbv
      repeat (first
        | (refine ABr.t (by assumption) ?_; cbv)
        | (refine ABr.f (by assumption) ?_; cbv)
        | (refine ABr.t rfl ?_; cbv)
        | (refine ABr.f rfl ?_; cbv)
        | (refine ACall.mk _ (cf hS lx) ?_; cbv))
end
end Go.Proofs.YtmholgclgamnnaaGreat
end
section
set_option linter.unusedVariables false
set_option linter.unusedSectionVars false
set_option linter.unusedSimpArgs false
namespace Go.Proofs.YtmholgclgamnnaaGreat
open Go Eng
set_option maxRecDepth 100000
set_option exponentiation.threshold 2000
set_option maxHeartbeats 4000000
/-- The words that a plain point holds. -/
def PLv (H : H5) (x0 x1 y0 y1 : Nat) (inf : Bool) : AVal := .agg [.s .u64 (H.lim x0 0), .s .u64 (H.lim x0 1), .s .u64 (H.lim x0 2), .s .u64 (H.lim x0 3), .s .u64 (H.lim x0 4), .s .u64 (H.lim x0 5), .s .u64 (H.lim x1 0), .s .u64 (H.lim x1 1), .s .u64 (H.lim x1 2), .s .u64 (H.lim x1 3), .s .u64 (H.lim x1 4), .s .u64 (H.lim x1 5), .s .u64 (H.lim y0 0), .s .u64 (H.lim y0 1), .s .u64 (H.lim y0 2), .s .u64 (H.lim y0 3), .s .u64 (H.lim y0 4), .s .u64 (H.lim y0 5), .s .u64 (H.lim y1 0), .s .u64 (H.lim y1 1), .s .u64 (H.lim y1 2), .s .u64 (H.lim y1 3), .s .u64 (H.lim y1 4), .s .u64 (H.lim y1 5), .sb inf]
theorem lim_red {H : H5} (hH : H = H5.real) (x n i : Nat) (hi : i < n) : H.lim (x % 2 ^ (64 * n)) i = H.lim x i := by
  rw [hH]
  show ((x % 2 ^ (64 * n) / 2 ^ (64 * i) % 2 ^ 64 : Nat) : Int) = ((x / 2 ^ (64 * i) % 2 ^ 64 : Nat) : Int)
  congr 1
  rw [show 64 * n = 64 * i + (64 + 64 * (n - 1 - i)) by omega, Nat.pow_add, Nat.mod_mul_right_div_self, Nat.pow_add, Nat.mod_mul_right_mod]
def RTo : Nat → Md := fun _ => .own
def RRef : Nat → Md := fun r => match r with | 2 => .all | 3 => .all | _ => .mid
theorem cutS4 {H : H5} (a : Nat) : Sp 81 [u6 H.lim a, .i .i64 4] (.new false 4 1 [.s .u64 (H.lim a 0), .s .u64 (H.lim a 1), .s .u64 (H.lim a 2), .s .u64 (H.lim a 3)]) := by
  refine mk Tryz.func81 rfl rfl L0 R0 (by decide +kernel) fun A S hA hS => ?_
  unfold bodyOf Tryz.f81
  cbv
theorem cutS6 {H : H5} (a : Nat) : Sp 81 [u6 H.lim a, .i .i64 6] (.new false 6 1 [.s .u64 (H.lim a 0), .s .u64 (H.lim a 1), .s .u64 (H.lim a 2), .s .u64 (H.lim a 3), .s .u64 (H.lim a 4), .s .u64 (H.lim a 5)]) := by
  refine mk Tryz.func81 rfl rfl L0 R0 (by decide +kernel) fun A S hA hS => ?_
  unfold bodyOf Tryz.f81
  cbv
theorem ref4_1 {H : H5} (hH : H = H5.real) (x0 x1 y0 y1 : Nat) (inf : Bool) : Sp 16 [PLv H x0 x1 y0 y1 inf, .i .i64 4, .i .i64 1] (PR4_1 H ⟨x0 % 2 ^ (64 * 4), y0 % 2 ^ (64 * 4), inf⟩) := by
  have cx0 := cutS4 (H := H) x0
  have cy0 := cutS4 (H := H) y0
  have rx0 := fun i hi => lim_red hH x0 4 i hi
  have ry0 := fun i hi => lim_red hH y0 4 i hi
  generalize x0 % 2 ^ (64 * 4) = mx0 at *
  generalize y0 % 2 ^ (64 * 4) = my0 at *
  refine mk Tryz.func16 rfl rfl L0 RRef (by decide +kernel) fun A S hA hS => ?_
  unfold bodyOf Tryz.f16
  cbv
  refine ACall.mk _ (cf hS cx0) ?_
  cbv
  refine ACall.mk _ (cf hS cy0) ?_
  cbv
  repeat' (first | exact (rx0 _ (by decide)).symm | exact (ry0 _ (by decide)).symm | exact trivial | constructor)
theorem to4_1 {H : H5} (hH : H = H5.real) (x0 x1 y0 y1 : Nat) (inf : Bool) : Sp 30 [PLv H x0 x1 y0 y1 inf] (P1_4 H ⟨x0 % 2 ^ (64 * 4), y0 % 2 ^ (64 * 4), inf⟩) := by
  have rx0 := fun i hi => lim_red hH x0 4 i hi
  have ry0 := fun i hi => lim_red hH y0 4 i hi
  generalize x0 % 2 ^ (64 * 4) = mx0 at *
  generalize y0 % 2 ^ (64 * 4) = my0 at *
  refine mk Tryz.func30 rfl rfl L0 RTo (by decide +kernel) fun A S hA hS => ?_
  unfold bodyOf Tryz.f30
  cbv
  exact ⟨(rx0 0 (by decide)).symm, (rx0 1 (by decide)).symm, (rx0 2 (by decide)).symm, (rx0 3 (by decide)).symm, (ry0 0 (by decide)).symm, (ry0 1 (by decide)).symm, (ry0 2 (by decide)).symm, (ry0 3 (by decide)).symm, trivial⟩
theorem ref4_2 {H : H5} (hH : H = H5.real) (x0 x1 y0 y1 : Nat) (inf : Bool) : Sp 16 [PLv H x0 x1 y0 y1 inf, .i .i64 4, .i .i64 2] (PR4_2 H ⟨x0 % 2 ^ (64 * 4), x1 % 2 ^ (64 * 4), y0 % 2 ^ (64 * 4), y1 % 2 ^ (64 * 4), inf⟩) := by
  have cx0 := cutS4 (H := H) x0
  have cx1 := cutS4 (H := H) x1
  have cy0 := cutS4 (H := H) y0
  have cy1 := cutS4 (H := H) y1
  have rx0 := fun i hi => lim_red hH x0 4 i hi
  have rx1 := fun i hi => lim_red hH x1 4 i hi
  have ry0 := fun i hi => lim_red hH y0 4 i hi
  have ry1 := fun i hi => lim_red hH y1 4 i hi
  generalize x0 % 2 ^ (64 * 4) = mx0 at *
  generalize x1 % 2 ^ (64 * 4) = mx1 at *
  generalize y0 % 2 ^ (64 * 4) = my0 at *
  generalize y1 % 2 ^ (64 * 4) = my1 at *
  refine mk Tryz.func16 rfl rfl L0 RRef (by decide +kernel) fun A S hA hS => ?_
  unfold bodyOf Tryz.f16
  cbv
  refine ACall.mk _ (cf hS cx0) ?_
  cbv
  refine ACall.mk _ (cf hS cx1) ?_
  cbv
  refine ACall.mk _ (cf hS cy0) ?_
  cbv
  refine ACall.mk _ (cf hS cy1) ?_
  cbv
  repeat' (first | exact (rx0 _ (by decide)).symm | exact (rx1 _ (by decide)).symm | exact (ry0 _ (by decide)).symm | exact (ry1 _ (by decide)).symm | exact trivial | constructor)
theorem to4_2 {H : H5} (hH : H = H5.real) (x0 x1 y0 y1 : Nat) (inf : Bool) : Sp 58 [PLv H x0 x1 y0 y1 inf] (P2_4 H ⟨x0 % 2 ^ (64 * 4), x1 % 2 ^ (64 * 4), y0 % 2 ^ (64 * 4), y1 % 2 ^ (64 * 4), inf⟩) := by
  have rx0 := fun i hi => lim_red hH x0 4 i hi
  have rx1 := fun i hi => lim_red hH x1 4 i hi
  have ry0 := fun i hi => lim_red hH y0 4 i hi
  have ry1 := fun i hi => lim_red hH y1 4 i hi
  generalize x0 % 2 ^ (64 * 4) = mx0 at *
  generalize x1 % 2 ^ (64 * 4) = mx1 at *
  generalize y0 % 2 ^ (64 * 4) = my0 at *
  generalize y1 % 2 ^ (64 * 4) = my1 at *
  refine mk Tryz.func58 rfl rfl L0 RTo (by decide +kernel) fun A S hA hS => ?_
  unfold bodyOf Tryz.f58
  cbv
  exact ⟨(rx0 0 (by decide)).symm, (rx0 1 (by decide)).symm, (rx0 2 (by decide)).symm, (rx0 3 (by decide)).symm, (rx1 0 (by decide)).symm, (rx1 1 (by decide)).symm, (rx1 2 (by decide)).symm, (rx1 3 (by decide)).symm, (ry0 0 (by decide)).symm, (ry0 1 (by decide)).symm, (ry0 2 (by decide)).symm, (ry0 3 (by decide)).symm, (ry1 0 (by decide)).symm, (ry1 1 (by decide)).symm, (ry1 2 (by decide)).symm, (ry1 3 (by decide)).symm, trivial⟩
theorem ref6_1 {H : H5} (hH : H = H5.real) (x0 x1 y0 y1 : Nat) (inf : Bool) : Sp 16 [PLv H x0 x1 y0 y1 inf, .i .i64 6, .i .i64 1] (PR6_1 H ⟨x0 % 2 ^ (64 * 6), y0 % 2 ^ (64 * 6), inf⟩) := by
  have cx0 := cutS6 (H := H) x0
  have cy0 := cutS6 (H := H) y0
  have rx0 := fun i hi => lim_red hH x0 6 i hi
  have ry0 := fun i hi => lim_red hH y0 6 i hi
  generalize x0 % 2 ^ (64 * 6) = mx0 at *
  generalize y0 % 2 ^ (64 * 6) = my0 at *
  refine mk Tryz.func16 rfl rfl L0 RRef (by decide +kernel) fun A S hA hS => ?_
  unfold bodyOf Tryz.f16
  cbv
  refine ACall.mk _ (cf hS cx0) ?_
  cbv
  refine ACall.mk _ (cf hS cy0) ?_
  cbv
  repeat' (first | exact (rx0 _ (by decide)).symm | exact (ry0 _ (by decide)).symm | exact trivial | constructor)
theorem to6_1 {H : H5} (hH : H = H5.real) (x0 x1 y0 y1 : Nat) (inf : Bool) : Sp 15 [PLv H x0 x1 y0 y1 inf] (P1_6 H ⟨x0 % 2 ^ (64 * 6), y0 % 2 ^ (64 * 6), inf⟩) := by
  have rx0 := fun i hi => lim_red hH x0 6 i hi
  have ry0 := fun i hi => lim_red hH y0 6 i hi
  generalize x0 % 2 ^ (64 * 6) = mx0 at *
  generalize y0 % 2 ^ (64 * 6) = my0 at *
  refine mk Tryz.func15 rfl rfl L0 RTo (by decide +kernel) fun A S hA hS => ?_
  unfold bodyOf Tryz.f15
  cbv
  exact ⟨(rx0 0 (by decide)).symm, (rx0 1 (by decide)).symm, (rx0 2 (by decide)).symm, (rx0 3 (by decide)).symm, (rx0 4 (by decide)).symm, (rx0 5 (by decide)).symm, (ry0 0 (by decide)).symm, (ry0 1 (by decide)).symm, (ry0 2 (by decide)).symm, (ry0 3 (by decide)).symm, (ry0 4 (by decide)).symm, (ry0 5 (by decide)).symm, trivial⟩
end Go.Proofs.YtmholgclgamnnaaGreat
end
section
set_option linter.unusedVariables false
set_option linter.unusedSimpArgs false
namespace Go.Proofs.YtmholgclgamnnaaGreat
open Go Eng
set_option maxRecDepth 100000
set_option exponentiation.threshold 2000
set_option maxHeartbeats 4000000
/-- A struct's cells, each of its type. -/
theorem open_cells {W : World} {base : Nat} {t : TypeId} {fs : Array Field} {ts : List TypeId} {v : Value} (hu : Tryz.prog.underlying t = some (.struct fs)) (hts : Tryz.prog.cellTypes Tryz.prog.depth t = some ts)
    (h : Value.okWide Tryz.prog W .any base t v) : ∃ cs : Array Value, v = .agg cs ∧ cs.size = Tryz.prog.cellsOf t ∧ ∀ (i : Nat) (v : Value), cs[i]? = some v → ∃ u, ts[i % ts.length]? = some u ∧ Cell.okWide Tryz.prog W .any base u v := by
  unfold Value.okWide at h
  rw [hu] at h
  obtain ⟨cs, rfl, hcs, ts', h1, ⟨k, hk⟩, h2⟩ := h
  rw [hts] at h1
  cases h1
  exact ⟨cs, rfl, hcs, h2⟩
theorem cell_u64 {W : World} {base : Nat} {u : TypeId} {v : Value} (he : Tryz.prog.underlying u = some (.int .u64)) (h : Cell.okWide Tryz.prog W .any base u v) : ∃ z : Int, v = .int .u64 z ∧ 0 ≤ z ∧ z < 18446744073709551616 := by
  unfold Cell.okWide at h
  rw [he] at h
  unfold Cell.ok at h
  rw [he] at h
  cases v <;> simp only at h <;> try (exact h.elim)
  rename_i k' z
  obtain ⟨rfl, hz⟩ := h
  have h3 : (0 : Int) ≤ z ∧ z ≤ 18446744073709551615 := hz
  exact ⟨z, rfl, h3.1, by omega⟩
theorem cell_bool {W : World} {base : Nat} {u : TypeId} {v : Value} (he : Tryz.prog.underlying u = some .bool) (h : Cell.okWide Tryz.prog W .any base u v) : ∃ t : Bool, v = .bool t := by
  unfold Cell.okWide at h
  rw [he] at h
  unfold Cell.ok at h
  rw [he] at h
  cases v <;> simp only at h <;> try (exact h.elim)
  exact ⟨_, rfl⟩
theorem open_plain {W : World} {X : Nat → Prop} {base : Nat} {t : TypeId} {fs : Array Field} {e b : TypeId} {v : Value} (hu : Tryz.prog.underlying t = some (.struct fs)) (hts : Tryz.prog.cellTypes Tryz.prog.depth t = some (List.replicate 24 e ++ [b]))
    (he : Tryz.prog.underlying e = some (.int .u64)) (hb : Tryz.prog.underlying b = some .bool) (hsz : Tryz.prog.cellsOf t = 25) (h : Value.okWide Tryz.prog W .any base t v) :
    ∃ (x0 x1 y0 y1 : Nat) (inf : Bool), x0 < 2 ^ 384 ∧ x1 < 2 ^ 384 ∧ y0 < 2 ^ 384 ∧ y1 < 2 ^ 384 ∧ Rep W X noρ v (PLv H5.real x0 x1 y0 y1 inf) := by
  obtain ⟨cs, rfl, hcs, each⟩ := open_cells hu hts h
  rw [hsz] at hcs
  have word : ∀ i, i < 24 → ∃ z : Int, cs[i]? = some (.int .u64 z) ∧ 0 ≤ z ∧ z < 18446744073709551616 := by
    intro i hi
    have hx : cs[i]? = some (cs[i]'(by omega)) := Array.getElem?_eq_getElem _
    obtain ⟨u, hu1, hu2⟩ := each i _ hx
    have hue : u = e := by
      rw [show (List.replicate 24 e ++ [b]).length = 25 by simp, Nat.mod_eq_of_lt (show i < 25 by omega), List.getElem?_append_left (by simpa using hi), List.getElem?_replicate, if_pos hi] at hu1
      cases hu1; rfl
    subst hue
    obtain ⟨z, hz, hr⟩ := cell_u64 he hu2
    exact ⟨z, by rw [hx, hz], hr⟩
  have flag : ∃ t : Bool, cs[24]? = some (.bool t) := by
    have hx : cs[24]? = some (cs[24]'(by omega)) := Array.getElem?_eq_getElem _
    obtain ⟨u, hu1, hu2⟩ := each 24 _ hx
    have hue : u = b := by
      rw [show (List.replicate 24 e ++ [b]).length = 25 by simp, Nat.mod_eq_of_lt (show 24 < 25 by omega), List.getElem?_append_right (by simp)] at hu1
      simp at hu1
      exact hu1.symm
    subst hue
    obtain ⟨t, ht⟩ := cell_bool hb hu2
    exact ⟨t, by rw [hx, ht]⟩
  have group : ∀ j, j < 4 → ∃ a : Nat, a < 2 ^ 384 ∧ ∀ i, i < 6 → cs[6 * j + i]? = some (.int .u64 (limR a i)) := by
    intro j hj
    obtain ⟨z0, e0, r0⟩ := word (6 * j) (by omega)
    obtain ⟨z1, e1, r1⟩ := word (6 * j + 1) (by omega)
    obtain ⟨z2, e2, r2⟩ := word (6 * j + 2) (by omega)
    obtain ⟨z3, e3, r3⟩ := word (6 * j + 3) (by omega)
    obtain ⟨z4, e4, r4⟩ := word (6 * j + 4) (by omega)
    obtain ⟨z5, e5, r5⟩ := word (6 * j + 5) (by omega)
    obtain ⟨a, ha⟩ : ∃ a : Nat, (a : Int) = z0 + 18446744073709551616 * (z1 + 18446744073709551616 * (z2 + 18446744073709551616 * (z3 + 18446744073709551616 * (z4 + 18446744073709551616 * z5)))) := ⟨(z0 + 18446744073709551616 * (z1 + 18446744073709551616 * (z2 + 18446744073709551616 * (z3 + 18446744073709551616 * (z4 + 18446744073709551616 * z5))))).toNat, Int.toNat_of_nonneg (by omega)⟩
    have han : a < 2 ^ 384 := by omega
    obtain ⟨l0, l1, l2, l3, l4, l5⟩ := lim_of6 rfl han r0 r1 r2 r3 r4 ha
    refine ⟨a, han, fun i hi => ?_⟩
    match i, hi with
    | 0, _ => rw [l0]; exact e0
    | 1, _ => rw [l1]; exact e1
    | 2, _ => rw [l2]; exact e2
    | 3, _ => rw [l3]; exact e3
    | 4, _ => rw [l4]; exact e4
    | 5, _ => rw [l5]; exact e5
  obtain ⟨x0, h0, g0⟩ := group 0 (by decide)
  obtain ⟨x1, h1, g1⟩ := group 1 (by decide)
  obtain ⟨y0, h2, g2⟩ := group 2 (by decide)
  obtain ⟨y1, h3, g3⟩ := group 3 (by decide)
  obtain ⟨inf, gf⟩ := flag
  refine ⟨x0, x1, y0, y1, inf, h0, h1, h2, h3, ?_⟩
  have ec : cs = [.int .u64 (limR x0 0), .int .u64 (limR x0 1), .int .u64 (limR x0 2), .int .u64 (limR x0 3), .int .u64 (limR x0 4), .int .u64 (limR x0 5), .int .u64 (limR x1 0), .int .u64 (limR x1 1), .int .u64 (limR x1 2), .int .u64 (limR x1 3), .int .u64 (limR x1 4), .int .u64 (limR x1 5), .int .u64 (limR y0 0), .int .u64 (limR y0 1), .int .u64 (limR y0 2), .int .u64 (limR y0 3), .int .u64 (limR y0 4), .int .u64 (limR y0 5), .int .u64 (limR y1 0), .int .u64 (limR y1 1), .int .u64 (limR y1 2), .int .u64 (limR y1 3), .int .u64 (limR y1 4), .int .u64 (limR y1 5), .bool inf].toArray := by
    apply Array.ext_getElem?
    intro i
    rcases Nat.lt_or_ge i 25 with hi | hi
    · rcases (by omega : i = 0 ∨ i = 1 ∨ i = 2 ∨ i = 3 ∨ i = 4 ∨ i = 5 ∨ i = 6 ∨ i = 7 ∨ i = 8 ∨ i = 9 ∨ i = 10 ∨ i = 11 ∨ i = 12 ∨ i = 13 ∨ i = 14 ∨ i = 15 ∨ i = 16 ∨ i = 17 ∨ i = 18 ∨ i = 19 ∨ i = 20 ∨ i = 21 ∨ i = 22 ∨ i = 23 ∨ i = 24) with rfl | rfl | rfl | rfl | rfl | rfl | rfl | rfl | rfl | rfl | rfl | rfl | rfl | rfl | rfl | rfl | rfl | rfl | rfl | rfl | rfl | rfl | rfl | rfl | rfl
      · exact g0 0 (by decide)
      · exact g0 1 (by decide)
      · exact g0 2 (by decide)
      · exact g0 3 (by decide)
      · exact g0 4 (by decide)
      · exact g0 5 (by decide)
      · exact g1 0 (by decide)
      · exact g1 1 (by decide)
      · exact g1 2 (by decide)
      · exact g1 3 (by decide)
      · exact g1 4 (by decide)
      · exact g1 5 (by decide)
      · exact g2 0 (by decide)
      · exact g2 1 (by decide)
      · exact g2 2 (by decide)
      · exact g2 3 (by decide)
      · exact g2 4 (by decide)
      · exact g2 5 (by decide)
      · exact g3 0 (by decide)
      · exact g3 1 (by decide)
      · exact g3 2 (by decide)
      · exact g3 3 (by decide)
      · exact g3 4 (by decide)
      · exact g3 5 (by decide)
      · exact gf
    · rw [Array.getElem?_eq_none (by omega), Array.getElem?_eq_none (by simpa using hi)]
  rw [ec]
  unfold PLv
  exact RepL.agg (.cons (.s _ _) (.cons (.s _ _) (.cons (.s _ _) (.cons (.s _ _) (.cons (.s _ _) (.cons (.s _ _) (.cons (.s _ _) (.cons (.s _ _) (.cons (.s _ _) (.cons (.s _ _) (.cons (.s _ _) (.cons (.s _ _) (.cons (.s _ _) (.cons (.s _ _) (.cons (.s _ _) (.cons (.s _ _) (.cons (.s _ _) (.cons (.s _ _) (.cons (.s _ _) (.cons (.s _ _) (.cons (.s _ _) (.cons (.s _ _) (.cons (.s _ _) (.cons (.s _ _) (.cons (.sb _) .nil)))))))))))))))))))))))))
end Go.Proofs.YtmholgclgamnnaaGreat
end
