import Derived.Test.YtmholgclgamnnaaGreatQXCR
import Derived.Test.YtmholgclgamnnaaGreatQXCA
set_option linter.unusedVariables false
set_option linter.unusedSimpArgs false
set_option linter.unusedSectionVars false
set_option maxRecDepth 100000
set_option exponentiation.threshold 2000
set_option maxHeartbeats 4000000
section
namespace Go.Proofs.YtmholgclgamnnaaGreat
open Go Eng
def RGood : Nat → Md := fun r => match r with | 0 => .all | 1 => .owl [7, 10] | _ => .mid
section
variable {p : Nat} [NeZero p]
theorem fo_val (u : Fin p) : fo p u.val = u := Fin.ext (Nat.mod_eq_of_lt u.isLt)
def PR4_1 (H : H5) (P : PtA) : AVal := .agg [.lst false 1 [.lst false 4 (ws4 H.lim P.x)], .lst false 1 [.lst false 4 (ws4 H.lim P.y)], .sb P.inf]
theorem rGood4_1 {H : H5} (hH : H = H5.real) (hp : PrM 256 p) (c : Cu p) (P : PtA) (hx : P.x < 2 ^ 256) (hy : P.y < 2 ^ 256) : Sp 19 [Cr4_1 H c, PR4_1 H P] (.s .i64 (good1 c.b1 P : Nat)) := by
 obtain ⟨x, y, inf⟩ := P
 dsimp only at hx hy
 have pp := hp.pos
 have lx := fun t ht => rLess4 (H5.hlim hH) x p hx hp.lt t ht
 have zx := rZeroS4 hH x hx
 have ly := fun t ht => rLess4 (H5.hlim hH) y p hy hp.lt t ht
 have zy := rZeroS4 hH y hy
 cases inf
 . by_cases qx : x < p
   . by_cases qy : y < p
     . rw [show good1 c.b1 ⟨x, y, false⟩ = (if _ then 0 else 71) from by unfold good1; rw [if_neg (by simp), if_pos ⟨qx, qy⟩]]
       have lx := lx true (decide_eq_true qx).symm
       have ly := ly true (decide_eq_true qy).symm
       clear zx zy
       obtain ⟨u0, rfl⟩ : ∃ u : Fin p, x = u.val := ⟨⟨x, qx⟩, rfl⟩
       obtain ⟨u1, rfl⟩ : ∃ u : Fin p, y = u.val := ⟨⟨y, qy⟩, rfl⟩
       simp only [fo_val]
       have m1 := mulR4_1 hH hp c u1 u1
       have m2 := mulR4_1 hH hp c u0 u0
       have m3 := mulR4_1 hH hp c (u0 * u0) u0
       have a4 := addR4_1 hH hp c (u0 * u0 * u0) c.b1
       have sm := sameR4_1 hH hp (u1 * u1) (u0 * u0 * u0 + c.b1)
       generalize hyy : u1 * u1 = yy at *
       generalize hs : u0 * u0 * u0 + c.b1 = s at *
       generalize hx3 : u0 * u0 * u0 = x3 at *
       generalize hx2 : u0 * u0 = x2 at *
       clear hyy hs hx3 hx2
       by_cases he : yy = s
       . rw [if_pos he]
         rw [decide_eq_true he] at sm
         refine mk Tryz.func19 rfl rfl L0 RGood (by decide +kernel) fun A S hA hS => ?_
         have nt := i_not hA (rfl : true = true)
         have nf := i_not hA (rfl : false = false)
         unfold bodyOf Tryz.f19
         cbv
         repeat ((first | refine ABr.t (by first | assumption | rfl) ?_ | refine ABr.f (by first | assumption | rfl) ?_ | refine aF hS lx ?_ | refine aF hS ly ?_ | refine aF hS m1 ?_ | refine aF hS m2 ?_ | refine aF hS m3 ?_ | refine aF hS a4 ?_ | refine aF hS sm ?_); cbv)
       . rw [if_neg he]
         rw [decide_eq_false he] at sm
         refine mk Tryz.func19 rfl rfl L0 RGood (by decide +kernel) fun A S hA hS => ?_
         have nt := i_not hA (rfl : true = true)
         have nf := i_not hA (rfl : false = false)
         unfold bodyOf Tryz.f19
         cbv
         repeat ((first | refine ABr.t (by first | assumption | rfl) ?_ | refine ABr.f (by first | assumption | rfl) ?_ | refine aF hS lx ?_ | refine aF hS ly ?_ | refine aF hS m1 ?_ | refine aF hS m2 ?_ | refine aF hS m3 ?_ | refine aF hS a4 ?_ | refine aF hS sm ?_); cbv)
     . rw [show good1 c.b1 ⟨x, y, false⟩ = 70 from by unfold good1; rw [if_neg (by simp), if_neg (by dsimp only; omega)]]
       have lx := lx true (decide_eq_true qx).symm
       have ly := ly false (decide_eq_false qy).symm
       refine mk Tryz.func19 rfl rfl L0 RGood (by decide +kernel) fun A S hA hS => ?_
       have nt := i_not hA (rfl : true = true)
       have nf := i_not hA (rfl : false = false)
       unfold bodyOf Tryz.f19
       cbv
       repeat ((first | refine ABr.t (by first | assumption | rfl) ?_ | refine ABr.f (by first | assumption | rfl) ?_ | refine aF hS lx ?_ | refine aF hS ly ?_); cbv)
   . rw [show good1 c.b1 ⟨x, y, false⟩ = 70 from by unfold good1; rw [if_neg (by simp), if_neg (by dsimp only; omega)]]
     have lx := lx false (decide_eq_false qx).symm
     refine mk Tryz.func19 rfl rfl L0 RGood (by decide +kernel) fun A S hA hS => ?_
     have nt := i_not hA (rfl : true = true)
     have nf := i_not hA (rfl : false = false)
     unfold bodyOf Tryz.f19
     cbv
     repeat ((first | refine ABr.t (by first | assumption | rfl) ?_ | refine ABr.f (by first | assumption | rfl) ?_ | refine aF hS lx ?_); cbv)
 . by_cases qx : x < p
   . by_cases wx : x = 0
     . by_cases qy : y < p
       . by_cases wy : y = 0
         . rw [show good1 c.b1 ⟨x, y, true⟩ = 0 from by unfold good1; rw [if_pos rfl, if_pos (by dsimp only; omega)]]
           have lx := lx true (decide_eq_true qx).symm
           rw [decide_eq_true wx] at zx
           have ly := ly true (decide_eq_true qy).symm
           rw [decide_eq_true wy] at zy
           refine mk Tryz.func19 rfl rfl L0 RGood (by decide +kernel) fun A S hA hS => ?_
           have nt := i_not hA (rfl : true = true)
           have nf := i_not hA (rfl : false = false)
           unfold bodyOf Tryz.f19
           cbv
           repeat ((first | refine ABr.t (by first | assumption | rfl) ?_ | refine ABr.f (by first | assumption | rfl) ?_ | refine aF hS lx ?_ | refine aF hS ly ?_ | refine aF hS zx ?_ | refine aF hS zy ?_); cbv)
         . rw [show good1 c.b1 ⟨x, y, true⟩ = 70 from by unfold good1; rw [if_pos rfl, if_neg (by dsimp only; omega)]]
           have lx := lx true (decide_eq_true qx).symm
           rw [decide_eq_true wx] at zx
           have ly := ly true (decide_eq_true qy).symm
           rw [decide_eq_false wy] at zy
           refine mk Tryz.func19 rfl rfl L0 RGood (by decide +kernel) fun A S hA hS => ?_
           have nt := i_not hA (rfl : true = true)
           have nf := i_not hA (rfl : false = false)
           unfold bodyOf Tryz.f19
           cbv
           repeat ((first | refine ABr.t (by first | assumption | rfl) ?_ | refine ABr.f (by first | assumption | rfl) ?_ | refine aF hS lx ?_ | refine aF hS ly ?_ | refine aF hS zx ?_ | refine aF hS zy ?_); cbv)
       . rw [show good1 c.b1 ⟨x, y, true⟩ = 70 from by unfold good1; rw [if_pos rfl, if_neg (by dsimp only; omega)]]
         have lx := lx true (decide_eq_true qx).symm
         rw [decide_eq_true wx] at zx
         have ly := ly false (decide_eq_false qy).symm
         refine mk Tryz.func19 rfl rfl L0 RGood (by decide +kernel) fun A S hA hS => ?_
         have nt := i_not hA (rfl : true = true)
         have nf := i_not hA (rfl : false = false)
         unfold bodyOf Tryz.f19
         cbv
         repeat ((first | refine ABr.t (by first | assumption | rfl) ?_ | refine ABr.f (by first | assumption | rfl) ?_ | refine aF hS lx ?_ | refine aF hS ly ?_ | refine aF hS zx ?_); cbv)
     . rw [show good1 c.b1 ⟨x, y, true⟩ = 70 from by unfold good1; rw [if_pos rfl, if_neg (by dsimp only; omega)]]
       have lx := lx true (decide_eq_true qx).symm
       rw [decide_eq_false wx] at zx
       refine mk Tryz.func19 rfl rfl L0 RGood (by decide +kernel) fun A S hA hS => ?_
       have nt := i_not hA (rfl : true = true)
       have nf := i_not hA (rfl : false = false)
       unfold bodyOf Tryz.f19
       cbv
       repeat ((first | refine ABr.t (by first | assumption | rfl) ?_ | refine ABr.f (by first | assumption | rfl) ?_ | refine aF hS lx ?_ | refine aF hS zx ?_); cbv)
   . rw [show good1 c.b1 ⟨x, y, true⟩ = 70 from by unfold good1; rw [if_pos rfl, if_neg (by dsimp only; omega)]]
     have lx := lx false (decide_eq_false qx).symm
     refine mk Tryz.func19 rfl rfl L0 RGood (by decide +kernel) fun A S hA hS => ?_
     have nt := i_not hA (rfl : true = true)
     have nf := i_not hA (rfl : false = false)
     unfold bodyOf Tryz.f19
     cbv
     repeat ((first | refine ABr.t (by first | assumption | rfl) ?_ | refine ABr.f (by first | assumption | rfl) ?_ | refine aF hS lx ?_); cbv)
def PR4_2 (H : H5) (P : PtB) : AVal := .agg [.lst false 2 [.lst false 4 (ws4 H.lim P.xa), .lst false 4 (ws4 H.lim P.xb)], .lst false 2 [.lst false 4 (ws4 H.lim P.ya), .lst false 4 (ws4 H.lim P.yb)], .sb P.inf]
theorem rGood4_2 {H : H5} (hH : H = H5.real) (hp : PrM 256 p) (c : Cu p) (P : PtB) (hxa : P.xa < 2 ^ 256) (hxb : P.xb < 2 ^ 256) (hya : P.ya < 2 ^ 256) (hyb : P.yb < 2 ^ 256) : Sp 19 [Cr4_2 H c, PR4_2 H P] (.s .i64 (good2 c.b2 P : Nat)) := by
 obtain ⟨xa, xb, ya, yb, inf⟩ := P
 dsimp only at hxa hxb hya hyb
 have pp := hp.pos
 have lxa := fun t ht => rLess4 (H5.hlim hH) xa p hxa hp.lt t ht
 have zxa := rZeroS4 hH xa hxa
 have lxb := fun t ht => rLess4 (H5.hlim hH) xb p hxb hp.lt t ht
 have zxb := rZeroS4 hH xb hxb
 have lya := fun t ht => rLess4 (H5.hlim hH) ya p hya hp.lt t ht
 have zya := rZeroS4 hH ya hya
 have lyb := fun t ht => rLess4 (H5.hlim hH) yb p hyb hp.lt t ht
 have zyb := rZeroS4 hH yb hyb
 cases inf
 . by_cases qxa : xa < p
   . by_cases qxb : xb < p
     . by_cases qya : ya < p
       . by_cases qyb : yb < p
         . rw [show good2 c.b2 ⟨xa, xb, ya, yb, false⟩ = (if _ then 0 else 71) from by unfold good2; rw [if_neg (by simp), if_pos ⟨qxa, qxb, qya, qyb⟩]]
           have lxa := lxa true (decide_eq_true qxa).symm
           have lxb := lxb true (decide_eq_true qxb).symm
           have lya := lya true (decide_eq_true qya).symm
           have lyb := lyb true (decide_eq_true qyb).symm
           clear zxa zxb zya zyb
           obtain ⟨u0, rfl⟩ : ∃ u : Fin p, xa = u.val := ⟨⟨xa, qxa⟩, rfl⟩
           obtain ⟨u1, rfl⟩ : ∃ u : Fin p, xb = u.val := ⟨⟨xb, qxb⟩, rfl⟩
           obtain ⟨u2, rfl⟩ : ∃ u : Fin p, ya = u.val := ⟨⟨ya, qya⟩, rfl⟩
           obtain ⟨u3, rfl⟩ : ∃ u : Fin p, yb = u.val := ⟨⟨yb, qyb⟩, rfl⟩
           simp only [fo_val]
           have m1 := mulR4_2 hH hp c (⟨u2, u3⟩ : Cv.F2 p) (⟨u2, u3⟩ : Cv.F2 p)
           have m2 := mulR4_2 hH hp c (⟨u0, u1⟩ : Cv.F2 p) (⟨u0, u1⟩ : Cv.F2 p)
           obtain ⟨yy, hyy⟩ : ∃ q, q = (Cv.ops2 Cv.inv2).mul (⟨u2, u3⟩ : Cv.F2 p) (⟨u2, u3⟩ : Cv.F2 p) := ⟨_, rfl⟩
           obtain ⟨x2, hx2⟩ : ∃ q, q = (Cv.ops2 Cv.inv2).mul (⟨u0, u1⟩ : Cv.F2 p) (⟨u0, u1⟩ : Cv.F2 p) := ⟨_, rfl⟩
           change Sp _ [_, _, _] (Nr4_2 H ((Cv.ops2 Cv.inv2).mul (⟨u2, u3⟩ : Cv.F2 p) (⟨u2, u3⟩ : Cv.F2 p))) at m1
           rw [← hyy] at m1
           change Sp _ [_, _, _] (Nr4_2 H ((Cv.ops2 Cv.inv2).mul (⟨u0, u1⟩ : Cv.F2 p) (⟨u0, u1⟩ : Cv.F2 p))) at m2
           rw [← hx2] at m2
           rw [← hyy, ← hx2]
           obtain ⟨x3, hx3⟩ : ∃ q, q = (Cv.ops2 Cv.inv2).mul x2 (⟨u0, u1⟩ : Cv.F2 p) := ⟨_, rfl⟩
           have m3 := mulR4_2 hH hp c x2 (⟨u0, u1⟩ : Cv.F2 p)
           change Sp _ [_, _, _] (Nr4_2 H ((Cv.ops2 Cv.inv2).mul x2 (⟨u0, u1⟩ : Cv.F2 p))) at m3
           rw [← hx3] at m3
           rw [← hx3]
           obtain ⟨s, hs⟩ : ∃ q, q = (Cv.ops2 Cv.inv2).add x3 c.b2 := ⟨_, rfl⟩
           have a4 := addR4_2 hH hp c x3 c.b2
           change Sp _ [_, _, _] (Nr4_2 H ((Cv.ops2 Cv.inv2).add x3 c.b2)) at a4
           rw [← hs] at a4
           rw [← hs]
           have sm := sameR4_2 hH hp yy s
           clear hyy hx2 hx3 hs
           by_cases he : yy = s
           . rw [if_pos he]
             rw [decide_eq_true he] at sm
             refine mk Tryz.func19 rfl rfl L0 RGood (by decide +kernel) fun A S hA hS => ?_
             have nt := i_not hA (rfl : true = true)
             have nf := i_not hA (rfl : false = false)
             unfold bodyOf Tryz.f19
             cbv
             repeat ((first | refine ABr.t (by first | assumption | rfl) ?_ | refine ABr.f (by first | assumption | rfl) ?_ | refine aF hS lxa ?_ | refine aF hS lxb ?_ | refine aF hS lya ?_ | refine aF hS lyb ?_ | refine aF hS m1 ?_ | refine aF hS m2 ?_ | refine aF hS m3 ?_ | refine aF hS a4 ?_ | refine aF hS sm ?_); cbv)
           . rw [if_neg he]
             rw [decide_eq_false he] at sm
             refine mk Tryz.func19 rfl rfl L0 RGood (by decide +kernel) fun A S hA hS => ?_
             have nt := i_not hA (rfl : true = true)
             have nf := i_not hA (rfl : false = false)
             unfold bodyOf Tryz.f19
             cbv
             repeat ((first | refine ABr.t (by first | assumption | rfl) ?_ | refine ABr.f (by first | assumption | rfl) ?_ | refine aF hS lxa ?_ | refine aF hS lxb ?_ | refine aF hS lya ?_ | refine aF hS lyb ?_ | refine aF hS m1 ?_ | refine aF hS m2 ?_ | refine aF hS m3 ?_ | refine aF hS a4 ?_ | refine aF hS sm ?_); cbv)
         . rw [show good2 c.b2 ⟨xa, xb, ya, yb, false⟩ = 70 from by unfold good2; rw [if_neg (by simp), if_neg (by dsimp only; omega)]]
           have lxa := lxa true (decide_eq_true qxa).symm
           have lxb := lxb true (decide_eq_true qxb).symm
           have lya := lya true (decide_eq_true qya).symm
           have lyb := lyb false (decide_eq_false qyb).symm
           refine mk Tryz.func19 rfl rfl L0 RGood (by decide +kernel) fun A S hA hS => ?_
           have nt := i_not hA (rfl : true = true)
           have nf := i_not hA (rfl : false = false)
           unfold bodyOf Tryz.f19
           cbv
           repeat ((first | refine ABr.t (by first | assumption | rfl) ?_ | refine ABr.f (by first | assumption | rfl) ?_ | refine aF hS lxa ?_ | refine aF hS lxb ?_ | refine aF hS lya ?_ | refine aF hS lyb ?_); cbv)
       . rw [show good2 c.b2 ⟨xa, xb, ya, yb, false⟩ = 70 from by unfold good2; rw [if_neg (by simp), if_neg (by dsimp only; omega)]]
         have lxa := lxa true (decide_eq_true qxa).symm
         have lxb := lxb true (decide_eq_true qxb).symm
         have lya := lya false (decide_eq_false qya).symm
         refine mk Tryz.func19 rfl rfl L0 RGood (by decide +kernel) fun A S hA hS => ?_
         have nt := i_not hA (rfl : true = true)
         have nf := i_not hA (rfl : false = false)
         unfold bodyOf Tryz.f19
         cbv
         repeat ((first | refine ABr.t (by first | assumption | rfl) ?_ | refine ABr.f (by first | assumption | rfl) ?_ | refine aF hS lxa ?_ | refine aF hS lxb ?_ | refine aF hS lya ?_); cbv)
     . rw [show good2 c.b2 ⟨xa, xb, ya, yb, false⟩ = 70 from by unfold good2; rw [if_neg (by simp), if_neg (by dsimp only; omega)]]
       have lxa := lxa true (decide_eq_true qxa).symm
       have lxb := lxb false (decide_eq_false qxb).symm
       refine mk Tryz.func19 rfl rfl L0 RGood (by decide +kernel) fun A S hA hS => ?_
       have nt := i_not hA (rfl : true = true)
       have nf := i_not hA (rfl : false = false)
       unfold bodyOf Tryz.f19
       cbv
       repeat ((first | refine ABr.t (by first | assumption | rfl) ?_ | refine ABr.f (by first | assumption | rfl) ?_ | refine aF hS lxa ?_ | refine aF hS lxb ?_); cbv)
   . rw [show good2 c.b2 ⟨xa, xb, ya, yb, false⟩ = 70 from by unfold good2; rw [if_neg (by simp), if_neg (by dsimp only; omega)]]
     have lxa := lxa false (decide_eq_false qxa).symm
     refine mk Tryz.func19 rfl rfl L0 RGood (by decide +kernel) fun A S hA hS => ?_
     have nt := i_not hA (rfl : true = true)
     have nf := i_not hA (rfl : false = false)
     unfold bodyOf Tryz.f19
     cbv
     repeat ((first | refine ABr.t (by first | assumption | rfl) ?_ | refine ABr.f (by first | assumption | rfl) ?_ | refine aF hS lxa ?_); cbv)
 . by_cases qxa : xa < p
   . by_cases wxa : xa = 0
     . by_cases qxb : xb < p
       . by_cases wxb : xb = 0
         . by_cases qya : ya < p
           . by_cases wya : ya = 0
             . by_cases qyb : yb < p
               . by_cases wyb : yb = 0
                 . rw [show good2 c.b2 ⟨xa, xb, ya, yb, true⟩ = 0 from by unfold good2; rw [if_pos rfl, if_pos (by dsimp only; omega)]]
                   have lxa := lxa true (decide_eq_true qxa).symm
                   rw [decide_eq_true wxa] at zxa
                   have lxb := lxb true (decide_eq_true qxb).symm
                   rw [decide_eq_true wxb] at zxb
                   have lya := lya true (decide_eq_true qya).symm
                   rw [decide_eq_true wya] at zya
                   have lyb := lyb true (decide_eq_true qyb).symm
                   rw [decide_eq_true wyb] at zyb
                   refine mk Tryz.func19 rfl rfl L0 RGood (by decide +kernel) fun A S hA hS => ?_
                   have nt := i_not hA (rfl : true = true)
                   have nf := i_not hA (rfl : false = false)
                   unfold bodyOf Tryz.f19
                   cbv
                   repeat ((first | refine ABr.t (by first | assumption | rfl) ?_ | refine ABr.f (by first | assumption | rfl) ?_ | refine aF hS lxa ?_ | refine aF hS lxb ?_ | refine aF hS lya ?_ | refine aF hS lyb ?_ | refine aF hS zxa ?_ | refine aF hS zxb ?_ | refine aF hS zya ?_ | refine aF hS zyb ?_); cbv)
                 . rw [show good2 c.b2 ⟨xa, xb, ya, yb, true⟩ = 70 from by unfold good2; rw [if_pos rfl, if_neg (by dsimp only; omega)]]
                   have lxa := lxa true (decide_eq_true qxa).symm
                   rw [decide_eq_true wxa] at zxa
                   have lxb := lxb true (decide_eq_true qxb).symm
                   rw [decide_eq_true wxb] at zxb
                   have lya := lya true (decide_eq_true qya).symm
                   rw [decide_eq_true wya] at zya
                   have lyb := lyb true (decide_eq_true qyb).symm
                   rw [decide_eq_false wyb] at zyb
                   refine mk Tryz.func19 rfl rfl L0 RGood (by decide +kernel) fun A S hA hS => ?_
                   have nt := i_not hA (rfl : true = true)
                   have nf := i_not hA (rfl : false = false)
                   unfold bodyOf Tryz.f19
                   cbv
                   repeat ((first | refine ABr.t (by first | assumption | rfl) ?_ | refine ABr.f (by first | assumption | rfl) ?_ | refine aF hS lxa ?_ | refine aF hS lxb ?_ | refine aF hS lya ?_ | refine aF hS lyb ?_ | refine aF hS zxa ?_ | refine aF hS zxb ?_ | refine aF hS zya ?_ | refine aF hS zyb ?_); cbv)
               . rw [show good2 c.b2 ⟨xa, xb, ya, yb, true⟩ = 70 from by unfold good2; rw [if_pos rfl, if_neg (by dsimp only; omega)]]
                 have lxa := lxa true (decide_eq_true qxa).symm
                 rw [decide_eq_true wxa] at zxa
                 have lxb := lxb true (decide_eq_true qxb).symm
                 rw [decide_eq_true wxb] at zxb
                 have lya := lya true (decide_eq_true qya).symm
                 rw [decide_eq_true wya] at zya
                 have lyb := lyb false (decide_eq_false qyb).symm
                 refine mk Tryz.func19 rfl rfl L0 RGood (by decide +kernel) fun A S hA hS => ?_
                 have nt := i_not hA (rfl : true = true)
                 have nf := i_not hA (rfl : false = false)
                 unfold bodyOf Tryz.f19
                 cbv
                 repeat ((first | refine ABr.t (by first | assumption | rfl) ?_ | refine ABr.f (by first | assumption | rfl) ?_ | refine aF hS lxa ?_ | refine aF hS lxb ?_ | refine aF hS lya ?_ | refine aF hS lyb ?_ | refine aF hS zxa ?_ | refine aF hS zxb ?_ | refine aF hS zya ?_); cbv)
             . rw [show good2 c.b2 ⟨xa, xb, ya, yb, true⟩ = 70 from by unfold good2; rw [if_pos rfl, if_neg (by dsimp only; omega)]]
               have lxa := lxa true (decide_eq_true qxa).symm
               rw [decide_eq_true wxa] at zxa
               have lxb := lxb true (decide_eq_true qxb).symm
               rw [decide_eq_true wxb] at zxb
               have lya := lya true (decide_eq_true qya).symm
               rw [decide_eq_false wya] at zya
               refine mk Tryz.func19 rfl rfl L0 RGood (by decide +kernel) fun A S hA hS => ?_
               have nt := i_not hA (rfl : true = true)
               have nf := i_not hA (rfl : false = false)
               unfold bodyOf Tryz.f19
               cbv
               repeat ((first | refine ABr.t (by first | assumption | rfl) ?_ | refine ABr.f (by first | assumption | rfl) ?_ | refine aF hS lxa ?_ | refine aF hS lxb ?_ | refine aF hS lya ?_ | refine aF hS zxa ?_ | refine aF hS zxb ?_ | refine aF hS zya ?_); cbv)
           . rw [show good2 c.b2 ⟨xa, xb, ya, yb, true⟩ = 70 from by unfold good2; rw [if_pos rfl, if_neg (by dsimp only; omega)]]
             have lxa := lxa true (decide_eq_true qxa).symm
             rw [decide_eq_true wxa] at zxa
             have lxb := lxb true (decide_eq_true qxb).symm
             rw [decide_eq_true wxb] at zxb
             have lya := lya false (decide_eq_false qya).symm
             refine mk Tryz.func19 rfl rfl L0 RGood (by decide +kernel) fun A S hA hS => ?_
             have nt := i_not hA (rfl : true = true)
             have nf := i_not hA (rfl : false = false)
             unfold bodyOf Tryz.f19
             cbv
             repeat ((first | refine ABr.t (by first | assumption | rfl) ?_ | refine ABr.f (by first | assumption | rfl) ?_ | refine aF hS lxa ?_ | refine aF hS lxb ?_ | refine aF hS lya ?_ | refine aF hS zxa ?_ | refine aF hS zxb ?_); cbv)
         . rw [show good2 c.b2 ⟨xa, xb, ya, yb, true⟩ = 70 from by unfold good2; rw [if_pos rfl, if_neg (by dsimp only; omega)]]
           have lxa := lxa true (decide_eq_true qxa).symm
           rw [decide_eq_true wxa] at zxa
           have lxb := lxb true (decide_eq_true qxb).symm
           rw [decide_eq_false wxb] at zxb
           refine mk Tryz.func19 rfl rfl L0 RGood (by decide +kernel) fun A S hA hS => ?_
           have nt := i_not hA (rfl : true = true)
           have nf := i_not hA (rfl : false = false)
           unfold bodyOf Tryz.f19
           cbv
           repeat ((first | refine ABr.t (by first | assumption | rfl) ?_ | refine ABr.f (by first | assumption | rfl) ?_ | refine aF hS lxa ?_ | refine aF hS lxb ?_ | refine aF hS zxa ?_ | refine aF hS zxb ?_); cbv)
       . rw [show good2 c.b2 ⟨xa, xb, ya, yb, true⟩ = 70 from by unfold good2; rw [if_pos rfl, if_neg (by dsimp only; omega)]]
         have lxa := lxa true (decide_eq_true qxa).symm
         rw [decide_eq_true wxa] at zxa
         have lxb := lxb false (decide_eq_false qxb).symm
         refine mk Tryz.func19 rfl rfl L0 RGood (by decide +kernel) fun A S hA hS => ?_
         have nt := i_not hA (rfl : true = true)
         have nf := i_not hA (rfl : false = false)
         unfold bodyOf Tryz.f19
         cbv
         repeat ((first | refine ABr.t (by first | assumption | rfl) ?_ | refine ABr.f (by first | assumption | rfl) ?_ | refine aF hS lxa ?_ | refine aF hS lxb ?_ | refine aF hS zxa ?_); cbv)
     . rw [show good2 c.b2 ⟨xa, xb, ya, yb, true⟩ = 70 from by unfold good2; rw [if_pos rfl, if_neg (by dsimp only; omega)]]
       have lxa := lxa true (decide_eq_true qxa).symm
       rw [decide_eq_false wxa] at zxa
       refine mk Tryz.func19 rfl rfl L0 RGood (by decide +kernel) fun A S hA hS => ?_
       have nt := i_not hA (rfl : true = true)
       have nf := i_not hA (rfl : false = false)
       unfold bodyOf Tryz.f19
       cbv
       repeat ((first | refine ABr.t (by first | assumption | rfl) ?_ | refine ABr.f (by first | assumption | rfl) ?_ | refine aF hS lxa ?_ | refine aF hS zxa ?_); cbv)
   . rw [show good2 c.b2 ⟨xa, xb, ya, yb, true⟩ = 70 from by unfold good2; rw [if_pos rfl, if_neg (by dsimp only; omega)]]
     have lxa := lxa false (decide_eq_false qxa).symm
     refine mk Tryz.func19 rfl rfl L0 RGood (by decide +kernel) fun A S hA hS => ?_
     have nt := i_not hA (rfl : true = true)
     have nf := i_not hA (rfl : false = false)
     unfold bodyOf Tryz.f19
     cbv
     repeat ((first | refine ABr.t (by first | assumption | rfl) ?_ | refine ABr.f (by first | assumption | rfl) ?_ | refine aF hS lxa ?_); cbv)
def PR6_1 (H : H5) (P : PtA) : AVal := .agg [.lst false 1 [.lst false 6 (ws6 H.lim P.x)], .lst false 1 [.lst false 6 (ws6 H.lim P.y)], .sb P.inf]
theorem rGood6_1 {H : H5} (hH : H = H5.real) (hp : PrM 384 p) (c : Cu p) (P : PtA) (hx : P.x < 2 ^ 384) (hy : P.y < 2 ^ 384) : Sp 19 [Cr6_1 H c, PR6_1 H P] (.s .i64 (good1 c.b1 P : Nat)) := by
 obtain ⟨x, y, inf⟩ := P
 dsimp only at hx hy
 have pp := hp.pos
 have lx := fun t ht => rLess6 (H5.hlim hH) x p hx hp.lt t ht
 have zx := rZeroS6 hH x hx
 have ly := fun t ht => rLess6 (H5.hlim hH) y p hy hp.lt t ht
 have zy := rZeroS6 hH y hy
 cases inf
 . by_cases qx : x < p
   . by_cases qy : y < p
     . rw [show good1 c.b1 ⟨x, y, false⟩ = (if _ then 0 else 71) from by unfold good1; rw [if_neg (by simp), if_pos ⟨qx, qy⟩]]
       have lx := lx true (decide_eq_true qx).symm
       have ly := ly true (decide_eq_true qy).symm
       clear zx zy
       obtain ⟨u0, rfl⟩ : ∃ u : Fin p, x = u.val := ⟨⟨x, qx⟩, rfl⟩
       obtain ⟨u1, rfl⟩ : ∃ u : Fin p, y = u.val := ⟨⟨y, qy⟩, rfl⟩
       simp only [fo_val]
       have m1 := mulR6_1 hH hp c u1 u1
       have m2 := mulR6_1 hH hp c u0 u0
       have m3 := mulR6_1 hH hp c (u0 * u0) u0
       have a4 := addR6_1 hH hp c (u0 * u0 * u0) c.b1
       have sm := sameR6_1 hH hp (u1 * u1) (u0 * u0 * u0 + c.b1)
       generalize hyy : u1 * u1 = yy at *
       generalize hs : u0 * u0 * u0 + c.b1 = s at *
       generalize hx3 : u0 * u0 * u0 = x3 at *
       generalize hx2 : u0 * u0 = x2 at *
       clear hyy hs hx3 hx2
       by_cases he : yy = s
       . rw [if_pos he]
         rw [decide_eq_true he] at sm
         refine mk Tryz.func19 rfl rfl L0 RGood (by decide +kernel) fun A S hA hS => ?_
         have nt := i_not hA (rfl : true = true)
         have nf := i_not hA (rfl : false = false)
         unfold bodyOf Tryz.f19
         cbv
         repeat ((first | refine ABr.t (by first | assumption | rfl) ?_ | refine ABr.f (by first | assumption | rfl) ?_ | refine aF hS lx ?_ | refine aF hS ly ?_ | refine aF hS m1 ?_ | refine aF hS m2 ?_ | refine aF hS m3 ?_ | refine aF hS a4 ?_ | refine aF hS sm ?_); cbv)
       . rw [if_neg he]
         rw [decide_eq_false he] at sm
         refine mk Tryz.func19 rfl rfl L0 RGood (by decide +kernel) fun A S hA hS => ?_
         have nt := i_not hA (rfl : true = true)
         have nf := i_not hA (rfl : false = false)
         unfold bodyOf Tryz.f19
         cbv
         repeat ((first | refine ABr.t (by first | assumption | rfl) ?_ | refine ABr.f (by first | assumption | rfl) ?_ | refine aF hS lx ?_ | refine aF hS ly ?_ | refine aF hS m1 ?_ | refine aF hS m2 ?_ | refine aF hS m3 ?_ | refine aF hS a4 ?_ | refine aF hS sm ?_); cbv)
     . rw [show good1 c.b1 ⟨x, y, false⟩ = 70 from by unfold good1; rw [if_neg (by simp), if_neg (by dsimp only; omega)]]
       have lx := lx true (decide_eq_true qx).symm
       have ly := ly false (decide_eq_false qy).symm
       refine mk Tryz.func19 rfl rfl L0 RGood (by decide +kernel) fun A S hA hS => ?_
       have nt := i_not hA (rfl : true = true)
       have nf := i_not hA (rfl : false = false)
       unfold bodyOf Tryz.f19
       cbv
       repeat ((first | refine ABr.t (by first | assumption | rfl) ?_ | refine ABr.f (by first | assumption | rfl) ?_ | refine aF hS lx ?_ | refine aF hS ly ?_); cbv)
   . rw [show good1 c.b1 ⟨x, y, false⟩ = 70 from by unfold good1; rw [if_neg (by simp), if_neg (by dsimp only; omega)]]
     have lx := lx false (decide_eq_false qx).symm
     refine mk Tryz.func19 rfl rfl L0 RGood (by decide +kernel) fun A S hA hS => ?_
     have nt := i_not hA (rfl : true = true)
     have nf := i_not hA (rfl : false = false)
     unfold bodyOf Tryz.f19
     cbv
     repeat ((first | refine ABr.t (by first | assumption | rfl) ?_ | refine ABr.f (by first | assumption | rfl) ?_ | refine aF hS lx ?_); cbv)
 . by_cases qx : x < p
   . by_cases wx : x = 0
     . by_cases qy : y < p
       . by_cases wy : y = 0
         . rw [show good1 c.b1 ⟨x, y, true⟩ = 0 from by unfold good1; rw [if_pos rfl, if_pos (by dsimp only; omega)]]
           have lx := lx true (decide_eq_true qx).symm
           rw [decide_eq_true wx] at zx
           have ly := ly true (decide_eq_true qy).symm
           rw [decide_eq_true wy] at zy
           refine mk Tryz.func19 rfl rfl L0 RGood (by decide +kernel) fun A S hA hS => ?_
           have nt := i_not hA (rfl : true = true)
           have nf := i_not hA (rfl : false = false)
           unfold bodyOf Tryz.f19
           cbv
           repeat ((first | refine ABr.t (by first | assumption | rfl) ?_ | refine ABr.f (by first | assumption | rfl) ?_ | refine aF hS lx ?_ | refine aF hS ly ?_ | refine aF hS zx ?_ | refine aF hS zy ?_); cbv)
         . rw [show good1 c.b1 ⟨x, y, true⟩ = 70 from by unfold good1; rw [if_pos rfl, if_neg (by dsimp only; omega)]]
           have lx := lx true (decide_eq_true qx).symm
           rw [decide_eq_true wx] at zx
           have ly := ly true (decide_eq_true qy).symm
           rw [decide_eq_false wy] at zy
           refine mk Tryz.func19 rfl rfl L0 RGood (by decide +kernel) fun A S hA hS => ?_
           have nt := i_not hA (rfl : true = true)
           have nf := i_not hA (rfl : false = false)
           unfold bodyOf Tryz.f19
           cbv
           repeat ((first | refine ABr.t (by first | assumption | rfl) ?_ | refine ABr.f (by first | assumption | rfl) ?_ | refine aF hS lx ?_ | refine aF hS ly ?_ | refine aF hS zx ?_ | refine aF hS zy ?_); cbv)
       . rw [show good1 c.b1 ⟨x, y, true⟩ = 70 from by unfold good1; rw [if_pos rfl, if_neg (by dsimp only; omega)]]
         have lx := lx true (decide_eq_true qx).symm
         rw [decide_eq_true wx] at zx
         have ly := ly false (decide_eq_false qy).symm
         refine mk Tryz.func19 rfl rfl L0 RGood (by decide +kernel) fun A S hA hS => ?_
         have nt := i_not hA (rfl : true = true)
         have nf := i_not hA (rfl : false = false)
         unfold bodyOf Tryz.f19
         cbv
         repeat ((first | refine ABr.t (by first | assumption | rfl) ?_ | refine ABr.f (by first | assumption | rfl) ?_ | refine aF hS lx ?_ | refine aF hS ly ?_ | refine aF hS zx ?_); cbv)
     . rw [show good1 c.b1 ⟨x, y, true⟩ = 70 from by unfold good1; rw [if_pos rfl, if_neg (by dsimp only; omega)]]
       have lx := lx true (decide_eq_true qx).symm
       rw [decide_eq_false wx] at zx
       refine mk Tryz.func19 rfl rfl L0 RGood (by decide +kernel) fun A S hA hS => ?_
       have nt := i_not hA (rfl : true = true)
       have nf := i_not hA (rfl : false = false)
       unfold bodyOf Tryz.f19
       cbv
       repeat ((first | refine ABr.t (by first | assumption | rfl) ?_ | refine ABr.f (by first | assumption | rfl) ?_ | refine aF hS lx ?_ | refine aF hS zx ?_); cbv)
   . rw [show good1 c.b1 ⟨x, y, true⟩ = 70 from by unfold good1; rw [if_pos rfl, if_neg (by dsimp only; omega)]]
     have lx := lx false (decide_eq_false qx).symm
     refine mk Tryz.func19 rfl rfl L0 RGood (by decide +kernel) fun A S hA hS => ?_
     have nt := i_not hA (rfl : true = true)
     have nf := i_not hA (rfl : false = false)
     unfold bodyOf Tryz.f19
     cbv
     repeat ((first | refine ABr.t (by first | assumption | rfl) ?_ | refine ABr.f (by first | assumption | rfl) ?_ | refine aF hS lx ?_); cbv)
end
def grpE {α : Type} (a : Nat) (P : Cv.Pt α) : Nat := match a with | 0 => (match P with | none => 0 | some _ => 72) | n + 1 => n + 1
section
variable {p : Nat} [NeZero p]
def kR4_2 (H : H5) (c : Cu p) : Rk (Cv.F2 p) := ⟨(Cv.ops2 Cv.inv2), fun a => [.lst false 4 (ws4 H.lim a.a.val), .lst false 4 (ws4 H.lim a.b.val)], 2, 4, ws4 H.lim p, (H.minv p : Nat), ws4 H.lim (H.mf (2 * 256) p 1), 2, ws4 H.lim c.r, [.lst false 4 (ws4 H.lim c.xa), .lst false 4 (ws4 H.lim c.xb)], [.lst false 4 (ws4 H.lim c.ya), .lst false 4 (ws4 H.lim c.yb)]⟩
theorem okR4_2 {H : H5} (hH : H = H5.real) (hp : PrM 256 p) {c : Cu p} (h1c : c.one = fo p 1) : OkR (kR4_2 H c) c.b2 where
 add a b := Spec.res (Spec.args (addR4_2 hH hp c a b) (by cbv)) (by cbv)
 sub a b := Spec.res (Spec.args (subR4_2 hH hp c a b) (by cbv)) (by cbv)
 mul a b := Spec.res (Spec.args (mulR4_2 hH hp c a b) (by cbv)) (by cbv)
 inv a := by
   have h := invR4_2 hH hp c a
   show Sp _ _ (Nt (kR4_2 H c) (Cv.inv2 a))
   generalize Cv.inv2 a = i at *
   exact Spec.res (Spec.args h (by cbv)) (by cbv)
 same a b := Spec.args (sameR4_2 hH hp a b) (by cbv)
 zero a := Spec.args (zeroR4_2 hH hp a) (by cbv)
 none := by
   have h := noneR4_2 hH hp c
   show Sp _ _ (Nt (kR4_2 H c) (⟨0, 0⟩ : Cv.F2 p))
   generalize (⟨0, 0⟩ : Cv.F2 p) = z at *
   exact Spec.res (Spec.args h (by cbv)) (by cbv)
 one := by
   have h := oneR4_2 hH hp h1c
   have e : (kR4_2 H c).O.one = ⟨c.one, 0⟩ := by rw [h1c]; rfl
   rw [e]
   generalize (⟨c.one, 0⟩ : Cv.F2 p) = z at *
   exact Spec.res (Spec.args h (by cbv)) (by cbv)
theorem good_pt4_2 {H : H5} (hH : H = H5.real) {c : Cu p} {P : PtB} (h : good2 c.b2 P = 0) : Sim (PR4_2 H P) (Pt_ (kR4_2 H c) (ptOf2 p P)) := by
 obtain ⟨xa, xb, ya, yb, inf⟩ := P
 unfold good2 at h
 dsimp only at h
 cases inf
 . rw [if_neg (by simp)] at h
   have hxy : xa < p ∧ xb < p ∧ ya < p ∧ yb < p := by
     apply Classical.byContradiction
     intro hn
     rw [if_neg hn] at h
     cases h
   have e1 : (fo p xa).val = xa := Nat.mod_eq_of_lt hxy.1
   have e2 : (fo p xb).val = xb := Nat.mod_eq_of_lt hxy.2.1
   have e3 : (fo p ya).val = ya := Nat.mod_eq_of_lt hxy.2.2.1
   have e4 : (fo p yb).val = yb := Nat.mod_eq_of_lt hxy.2.2.2
   show Sim _ (.agg [.lst true 2 [.lst false 4 (ws4 H.lim (fo p xa).val), .lst false 4 (ws4 H.lim (fo p xb).val)], .lst true 2 [.lst false 4 (ws4 H.lim (fo p ya).val), .lst false 4 (ws4 H.lim (fo p yb).val)], .sb false])
   rw [e1, e2, e3, e4]
   cbv
 . rw [if_pos rfl] at h
   have hxy : (xa = 0 ∧ xb = 0) ∧ ya = 0 ∧ yb = 0 := by
     apply Classical.byContradiction
     intro hn
     rw [if_neg hn] at h
     cases h
   obtain ⟨⟨rfl, rfl⟩, rfl, rfl⟩ := hxy
   show Sim _ (.agg [.lst true 2 [.lst false 4 (ws4 H.lim (0 : Fin p).val), .lst false 4 (ws4 H.lim (0 : Fin p).val)], .lst true 2 [.lst false 4 (ws4 H.lim (0 : Fin p).val), .lst false 4 (ws4 H.lim (0 : Fin p).val)], .sb true])
   rw [Cv.val_zero]
   cbv
theorem Ctr4_2 (H : H5) (c : Cu p) : Sim (Cr4_2 H c) (Ct (kR4_2 H c) c.b2) := by cbv
theorem rGrp4_2 {H : H5} (hH : H = H5.real) (hp : PrM 256 p) {c : Cu p} (h1c : c.one = fo p 1) (P : PtB) (hPxa : P.xa < 2 ^ 256) (hPxb : P.xb < 2 ^ 256) (hPya : P.ya < 2 ^ 256) (hPyb : P.yb < 2 ^ 256) :
   Sp 21 [Cr4_2 H c, PR4_2 H P] (.s .i64 (grpE (good2 c.b2 P) (timesPt (Cv.ops2 Cv.inv2) (ptOf2 p P) c.r) : Nat)) := by
 have g1 := rGood4_2 hH hp c P hPxa hPxb hPya hPyb
 have ne := fun A hA x => i_ne (A := A) hA (x := x) (y := 0)
 by_cases h1 : good2 c.b2 P = 0
 . have sm : Sp 93 [Cr4_2 H c, PR4_2 H P, .lst false 4 (ws4 H.lim c.r)] _ := Spec.args (timesRS (okR4_2 hH hp h1c) (ptOf2 p P) (H5.hlim hH) (row4u H.lim c.r)) ⟨Ctr4_2 H c, good_pt4_2 hH h1, by cbv⟩
   rw [h1] at g1
   rw [h1]
   change Sp _ _ (Pt_ (kR4_2 H c) (timesPt (Cv.ops2 Cv.inv2) (ptOf2 p P) c.r)) at sm
   generalize timesPt (Cv.ops2 Cv.inv2) (ptOf2 p P) c.r = R at *
   obtain _ | ⟨x, y⟩ := R
   . show Sp _ _ (.s .i64 ((0 : Nat) : Int))
     generalize (kR4_2 H c).O.zero = z at *
     refine mk Tryz.func21 rfl rfl L0 R1 (by decide +kernel) fun A S hA hS => ?_
     have e0 : A.cmp .neq ((0 : Nat) : Int) 0 = false := ne A hA _
     have nt := i_not hA (rfl : true = true)
     unfold bodyOf Tryz.f21
     cbv
     repeat ((first | refine ABr.t (by first | assumption | rfl) ?_ | refine ABr.f (by first | assumption | rfl) ?_ | refine aF hS g1 ?_ | refine aF hS sm ?_); cbv)
   . show Sp _ _ (.s .i64 ((72 : Nat) : Int))
     refine mk Tryz.func21 rfl rfl L0 R1 (by decide +kernel) fun A S hA hS => ?_
     have e0 : A.cmp .neq ((0 : Nat) : Int) 0 = false := ne A hA _
     have nt := i_not hA (rfl : false = false)
     unfold bodyOf Tryz.f21
     cbv
     repeat ((first | refine ABr.t (by first | assumption | rfl) ?_ | refine ABr.f (by first | assumption | rfl) ?_ | refine aF hS g1 ?_ | refine aF hS sm ?_); cbv)
 . obtain ⟨e, he⟩ : ∃ e, good2 c.b2 P = e + 1 := ⟨good2 c.b2 P - 1, by omega⟩
   rw [he] at g1 ⊢
   show Sp _ _ (.s .i64 ((e + 1 : Nat) : Int))
   have h2' : ((e + 1 : Nat) : Int) ≠ 0 := by omega
   generalize ((e + 1 : Nat) : Int) = v at *
   clear h1 he
   refine mk Tryz.func21 rfl rfl L0 R1 (by decide +kernel) fun A S hA hS => ?_
   have e0 : A.cmp .neq v 0 = true := by rw [ne A hA, decide_eq_false h2']; rfl
   unfold bodyOf Tryz.f21
   cbv
   repeat ((first | refine ABr.t (by first | assumption | rfl) ?_ | refine ABr.f (by first | assumption | rfl) ?_ | refine aF hS g1 ?_); cbv)
def kR6_1 (H : H5) (c : Cu p) : Rk (Fin p) := ⟨(Cv.ops1 Cv.inv1), fun a => [.lst false 6 (ws6 H.lim a.val)], 1, 6, ws6 H.lim p, (H.minv p : Nat), ws6 H.lim (H.mf (2 * 384) p 1), 1, ws4 H.lim c.r, [.lst false 6 (ws6 H.lim c.x1)], [.lst false 6 (ws6 H.lim c.y1)]⟩
theorem okR6_1 {H : H5} (hH : H = H5.real) (hp : PrM 384 p) {c : Cu p} (h1c : c.one = fo p 1) : OkR (kR6_1 H c) c.b1 where
 add a b := Spec.res (Spec.args (addR6_1 hH hp c a b) (by cbv)) (by cbv)
 sub a b := Spec.res (Spec.args (subR6_1 hH hp c a b) (by cbv)) (by cbv)
 mul a b := Spec.res (Spec.args (mulR6_1 hH hp c a b) (by cbv)) (by cbv)
 inv a := by
   have h := invR6_1 hH hp c a
   show Sp _ _ (Nt (kR6_1 H c) (Cv.inv1 a))
   generalize Cv.inv1 a = i at *
   exact Spec.res (Spec.args h (by cbv)) (by cbv)
 same a b := Spec.args (sameR6_1 hH hp a b) (by cbv)
 zero a := Spec.args (zeroR6_1 hH hp a) (by cbv)
 none := by
   have h := noneR6_1 hH hp c
   show Sp _ _ (Nt (kR6_1 H c) (0 : Fin p))
   generalize (0 : Fin p) = z at *
   exact Spec.res (Spec.args h (by cbv)) (by cbv)
 one := by
   have h := oneR6_1 hH hp h1c
   have e : (kR6_1 H c).O.one = c.one := by rw [h1c]; rfl
   rw [e]
   generalize (c.one : Fin p) = z at *
   exact Spec.res (Spec.args h (by cbv)) (by cbv)
theorem good_pt6_1 {H : H5} (hH : H = H5.real) {c : Cu p} {P : PtA} (h : good1 c.b1 P = 0) : Sim (PR6_1 H P) (Pt_ (kR6_1 H c) (ptOf p P)) := by
 obtain ⟨x, y, inf⟩ := P
 unfold good1 at h
 dsimp only at h
 cases inf
 . rw [if_neg (by simp)] at h
   have hxy : x < p ∧ y < p := by
     apply Classical.byContradiction
     intro hn
     rw [if_neg hn] at h
     cases h
   have ex : (fo p x).val = x := Nat.mod_eq_of_lt hxy.1
   have ey : (fo p y).val = y := Nat.mod_eq_of_lt hxy.2
   show Sim _ (.agg [.lst true 1 [.lst false 6 (ws6 H.lim (fo p x).val)], .lst true 1 [.lst false 6 (ws6 H.lim (fo p y).val)], .sb false])
   rw [ex, ey]
   cbv
 . rw [if_pos rfl] at h
   have hxy : x = 0 ∧ y = 0 := by
     apply Classical.byContradiction
     intro hn
     rw [if_neg hn] at h
     cases h
   obtain ⟨rfl, rfl⟩ := hxy
   show Sim _ (.agg [.lst true 1 [.lst false 6 (ws6 H.lim (0 : Fin p).val)], .lst true 1 [.lst false 6 (ws6 H.lim (0 : Fin p).val)], .sb true])
   rw [Cv.val_zero]
   cbv
theorem Ctr6_1 (H : H5) (c : Cu p) : Sim (Cr6_1 H c) (Ct (kR6_1 H c) c.b1) := by cbv
theorem rGrp6_1 {H : H5} (hH : H = H5.real) (hp : PrM 384 p) {c : Cu p} (h1c : c.one = fo p 1) (P : PtA) (hPx : P.x < 2 ^ 384) (hPy : P.y < 2 ^ 384) :
   Sp 21 [Cr6_1 H c, PR6_1 H P] (.s .i64 (grpE (good1 c.b1 P) (timesPt (Cv.ops1 Cv.inv1) (ptOf p P) c.r) : Nat)) := by
 have g1 := rGood6_1 hH hp c P hPx hPy
 have ne := fun A hA x => i_ne (A := A) hA (x := x) (y := 0)
 by_cases h1 : good1 c.b1 P = 0
 . have sm : Sp 93 [Cr6_1 H c, PR6_1 H P, .lst false 4 (ws4 H.lim c.r)] _ := Spec.args (timesRS (okR6_1 hH hp h1c) (ptOf p P) (H5.hlim hH) (row4u H.lim c.r)) ⟨Ctr6_1 H c, good_pt6_1 hH h1, by cbv⟩
   rw [h1] at g1
   rw [h1]
   change Sp _ _ (Pt_ (kR6_1 H c) (timesPt (Cv.ops1 Cv.inv1) (ptOf p P) c.r)) at sm
   generalize timesPt (Cv.ops1 Cv.inv1) (ptOf p P) c.r = R at *
   obtain _ | ⟨x, y⟩ := R
   . show Sp _ _ (.s .i64 ((0 : Nat) : Int))
     generalize (kR6_1 H c).O.zero = z at *
     refine mk Tryz.func21 rfl rfl L0 R1 (by decide +kernel) fun A S hA hS => ?_
     have e0 : A.cmp .neq ((0 : Nat) : Int) 0 = false := ne A hA _
     have nt := i_not hA (rfl : true = true)
     unfold bodyOf Tryz.f21
     cbv
     repeat ((first | refine ABr.t (by first | assumption | rfl) ?_ | refine ABr.f (by first | assumption | rfl) ?_ | refine aF hS g1 ?_ | refine aF hS sm ?_); cbv)
   . show Sp _ _ (.s .i64 ((72 : Nat) : Int))
     refine mk Tryz.func21 rfl rfl L0 R1 (by decide +kernel) fun A S hA hS => ?_
     have e0 : A.cmp .neq ((0 : Nat) : Int) 0 = false := ne A hA _
     have nt := i_not hA (rfl : false = false)
     unfold bodyOf Tryz.f21
     cbv
     repeat ((first | refine ABr.t (by first | assumption | rfl) ?_ | refine ABr.f (by first | assumption | rfl) ?_ | refine aF hS g1 ?_ | refine aF hS sm ?_); cbv)
 . obtain ⟨e, he⟩ : ∃ e, good1 c.b1 P = e + 1 := ⟨good1 c.b1 P - 1, by omega⟩
   rw [he] at g1 ⊢
   show Sp _ _ (.s .i64 ((e + 1 : Nat) : Int))
   have h2' : ((e + 1 : Nat) : Int) ≠ 0 := by omega
   generalize ((e + 1 : Nat) : Int) = v at *
   clear h1 he
   refine mk Tryz.func21 rfl rfl L0 R1 (by decide +kernel) fun A S hA hS => ?_
   have e0 : A.cmp .neq v 0 = true := by rw [ne A hA, decide_eq_false h2']; rfl
   unfold bodyOf Tryz.f21
   cbv
   repeat ((first | refine ABr.t (by first | assumption | rfl) ?_ | refine ABr.f (by first | assumption | rfl) ?_ | refine aF hS g1 ?_); cbv)
end
end Go.Proofs.YtmholgclgamnnaaGreat
end
section
namespace Gp
structure Op (α : Type) where
 add : α → α → α
 sub : α → α → α
 mul : α → α → α
 zero : α
 one : α
structure CR {α : Type} (O : Op α) : Prop where
 add_comm : ∀ a b, O.add a b = O.add b a
 add_assoc : ∀ a b c, O.add (O.add a b) c = O.add a (O.add b c)
 zero_add : ∀ a, O.add O.zero a = a
 sub_add : ∀ a b, O.add (O.sub a b) b = a
 mul_comm : ∀ a b, O.mul a b = O.mul b a
 mul_assoc : ∀ a b c, O.mul (O.mul a b) c = O.mul a (O.mul b c)
 one_mul : ∀ a, O.mul O.one a = a
 mul_add : ∀ a b c, O.mul a (O.add b c) = O.add (O.mul a b) (O.mul a c)
inductive E where
 | v (i : Nat)
 | o
 | a (x y : E)
 | s (x y : E)
 | m (x y : E)
section
variable {α : Type} (O : Op α)
end
structure Hom {α β : Type} (O : Op α) (O' : Op β) (f : α → β) : Prop where
 add : ∀ a b, f (O.add a b) = O'.add (f a) (f b)
 sub : ∀ a b, f (O.sub a b) = O'.sub (f a) (f b)
 mul : ∀ a b, f (O.mul a b) = O'.mul (f a) (f b)
 zero : f O.zero = O'.zero
 one : f O.one = O'.one
section
variable {α : Type} {O : Op α} (L : CR O)
include L
theorem CR.add_zero (a : α) : O.add a O.zero = a := by rw [L.add_comm, L.zero_add]
theorem CR.add_cancel {a b c : α} (h : O.add a c = O.add b c) : a = b := by
 have : O.add (O.add a c) (O.sub O.zero c) = O.add (O.add b c) (O.sub O.zero c) := by rw [h]
 rwa [L.add_assoc, L.add_assoc, L.add_comm c, L.sub_add, L.add_zero, L.add_zero] at this
theorem CR.mul_zero (a : α) : O.mul a O.zero = O.zero := by
 apply L.add_cancel (c := O.mul a O.zero)
 rw [← L.mul_add, L.zero_add, L.zero_add]
end
structure Gr {α : Type} (O : Op α) (G : α → Int → Prop) : Prop where
 add : ∀ a b d, G a d → G b d → G (O.add a b) d
 sub : ∀ a b d, G a d → G b d → G (O.sub a b) d
 mul : ∀ a b d e, G a d → G b e → G (O.mul a b) (d + e)
 zero : ∀ d, G O.zero d
 one : G O.one 0
 mono : ∀ a d e, G a d → d ≤ e → G a e
structure Nm {α : Type} (O : Op α) (N : α → Nat) : Prop where
 add : ∀ a b, N (O.add a b) ≤ N a + N b
 sub : ∀ a b, N (O.sub a b) ≤ N a + N b
 mul : ∀ a b, N (O.mul a b) ≤ N a * N b
 zero : N O.zero = 0
 one : N O.one ≤ 1
end Gp
end
section
namespace Gp
section
variable {α : Type} (O : Op α)
variable {O} (L : CR O)
include L
end
section
variable {α : Type} {O : Op α} (L : CR O)
include L
end
end Gp
end
section
namespace Gp
section
variable {α : Type} (O : Op α) (x : Nat → α)
end
end Gp
end
section
namespace Gp
section
variable {α : Type} {O : Op α} (L : CR O)
include L
end
structure T3 (α : Type) where
 x : α
 y : α
 z : α
section
variable {α : Type} (O : Op α)
end
end Gp
end
section
namespace Gp
open Cv
def opOf {α : Type} (O : Ops α) : Op α := ⟨O.add, O.sub, O.mul, O.zero, O.one⟩
structure Fd {α : Type} (O : Ops α) : Prop where
 cr : CR (opOf O)
 inv : ∀ a, a ≠ O.zero → O.mul a (O.inv a) = O.one
 ne : O.one ≠ O.zero
 two : O.add O.one O.one ≠ O.zero
section
variable {α : Type} [DecidableEq α] {O : Ops α} (F : Fd O)
include F
theorem Fd.mul_zero (a : α) : O.mul a O.zero = O.zero := F.cr.mul_zero a
theorem Fd.mul_comm (a b : α) : O.mul a b = O.mul b a := F.cr.mul_comm a b
theorem Fd.mul_assoc (a b c : α) : O.mul (O.mul a b) c = O.mul a (O.mul b c) := F.cr.mul_assoc a b c
theorem Fd.one_mul (a : α) : O.mul O.one a = a := F.cr.one_mul a
theorem Fd.dom {a b : α} (h : O.mul a b = O.zero) : a = O.zero ∨ b = O.zero := by
 by_cases ha : a = O.zero
 . exact .inl ha
 . refine .inr ?_
   have := congrArg (O.mul (O.inv a)) h
   rwa [F.mul_zero, ← F.mul_assoc, F.mul_comm _ a, F.inv a ha, F.one_mul] at this
end
section
variable {α : Type} [DecidableEq α] {O : Ops α} (F : Fd O)
include F
variable {b : α}
end
end Gp
end
section
namespace Gp
open Cv
section
variable {α : Type} [DecidableEq α] {O : Ops α} (F : Fd O)
include F
end
def No2 {α : Type} (O : Ops α) (b : α) : Prop := ∀ x, O.add (O.mul (O.mul x x) x) b ≠ O.zero
section
variable {α : Type} [DecidableEq α] {O : Ops α} (F : Fd O) {b : α} (N : No2 O b)
include F
include N
omit N in
omit N in
end
end Gp
end
section
namespace Go.Proofs.YtmholgclgamnnaaGreat
open Go Eng
section
variable {p : Nat} [NeZero p]
theorem tm_inf {α : Type} [DecidableEq α] {O : Cv.Ops α} (L : Cv.Laws O) (k n : Nat) : ∀ i, (Cv.tm O (Cv.inf O) k n i).z = O.zero
 | 0 => rfl
 | i + 1 => by
   have h := Cv.dbl_inf L (.inl (tm_inf L k n i))
   rw [Cv.tm]
   split
   . unfold Cv.plus
     rw [if_pos h]
     rfl
   . exact h
theorem down_times {α : Type} [DecidableEq α] {O : Cv.Ops α} (L : Cv.Laws O) (P : Cv.Pt α) (k : Nat) : Cv.down O (Cv.tm O (Cv.up O P) k 256 256) = timesPt O P k ∧ ((Cv.tm O (Cv.up O P) k 256 256).z = O.zero ↔ timesPt O P k = none) := by
 obtain _ | ⟨x, y⟩ := P
 . have h := tm_inf L k 256 256
   show Cv.down O (Cv.tm O (Cv.inf O) k 256 256) = none ∧ ((Cv.tm O (Cv.inf O) k 256 256).z = O.zero ↔ none = none)
   unfold Cv.down
   rw [if_pos h]
   exact ⟨rfl, fun _ => rfl, fun _ => h⟩
 . have h := Cv.tm_alike L x y k 256 256
   show Cv.down O (Cv.tm O ⟨x, y, O.one⟩ k 256 256) = _ ∧ ((Cv.tm O ⟨x, y, O.one⟩ k 256 256).z = O.zero ↔ _)
   unfold timesPt Cv.down
   dsimp only
   generalize Cv.tm O ⟨x, y, O.one⟩ k 256 256 = a at *
   generalize Cv.tr O x y k 256 256 = b at *
   rcases h with ⟨h1, h2⟩ | ⟨rfl, h2⟩
   . rw [if_pos h1, if_pos h2]
     exact ⟨rfl, fun _ => rfl, fun _ => h1⟩
   . rw [if_neg h2, if_neg h2, L.assoc a.y]
     exact ⟨rfl, fun h => absurd h h2, fun h => by cases h⟩
theorem laws1p {b : Nat} (hp : PrM b p) : Cv.Laws (Cv.ops1 (Cv.inv1 (p := p))) := Cv.laws1 _ (one_ne hp)
theorem laws2p {b : Nat} (hp : PrM b p) : Cv.Laws (Cv.ops2 (Cv.inv2 (p := p))) := Cv.laws2 _ (one_ne hp)
theorem grpP_eq {n : Nat} (hp : PrM n p) (b : Fin p) (P : PtA) (r : Nat) : grpP b P r = grpE (good1 b P) (timesPt (Cv.ops1 Cv.inv1) (ptOf p P) r) := by
 unfold grpP
 have h := (down_times (laws1p hp) (ptOf p P) r).2
 cases h1 : good1 b P with
 | zero =>
   rw [if_neg (fun h => h rfl)]
   cases ht : timesPt (Cv.ops1 Cv.inv1) (ptOf p P) r with
   | none => exact if_pos (h.2 ht)
   | some q => exact if_neg (fun e => by rw [h.1 e] at ht; cases ht)
 | succ m => rfl
theorem grpQ_eq {n : Nat} (hp : PrM n p) (b : Cv.F2 p) (P : PtB) (r : Nat) : grpQ b P r = grpE (good2 b P) (timesPt (Cv.ops2 Cv.inv2) (ptOf2 p P) r) := by
 unfold grpQ
 have h := (down_times (laws2p hp) (ptOf2 p P) r).2
 cases h1 : good2 b P with
 | zero =>
   rw [if_neg (fun h => h rfl)]
   cases ht : timesPt (Cv.ops2 Cv.inv2) (ptOf2 p P) r with
   | none => exact if_pos (h.2 ht)
   | some q => exact if_neg (fun e => by rw [h.1 e] at ht; cases ht)
 | succ m => rfl
end
section
variable {α : Type} [DecidableEq α] {k : Rk α} {b : α} (hK : OkR k b)
include hK
end
section
variable {p : Nat} [NeZero p]
end
def PLv (H : H5) (x0 x1 y0 y1 : Nat) (inf : Bool) : AVal := .agg [.s .u64 (H.lim x0 0), .s .u64 (H.lim x0 1), .s .u64 (H.lim x0 2), .s .u64 (H.lim x0 3), .s .u64 (H.lim x0 4), .s .u64 (H.lim x0 5), .s .u64 (H.lim x1 0), .s .u64 (H.lim x1 1), .s .u64 (H.lim x1 2), .s .u64 (H.lim x1 3), .s .u64 (H.lim x1 4), .s .u64 (H.lim x1 5), .s .u64 (H.lim y0 0), .s .u64 (H.lim y0 1), .s .u64 (H.lim y0 2), .s .u64 (H.lim y0 3), .s .u64 (H.lim y0 4), .s .u64 (H.lim y0 5), .s .u64 (H.lim y1 0), .s .u64 (H.lim y1 1), .s .u64 (H.lim y1 2), .s .u64 (H.lim y1 3), .s .u64 (H.lim y1 4), .s .u64 (H.lim y1 5), .sb inf]
theorem lim_top {H : H5} (hH : H = H5.real) {x n : Nat} (hx : x < 2 ^ (64 * n)) (i : Nat) (hi : n ≤ i) : H.lim x i = 0 := by
 rw [hH]
 show ((x / 2 ^ (64 * i) % 2 ^ 64 : Nat) : Int) = 0
 rw [Nat.div_eq_of_lt (Nat.lt_of_lt_of_le hx (Nat.pow_le_pow_right (by decide) (by omega))), Nat.zero_mod]; rfl
theorem lim_z {H : H5} (hH : H = H5.real) (i : Nat) : H.lim 0 i = 0 := by rw [hH]; show ((0 / 2 ^ (64 * i) % 2 ^ 64 : Nat) : Int) = 0; rw [Nat.zero_div]; rfl
def RTo : Nat → Md := fun _ => .own
def ROf : Nat → Md := fun _ => .mid
theorem from4_1 {H : H5} (hH : H = H5.real) (P : PtA) (hx : P.x < 2 ^ 256) (hy : P.y < 2 ^ 256) : Sp 34 [P1_4 H P] (PLv H P.x 0 P.y 0 P.inf) := by
 have tx := fun i hi => lim_top hH (n := 4) hx i hi
 have ty := fun i hi => lim_top hH (n := 4) hy i hi
 have z := lim_z hH
 obtain ⟨x, y, inf⟩ := P
 dsimp only at *
 refine mk Tryz.func34 rfl rfl L0 RTo (by decide +kernel) fun A S hA hS => ?_
 unfold bodyOf Tryz.f34
 cbv
 exact ⟨(tx 4 (by decide)).symm, (tx 5 (by decide)).symm, (z 0).symm, (z 1).symm, (z 2).symm, (z 3).symm, (z 4).symm, (z 5).symm, (ty 4 (by decide)).symm, (ty 5 (by decide)).symm, (z 0).symm, (z 1).symm, (z 2).symm, (z 3).symm, (z 4).symm, (z 5).symm, trivial⟩
theorem of4_1 {H : H5} (hH : H = H5.real) (P : PtA) (hx : P.x < 2 ^ 256) (hy : P.y < 2 ^ 256) : Sp 45 [PR4_1 H P] (PLv H P.x 0 P.y 0 P.inf) := by
 have tx := fun i hi => lim_top hH (n := 4) hx i hi
 have ty := fun i hi => lim_top hH (n := 4) hy i hi
 have z := lim_z hH
 obtain ⟨x, y, inf⟩ := P
 dsimp only at *
 refine mk Tryz.func45 rfl rfl L0 ROf (by decide +kernel) fun A S hA hS => ?_
 unfold bodyOf Tryz.f45
 cbv
 exact ⟨(tx 4 (by decide)).symm, (tx 5 (by decide)).symm, (z 0).symm, (z 1).symm, (z 2).symm, (z 3).symm, (z 4).symm, (z 5).symm, (ty 4 (by decide)).symm, (ty 5 (by decide)).symm, (z 0).symm, (z 1).symm, (z 2).symm, (z 3).symm, (z 4).symm, (z 5).symm, trivial⟩
theorem from4_2 {H : H5} (hH : H = H5.real) (P : PtB) (hxa : P.xa < 2 ^ 256) (hxb : P.xb < 2 ^ 256) (hya : P.ya < 2 ^ 256) (hyb : P.yb < 2 ^ 256) : Sp 46 [P2_4 H P] (PLv H P.xa P.xb P.ya P.yb P.inf) := by
 have txa := fun i hi => lim_top hH (n := 4) hxa i hi
 have txb := fun i hi => lim_top hH (n := 4) hxb i hi
 have tya := fun i hi => lim_top hH (n := 4) hya i hi
 have tyb := fun i hi => lim_top hH (n := 4) hyb i hi
 have z := lim_z hH
 obtain ⟨xa, xb, ya, yb, inf⟩ := P
 dsimp only at *
 refine mk Tryz.func46 rfl rfl L0 RTo (by decide +kernel) fun A S hA hS => ?_
 unfold bodyOf Tryz.f46
 cbv
 exact ⟨(txa 4 (by decide)).symm, (txa 5 (by decide)).symm, (txb 4 (by decide)).symm, (txb 5 (by decide)).symm, (tya 4 (by decide)).symm, (tya 5 (by decide)).symm, (tyb 4 (by decide)).symm, (tyb 5 (by decide)).symm, trivial⟩
theorem of4_2 {H : H5} (hH : H = H5.real) (P : PtB) (hxa : P.xa < 2 ^ 256) (hxb : P.xb < 2 ^ 256) (hya : P.ya < 2 ^ 256) (hyb : P.yb < 2 ^ 256) : Sp 45 [PR4_2 H P] (PLv H P.xa P.xb P.ya P.yb P.inf) := by
 have txa := fun i hi => lim_top hH (n := 4) hxa i hi
 have txb := fun i hi => lim_top hH (n := 4) hxb i hi
 have tya := fun i hi => lim_top hH (n := 4) hya i hi
 have tyb := fun i hi => lim_top hH (n := 4) hyb i hi
 have z := lim_z hH
 obtain ⟨xa, xb, ya, yb, inf⟩ := P
 dsimp only at *
 refine mk Tryz.func45 rfl rfl L0 ROf (by decide +kernel) fun A S hA hS => ?_
 unfold bodyOf Tryz.f45
 cbv
 exact ⟨(txa 4 (by decide)).symm, (txa 5 (by decide)).symm, (txb 4 (by decide)).symm, (txb 5 (by decide)).symm, (tya 4 (by decide)).symm, (tya 5 (by decide)).symm, (tyb 4 (by decide)).symm, (tyb 5 (by decide)).symm, trivial⟩
theorem from6_1 {H : H5} (hH : H = H5.real) (P : PtA) (hx : P.x < 2 ^ 384) (hy : P.y < 2 ^ 384) : Sp 25 [P1_6 H P] (PLv H P.x 0 P.y 0 P.inf) := by
 have tx := fun i hi => lim_top hH (n := 6) hx i hi
 have ty := fun i hi => lim_top hH (n := 6) hy i hi
 have z := lim_z hH
 obtain ⟨x, y, inf⟩ := P
 dsimp only at *
 refine mk Tryz.func25 rfl rfl L0 RTo (by decide +kernel) fun A S hA hS => ?_
 unfold bodyOf Tryz.f25
 cbv
 exact ⟨(z 0).symm, (z 1).symm, (z 2).symm, (z 3).symm, (z 4).symm, (z 5).symm, (z 0).symm, (z 1).symm, (z 2).symm, (z 3).symm, (z 4).symm, (z 5).symm, trivial⟩
theorem of6_1 {H : H5} (hH : H = H5.real) (P : PtA) (hx : P.x < 2 ^ 384) (hy : P.y < 2 ^ 384) : Sp 45 [PR6_1 H P] (PLv H P.x 0 P.y 0 P.inf) := by
 have tx := fun i hi => lim_top hH (n := 6) hx i hi
 have ty := fun i hi => lim_top hH (n := 6) hy i hi
 have z := lim_z hH
 obtain ⟨x, y, inf⟩ := P
 dsimp only at *
 refine mk Tryz.func45 rfl rfl L0 ROf (by decide +kernel) fun A S hA hS => ?_
 unfold bodyOf Tryz.f45
 cbv
 exact ⟨(z 0).symm, (z 1).symm, (z 2).symm, (z 3).symm, (z 4).symm, (z 5).symm, (z 0).symm, (z 1).symm, (z 2).symm, (z 3).symm, (z 4).symm, (z 5).symm, trivial⟩
section
variable {p : Nat} [NeZero p]
theorem eq25 {A : Ar} (hA : A = Ar.real) {H : H5} (x0 x1 y0 y1 : Nat) (inf : Bool) : A.eqs [(.s .u64 (H.lim x0 0), .s .u64 (H.lim x0 0)), (.s .u64 (H.lim x0 1), .s .u64 (H.lim x0 1)), (.s .u64 (H.lim x0 2), .s .u64 (H.lim x0 2)), (.s .u64 (H.lim x0 3), .s .u64 (H.lim x0 3)), (.s .u64 (H.lim x0 4), .s .u64 (H.lim x0 4)), (.s .u64 (H.lim x0 5), .s .u64 (H.lim x0 5)), (.s .u64 (H.lim x1 0), .s .u64 (H.lim x1 0)), (.s .u64 (H.lim x1 1), .s .u64 (H.lim x1 1)), (.s .u64 (H.lim x1 2), .s .u64 (H.lim x1 2)), (.s .u64 (H.lim x1 3), .s .u64 (H.lim x1 3)), (.s .u64 (H.lim x1 4), .s .u64 (H.lim x1 4)), (.s .u64 (H.lim x1 5), .s .u64 (H.lim x1 5)), (.s .u64 (H.lim y0 0), .s .u64 (H.lim y0 0)), (.s .u64 (H.lim y0 1), .s .u64 (H.lim y0 1)), (.s .u64 (H.lim y0 2), .s .u64 (H.lim y0 2)), (.s .u64 (H.lim y0 3), .s .u64 (H.lim y0 3)), (.s .u64 (H.lim y0 4), .s .u64 (H.lim y0 4)), (.s .u64 (H.lim y0 5), .s .u64 (H.lim y0 5)), (.s .u64 (H.lim y1 0), .s .u64 (H.lim y1 0)), (.s .u64 (H.lim y1 1), .s .u64 (H.lim y1 1)), (.s .u64 (H.lim y1 2), .s .u64 (H.lim y1 2)), (.s .u64 (H.lim y1 3), .s .u64 (H.lim y1 3)), (.s .u64 (H.lim y1 4), .s .u64 (H.lim y1 4)), (.s .u64 (H.lim y1 5), .s .u64 (H.lim y1 5)), (.sb inf, .sb inf)] = true := by
 have hs : ∀ x : Int, leafEq (.s .u64 x, .s .u64 x) = true := fun x => beq_self_eq_true x
 have hb : leafEq (.sb inf, .sb inf) = true := by cases inf <;> rfl
 rw [eqs_real hA]
 simp only [List.all_cons, List.all_nil, hs, hb, Bool.and_self]
theorem ofZ {H : H5} (hH : H = H5.real) : Sp 45 [.agg [.v (.slice none 0 0), .v (.slice none 0 0), .b false]] (PLv H 0 0 0 0 false) := by
 have z := lim_z hH
 refine mk Tryz.func45 rfl rfl L0 ROf (by decide +kernel) fun A S hA hS => ?_
 unfold bodyOf Tryz.f45
 cbv
 repeat' (first | exact (z _).symm | exact rfl | exact trivial | constructor)
theorem ans0S {H : H5} (x0 x1 y0 y1 : Nat) (inf : Bool) {d : Nat} {X Y : List AVal} {t : Bool} (ho : Sp 45 [.agg [.lst true d X, .lst true d Y, .sb t]] (PLv H x0 x1 y0 y1 inf)) :
   Sp 24 [PLv H x0 x1 y0 y1 inf, .s .i64 ((0 : Nat) : Int), .agg [.lst true d X, .lst true d Y, .sb t], .s .i64 ((0 : Nat) : Int)] (.sb true) := by
 refine mk Tryz.func24 rfl rfl L0 R1 (by decide +kernel) fun A S hA hS => ?_
 have e0 : A.cmp .neq ((0 : Nat) : Int) 0 = false := i_ne hA
 have e1 : A.cmp .eql ((0 : Nat) : Int) ((0 : Nat) : Int) = true := i_eq hA
 have e2 := eq25 hA (H := H) x0 x1 y0 y1 inf
 unfold bodyOf Tryz.f24
 cbv
 repeat ((first | refine ABr.t (by first | assumption | rfl) ?_ | refine ABr.f (by first | assumption | rfl) ?_ | refine aF hS ho ?_); cbv)
 exact e2
theorem ans1S {H : H5} (hH : H = H5.real) (e : Nat) : Sp 24 [PLv H 0 0 0 0 false, .s .i64 ((e + 1 : Nat) : Int), .agg [.v (.slice none 0 0), .v (.slice none 0 0), .b false], .s .i64 ((e + 1 : Nat) : Int)] (.sb true) := by
 have ho := ofZ hH
 have h1 : ((e + 1 : Nat) : Int) ≠ 0 := by omega
 generalize ((e + 1 : Nat) : Int) = v at *
 refine mk Tryz.func24 rfl rfl L0 R1 (by decide +kernel) fun A S hA hS => ?_
 have e0 : A.cmp .neq v 0 = true := by rw [i_ne hA, decide_eq_false h1]; rfl
 have e1 : A.cmp .eql v v = true := by rw [i_eq hA]; exact decide_eq_true rfl
 have e2 := eq25 hA (H := H) 0 0 0 0 false
 unfold bodyOf Tryz.f24
 cbv
 repeat ((first | refine ABr.t (by first | assumption | rfl) ?_ | refine ABr.f (by first | assumption | rfl) ?_ | refine aF hS ho ?_); cbv)
 exact e2
end
end Go.Proofs.YtmholgclgamnnaaGreat
end
