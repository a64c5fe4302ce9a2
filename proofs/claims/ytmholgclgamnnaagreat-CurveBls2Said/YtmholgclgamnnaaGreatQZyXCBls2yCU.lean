import Derived.Test.YtmholgclgamnnaaGreatQZCU
import Derived.Test.YtmholgclgamnnaaGreatQZyXCBls2yCP
section
set_option linter.unusedVariables false
set_option linter.unusedSectionVars false
set_option linter.unusedSimpArgs false
namespace Go.Proofs.YtmholgclgamnnaaGreat
open Go Eng
set_option maxRecDepth 100000
set_option exponentiation.threshold 2000
set_option maxHeartbeats 4000000
section
variable {p : Nat} [NeZero p]
theorem rGood6_2 {H : H5} (hH : H = H5.real) (hp : PrM 384 p) (c : Cu p) (P : PtB) (hxa : P.xa < 2 ^ 384) (hxb : P.xb < 2 ^ 384) (hya : P.ya < 2 ^ 384) (hyb : P.yb < 2 ^ 384) : Sp 19 [Cr6_2 H c, PR6_2 H P] (.s .i64 (good2 c.b2 P : Nat)) := by
  obtain ⟨xa, xb, ya, yb, inf⟩ := P
  dsimp only at hxa hxb hya hyb
  have pp := hp.pos
  have lxa := fun t ht => rLess6 (H5.hlim hH) xa p hxa hp.lt t ht
  have zxa := rZeroS6 hH xa hxa
  have lxb := fun t ht => rLess6 (H5.hlim hH) xb p hxb hp.lt t ht
  have zxb := rZeroS6 hH xb hxb
  have lya := fun t ht => rLess6 (H5.hlim hH) ya p hya hp.lt t ht
  have zya := rZeroS6 hH ya hya
  have lyb := fun t ht => rLess6 (H5.hlim hH) yb p hyb hp.lt t ht
  have zyb := rZeroS6 hH yb hyb
  cases inf
  · by_cases qxa : xa < p
    · by_cases qxb : xb < p
      · by_cases qya : ya < p
        · by_cases qyb : yb < p
          · rw [show good2 c.b2 ⟨xa, xb, ya, yb, false⟩ = (if _ then 0 else 71) from by unfold good2; rw [if_neg (by simp), if_pos ⟨qxa, qxb, qya, qyb⟩]]
            have lxa := lxa true (decide_eq_true qxa).symm
            have lxb := lxb true (decide_eq_true qxb).symm
            have lya := lya true (decide_eq_true qya).symm
            have lyb := lyb true (decide_eq_true qyb).symm
            clear zxa zxb zya zyb
            obtain ⟨u0, rfl⟩ : ∃ u : Fin p, xa = u.val := ⟨⟨xa, qxa⟩, rfl⟩
            obtain ⟨u1, rfl⟩ : ∃ u : Fin p, xb = u.val := ⟨⟨xb, qxb⟩, rfl⟩
            obtain ⟨u2, rfl⟩ : ∃ u : Fin p, ya = u.val := ⟨⟨ya, qya⟩, rfl⟩
            obtain ⟨u3, rfl⟩ : ∃ u : Fin p, yb = u.val := ⟨⟨yb, qyb⟩, rfl⟩
            simp only [fo_val]
            have m1 := mulR6_2 hH hp c (⟨u2, u3⟩ : Cv.F2 p) (⟨u2, u3⟩ : Cv.F2 p)
            have m2 := mulR6_2 hH hp c (⟨u0, u1⟩ : Cv.F2 p) (⟨u0, u1⟩ : Cv.F2 p)
            obtain ⟨yy, hyy⟩ : ∃ q, q = (Cv.ops2 Cv.inv2).mul (⟨u2, u3⟩ : Cv.F2 p) (⟨u2, u3⟩ : Cv.F2 p) := ⟨_, rfl⟩
            obtain ⟨x2, hx2⟩ : ∃ q, q = (Cv.ops2 Cv.inv2).mul (⟨u0, u1⟩ : Cv.F2 p) (⟨u0, u1⟩ : Cv.F2 p) := ⟨_, rfl⟩
            change Sp _ [_, _, _] (Nr6_2 H ((Cv.ops2 Cv.inv2).mul (⟨u2, u3⟩ : Cv.F2 p) (⟨u2, u3⟩ : Cv.F2 p))) at m1
            rw [← hyy] at m1
            change Sp _ [_, _, _] (Nr6_2 H ((Cv.ops2 Cv.inv2).mul (⟨u0, u1⟩ : Cv.F2 p) (⟨u0, u1⟩ : Cv.F2 p))) at m2
            rw [← hx2] at m2
            rw [← hyy, ← hx2]
            obtain ⟨x3, hx3⟩ : ∃ q, q = (Cv.ops2 Cv.inv2).mul x2 (⟨u0, u1⟩ : Cv.F2 p) := ⟨_, rfl⟩
            have m3 := mulR6_2 hH hp c x2 (⟨u0, u1⟩ : Cv.F2 p)
            change Sp _ [_, _, _] (Nr6_2 H ((Cv.ops2 Cv.inv2).mul x2 (⟨u0, u1⟩ : Cv.F2 p))) at m3
            rw [← hx3] at m3
            rw [← hx3]
            obtain ⟨s, hs⟩ : ∃ q, q = (Cv.ops2 Cv.inv2).add x3 c.b2 := ⟨_, rfl⟩
            have a4 := addR6_2 hH hp c x3 c.b2
            change Sp _ [_, _, _] (Nr6_2 H ((Cv.ops2 Cv.inv2).add x3 c.b2)) at a4
            rw [← hs] at a4
            rw [← hs]
            have sm := sameR6_2 hH hp yy s
            clear hyy hx2 hx3 hs
            by_cases he : yy = s
            · rw [if_pos he]
              rw [decide_eq_true he] at sm
              refine mk Tryz.func19 rfl rfl L0 RGood (by decide +kernel) fun A S hA hS => ?_
              have nt := i_not hA (rfl : true = true)
              have nf := i_not hA (rfl : false = false)
              unfold bodyOf Tryz.f19
              cbv
              repeat (first
                | (refine ABr.t (by assumption) ?_; cbv)
                | (refine ABr.f (by assumption) ?_; cbv)
                | (refine ABr.t rfl ?_; cbv)
                | (refine ABr.f rfl ?_; cbv)
                | (refine ACall.mk _ (cf hS lxa) ?_; cbv)
                | (refine ACall.mk _ (cf hS lxb) ?_; cbv)
                | (refine ACall.mk _ (cf hS lya) ?_; cbv)
                | (refine ACall.mk _ (cf hS lyb) ?_; cbv)
                | (refine ACall.mk _ (cf hS m1) ?_; cbv)
                | (refine ACall.mk _ (cf hS m2) ?_; cbv)
                | (refine ACall.mk _ (cf hS m3) ?_; cbv)
                | (refine ACall.mk _ (cf hS a4) ?_; cbv)
                | (refine ACall.mk _ (cf hS sm) ?_; cbv))
            · rw [if_neg he]
              rw [decide_eq_false he] at sm
              refine mk Tryz.func19 rfl rfl L0 RGood (by decide +kernel) fun A S hA hS => ?_
              have nt := i_not hA (rfl : true = true)
              have nf := i_not hA (rfl : false = false)
              unfold bodyOf Tryz.f19
              cbv
              repeat (first
                | (refine ABr.t (by assumption) ?_; cbv)
                | (refine ABr.f (by assumption) ?_; cbv)
                | (refine ABr.t rfl ?_; cbv)
                | (refine ABr.f rfl ?_; cbv)
                | (refine ACall.mk _ (cf hS lxa) ?_; cbv)
                | (refine ACall.mk _ (cf hS lxb) ?_; cbv)
                | (refine ACall.mk _ (cf hS lya) ?_; cbv)
                | (refine ACall.mk _ (cf hS lyb) ?_; cbv)
                | (refine ACall.mk _ (cf hS m1) ?_; cbv)
                | (refine ACall.mk _ (cf hS m2) ?_; cbv)
                | (refine ACall.mk _ (cf hS m3) ?_; cbv)
                | (refine ACall.mk _ (cf hS a4) ?_; cbv)
                | (refine ACall.mk _ (cf hS sm) ?_; cbv))
          · rw [show good2 c.b2 ⟨xa, xb, ya, yb, false⟩ = 70 from by unfold good2; rw [if_neg (by simp), if_neg (by dsimp only; omega)]]
            have lxa := lxa true (decide_eq_true qxa).symm
            have lxb := lxb true (decide_eq_true qxb).symm
            have lya := lya true (decide_eq_true qya).symm
            have lyb := lyb false (decide_eq_false qyb).symm
            refine mk Tryz.func19 rfl rfl L0 RGood (by decide +kernel) fun A S hA hS => ?_
            have nt := i_not hA (rfl : true = true)
            have nf := i_not hA (rfl : false = false)
            unfold bodyOf Tryz.f19
            cbv
            repeat (first
              | (refine ABr.t (by assumption) ?_; cbv)
              | (refine ABr.f (by assumption) ?_; cbv)
              | (refine ABr.t rfl ?_; cbv)
              | (refine ABr.f rfl ?_; cbv)
              | (refine ACall.mk _ (cf hS lxa) ?_; cbv)
              | (refine ACall.mk _ (cf hS lxb) ?_; cbv)
              | (refine ACall.mk _ (cf hS lya) ?_; cbv)
              | (refine ACall.mk _ (cf hS lyb) ?_; cbv))
        · rw [show good2 c.b2 ⟨xa, xb, ya, yb, false⟩ = 70 from by unfold good2; rw [if_neg (by simp), if_neg (by dsimp only; omega)]]
          have lxa := lxa true (decide_eq_true qxa).symm
          have lxb := lxb true (decide_eq_true qxb).symm
          have lya := lya false (decide_eq_false qya).symm
          refine mk Tryz.func19 rfl rfl L0 RGood (by decide +kernel) fun A S hA hS => ?_
          have nt := i_not hA (rfl : true = true)
          have nf := i_not hA (rfl : false = false)
          unfold bodyOf Tryz.f19
          cbv
          repeat (first
            | (refine ABr.t (by assumption) ?_; cbv)
            | (refine ABr.f (by assumption) ?_; cbv)
            | (refine ABr.t rfl ?_; cbv)
            | (refine ABr.f rfl ?_; cbv)
            | (refine ACall.mk _ (cf hS lxa) ?_; cbv)
            | (refine ACall.mk _ (cf hS lxb) ?_; cbv)
            | (refine ACall.mk _ (cf hS lya) ?_; cbv))
      · rw [show good2 c.b2 ⟨xa, xb, ya, yb, false⟩ = 70 from by unfold good2; rw [if_neg (by simp), if_neg (by dsimp only; omega)]]
        have lxa := lxa true (decide_eq_true qxa).symm
        have lxb := lxb false (decide_eq_false qxb).symm
        refine mk Tryz.func19 rfl rfl L0 RGood (by decide +kernel) fun A S hA hS => ?_
        have nt := i_not hA (rfl : true = true)
        have nf := i_not hA (rfl : false = false)
        unfold bodyOf Tryz.f19
        cbv
        repeat (first
          | (refine ABr.t (by assumption) ?_; cbv)
          | (refine ABr.f (by assumption) ?_; cbv)
          | (refine ABr.t rfl ?_; cbv)
          | (refine ABr.f rfl ?_; cbv)
          | (refine ACall.mk _ (cf hS lxa) ?_; cbv)
          | (refine ACall.mk _ (cf hS lxb) ?_; cbv))
    · rw [show good2 c.b2 ⟨xa, xb, ya, yb, false⟩ = 70 from by unfold good2; rw [if_neg (by simp), if_neg (by dsimp only; omega)]]
      have lxa := lxa false (decide_eq_false qxa).symm
      refine mk Tryz.func19 rfl rfl L0 RGood (by decide +kernel) fun A S hA hS => ?_
      have nt := i_not hA (rfl : true = true)
      have nf := i_not hA (rfl : false = false)
      unfold bodyOf Tryz.f19
      cbv
      repeat (first
        | (refine ABr.t (by assumption) ?_; cbv)
        | (refine ABr.f (by assumption) ?_; cbv)
        | (refine ABr.t rfl ?_; cbv)
        | (refine ABr.f rfl ?_; cbv)
        | (refine ACall.mk _ (cf hS lxa) ?_; cbv))
  · by_cases qxa : xa < p
    · by_cases wxa : xa = 0
      · by_cases qxb : xb < p
        · by_cases wxb : xb = 0
          · by_cases qya : ya < p
            · by_cases wya : ya = 0
              · by_cases qyb : yb < p
                · by_cases wyb : yb = 0
                  · rw [show good2 c.b2 ⟨xa, xb, ya, yb, true⟩ = 0 from by unfold good2; rw [if_pos rfl, if_pos (by dsimp only; omega)]]
                    have lxa := lxa true (decide_eq_true qxa).symm
                    rw [decide_eq_true wxa] at zxa
                    have lxb := lxb true (decide_eq_true qxb).symm
                    rw [decide_eq_true wxb] at zxb
                    have lya := lya true (decide_eq_true qya).symm
                    rw [decide_eq_true wya] at zya
                    have lyb := lyb true (decide_eq_true qyb).symm
                    rw [decide_eq_true wyb] at zyb
                    refine mk Tryz.func19 rfl rfl L0 RGood (by decide +kernel) fun A S hA hS => ?_
                    have nt := i_not hA (rfl : true = true)
                    have nf := i_not hA (rfl : false = false)
                    unfold bodyOf Tryz.f19
                    cbv
                    repeat (first
                      | (refine ABr.t (by assumption) ?_; cbv)
                      | (refine ABr.f (by assumption) ?_; cbv)
                      | (refine ABr.t rfl ?_; cbv)
                      | (refine ABr.f rfl ?_; cbv)
                      | (refine ACall.mk _ (cf hS lxa) ?_; cbv)
                      | (refine ACall.mk _ (cf hS lxb) ?_; cbv)
                      | (refine ACall.mk _ (cf hS lya) ?_; cbv)
                      | (refine ACall.mk _ (cf hS lyb) ?_; cbv)
                      | (refine ACall.mk _ (cf hS zxa) ?_; cbv)
                      | (refine ACall.mk _ (cf hS zxb) ?_; cbv)
                      | (refine ACall.mk _ (cf hS zya) ?_; cbv)
                      | (refine ACall.mk _ (cf hS zyb) ?_; cbv))
                  · rw [show good2 c.b2 ⟨xa, xb, ya, yb, true⟩ = 70 from by unfold good2; rw [if_pos rfl, if_neg (by dsimp only; omega)]]
                    have lxa := lxa true (decide_eq_true qxa).symm
                    rw [decide_eq_true wxa] at zxa
                    have lxb := lxb true (decide_eq_true qxb).symm
                    rw [decide_eq_true wxb] at zxb
                    have lya := lya true (decide_eq_true qya).symm
                    rw [decide_eq_true wya] at zya
                    have lyb := lyb true (decide_eq_true qyb).symm
                    rw [decide_eq_false wyb] at zyb
                    refine mk Tryz.func19 rfl rfl L0 RGood (by decide +kernel) fun A S hA hS => ?_
                    have nt := i_not hA (rfl : true = true)
                    have nf := i_not hA (rfl : false = false)
                    unfold bodyOf Tryz.f19
                    cbv
                    repeat (first
                      | (refine ABr.t (by assumption) ?_; cbv)
                      | (refine ABr.f (by assumption) ?_; cbv)
                      | (refine ABr.t rfl ?_; cbv)
                      | (refine ABr.f rfl ?_; cbv)
                      | (refine ACall.mk _ (cf hS lxa) ?_; cbv)
                      | (refine ACall.mk _ (cf hS lxb) ?_; cbv)
                      | (refine ACall.mk _ (cf hS lya) ?_; cbv)
                      | (refine ACall.mk _ (cf hS lyb) ?_; cbv)
                      | (refine ACall.mk _ (cf hS zxa) ?_; cbv)
                      | (refine ACall.mk _ (cf hS zxb) ?_; cbv)
                      | (refine ACall.mk _ (cf hS zya) ?_; cbv)
                      | (refine ACall.mk _ (cf hS zyb) ?_; cbv))
                · rw [show good2 c.b2 ⟨xa, xb, ya, yb, true⟩ = 70 from by unfold good2; rw [if_pos rfl, if_neg (by dsimp only; omega)]]
                  have lxa := lxa true (decide_eq_true qxa).symm
                  rw [decide_eq_true wxa] at zxa
                  have lxb := lxb true (decide_eq_true qxb).symm
                  rw [decide_eq_true wxb] at zxb
                  have lya := lya true (decide_eq_true qya).symm
                  rw [decide_eq_true wya] at zya
                  have lyb := lyb false (decide_eq_false qyb).symm
                  refine mk Tryz.func19 rfl rfl L0 RGood (by decide +kernel) fun A S hA hS => ?_
                  have nt := i_not hA (rfl : true = true)
                  have nf := i_not hA (rfl : false = false)
                  unfold bodyOf Tryz.f19
                  cbv
                  repeat (first
                    | (refine ABr.t (by assumption) ?_; cbv)
                    | (refine ABr.f (by assumption) ?_; cbv)
                    | (refine ABr.t rfl ?_; cbv)
                    | (refine ABr.f rfl ?_; cbv)
                    | (refine ACall.mk _ (cf hS lxa) ?_; cbv)
                    | (refine ACall.mk _ (cf hS lxb) ?_; cbv)
                    | (refine ACall.mk _ (cf hS lya) ?_; cbv)
                    | (refine ACall.mk _ (cf hS lyb) ?_; cbv)
                    | (refine ACall.mk _ (cf hS zxa) ?_; cbv)
                    | (refine ACall.mk _ (cf hS zxb) ?_; cbv)
                    | (refine ACall.mk _ (cf hS zya) ?_; cbv))
              · rw [show good2 c.b2 ⟨xa, xb, ya, yb, true⟩ = 70 from by unfold good2; rw [if_pos rfl, if_neg (by dsimp only; omega)]]
                have lxa := lxa true (decide_eq_true qxa).symm
                rw [decide_eq_true wxa] at zxa
                have lxb := lxb true (decide_eq_true qxb).symm
                rw [decide_eq_true wxb] at zxb
                have lya := lya true (decide_eq_true qya).symm
                rw [decide_eq_false wya] at zya
                refine mk Tryz.func19 rfl rfl L0 RGood (by decide +kernel) fun A S hA hS => ?_
                have nt := i_not hA (rfl : true = true)
                have nf := i_not hA (rfl : false = false)
                unfold bodyOf Tryz.f19
                cbv
                repeat (first
                  | (refine ABr.t (by assumption) ?_; cbv)
                  | (refine ABr.f (by assumption) ?_; cbv)
                  | (refine ABr.t rfl ?_; cbv)
                  | (refine ABr.f rfl ?_; cbv)
                  | (refine ACall.mk _ (cf hS lxa) ?_; cbv)
                  | (refine ACall.mk _ (cf hS lxb) ?_; cbv)
                  | (refine ACall.mk _ (cf hS lya) ?_; cbv)
                  | (refine ACall.mk _ (cf hS zxa) ?_; cbv)
                  | (refine ACall.mk _ (cf hS zxb) ?_; cbv)
                  | (refine ACall.mk _ (cf hS zya) ?_; cbv))
            · rw [show good2 c.b2 ⟨xa, xb, ya, yb, true⟩ = 70 from by unfold good2; rw [if_pos rfl, if_neg (by dsimp only; omega)]]
              have lxa := lxa true (decide_eq_true qxa).symm
              rw [decide_eq_true wxa] at zxa
              have lxb := lxb true (decide_eq_true qxb).symm
              rw [decide_eq_true wxb] at zxb
              have lya := lya false (decide_eq_false qya).symm
              refine mk Tryz.func19 rfl rfl L0 RGood (by decide +kernel) fun A S hA hS => ?_
              have nt := i_not hA (rfl : true = true)
              have nf := i_not hA (rfl : false = false)
              unfold bodyOf Tryz.f19
              cbv
              repeat (first
                | (refine ABr.t (by assumption) ?_; cbv)
                | (refine ABr.f (by assumption) ?_; cbv)
                | (refine ABr.t rfl ?_; cbv)
                | (refine ABr.f rfl ?_; cbv)
                | (refine ACall.mk _ (cf hS lxa) ?_; cbv)
                | (refine ACall.mk _ (cf hS lxb) ?_; cbv)
                | (refine ACall.mk _ (cf hS lya) ?_; cbv)
                | (refine ACall.mk _ (cf hS zxa) ?_; cbv)
                | (refine ACall.mk _ (cf hS zxb) ?_; cbv))
          · rw [show good2 c.b2 ⟨xa, xb, ya, yb, true⟩ = 70 from by unfold good2; rw [if_pos rfl, if_neg (by dsimp only; omega)]]
            have lxa := lxa true (decide_eq_true qxa).symm
            rw [decide_eq_true wxa] at zxa
            have lxb := lxb true (decide_eq_true qxb).symm
            rw [decide_eq_false wxb] at zxb
            refine mk Tryz.func19 rfl rfl L0 RGood (by decide +kernel) fun A S hA hS => ?_
            have nt := i_not hA (rfl : true = true)
            have nf := i_not hA (rfl : false = false)
            unfold bodyOf Tryz.f19
            cbv
            repeat (first
              | (refine ABr.t (by assumption) ?_; cbv)
              | (refine ABr.f (by assumption) ?_; cbv)
              | (refine ABr.t rfl ?_; cbv)
              | (refine ABr.f rfl ?_; cbv)
              | (refine ACall.mk _ (cf hS lxa) ?_; cbv)
              | (refine ACall.mk _ (cf hS lxb) ?_; cbv)
              | (refine ACall.mk _ (cf hS zxa) ?_; cbv)
              | (refine ACall.mk _ (cf hS zxb) ?_; cbv))
        · rw [show good2 c.b2 ⟨xa, xb, ya, yb, true⟩ = 70 from by unfold good2; rw [if_pos rfl, if_neg (by dsimp only; omega)]]
          have lxa := lxa true (decide_eq_true qxa).symm
          rw [decide_eq_true wxa] at zxa
          have lxb := lxb false (decide_eq_false qxb).symm
          refine mk Tryz.func19 rfl rfl L0 RGood (by decide +kernel) fun A S hA hS => ?_
          have nt := i_not hA (rfl : true = true)
          have nf := i_not hA (rfl : false = false)
          unfold bodyOf Tryz.f19
          cbv
          repeat (first
            | (refine ABr.t (by assumption) ?_; cbv)
            | (refine ABr.f (by assumption) ?_; cbv)
            | (refine ABr.t rfl ?_; cbv)
            | (refine ABr.f rfl ?_; cbv)
            | (refine ACall.mk _ (cf hS lxa) ?_; cbv)
            | (refine ACall.mk _ (cf hS lxb) ?_; cbv)
            | (refine ACall.mk _ (cf hS zxa) ?_; cbv))
      · rw [show good2 c.b2 ⟨xa, xb, ya, yb, true⟩ = 70 from by unfold good2; rw [if_pos rfl, if_neg (by dsimp only; omega)]]
        have lxa := lxa true (decide_eq_true qxa).symm
        rw [decide_eq_false wxa] at zxa
        refine mk Tryz.func19 rfl rfl L0 RGood (by decide +kernel) fun A S hA hS => ?_
        have nt := i_not hA (rfl : true = true)
        have nf := i_not hA (rfl : false = false)
        unfold bodyOf Tryz.f19
        cbv
        repeat (first
          | (refine ABr.t (by assumption) ?_; cbv)
          | (refine ABr.f (by assumption) ?_; cbv)
          | (refine ABr.t rfl ?_; cbv)
          | (refine ABr.f rfl ?_; cbv)
          | (refine ACall.mk _ (cf hS lxa) ?_; cbv)
          | (refine ACall.mk _ (cf hS zxa) ?_; cbv))
    · rw [show good2 c.b2 ⟨xa, xb, ya, yb, true⟩ = 70 from by unfold good2; rw [if_pos rfl, if_neg (by dsimp only; omega)]]
      have lxa := lxa false (decide_eq_false qxa).symm
      refine mk Tryz.func19 rfl rfl L0 RGood (by decide +kernel) fun A S hA hS => ?_
      have nt := i_not hA (rfl : true = true)
      have nf := i_not hA (rfl : false = false)
      unfold bodyOf Tryz.f19
      cbv
      repeat (first
        | (refine ABr.t (by assumption) ?_; cbv)
        | (refine ABr.f (by assumption) ?_; cbv)
        | (refine ABr.t rfl ?_; cbv)
        | (refine ABr.f rfl ?_; cbv)
        | (refine ACall.mk _ (cf hS lxa) ?_; cbv))
end
end Go.Proofs.YtmholgclgamnnaaGreat
end
section
set_option linter.unusedVariables false
set_option linter.unusedSectionVars false
set_option linter.unusedSimpArgs false
namespace Go.Proofs.YtmholgclgamnnaaGreat
open Go Eng
set_option maxRecDepth 100000
set_option exponentiation.threshold 2000
set_option maxHeartbeats 4000000
section
variable {p : Nat} [NeZero p]
def kR6_2 (H : H5) (c : Cu p) : Rk (Cv.F2 p) := ⟨(Cv.ops2 Cv.inv2), fun a => [.lst false 6 (ws6 H.lim a.a.val), .lst false 6 (ws6 H.lim a.b.val)], 2, 6, ws6 H.lim p, (H.minv p : Nat), ws6 H.lim (H.mf (2 * 384) p 1), 2, ws4 H.lim c.r, [.lst false 6 (ws6 H.lim c.xa), .lst false 6 (ws6 H.lim c.xb)], [.lst false 6 (ws6 H.lim c.ya), .lst false 6 (ws6 H.lim c.yb)]⟩
theorem okR6_2 {H : H5} (hH : H = H5.real) (hp : PrM 384 p) {c : Cu p} (h1c : c.one = fo p 1) : OkR (kR6_2 H c) c.b2 where
  add a b := Spec.res (Spec.args (addR6_2 hH hp c a b) (by cbv)) (by cbv)
  sub a b := Spec.res (Spec.args (subR6_2 hH hp c a b) (by cbv)) (by cbv)
  mul a b := Spec.res (Spec.args (mulR6_2 hH hp c a b) (by cbv)) (by cbv)
  inv a := by
    have h := invR6_2 hH hp c a
    show Sp _ _ (Nt (kR6_2 H c) (Cv.inv2 a))
    generalize Cv.inv2 a = i at *
    exact Spec.res (Spec.args h (by cbv)) (by cbv)
  same a b := Spec.args (sameR6_2 hH hp a b) (by cbv)
  zero a := Spec.args (zeroR6_2 hH hp a) (by cbv)
  none := by
    have h := noneR6_2 hH hp c
    show Sp _ _ (Nt (kR6_2 H c) (⟨0, 0⟩ : Cv.F2 p))
    generalize (⟨0, 0⟩ : Cv.F2 p) = z at *
    exact Spec.res (Spec.args h (by cbv)) (by cbv)
  one := by
    have h := oneR6_2 hH hp h1c
    have e : (kR6_2 H c).O.one = ⟨c.one, 0⟩ := by rw [h1c]; rfl
    rw [e]
    generalize (⟨c.one, 0⟩ : Cv.F2 p) = z at *
    exact Spec.res (Spec.args h (by cbv)) (by cbv)
theorem good_pt6_2 {H : H5} (hH : H = H5.real) {c : Cu p} {P : PtB} (h : good2 c.b2 P = 0) : Sim (PR6_2 H P) (Pt_ (kR6_2 H c) (ptOf2 p P)) := by
  obtain ⟨xa, xb, ya, yb, inf⟩ := P
  unfold good2 at h
  dsimp only at h
  cases inf
  · rw [if_neg (by simp)] at h
    have hxy : xa < p ∧ xb < p ∧ ya < p ∧ yb < p := by
      apply Classical.byContradiction
      intro hn
      rw [if_neg hn] at h
      cases h
    have e1 : (fo p xa).val = xa := Nat.mod_eq_of_lt hxy.1
    have e2 : (fo p xb).val = xb := Nat.mod_eq_of_lt hxy.2.1
    have e3 : (fo p ya).val = ya := Nat.mod_eq_of_lt hxy.2.2.1
    have e4 : (fo p yb).val = yb := Nat.mod_eq_of_lt hxy.2.2.2
    show Sim _ (.agg [.lst true 2 [.lst false 6 (ws6 H.lim (fo p xa).val), .lst false 6 (ws6 H.lim (fo p xb).val)], .lst true 2 [.lst false 6 (ws6 H.lim (fo p ya).val), .lst false 6 (ws6 H.lim (fo p yb).val)], .sb false])
    rw [e1, e2, e3, e4]
    cbv
  · rw [if_pos rfl] at h
    have hxy : (xa = 0 ∧ xb = 0) ∧ ya = 0 ∧ yb = 0 := by
      apply Classical.byContradiction
      intro hn
      rw [if_neg hn] at h
      cases h
    obtain ⟨⟨rfl, rfl⟩, rfl, rfl⟩ := hxy
    show Sim _ (.agg [.lst true 2 [.lst false 6 (ws6 H.lim (0 : Fin p).val), .lst false 6 (ws6 H.lim (0 : Fin p).val)], .lst true 2 [.lst false 6 (ws6 H.lim (0 : Fin p).val), .lst false 6 (ws6 H.lim (0 : Fin p).val)], .sb true])
    rw [Cv.val_zero]
    cbv
/-- What the reference tells of a point: nothing where there was an error. -/
def Rp6_2 (H : H5) (c : Cu p) (e : Nat) (P : Cv.Pt (Cv.F2 p)) : AVal := match e with
  | 0 => Pt_ (kR6_2 H c) P
  | _ + 1 => .agg [.v (.slice none 0 0), .v (.slice none 0 0), .b false]
theorem Ctr6_2 (H : H5) (c : Cu p) : Sim (Cr6_2 H c) (Ct (kR6_2 H c) c.b2) := by cbv
theorem rAdd6_2 {H : H5} (hH : H = H5.real) (hp : PrM 384 p) {c : Cu p} (h1c : c.one = fo p 1) (P Q : PtB) (hPxa : P.xa < 2 ^ 384) (hPxb : P.xb < 2 ^ 384) (hPya : P.ya < 2 ^ 384) (hPyb : P.yb < 2 ^ 384) (hQxa : Q.xa < 2 ^ 384) (hQxb : Q.xb < 2 ^ 384) (hQya : Q.ya < 2 ^ 384) (hQyb : Q.yb < 2 ^ 384) :
    Sp 23 [Cr6_2 H c, PR6_2 H P, PR6_2 H Q] (.tup [Rp6_2 H c (addE (good2 c.b2 P) (good2 c.b2 Q)) (Cv.sumR (Cv.ops2 Cv.inv2) (ptOf2 p P) (ptOf2 p Q)), .s .i64 (addE (good2 c.b2 P) (good2 c.b2 Q) : Nat)]) := by
  have g1 := rGood6_2 hH hp c P hPxa hPxb hPya hPyb
  have g2 := rGood6_2 hH hp c Q hQxa hQxb hQya hQyb
  have ne := fun A hA x => i_ne (A := A) hA (x := x) (y := 0)
  have eq := fun A hA x => i_eq (A := A) hA (x := x) (y := 0)
  by_cases h1 : good2 c.b2 P = 0
  · by_cases h2 : good2 c.b2 Q = 0
    · have sm : Sp 97 [Cr6_2 H c, PR6_2 H P, PR6_2 H Q] _ := Spec.args (sumRS (okR6_2 hH hp h1c) (ptOf2 p P) (ptOf2 p Q)) ⟨Ctr6_2 H c, good_pt6_2 hH h1, good_pt6_2 hH h2⟩
      rw [h1] at g1
      rw [h2] at g2
      rw [h1, h2]
      have ok := pt_agg (kR6_2 H c) (Cv.sumR (kR6_2 H c).O (ptOf2 p P) (ptOf2 p Q))
      show Sp _ _ (.tup [Pt_ (kR6_2 H c) (Cv.sumR (kR6_2 H c).O (ptOf2 p P) (ptOf2 p Q)), .s .i64 ((0 : Nat) : Int)])
      obtain ⟨X, Y, t, e⟩ := ok
      rw [e] at sm ⊢
      clear e h1 h2
      refine mk Tryz.func23 rfl rfl L0 R1 (by decide +kernel) fun A S hA hS => ?_
      have e0 : A.cmp .neq ((0 : Nat) : Int) 0 = false := ne A hA _
      have e1 : A.cmp .eql ((0 : Nat) : Int) 0 = true := eq A hA _
      unfold bodyOf Tryz.f23
      cbv
      repeat (first
        | (refine ABr.t (by assumption) ?_; cbv)
        | (refine ABr.f (by assumption) ?_; cbv)
        | (refine ABr.t rfl ?_; cbv)
        | (refine ABr.f rfl ?_; cbv)
        | (refine ACall.mk _ (cf hS g1) ?_; cbv)
        | (refine ACall.mk _ (cf hS g2) ?_; cbv)
        | (refine ACall.mk _ (cf hS sm) ?_; cbv))
    · rw [h1] at g1
      obtain ⟨e, he⟩ : ∃ e, good2 c.b2 Q = e + 1 := ⟨good2 c.b2 Q - 1, by omega⟩
      rw [h1]
      rw [he] at g2 ⊢
      show Sp _ _ (.tup [.agg [.v (.slice none 0 0), .v (.slice none 0 0), .b false], .s .i64 ((e + 1 : Nat) : Int)])
      have h2' : ((e + 1 : Nat) : Int) ≠ 0 := by omega
      generalize ((e + 1 : Nat) : Int) = v at *
      clear h1 h2 he
      refine mk Tryz.func23 rfl rfl L0 R1 (by decide +kernel) fun A S hA hS => ?_
      have e0 : A.cmp .neq v 0 = true := by rw [ne A hA, decide_eq_false h2']; rfl
      have e1 : A.cmp .eql ((0 : Nat) : Int) 0 = true := eq A hA _
      unfold bodyOf Tryz.f23
      cbv
      repeat (first
        | (refine ABr.t (by assumption) ?_; cbv)
        | (refine ABr.f (by assumption) ?_; cbv)
        | (refine ABr.t rfl ?_; cbv)
        | (refine ABr.f rfl ?_; cbv)
        | (refine ACall.mk _ (cf hS g1) ?_; cbv)
        | (refine ACall.mk _ (cf hS g2) ?_; cbv))
  · obtain ⟨e, he⟩ : ∃ e, good2 c.b2 P = e + 1 := ⟨good2 c.b2 P - 1, by omega⟩
    rw [he] at g1 ⊢
    show Sp _ _ (.tup [.agg [.v (.slice none 0 0), .v (.slice none 0 0), .b false], .s .i64 ((e + 1 : Nat) : Int)])
    have h2' : ((e + 1 : Nat) : Int) ≠ 0 := by omega
    generalize ((e + 1 : Nat) : Int) = v at *
    clear h1 he g2
    refine mk Tryz.func23 rfl rfl L0 R1 (by decide +kernel) fun A S hA hS => ?_
    have e0 : A.cmp .neq v 0 = true := by rw [ne A hA, decide_eq_false h2']; rfl
    have e1 : A.cmp .eql v 0 = false := by rw [eq A hA, decide_eq_false h2']
    unfold bodyOf Tryz.f23
    cbv
    repeat (first
      | (refine ABr.t (by assumption) ?_; cbv)
      | (refine ABr.f (by assumption) ?_; cbv)
      | (refine ABr.t rfl ?_; cbv)
      | (refine ABr.f rfl ?_; cbv)
      | (refine ACall.mk _ (cf hS g1) ?_; cbv))
theorem rMul6_2 {H : H5} (hH : H = H5.real) (hp : PrM 384 p) {c : Cu p} (h1c : c.one = fo p 1) (P : PtB) (hPxa : P.xa < 2 ^ 384) (hPxb : P.xb < 2 ^ 384) (hPya : P.ya < 2 ^ 384) (hPyb : P.yb < 2 ^ 384) {row : List AVal} {k : Nat} (hrow : IsRow row (H.lim k) 4) :
    Sp 27 [Cr6_2 H c, PR6_2 H P, .lst true 4 row] (.tup [Rp6_2 H c (good2 c.b2 P) (timesPt (Cv.ops2 Cv.inv2) (ptOf2 p P) k), .s .i64 (good2 c.b2 P : Nat)]) := by
  have g1 := rGood6_2 hH hp c P hPxa hPxb hPya hPyb
  have ne := fun A hA x => i_ne (A := A) hA (x := x) (y := 0)
  by_cases h1 : good2 c.b2 P = 0
  · have sm : Sp 93 [Cr6_2 H c, PR6_2 H P, .lst true 4 row] _ := Spec.args (timesRS (okR6_2 hH hp h1c) (ptOf2 p P) (H5.hlim hH) hrow) ⟨Ctr6_2 H c, good_pt6_2 hH h1, rfl, rfl⟩
    rw [h1] at g1
    rw [h1]
    show Sp _ _ (.tup [Pt_ (kR6_2 H c) (timesPt (kR6_2 H c).O (ptOf2 p P) k), .s .i64 ((0 : Nat) : Int)])
    obtain ⟨X, Y, t, e⟩ := pt_agg (kR6_2 H c) (timesPt (kR6_2 H c).O (ptOf2 p P) k)
    rw [e] at sm ⊢
    clear e h1
    refine mk Tryz.func27 rfl rfl L0 R1 (by decide +kernel) fun A S hA hS => ?_
    have e0 : A.cmp .neq ((0 : Nat) : Int) 0 = false := ne A hA _
    unfold bodyOf Tryz.f27
    cbv
    repeat (first
      | (refine ABr.t (by assumption) ?_; cbv)
      | (refine ABr.f (by assumption) ?_; cbv)
      | (refine ABr.t rfl ?_; cbv)
      | (refine ABr.f rfl ?_; cbv)
      | (refine ACall.mk _ (cf hS g1) ?_; cbv)
      | (refine ACall.mk _ (cf hS sm) ?_; cbv))
  · obtain ⟨e, he⟩ : ∃ e, good2 c.b2 P = e + 1 := ⟨good2 c.b2 P - 1, by omega⟩
    rw [he] at g1 ⊢
    show Sp _ _ (.tup [.agg [.v (.slice none 0 0), .v (.slice none 0 0), .b false], .s .i64 ((e + 1 : Nat) : Int)])
    have h2' : ((e + 1 : Nat) : Int) ≠ 0 := by omega
    generalize ((e + 1 : Nat) : Int) = v at *
    clear h1 he
    refine mk Tryz.func27 rfl rfl L0 R1 (by decide +kernel) fun A S hA hS => ?_
    have e0 : A.cmp .neq v 0 = true := by rw [ne A hA, decide_eq_false h2']; rfl
    unfold bodyOf Tryz.f27
    cbv
    repeat (first
      | (refine ABr.t (by assumption) ?_; cbv)
      | (refine ABr.f (by assumption) ?_; cbv)
      | (refine ABr.t rfl ?_; cbv)
      | (refine ABr.f rfl ?_; cbv)
      | (refine ACall.mk _ (cf hS g1) ?_; cbv))
end
end Go.Proofs.YtmholgclgamnnaaGreat
end
section
set_option linter.unusedVariables false
set_option linter.unusedSectionVars false
set_option linter.unusedSimpArgs false
namespace Go.Proofs.YtmholgclgamnnaaGreat
open Go Eng
set_option maxRecDepth 100000
set_option exponentiation.threshold 2000
set_option maxHeartbeats 4000000
theorem ref6_2 {H : H5} (hH : H = H5.real) (x0 x1 y0 y1 : Nat) (inf : Bool) : Sp 16 [PLv H x0 x1 y0 y1 inf, .i .i64 6, .i .i64 2] (PR6_2 H ⟨x0 % 2 ^ (64 * 6), x1 % 2 ^ (64 * 6), y0 % 2 ^ (64 * 6), y1 % 2 ^ (64 * 6), inf⟩) := by
  have cx0 := cutS6 (H := H) x0
  have cx1 := cutS6 (H := H) x1
  have cy0 := cutS6 (H := H) y0
  have cy1 := cutS6 (H := H) y1
  have rx0 := fun i hi => lim_red hH x0 6 i hi
  have rx1 := fun i hi => lim_red hH x1 6 i hi
  have ry0 := fun i hi => lim_red hH y0 6 i hi
  have ry1 := fun i hi => lim_red hH y1 6 i hi
  generalize x0 % 2 ^ (64 * 6) = mx0 at *
  generalize x1 % 2 ^ (64 * 6) = mx1 at *
  generalize y0 % 2 ^ (64 * 6) = my0 at *
  generalize y1 % 2 ^ (64 * 6) = my1 at *
  refine mk Tryz.func16 rfl rfl L0 RRef (by decide +kernel) fun A S hA hS => ?_
  unfold bodyOf Tryz.f16
  cbv
  refine ACall.mk _ (cf hS cx0) ?_
  cbv
  refine ACall.mk _ (cf hS cx1) ?_
  cbv
  refine ACall.mk _ (cf hS cy0) ?_
  cbv
  refine ACall.mk _ (cf hS cy1) ?_
  cbv
  repeat' (first | exact (rx0 _ (by decide)).symm | exact (rx1 _ (by decide)).symm | exact (ry0 _ (by decide)).symm | exact (ry1 _ (by decide)).symm | exact trivial | constructor)
theorem to6_2 {H : H5} (hH : H = H5.real) (x0 x1 y0 y1 : Nat) (inf : Bool) : Sp 39 [PLv H x0 x1 y0 y1 inf] (P2_6 H ⟨x0 % 2 ^ (64 * 6), x1 % 2 ^ (64 * 6), y0 % 2 ^ (64 * 6), y1 % 2 ^ (64 * 6), inf⟩) := by
  have rx0 := fun i hi => lim_red hH x0 6 i hi
  have rx1 := fun i hi => lim_red hH x1 6 i hi
  have ry0 := fun i hi => lim_red hH y0 6 i hi
  have ry1 := fun i hi => lim_red hH y1 6 i hi
  generalize x0 % 2 ^ (64 * 6) = mx0 at *
  generalize x1 % 2 ^ (64 * 6) = mx1 at *
  generalize y0 % 2 ^ (64 * 6) = my0 at *
  generalize y1 % 2 ^ (64 * 6) = my1 at *
  refine mk Tryz.func39 rfl rfl L0 RTo (by decide +kernel) fun A S hA hS => ?_
  unfold bodyOf Tryz.f39
  cbv
  exact ⟨(rx0 0 (by decide)).symm, (rx0 1 (by decide)).symm, (rx0 2 (by decide)).symm, (rx0 3 (by decide)).symm, (rx0 4 (by decide)).symm, (rx0 5 (by decide)).symm, (rx1 0 (by decide)).symm, (rx1 1 (by decide)).symm, (rx1 2 (by decide)).symm, (rx1 3 (by decide)).symm, (rx1 4 (by decide)).symm, (rx1 5 (by decide)).symm, (ry0 0 (by decide)).symm, (ry0 1 (by decide)).symm, (ry0 2 (by decide)).symm, (ry0 3 (by decide)).symm, (ry0 4 (by decide)).symm, (ry0 5 (by decide)).symm, (ry1 0 (by decide)).symm, (ry1 1 (by decide)).symm, (ry1 2 (by decide)).symm, (ry1 3 (by decide)).symm, (ry1 4 (by decide)).symm, (ry1 5 (by decide)).symm, trivial⟩
end Go.Proofs.YtmholgclgamnnaaGreat
end
