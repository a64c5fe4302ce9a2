import Derived.Test.YtkhipnhdbaahcaaGreatQBTI
import Derived.Test.YtkhipnhdbaahcaaGreatQBGL
import Derived.Test.YtkhipnhdbaahcaaGreatQBTE
import Derived.Test.YtkhipnhdbaahcaaGreatQBKB
section
set_option linter.unusedVariables false
set_option linter.unusedSectionVars false
set_option linter.unusedSimpArgs false
namespace Go.Proofs.YtkhipnhdbaahcaaGreat
open Go Eng
set_option maxRecDepth 100000
set_option exponentiation.threshold 2000
set_option maxHeartbeats 8000000
section
variable {H : H5} {k : Kf Sk.pS} {r : List AVal} {kn : Kf Sk.nS} {rn : List AVal} {m n : Nat} (hs : Sec H k r kn rn m n)
include hs
/-- The reference's curve. -/
theorem Sec.rcurve (x : Fin Sk.pS) : Sp 46 [Uf k x] (Uf k (x * x * x + Sk.fs 7)) := by
  have hK := hs.rf
  have hp := hs.cP
  have h7 : k.v (Sk.fs 7) 0 = 7 ∧ ∀ i, i < 3 → k.v (Sk.fs 7) (i + 1) = 0 := by
    have e : ∀ i, k.v (Sk.fs 7) i = H.lim 7 i := fun i => hs.v_fs (by decide) i
    exact ⟨by rw [e]; exact (hs.lim_small 7 (by decide)).1, fun i hi => by rw [e]; exact (hs.lim_small 7 (by decide)).2 i hi⟩
  have h70 := h7.1
  have h71 := h7.2 0 (by decide)
  have h72 := h7.2 1 (by decide)
  have h73 := h7.2 2 (by decide)
  clear h7
  have e1 := hK.mul x x
  have e2 := hK.mul (x * x) x
  have e3 := hK.add (x * x * x) (Sk.fs 7)
  rw [hs.o] at e1 e2 e3
  replace e1 : Sp 45 [Uf k x, Uf k x, u4 H.lim m] (Uf k (x * x)) := e1
  replace e2 : Sp 45 [Uf k (x * x), Uf k x, u4 H.lim m] (Uf k (x * x * x)) := e2
  replace e3 : Sp 91 [Uf k (x * x * x), Uf k (Sk.fs 7), u4 H.lim m] (Uf k (x * x * x + Sk.fs 7)) := e3
  generalize x * x * x + Sk.fs 7 = w at *
  generalize x * x * x = v at *
  generalize x * x = u at *
  generalize Sk.fs 7 = s at *
  clear hK
  refine mk Tryz.func46 rfl rfl L0 R1 (by decide +kernel) fun A S hA hS => ?_
  unfold bodyOf Tryz.f46
  cbv
  repeat (first
    | (refine ABr.t (by assumption) ?_; cbv)
    | (refine ABr.f (by assumption) ?_; cbv)
    | (refine ABr.t rfl ?_; cbv)
    | (refine ABr.f rfl ?_; cbv)
    | (refine ACall.mk _ (cf hS hp) ?_; cbv)
    | (refine ACall.mk _ (cf hS e1) ?_; cbv)
    | (refine ACall.mk _ (cf hS e2) ?_; cbv))
  refine ACall.mk _ (cg hS e3 ?_) ?_
  · cbv
    repeat' (first | exact h70.symm | exact h71.symm | exact h72.symm | exact h73.symm | exact rfl | exact trivial | constructor)
  cbv
/-- The reference's Good. -/
theorem Sec.rgood (x y : Nat) (hx : x < 2 ^ 256) (hy : y < 2 ^ 256) (inf : Bool) (t : Bool) (ht : t = decide (GoodQ x y inf)) : Sp 11 [PS H x y inf] (.sb t) := by
  have hl := H5.hlim hs.hH
  cases inf with
  | true =>
    have e : t = (decide (x = 0) && decide (y = 0)) := by
      rw [ht]
      unfold GoodQ
      by_cases h1 : x = 0 <;> by_cases h2 : y = 0 <;> simp [h1, h2]
    by_cases h1 : x = 0
    · rw [decide_eq_true h1, Bool.true_and] at e
      refine mk Tryz.func11 rfl rfl L0 R1 (by decide +kernel) fun A S hA hS => ?_
      have e1 := (zeq4 hA hl (x := x) hx).trans (decide_eq_true h1)
      have e2 := (zeq4 hA hl (x := y) hy).trans e.symm
      unfold bodyOf Tryz.f11
      cbv
      refine ABr.t rfl ?_
      cbv
      repeat (first | (refine ABr.t e1 ?_; cbv))
      exact e2
    · rw [decide_eq_false h1, Bool.false_and] at e
      subst e
      refine mk Tryz.func11 rfl rfl L0 R1 (by decide +kernel) fun A S hA hS => ?_
      have e1 := (zeq4 hA hl (x := x) hx).trans (decide_eq_false h1)
      unfold bodyOf Tryz.f11
      cbv
      refine ABr.t rfl ?_
      cbv
      repeat (first | (refine ABr.f e1 ?_; cbv))
  | false =>
    have e : t = decide (x < Sk.pS ∧ y < Sk.pS ∧ Sk.fs y * Sk.fs y = Sk.fs x * Sk.fs x * Sk.fs x + Sk.fs 7) := by
      rw [ht]
      unfold GoodQ
      congr 1
      simp
    have hm256 : m < 2 ^ 256 := by rw [hs.hm]; decide
    have hp := hs.cP
    have cx := r6below hl x m hx hm256 _ rfl
    have cy := r6below hl y m hy hm256 _ rfl
    by_cases h1 : m ≤ x
    · rw [decide_eq_false (fun h => by have h1' := h.1; have := hs.hm; omega)] at e
      subst e
      rw [decide_eq_false (show ¬ x < m by omega)] at cx
      refine mk Tryz.func11 rfl rfl L0 R1 (by decide +kernel) fun A S hA hS => ?_
      unfold bodyOf Tryz.f11
      cbv
      refine ABr.f rfl ?_
      cbv
      repeat (first
        | (refine ABr.t (by assumption) ?_; cbv)
        | (refine ABr.f (by assumption) ?_; cbv)
        | (refine ABr.t rfl ?_; cbv)
        | (refine ABr.f rfl ?_; cbv)
        | (refine ACall.mk _ (cf hS hp) ?_; cbv)
        | (refine ACall.mk _ (cf hS cx) ?_; cbv))
    rw [decide_eq_true (show x < m by omega)] at cx
    by_cases h2 : m ≤ y
    · rw [decide_eq_false (fun h => by have h1' := h.2.1; have := hs.hm; omega)] at e
      subst e
      rw [decide_eq_false (show ¬ y < m by omega)] at cy
      refine mk Tryz.func11 rfl rfl L0 R1 (by decide +kernel) fun A S hA hS => ?_
      unfold bodyOf Tryz.f11
      cbv
      refine ABr.f rfl ?_
      cbv
      repeat (first
        | (refine ABr.t (by assumption) ?_; cbv)
        | (refine ABr.f (by assumption) ?_; cbv)
        | (refine ABr.t rfl ?_; cbv)
        | (refine ABr.f rfl ?_; cbv)
        | (refine ACall.mk _ (cf hS hp) ?_; cbv)
        | (refine ACall.mk _ (cf hS cx) ?_; cbv)
        | (refine ACall.mk _ (cf hS cy) ?_; cbv))
    rw [decide_eq_true (show y < m by omega)] at cy
    have hx' : x < Sk.pS := by have := hs.hm; omega
    have hy' : y < Sk.pS := by have := hs.hm; omega
    have e : t = decide (Sk.fs y * Sk.fs y = Sk.fs x * Sk.fs x * Sk.fs x + Sk.fs 7) := by
      rw [e]; congr 1; simp only [eq_iff_iff]; constructor
      · exact fun h => h.2.2
      · exact fun h => ⟨hx', hy', h⟩
    have cc := hs.rcurve (Sk.fs x)
    have cm := hs.rf.mul (Sk.fs y) (Sk.fs y)
    rw [hs.o] at cm
    replace cm : Sp 45 [Uf k (Sk.fs y), Uf k (Sk.fs y), u4 H.lim m] (Uf k (Sk.fs y * Sk.fs y)) := cm
    rw [Uf_eq hs.uv (Sk.fs y), fs_val hy'] at cm
    rw [Uf_eq hs.uv (Sk.fs x), fs_val hx'] at cc
    have hinj := hs.rf.injv
    generalize Sk.fs x * Sk.fs x * Sk.fs x + Sk.fs 7 = w at *
    generalize Sk.fs y * Sk.fs y = v at *
    refine mk Tryz.func11 rfl rfl L0 R1 (by decide +kernel) fun A S hA hS => ?_
    have eq := (words_eq hinj hA v w).trans e.symm
    clear e
    unfold bodyOf Tryz.f11
    cbv
    refine ABr.f rfl ?_
    cbv
    repeat (first
      | (refine ABr.t (by assumption) ?_; cbv)
      | (refine ABr.f (by assumption) ?_; cbv)
      | (refine ABr.t rfl ?_; cbv)
      | (refine ABr.f rfl ?_; cbv)
      | (refine ACall.mk _ (cf hS hp) ?_; cbv)
      | (refine ACall.mk _ (cf hS cx) ?_; cbv)
      | (refine ACall.mk _ (cf hS cy) ?_; cbv)
      | (refine ACall.mk _ (cf hS cm) ?_; cbv)
      | (refine ACall.mk _ (cf hS cc) ?_; cbv))
    exact eq
theorem Sec.rgoodP (P : Cv.Pt (Fin Sk.pS)) (hP : onS P) : Sp 11 [Pf k P] (.sb true) := by
  rcases P with _ | ⟨x, y⟩
  · have g : GoodQ 0 0 true := .inl ⟨rfl, rfl, rfl⟩
    have := hs.rgood 0 0 (by decide) (by decide) true true (decide_eq_true g).symm
    exact Spec.args this (hs.sim' g)
  · have e1 : Sk.fs x.val = x := Fin.ext (fs_val x.isLt)
    have e2 : Sk.fs y.val = y := Fin.ext (fs_val y.isLt)
    have g : GoodQ x.val y.val false := .inr ⟨rfl, x.isLt, y.isLt, by rw [e1, e2]; exact hP⟩
    have hp : ∀ a : Fin Sk.pS, a.val < 2 ^ 256 := fun a => Nat.lt_trans a.isLt (by decide)
    have c := hs.rgood x.val y.val (hp x) (hp y) false true (decide_eq_true g).symm
    have s := hs.sim' g
    rw [show ptQ x.val y.val false = some (x, y) by show some (Sk.fs x.val, Sk.fs y.val) = _; rw [e1, e2]] at s
    exact Spec.args c s
/-- The reference's Neg. -/
theorem Sec.rneg (P : Cv.Pt (Fin Sk.pS)) (hP : onS P) : Sp 17 [Pf k P] (.tup [Pf k (Gp.ngp Sk.O P), .i .i64 0]) := by
  have gp := hs.rgoodP P hP
  have hp := hs.cP
  have hz := hs.rf.zerov
  have z0 := hz 0 (by decide)
  have z1 := hz 1 (by decide)
  have z2 := hz 2 (by decide)
  have z3 := hz 3 (by decide)
  rcases P with _ | ⟨x, y⟩
  · have c := hs.rf.sub k.O.zero k.O.zero
    have e : k.O.sub k.O.zero k.O.zero = k.O.zero := by rw [hs.o]; decide +kernel
    rw [e] at c
    unfold Gp.ngp
    generalize k.O.zero = zz at *
    refine mk Tryz.func17 rfl rfl L0 R1 (by decide +kernel) fun A S hA hS => ?_
    have nt := not_t hA
    unfold bodyOf Tryz.f17
    cbv
    repeat (first
      | (refine ABr.t (by assumption) ?_; cbv)
      | (refine ABr.f (by assumption) ?_; cbv)
      | (refine ABr.t rfl ?_; cbv)
      | (refine ABr.f rfl ?_; cbv)
      | (refine ACall.mk _ (cf hS gp) ?_; cbv)
      | (refine ACall.mk _ (cf hS hp) ?_; cbv))
    refine ACall.mk _ (cg hS c ?_) ?_
    · cbv
      repeat' (first | exact z0.symm | exact z1.symm | exact z2.symm | exact z3.symm | exact rfl | exact trivial | constructor)
    cbv
    repeat' (first | exact z0 | exact z1 | exact z2 | exact z3 | exact rfl | exact trivial | constructor)
  · have c := hs.rf.sub k.O.zero y
    have e2 : Gp.ngp Sk.O (some (x, y)) = some (x, k.O.sub k.O.zero y) := by rw [hs.o]; rfl
    rw [e2]
    generalize k.O.sub k.O.zero y = w at *
    generalize k.O.zero = zz at *
    refine mk Tryz.func17 rfl rfl L0 R1 (by decide +kernel) fun A S hA hS => ?_
    have nt := not_t hA
    unfold bodyOf Tryz.f17
    cbv
    repeat (first
      | (refine ABr.t (by assumption) ?_; cbv)
      | (refine ABr.f (by assumption) ?_; cbv)
      | (refine ABr.t rfl ?_; cbv)
      | (refine ABr.f rfl ?_; cbv)
      | (refine ACall.mk _ (cf hS gp) ?_; cbv)
      | (refine ACall.mk _ (cf hS hp) ?_; cbv))
    refine ACall.mk _ (cg hS c ?_) ?_
    · cbv
      repeat' (first | exact z0.symm | exact z1.symm | exact z2.symm | exact z3.symm | exact rfl | exact trivial | constructor)
    cbv
/-- The reference's Add. -/
theorem Sec.radd (P Q : Cv.Pt (Fin Sk.pS)) (hP : onS P) (hQ : onS Q) : Sp 19 [Pf k P, Pf k Q] (.tup [Pf k (Cv.sumR Sk.O P Q), .i .i64 0]) := by
  have gp := hs.rgoodP P hP
  have gq := hs.rgoodP Q hQ
  have jp := upS hs.rf P
  have jq := upS hs.rf Q
  have ca := plS hs.rf hs.cP (upR k.O P) (upR k.O Q)
  have cd := downS hs.rf hs.cP (Gp.plR k.O (upR k.O P) (upR k.O Q))
  have e : Cv.down k.O (Gp.plR k.O (upR k.O P) (upR k.O Q)) = Cv.sumR Sk.O P Q := by
    rw [hs.o]
    have e1 := (Gp.down_plR Sk.L (upR Sk.O P) (upR Sk.O Q)).trans (Gp.plus_gen Sk.F Sk.L Sk.no2 Sk.hA (upR Sk.O P) (upR Sk.O Q) (by rw [down_upR P hP]; exact hP) (by rw [down_upR Q hQ]; exact hQ))
    rw [down_upR P hP, down_upR Q hQ] at e1
    exact e1
  rw [e] at cd
  generalize Cv.sumR Sk.O P Q = R at *
  generalize Gp.plR k.O (upR k.O P) (upR k.O Q) = a at *
  generalize upR k.O P = u at *
  generalize upR k.O Q = v at *
  clear e
  rcases P with _ | ⟨px, py⟩ <;> rcases Q with _ | ⟨qx, qy⟩ <;> rcases R with _ | ⟨x, y⟩
  all_goals
    refine mk Tryz.func19 rfl rfl L0 R1 (by decide +kernel) fun A S hA hS => ?_
    have nt := not_t hA
    unfold bodyOf Tryz.f19
    cbv
    repeat (first
      | (refine ABr.t (by assumption) ?_; cbv)
      | (refine ABr.f (by assumption) ?_; cbv)
      | (refine ABr.t rfl ?_; cbv)
      | (refine ABr.f rfl ?_; cbv)
      | (refine ACall.mk _ (cf hS gp) ?_; cbv)
      | (refine ACall.mk _ (cf hS gq) ?_; cbv))
    refine ACall.mk _ (cf hS jp) ?_
    cbv
    refine ACall.mk _ (cf hS jq) ?_
    cbv
    refine ACall.mk _ (cf hS ca) ?_
    cbv
    refine ACall.mk _ (cf hS cd) ?_
    cbv
/-- The reference's Mul. -/
theorem Sec.rmul (P : Cv.Pt (Fin Sk.pS)) (hP : onS P) (e : Nat) (he : e < 2 ^ 256) : Sp 21 [Pf k P, u4 H.lim e] (.tup [Pf k (Gp.mn Sk.O P e), .i .i64 0]) := by
  have gp := hs.rgoodP P hP
  have c := hs.both e 0 he (by decide) P none hP trivial
  have e1 : Cv.sumR Sk.O (Gp.mn Sk.O P e) (Gp.mn Sk.O none 0) = Gp.mn Sk.O P e := by
    show Cv.sumR Sk.O (Gp.mn Sk.O P e) none = _
    cases Gp.mn Sk.O P e <;> rfl
  rw [e1] at c
  have z0 := hs.lim0 0
  have z1 := hs.lim0 1
  have z2 := hs.lim0 2
  have z3 := hs.lim0 3
  generalize Gp.mn Sk.O P e = R at *
  clear e1
  rcases P with _ | ⟨px, py⟩ <;> rcases R with _ | ⟨x, y⟩
  all_goals
    refine mk Tryz.func21 rfl rfl L0 R1 (by decide +kernel) fun A S hA hS => ?_
    have nt := not_t hA
    unfold bodyOf Tryz.f21
    cbv
    repeat (first
      | (refine ABr.t (by assumption) ?_; cbv)
      | (refine ABr.f (by assumption) ?_; cbv)
      | (refine ABr.t rfl ?_; cbv)
      | (refine ABr.f rfl ?_; cbv)
      | (refine ACall.mk _ (cf hS gp) ?_; cbv))
    refine ACall.mk _ (cg hS c ?_) ?_
    · cbv
      repeat' (first | exact z0.symm | exact z1.symm | exact z2.symm | exact z3.symm | exact rfl | exact trivial | constructor)
    cbv
/-- What is no point is refused. -/
theorem Sec.raddBad (x y : Nat) (hx : x < 2 ^ 256) (hy : y < 2 ^ 256) (i : Bool) (u v : Nat) (hu : u < 2 ^ 256) (hv : v < 2 ^ 256) (j : Bool) (h : ¬ (GoodQ x y i ∧ GoodQ u v j)) : Sp 19 [PS H x y i, PS H u v j] (.tup [zPt, .i .i64 60]) := by
  have g1 := hs.rgood x y hx hy i _ rfl
  have g2 := hs.rgood u v hu hv j _ rfl
  by_cases h1 : GoodQ x y i
  · rw [decide_eq_true h1] at g1
    rw [decide_eq_false (fun e => h ⟨h1, e⟩)] at g2
    refine mk Tryz.func19 rfl rfl L0 R1 (by decide +kernel) fun A S hA hS => ?_
    have nt := not_t hA
    have nf := not_f hA
    unfold bodyOf Tryz.f19
    cbv
    repeat (first
      | (refine ABr.t (by assumption) ?_; cbv)
      | (refine ABr.f (by assumption) ?_; cbv)
      | (refine ABr.t rfl ?_; cbv)
      | (refine ABr.f rfl ?_; cbv)
      | (refine ACall.mk _ (cf hS g1) ?_; cbv)
      | (refine ACall.mk _ (cf hS g2) ?_; cbv))
  · rw [decide_eq_false h1] at g1
    refine mk Tryz.func19 rfl rfl L0 R1 (by decide +kernel) fun A S hA hS => ?_
    have nf := not_f hA
    unfold bodyOf Tryz.f19
    cbv
    repeat (first
      | (refine ABr.t (by assumption) ?_; cbv)
      | (refine ABr.f (by assumption) ?_; cbv)
      | (refine ABr.t rfl ?_; cbv)
      | (refine ABr.f rfl ?_; cbv)
      | (refine ACall.mk _ (cf hS g1) ?_; cbv))
theorem Sec.rmulBad (x y : Nat) (hx : x < 2 ^ 256) (hy : y < 2 ^ 256) (i : Bool) (e : Nat) (h : ¬ GoodQ x y i) : Sp 21 [PS H x y i, u4 H.lim e] (.tup [zPt, .i .i64 60]) := by
  have g1 := hs.rgood x y hx hy i _ rfl
  rw [decide_eq_false h] at g1
  refine mk Tryz.func21 rfl rfl L0 R1 (by decide +kernel) fun A S hA hS => ?_
  have nf := not_f hA
  unfold bodyOf Tryz.f21
  cbv
  repeat (first
    | (refine ABr.t (by assumption) ?_; cbv)
    | (refine ABr.f (by assumption) ?_; cbv)
    | (refine ABr.t rfl ?_; cbv)
    | (refine ABr.f rfl ?_; cbv)
    | (refine ACall.mk _ (cf hS g1) ?_; cbv))
theorem Sec.rnegBad (x y : Nat) (hx : x < 2 ^ 256) (hy : y < 2 ^ 256) (i : Bool) (h : ¬ GoodQ x y i) : Sp 17 [PS H x y i] (.tup [zPt, .i .i64 60]) := by
  have g1 := hs.rgood x y hx hy i _ rfl
  rw [decide_eq_false h] at g1
  refine mk Tryz.func17 rfl rfl L0 R1 (by decide +kernel) fun A S hA hS => ?_
  have nf := not_f hA
  unfold bodyOf Tryz.f17
  cbv
  repeat (first
    | (refine ABr.t (by assumption) ?_; cbv)
    | (refine ABr.f (by assumption) ?_; cbv)
    | (refine ABr.t rfl ?_; cbv)
    | (refine ABr.f rfl ?_; cbv)
    | (refine ACall.mk _ (cf hS g1) ?_; cbv))
end
end Go.Proofs.YtkhipnhdbaahcaaGreat
end
section
set_option linter.unusedVariables false
set_option linter.unusedSectionVars false
set_option linter.unusedSimpArgs false
namespace Go.Proofs.YtkhipnhdbaahcaaGreat
open Go Eng
set_option maxRecDepth 100000
set_option exponentiation.threshold 2000
set_option maxHeartbeats 8000000
theorem odd_r {A : Ar} (hA : A = Ar.real) {v : Int} {y : Nat} (hv : v = limR y 0) : A.wrap .i64 (A.bin .rem .u64 v 2) = ((y % 2 : Nat) : Int) := by
  have e : v = ((y / 2 ^ (64 * 0) % 2 ^ 64 : Nat) : Int) := hv
  rw [Nat.mul_zero, Nat.pow_zero, Nat.div_one] at e
  rw [hA]
  have s0 : rbin .rem .u64 v 2 = ((y % 2 ^ 64 % 2 : Nat) : Int) := by rw [e]; exact rem_u (y := 2)
  show IntKind.i64.wrap (rbin .rem .u64 v 2) = _
  rw [s0, show y % 2 ^ 64 % 2 = y % 2 by omega]
  rcases (by omega : y % 2 = 0 ∨ y % 2 = 1) with h | h <;> rw [h] <;> rfl
/-- A point is itself. -/
theorem pt_rf {A : Ar} (hA : A = Ar.real) (w v : Nat → Int) : A.eqs [(.s .u64 (w 0), .s .u64 (w 0)), (.s .u64 (w 1), .s .u64 (w 1)), (.s .u64 (w 2), .s .u64 (w 2)), (.s .u64 (w 3), .s .u64 (w 3)), (.s .u64 (v 0), .s .u64 (v 0)), (.s .u64 (v 1), .s .u64 (v 1)), (.s .u64 (v 2), .s .u64 (v 2)), (.s .u64 (v 3), .s .u64 (v 3)), (.b false, .b false)] = true := by
  rw [hA]; show List.all _ _ = true; simp [leafEq]
section
variable {H : H5} {k : Kf Sk.pS} {r : List AVal} {kn : Kf Sk.nS} {rn : List AVal} {m n : Nat} (hs : Sec H k r kn rn m n) (hr : RootK H k r)
include hs hr
end
end Go.Proofs.YtkhipnhdbaahcaaGreat
end
section
set_option linter.unusedVariables false
set_option linter.unusedSectionVars false
set_option linter.unusedSimpArgs false
namespace Go.Proofs.YtkhipnhdbaahcaaGreat
open Go Eng
set_option maxRecDepth 100000
set_option exponentiation.threshold 2000
set_option maxHeartbeats 8000000
theorem ps_of (P : Cv.Pt (Fin Sk.pS)) (hP : onS P) : ∃ x y i, GoodQ x y i ∧ ptQ x y i = P := by
  rcases P with _ | ⟨x, y⟩
  · exact ⟨0, 0, true, .inl ⟨rfl, rfl, rfl⟩, rfl⟩
  · have e1 : Sk.fs x.val = x := Fin.ext (fs_val x.isLt)
    have e2 : Sk.fs y.val = y := Fin.ext (fs_val y.isLt)
    exact ⟨x.val, y.val, false, .inr ⟨rfl, x.isLt, y.isLt, by rw [e1, e2]; exact hP⟩, by show some (Sk.fs x.val, Sk.fs y.val) = _; rw [e1, e2]⟩
theorem onS_sum {P Q : Cv.Pt (Fin Sk.pS)} (hP : onS P) (hQ : onS Q) : onS (Cv.sumR Sk.O P Q) := Gp.sum_on Sk.F Sk.no2 hP hQ
theorem onS_mn {P : Cv.Pt (Fin Sk.pS)} (hP : onS P) (e : Nat) : onS (Gp.mn Sk.O P e) := Gp.mon Sk.F Sk.no2 hP e
theorem onS_neg {P : Cv.Pt (Fin Sk.pS)} (hP : onS P) : onS (Gp.ngp Sk.O P) := by
  rcases P with _ | ⟨x, y⟩
  · exact trivial
  · have e : (0 - y) * (0 - y) = y * y := fin_sq y
    exact e.trans hP
section
variable {H : H5} {k : Kf Sk.pS} {r : List AVal} {kn : Kf Sk.nS} {rn : List AVal} {m n : Nat} (hs : Sec H k r kn rn m n)
include hs
theorem Sec.cells {x y : Nat} {i : Bool} (g : GoodQ x y i) : (i = true ∧ ptQ x y i = none ∧ ∀ j, (0 : Int) = H.lim x j ∧ (0 : Int) = H.lim y j) ∨ (i = false ∧ ptQ x y i = some (Sk.fs x, Sk.fs y) ∧ ∀ j, k.v (Sk.fs x) j = H.lim x j ∧ k.v (Sk.fs y) j = H.lim y j) := by
  rcases g with ⟨rfl, rfl, rfl⟩ | ⟨rfl, hx, hy, _⟩
  · exact .inl ⟨rfl, rfl, fun j => ⟨(hs.lim0 j).symm, (hs.lim0 j).symm⟩⟩
  · exact .inr ⟨rfl, rfl, fun j => ⟨hs.v_fs hx j, hs.v_fs hy j⟩⟩
theorem Sec.toPI {f : FuncId} {As : List AVal} {x y : Nat} {i : Bool} (g : GoodQ x y i) {e : Int} (c : Sp f As (.tup [Pf k (ptQ x y i), .i .i64 e])) : Sp f As (.tup [PS H x y i, .i .i64 e]) := by
  have hc := hs.cells g
  refine Spec.res c ?_
  clear c g hs
  rcases hc with ⟨rfl, h2, h⟩ | ⟨rfl, h2, h⟩
  · rw [h2]
    have a := fun j => (h j).1
    have b := fun j => (h j).2
    have a0 := a 0
    have a1 := a 1
    have a2 := a 2
    have a3 := a 3
    have b0 := b 0
    have b1 := b 1
    have b2 := b 2
    have b3 := b 3
    clear a b h h2
    cbv
    repeat' (first | exact a0 | exact a1 | exact a2 | exact a3 | exact b0 | exact b1 | exact b2 | exact b3 | exact rfl | exact trivial | constructor)
  · rw [h2]
    have a := fun j => (h j).1
    have b := fun j => (h j).2
    have a0 := a 0
    have a1 := a 1
    have a2 := a 2
    have a3 := a 3
    have b0 := b 0
    have b1 := b 1
    have b2 := b 2
    have b3 := b 3
    clear a b h h2
    generalize Sk.fs x = fx at *
    generalize Sk.fs y = fy at *
    cbv
    repeat' (first | exact a0 | exact a1 | exact a2 | exact a3 | exact b0 | exact b1 | exact b2 | exact b3 | exact rfl | exact trivial | constructor)
omit hs in
theorem toSP {f : FuncId} {As : List AVal} {x y : Nat} {i : Bool} {e : Int} (c : Sp f As (.tup [PS H x y i, .i .i64 e])) : Sp f As (.tup [PS H x y i, .s .i64 e]) := Spec.res c (by cbv)
theorem Sec.toPS {f : FuncId} {As : List AVal} {x y : Nat} {i : Bool} (g : GoodQ x y i) {e : Int} (c : Sp f As (.tup [Pf k (ptQ x y i), .i .i64 e])) : Sp f As (.tup [PS H x y i, .s .i64 e]) := toSP (hs.toPI g c)
theorem Sec.zToPS {f : FuncId} {As : List AVal} {e : Int} (c : Sp f As (.tup [zPt, .i .i64 e])) : Sp f As (.tup [PS H 0 0 false, .s .i64 e]) := by
  refine Spec.res c ?_
  have z := hs.lim0
  have h : ∀ i, (0 : Int) = H.lim 0 i := fun i => (z i).symm
  have a0 := h 0
  have a1 := h 1
  have a2 := h 2
  have a3 := h 3
  clear z h c hs
  cbv
  repeat' (first | exact a0 | exact a1 | exact a2 | exact a3 | exact rfl | exact trivial | constructor)
/-- The negation, by both. -/
theorem Sec.negBoth (x y : Nat) (hx : x < 2 ^ 256) (hy : y < 2 ^ 256) (i : Bool) : ∃ a b l e, Sp 13 [PS H x y i] (.tup [PS H a b l, .s .i64 e]) ∧ Sp 17 [PS H x y i] (.tup [PS H a b l, .s .i64 e]) := by
  by_cases g : GoodQ x y i
  · obtain ⟨a, b, l, g2, e2⟩ := ps_of _ (onS_neg g.on)
    have c1 := hs.neg _ g.on
    have c2 := hs.rneg _ g.on
    rw [← e2] at c1 c2
    exact ⟨a, b, l, 0, Spec.args (hs.toPS g2 c1) (hs.sim g), Spec.args (hs.toPS g2 c2) (hs.sim g)⟩
  · exact ⟨0, 0, false, 60, hs.zToPS (hs.negBad x y hx hy i g), hs.zToPS (hs.rnegBad x y hx hy i g)⟩
/-- The sum. -/
theorem Sec.addBoth (x y : Nat) (hx : x < 2 ^ 256) (hy : y < 2 ^ 256) (i : Bool) (u v : Nat) (hu : u < 2 ^ 256) (hv : v < 2 ^ 256) (j : Bool) : ∃ a b l e, Sp 18 [PS H x y i, PS H u v j] (.tup [PS H a b l, .s .i64 e]) ∧ Sp 19 [PS H x y i, PS H u v j] (.tup [PS H a b l, .s .i64 e]) := by
  by_cases g : GoodQ x y i ∧ GoodQ u v j
  · obtain ⟨a, b, l, g2, e2⟩ := ps_of _ (onS_sum g.1.on g.2.on)
    have c1 := hs.add _ _ g.1.on g.2.on
    have c2 := hs.radd _ _ g.1.on g.2.on
    rw [← e2] at c1 c2
    exact ⟨a, b, l, 0, Spec.args (hs.toPS g2 c1) ⟨hs.sim g.1, hs.sim g.2⟩, Spec.args (hs.toPS g2 c2) ⟨hs.sim g.1, hs.sim g.2⟩⟩
  · exact ⟨0, 0, false, 60, hs.zToPS (hs.addBad x y hx hy i u v hu hv j g), hs.zToPS (hs.raddBad x y hx hy i u v hu hv j g)⟩
/-- The multiple. -/
theorem Sec.mulBoth (x y : Nat) (hx : x < 2 ^ 256) (hy : y < 2 ^ 256) (i : Bool) (e : Nat) (he : e < 2 ^ 256) : ∃ a b l z, Sp 20 [PS H x y i, u4 H.lim e] (.tup [PS H a b l, .s .i64 z]) ∧ Sp 21 [PS H x y i, u4 H.lim e] (.tup [PS H a b l, .s .i64 z]) := by
  by_cases g : GoodQ x y i
  · obtain ⟨a, b, l, g2, e2⟩ := ps_of _ (onS_mn g.on e)
    have c1 := hs.mul _ g.on e he
    have c2 := hs.rmul _ g.on e he
    rw [← e2] at c1 c2
    exact ⟨a, b, l, 0, Spec.args (hs.toPS g2 c1) ⟨hs.sim g, by cbv⟩, Spec.args (hs.toPS g2 c2) ⟨hs.sim g, by cbv⟩⟩
  · exact ⟨0, 0, false, 60, hs.zToPS (hs.mulBad x y hx hy i e g), hs.zToPS (hs.rmulBad x y hx hy i e g)⟩
end
end Go.Proofs.YtkhipnhdbaahcaaGreat
end
section
set_option linter.unusedVariables false
set_option linter.unusedSectionVars false
set_option linter.unusedSimpArgs false
namespace Go.Proofs.YtkhipnhdbaahcaaGreat
open Go Eng
set_option maxRecDepth 100000
set_option exponentiation.threshold 2000
set_option maxHeartbeats 8000000
abbrev ps9 (lim : Lim) (x y : Nat) (t : Bool) : List (AVal × AVal) := [(.s .u64 (lim x 0), .s .u64 (lim x 0)), (.s .u64 (lim x 1), .s .u64 (lim x 1)), (.s .u64 (lim x 2), .s .u64 (lim x 2)), (.s .u64 (lim x 3), .s .u64 (lim x 3)), (.s .u64 (lim y 0), .s .u64 (lim y 0)), (.s .u64 (lim y 1), .s .u64 (lim y 1)), (.s .u64 (lim y 2), .s .u64 (lim y 2)), (.s .u64 (lim y 3), .s .u64 (lim y 3)), (.sb t, .sb t)]
theorem ps_rf {A : Ar} (hA : A = Ar.real) (lim : Lim) (x y : Nat) (t : Bool) : A.eqs (ps9 lim x y t) = true := by
  rw [hA]; show List.all _ _ = true; simp [leafEq]
theorem sb_rf {A : Ar} (hA : A = Ar.real) (t : Bool) : A.eqs [(.sb t, .sb t)] = true := by
  rw [hA]; show List.all _ _ = true; simp [leafEq]
theorem i_rf {A : Ar} (hA : A = Ar.real) (e : Int) : A.cmp .eql e e = true := by rw [hA]; exact beq_self_eq_true e
theorem i_nrf {A : Ar} (hA : A = Ar.real) (e : Int) : A.cmp .neq e e = false := by rw [hA]; exact bne_self_eq_false e
section
variable {H : H5} {k : Kf Sk.pS} {r : List AVal} {kn : Kf Sk.nS} {rn : List AVal} {m n : Nat} (hs : Sec H k r kn rn m n) (hr : RootK H k r)
include hs hr
theorem Sec.points (x y : Nat) (hx : x < 2 ^ 256) (hy : y < 2 ^ 256) (i : Bool) (u v : Nat) (hu : u < 2 ^ 256) (hv : v < 2 ^ 256) (j : Bool) (e : Nat) (he : e < 2 ^ 256) : Sp 4 [PS H x y i, PS H u v j, u4 H.lim e] (.sb true) := by
  have cw := hs.awake hr
  obtain ⟨t, ht⟩ : ∃ t, t = decide (GoodQ x y i) := ⟨_, rfl⟩
  have g1 := hs.good x y hx hy i t ht
  have g2 := hs.rgood x y hx hy i t ht
  have b1 := hs.base
  have b2 := hs.refBase
  obtain ⟨nx_, ny, nl, ne, c1, d1⟩ := hs.negBoth x y hx hy i
  obtain ⟨ax, ay, al, ae, c2, d2⟩ := hs.addBoth x y hx hy i u v hu hv j
  obtain ⟨mx, my, ml, me, c3, d3⟩ := hs.mulBoth x y hx hy i e he
  clear hr ht hs
  have eG : Sk.G = some (Sk.fs Sk.gx, Sk.fs Sk.gy) := rfl
  rw [eG] at b1 b2
  generalize Sk.fs Sk.gx = gx at *
  generalize Sk.fs Sk.gy = gy at *
  refine mk Tryz.func4 rfl rfl L0 R1 (by decide +kernel) fun A S hA hS => ?_
  have nt := not_t hA
  have nf := not_f hA
  have eb := sb_rf hA t
  have eg := pt_rf hA (k.v gx) (k.v gy)
  have e1 := ps_rf hA H.lim nx_ ny nl
  have e2 := ps_rf hA H.lim ax ay al
  have e3 := ps_rf hA H.lim mx my ml
  have f1 := i_nrf hA ne
  have f2 := i_nrf hA ae
  have f3 := i_rf hA me
  have h1 : A.not (A.eqs (ps9 H.lim nx_ ny nl)) = false := by rw [e1]; exact nt
  have h2 : A.not (A.eqs (ps9 H.lim ax ay al)) = false := by rw [e2]; exact nt
  have hb : A.not (A.eqs [(.sb t, .sb t)]) = false := by rw [eb]; exact nt
  have hg : A.not (A.eqs [(.s .u64 (k.v gx 0), .s .u64 (k.v gx 0)), (.s .u64 (k.v gx 1), .s .u64 (k.v gx 1)), (.s .u64 (k.v gx 2), .s .u64 (k.v gx 2)), (.s .u64 (k.v gx 3), .s .u64 (k.v gx 3)), (.s .u64 (k.v gy 0), .s .u64 (k.v gy 0)), (.s .u64 (k.v gy 1), .s .u64 (k.v gy 1)), (.s .u64 (k.v gy 2), .s .u64 (k.v gy 2)), (.s .u64 (k.v gy 3), .s .u64 (k.v gy 3)), (.b false, .b false)]) = false := by rw [eg]; exact nt
  dsimp only [ps9] at e1 e2 e3 h1 h2
  unfold bodyOf Tryz.f4
  cbv
  repeat (first
    | (refine ABr.t (by assumption) ?_; cbv)
    | (refine ABr.f (by assumption) ?_; cbv)
    | (refine ABr.t rfl ?_; cbv)
    | (refine ABr.f rfl ?_; cbv)
    | (refine ACall.mk _ (cf hS g1) ?_; cbv)
    | (refine ACall.mk _ (cf hS g2) ?_; cbv)
    | (refine ACall.mk _ (cf hS b1) ?_; cbv)
    | (refine ACall.mk _ (cf hS b2) ?_; cbv)
    | (refine ACall.mk _ (cf hS cw) ?_; cbv)
    | (refine ACall.mk _ (cf hS c1) ?_; cbv)
    | (refine ACall.mk _ (cf hS d1) ?_; cbv)
    | (refine ACall.mk _ (cf hS c2) ?_; cbv)
    | (refine ACall.mk _ (cf hS d2) ?_; cbv)
    | (refine ACall.mk _ (cf hS c3) ?_; cbv)
    | (refine ACall.mk _ (cf hS d3) ?_; cbv))
  exact f3
end
end Go.Proofs.YtkhipnhdbaahcaaGreat
end
