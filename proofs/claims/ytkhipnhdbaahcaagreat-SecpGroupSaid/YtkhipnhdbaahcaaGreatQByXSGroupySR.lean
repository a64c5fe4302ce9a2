import Derived.Test.YtkhipnhdbaahcaaGreatQBSQ
set_option linter.unusedVariables false
set_option linter.unusedSectionVars false
set_option linter.unusedSimpArgs false
namespace Go.Proofs.YtkhipnhdbaahcaaGreat
open Go Eng Dg
set_option maxRecDepth 100000
set_option exponentiation.threshold 2000
set_option maxHeartbeats 8000000
/-- Whether a sum is too great for a word. -/
theorem rCarriesS {lim : Lim} (hl : lim = limR) (x y : Nat) (hx : x < 2 ^ 256) (hy : y < 2 ^ 256) (t : Bool) (ht : t = decide (2 ^ 256 ≤ x + y)) : Sp 24 [u4 lim x, u4 lim y] (.sb t) := by
  have fx := fromS hl x hx _ rfl
  have fy := fromS hl y hy _ rfl
  obtain ⟨c, k, hc, cp⟩ := plusS (dg 4294967296 x) (dg 4294967296 y) (fun j _ => dg_lt (by decide) x j) (fun j _ => dg_lt (by decide) y j)
  have hlt : x + y < 4294967296 ^ 17 := Nat.lt_of_lt_of_le (show x + y < 2 ^ 257 by omega) (by decide)
  have p8 : 4294967296 ^ 8 = 2 ^ 256 := pow_D 8
  have hv : V 4294967296 c 17 = x + y := by
    have h := hc.val
    rw [num8 hx, num8 hy] at h
    rcases Nat.eq_zero_or_pos k with e | e
    · rw [e, Nat.zero_mul, Nat.add_zero] at h; exact h
    · exfalso
      have := Nat.mul_le_mul_right (4294967296 ^ 17) e
      rw [Nat.one_mul] at this
      omega
  have h8 : c 8 = (x + y) / 2 ^ 256 % 4294967296 := by
    have := V_of (B := 4294967296) (n := 17) (by decide) hv (fun j hj => hc.dig j hj) (j := 8) (by decide)
    rw [this, ← p8]; rfl
  have h9 : ((c 8 : Nat) : Int) ≠ 0 ↔ 2 ^ 256 ≤ x + y := by
    rw [h8]
    by_cases h : 2 ^ 256 ≤ x + y
    · have : (x + y) / 2 ^ 256 = 1 := Nat.div_eq_of_lt_le (by omega) (by omega)
      rw [this]; simp [h]
    · rw [Nat.div_eq_of_lt (by omega)]; simp [h]
  clear h8 hv hlt p8 hc
  generalize dg 4294967296 x = a at *
  generalize dg 4294967296 y = b at *
  refine mk Tryz.func24 rfl rfl L0 R1 (by decide +kernel) fun A S hA hS => ?_
  have e : A.cmp .neq ((c 8 : Nat) : Int) 0 = t := by
    rw [ht]
    by_cases h : 2 ^ 256 ≤ x + y
    · rw [decide_eq_true h]; exact ne0_t hA (h9.2 h)
    · rw [decide_eq_false h]; exact ne0_f hA (by have := mt h9.1 h; omega)
  clear ht h9
  unfold bodyOf Tryz.f24
  cbv
  refine ACall.mk _ (cf hS fx) ?_
  cbv
  refine ACall.mk _ (cf hS fy) ?_
  cbv
  refine ACall.mk _ (cf hS cp) ?_
  cbv
  exact e
section
variable {H : H5} {k : Kf Sk.pS} {r : List AVal} {kn : Kf Sk.nS} {rn : List AVal} {m n : Nat}
/-- The law's sum. -/
theorem sumPP {x y u v a b : Nat} {i j l : Bool} (c : Sp 18 [PS H x y i, PS H u v j] (.tup [PS H a b l, .i .i64 0])) : Sp 22 [PS H x y i, PS H u v j] (PS H a b l) := by
  refine mk Tryz.func22 rfl rfl L0 R1 (by decide +kernel) fun A S hA hS => ?_
  unfold bodyOf Tryz.f22
  cbv
  refine ACall.mk _ (cf hS c) ?_
  cbv
theorem sumPZ {x y u v : Nat} {i j : Bool} (c : Sp 18 [PS H x y i, PS H u v j] (.tup [Pf k none, .i .i64 0])) : Sp 22 [PS H x y i, PS H u v j] (Pf k none) := by
  refine mk Tryz.func22 rfl rfl L0 R1 (by decide +kernel) fun A S hA hS => ?_
  unfold bodyOf Tryz.f22
  cbv
  refine ACall.mk _ (cf hS c) ?_
  cbv
theorem sumZP {x y a b : Nat} {i l : Bool} (c : Sp 18 [PS H x y i, Pf k none] (.tup [PS H a b l, .i .i64 0])) : Sp 22 [PS H x y i, Pf k none] (PS H a b l) := by
  refine mk Tryz.func22 rfl rfl L0 R1 (by decide +kernel) fun A S hA hS => ?_
  unfold bodyOf Tryz.f22
  cbv
  refine ACall.mk _ (cf hS c) ?_
  cbv
variable (hs : Sec H k r kn rn m n)
include hs
theorem Sec.sumQ {x y u v a b : Nat} {i j l : Bool} (g1 : GoodQ x y i) (g2 : GoodQ u v j) (g : GoodQ a b l) (e : ptQ a b l = Cv.sumR Sk.O (ptQ x y i) (ptQ u v j)) : Sp 22 [PS H x y i, PS H u v j] (PS H a b l) := by
  have c := hs.add _ _ g1.on g2.on
  rw [← e] at c
  exact sumPP (Spec.args (hs.toPI g c) ⟨hs.sim g1, hs.sim g2⟩)
variable (hr : RootK H k r)
include hr
theorem Sec.groupNo (x y : Nat) (hx : x < 2 ^ 256) (hy : y < 2 ^ 256) (i : Bool) (u v : Nat) (hu : u < 2 ^ 256) (hv : v < 2 ^ 256) (j : Bool) (w z : Nat) (hw : w < 2 ^ 256) (hz : z < 2 ^ 256) (l : Bool) (a b : Nat) (h : ¬ (GoodQ x y i ∧ GoodQ u v j ∧ GoodQ w z l)) :
    Sp 5 [PS H x y i, PS H u v j, PS H w z l, u4 H.lim a, u4 H.lim b] (.sb true) := by
  have cw := hs.awake hr
  have g1 := hs.rgood x y hx hy i _ rfl
  have g2 := hs.rgood u v hu hv j _ rfl
  have g3 := hs.rgood w z hw hz l _ rfl
  clear hr
  by_cases h1 : GoodQ x y i
  · rw [decide_eq_true h1] at g1
    by_cases h2 : GoodQ u v j
    · rw [decide_eq_true h2] at g2
      rw [decide_eq_false (fun e => h ⟨h1, h2, e⟩)] at g3
      refine mk Tryz.func5 rfl rfl L0 R1 (by decide +kernel) fun A S hA hS => ?_
      have nt := not_t hA
      have nf := not_f hA
      unfold bodyOf Tryz.f5
      cbv
      repeat (first
        | (refine ABr.t (by assumption) ?_; cbv)
        | (refine ABr.f (by assumption) ?_; cbv)
        | (refine ABr.t rfl ?_; cbv)
        | (refine ABr.f rfl ?_; cbv)
        | (refine ACall.mk _ (cf hS cw) ?_; cbv)
        | (refine ACall.mk _ (cf hS g1) ?_; cbv)
        | (refine ACall.mk _ (cf hS g2) ?_; cbv)
        | (refine ACall.mk _ (cf hS g3) ?_; cbv))
    · rw [decide_eq_false h2] at g2
      refine mk Tryz.func5 rfl rfl L0 R1 (by decide +kernel) fun A S hA hS => ?_
      have nt := not_t hA
      have nf := not_f hA
      unfold bodyOf Tryz.f5
      cbv
      repeat (first
        | (refine ABr.t (by assumption) ?_; cbv)
        | (refine ABr.f (by assumption) ?_; cbv)
        | (refine ABr.t rfl ?_; cbv)
        | (refine ABr.f rfl ?_; cbv)
        | (refine ACall.mk _ (cf hS cw) ?_; cbv)
        | (refine ACall.mk _ (cf hS g1) ?_; cbv)
        | (refine ACall.mk _ (cf hS g2) ?_; cbv))
  · rw [decide_eq_false h1] at g1
    refine mk Tryz.func5 rfl rfl L0 R1 (by decide +kernel) fun A S hA hS => ?_
    have nt := not_t hA
    have nf := not_f hA
    unfold bodyOf Tryz.f5
    cbv
    repeat (first
      | (refine ABr.t (by assumption) ?_; cbv)
      | (refine ABr.f (by assumption) ?_; cbv)
      | (refine ABr.t rfl ?_; cbv)
      | (refine ABr.f rfl ?_; cbv)
      | (refine ACall.mk _ (cf hS cw) ?_; cbv)
      | (refine ACall.mk _ (cf hS g1) ?_; cbv))
theorem Sec.groupYes {x y : Nat} {i : Bool} {u v : Nat} {j : Bool} {w z : Nat} {l : Bool} (gp : GoodQ x y i) (gq : GoodQ u v j) (gr : GoodQ w z l) (a b : Nat) (ha : a < 2 ^ 256) (hb : b < 2 ^ 256) :
    Sp 5 [PS H x y i, PS H u v j, PS H w z l, u4 H.lim a, u4 H.lim b] (.sb true) := by
  have cw := hs.awake hr
  have g1 : Sp 11 [PS H x y i] (.sb true) := Spec.args (hs.rgoodP _ gp.on) (hs.sim gp)
  have g2 : Sp 11 [PS H u v j] (.sb true) := Spec.args (hs.rgoodP _ gq.on) (hs.sim gq)
  have g3 : Sp 11 [PS H w z l] (.sb true) := Spec.args (hs.rgoodP _ gr.on) (hs.sim gr)
  -- the negation
  obtain ⟨nx_, ny, nl, gn, en⟩ := ps_of _ (onS_neg gp.on)
  have cn := hs.neg _ gp.on
  rw [← en] at cn
  have cn : Sp 13 [PS H x y i] (.tup [PS H nx_ ny nl, .i .i64 0]) := Spec.args (hs.toPI gn cn) (hs.sim gp)
  have s0 : Sp 22 [PS H x y i, PS H nx_ ny nl] (Pf k none) := by
    have c := hs.add _ _ gp.on gn.on
    rw [en, Gp.sum_neg Sk.F] at c
    rw [← en] at c
    exact sumPZ (Spec.args c ⟨hs.sim gp, hs.sim gn⟩)
  have s1 : Sp 22 [PS H x y i, Pf k none] (PS H x y i) := by
    have c := hs.add _ none gp.on trivial
    rw [show Cv.sumR Sk.O (ptQ x y i) none = ptQ x y i by cases ptQ x y i <;> rfl] at c
    exact sumZP (Spec.args (hs.toPI gp c) ⟨hs.sim gp, by cbv⟩)
  obtain ⟨px, py, pl, gpq, epq⟩ := ps_of _ (onS_sum gp.on gq.on)
  have s2 := hs.sumQ gp gq gpq epq
  have s3 := hs.sumQ gq gp gpq (epq.trans (Gp.sum_comm Sk.F Sk.no2 gp.on gq.on))
  obtain ⟨qx, qy, ql, gqr, eqr⟩ := ps_of _ (onS_sum gq.on gr.on)
  have s5 := hs.sumQ gq gr gqr eqr
  obtain ⟨tx, ty, tl, gt, et⟩ := ps_of _ (onS_sum gpq.on gr.on)
  have s4 := hs.sumQ gpq gr gt et
  have s6 := hs.sumQ gp gqr gt (by rw [et, epq, eqr]; exact Gp.sum_assoc Sk.F Sk.no2 gp.on gq.on gr.on)
  have g4 : Sp 14 [PS H px py pl] (.sb true) := Spec.args (hs.goodP _ gpq.on) (hs.sim gpq)
  have c_n := hs.cN
  have m0 : Sp 20 [PS H x y i, u4 H.lim n] (.tup [Pf k none, .i .i64 0]) := by
    have c := hs.mul _ gp.on n (by rw [hs.hn]; decide)
    rw [hs.hn, Sk.kill gp.on] at c
    rw [hs.hn]
    exact Spec.args c ⟨hs.sim gp, by cbv⟩
  have cc := rCarriesS (H5.hlim hs.hH) a b ha hb _ rfl
  by_cases hc : 2 ^ 256 ≤ a + b
  · rw [decide_eq_true hc] at cc
    clear hr hs en epq eqr et gp gq gr gn gpq gqr gt
    refine mk Tryz.func5 rfl rfl L0 R1 (by decide +kernel) fun A S hA hS => ?_
    have nt := not_t hA
    have nf := not_f hA
    have e1 := ps_rf hA H.lim x y i
    have e2 := ps_rf hA H.lim px py pl
    have e3 := ps_rf hA H.lim tx ty tl
    have h1 : A.not (A.eqs (ps9 H.lim x y i)) = false := by rw [e1]; exact nt
    have h2 : A.not (A.eqs (ps9 H.lim px py pl)) = false := by rw [e2]; exact nt
    have h3 : A.not (A.eqs (ps9 H.lim tx ty tl)) = false := by rw [e3]; exact nt
    dsimp only [ps9] at e1 e2 e3 h1 h2 h3
    unfold bodyOf Tryz.f5
    cbv
    repeat (first
      | (refine ABr.t (by assumption) ?_; cbv)
      | (refine ABr.f (by assumption) ?_; cbv)
      | (refine ABr.t rfl ?_; cbv)
      | (refine ABr.f rfl ?_; cbv)
      | (refine ACall.mk _ (cf hS cw) ?_; cbv)
      | (refine ACall.mk _ (cf hS g1) ?_; cbv)
      | (refine ACall.mk _ (cf hS g2) ?_; cbv)
      | (refine ACall.mk _ (cf hS g3) ?_; cbv)
      | (refine ACall.mk _ (cf hS cn) ?_; cbv)
      | (refine ACall.mk _ (cf hS s0) ?_; cbv)
      | (refine ACall.mk _ (cf hS s1) ?_; cbv)
      | (refine ACall.mk _ (cf hS s2) ?_; cbv)
      | (refine ACall.mk _ (cf hS s3) ?_; cbv)
      | (refine ACall.mk _ (cf hS s4) ?_; cbv)
      | (refine ACall.mk _ (cf hS s5) ?_; cbv)
      | (refine ACall.mk _ (cf hS s6) ?_; cbv)
      | (refine ACall.mk _ (cf hS g4) ?_; cbv)
      | (refine ACall.mk _ (cf hS c_n) ?_; cbv)
      | (refine ACall.mk _ (cf hS m0) ?_; cbv)
      | (refine ACall.mk _ (cf hS cc) ?_; cbv))
  · rw [decide_eq_false hc] at cc
    have ca := rAddS (H5.hlim hs.hH) a b ha hb
    rw [Nat.mod_eq_of_lt (by omega)] at ca
    obtain ⟨ax, ay, al, gA, eA⟩ := ps_of _ (onS_mn gp.on a)
    obtain ⟨bx, by_, bl, gB, eB⟩ := ps_of _ (onS_mn gp.on b)
    obtain ⟨cx, cy, cl, gC, eC⟩ := ps_of _ (onS_mn gp.on (a + b))
    have m1 := hs.mul _ gp.on a ha
    have m2 := hs.mul _ gp.on b hb
    have m3 := hs.mul _ gp.on (a + b) (by omega)
    rw [← eA] at m1
    rw [← eB] at m2
    rw [← eC] at m3
    have m1 := Spec.args (As' := [PS H x y i, u4 H.lim a]) (hs.toPI gA m1) ⟨hs.sim gp, by cbv⟩
    have m2 := Spec.args (As' := [PS H x y i, u4 H.lim b]) (hs.toPI gB m2) ⟨hs.sim gp, by cbv⟩
    have m3 := Spec.args (As' := [PS H x y i, u4 H.lim (a + b)]) (hs.toPI gC m3) ⟨hs.sim gp, by cbv⟩
    have s7 := hs.sumQ gA gB gC (by rw [eA, eB, eC]; exact (Gp.madd Sk.F Sk.no2 gp.on a b).symm)
    clear hr hs en epq eqr et gp gq gr gn gpq gqr gt eA eB eC gA gB gC hc ha hb
    generalize a + b = ab at *
    refine mk Tryz.func5 rfl rfl L0 R1 (by decide +kernel) fun A S hA hS => ?_
    have nt := not_t hA
    have nf := not_f hA
    have e1 := ps_rf hA H.lim x y i
    have e2 := ps_rf hA H.lim px py pl
    have e3 := ps_rf hA H.lim tx ty tl
    have h1 : A.not (A.eqs (ps9 H.lim x y i)) = false := by rw [e1]; exact nt
    have h2 : A.not (A.eqs (ps9 H.lim px py pl)) = false := by rw [e2]; exact nt
    have h3 : A.not (A.eqs (ps9 H.lim tx ty tl)) = false := by rw [e3]; exact nt
    have e4 := ps_rf hA H.lim cx cy cl
    dsimp only [ps9] at e1 e2 e3 h1 h2 h3 e4
    unfold bodyOf Tryz.f5
    cbv
    repeat (first
      | (refine ABr.t (by assumption) ?_; cbv)
      | (refine ABr.f (by assumption) ?_; cbv)
      | (refine ABr.t rfl ?_; cbv)
      | (refine ABr.f rfl ?_; cbv)
      | (refine ACall.mk _ (cf hS cw) ?_; cbv)
      | (refine ACall.mk _ (cf hS g1) ?_; cbv)
      | (refine ACall.mk _ (cf hS g2) ?_; cbv)
      | (refine ACall.mk _ (cf hS g3) ?_; cbv)
      | (refine ACall.mk _ (cf hS cn) ?_; cbv)
      | (refine ACall.mk _ (cf hS s0) ?_; cbv)
      | (refine ACall.mk _ (cf hS s1) ?_; cbv)
      | (refine ACall.mk _ (cf hS s2) ?_; cbv)
      | (refine ACall.mk _ (cf hS s3) ?_; cbv)
      | (refine ACall.mk _ (cf hS s4) ?_; cbv)
      | (refine ACall.mk _ (cf hS s5) ?_; cbv)
      | (refine ACall.mk _ (cf hS s6) ?_; cbv)
      | (refine ACall.mk _ (cf hS g4) ?_; cbv)
      | (refine ACall.mk _ (cf hS c_n) ?_; cbv)
      | (refine ACall.mk _ (cf hS m0) ?_; cbv)
      | (refine ACall.mk _ (cf hS cc) ?_; cbv)
      | (refine ACall.mk _ (cf hS m1) ?_; cbv)
      | (refine ACall.mk _ (cf hS m2) ?_; cbv)
      | (refine ACall.mk _ (cf hS ca) ?_; cbv)
      | (refine ACall.mk _ (cf hS m3) ?_; cbv)
      | (refine ACall.mk _ (cf hS s7) ?_; cbv))
    exact e4
end
theorem lw_group {H : H5} (hH : H = H5.real) (x y : Nat) (i : Bool) (u v : Nat) (j : Bool) (w z : Nat) (l : Bool) (a b : Nat) (hx : x < 2 ^ 256) (hy : y < 2 ^ 256) (hu : u < 2 ^ 256) (hv : v < 2 ^ 256) (hw : w < 2 ^ 256) (hz : z < 2 ^ 256) (ha : a < 2 ^ 256) (hb : b < 2 ^ 256) :
    Sp 5 [PS H x y i, PS H u v j, PS H w z l, u4 H.lim a, u4 H.lim b] (.sb true) := by
  by_cases h : GoodQ x y i ∧ GoodQ u v j ∧ GoodQ w z l
  · exact (sec H hH).groupYes (rootK H hH) h.1 h.2.1 h.2.2 a b ha hb
  · exact (sec H hH).groupNo (rootK H hH) x y hx hy i u v hu hv j w z hw hz l a b h
end Go.Proofs.YtkhipnhdbaahcaaGreat
