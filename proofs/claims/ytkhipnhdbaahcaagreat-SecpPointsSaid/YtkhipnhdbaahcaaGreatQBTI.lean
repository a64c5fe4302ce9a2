import Derived.Test.YtkhipnhdbaahcaaGreatQBTH
set_option linter.unusedVariables false
set_option linter.unusedSectionVars false
set_option linter.unusedSimpArgs false
namespace Go.Proofs.YtkhipnhdbaahcaaGreat
open Go Eng
set_option maxRecDepth 100000
set_option exponentiation.threshold 2000
set_option maxHeartbeats 8000000
theorem down_upR (P : Cv.Pt (Fin Sk.pS)) (hP : onS P) : Cv.down Sk.O (upR Sk.O P) = P := by
  rcases P with _ | ⟨x, y⟩
  · exact Gp.down_inf1
  · exact down_upS (some (x, y)) hP
section
variable {H : H5} {k : Kf Sk.pS} {r : List AVal} {kn : Kf Sk.nS} {rn : List AVal} {m n : Nat} (hs : Sec H k r kn rn m n)
include hs
theorem Sec.rf : Rf k H.lim m := by
  have hl := H5.hlim hs.hH
  have h := mkRf (k := k) (lim := H.lim) hl hs.uv (by rw [hs.o]; first | done | rfl) (redP hl _ rfl) hs.ok.zerov hs.ok.one hs.ok.injv
  rw [hs.hm]; exact h
theorem Sec.cP : Sp 44 [] (u4 H.lim m) := r6P (H5.hlim hs.hH) m hs.hm
theorem Sec.cN : Sp 23 [] (u4 H.lim n) := r6N (H5.hlim hs.hH) n hs.hn
theorem Sec.both (a b : Nat) (ha : a < 2 ^ 256) (hb : b < 2 ^ 256) (P Q : Cv.Pt (Fin Sk.pS)) (hP : onS P) (hQ : onS Q) : Sp 66 [u4 H.lim a, Pf k P, u4 H.lim b, Pf k Q] (Pf k (Cv.sumR Sk.O (Gp.mn Sk.O P a) (Gp.mn Sk.O Q b))) := by
  have hl := H5.hlim hs.hH
  have hK := hs.rf
  have hp := hs.cP
  have hO := hs.o
  have cx := upS hK P
  have cy := upS hK Q
  have law := Gp.bo_sum Sk.F Sk.L Sk.no2 Sk.hA (x := upR Sk.O P) (y := upR Sk.O Q) (by rw [down_upR P hP]; exact hP) (by rw [down_upR Q hQ]; exact hQ) ha hb 256 (Nat.le_refl _)
  rw [down_upR P hP, down_upR Q hQ, Nat.sub_self, Nat.pow_zero, Nat.div_one, Nat.div_one, ← hO] at law
  rw [← hO]
  generalize upR k.O P = X at *
  generalize upR k.O Q = Y at *
  obtain ⟨XY, hXY⟩ : ∃ XY, XY = Gp.plR k.O X Y := ⟨_, rfl⟩
  have cxy := plS hK hp X Y
  rw [← hXY] at cxy
  obtain ⟨B, hB⟩ : ∃ B : Nat → Cv.Jac (Fin Sk.pS), B = Gp.bo k.O X Y a b 256 := ⟨_, rfl⟩
  obtain ⟨T, hT⟩ : ∃ T : Nat → Cv.Jac (Fin Sk.pS), T = fun j => Gp.twR k.O (B j) := ⟨_, rfl⟩
  have hB0 : B 0 = Gp.inf1 k.O := by rw [hB]; rfl
  have hBs : ∀ j, B (j + 1) = if a / 2 ^ (255 - j) % 2 = 1 then (if b / 2 ^ (255 - j) % 2 = 1 then Gp.plR k.O (T j) XY else Gp.plR k.O (T j) X) else if b / 2 ^ (255 - j) % 2 = 1 then Gp.plR k.O (T j) Y else T j := fun j => by rw [hT, hB, hXY]; rfl
  have ct : ∀ j, Sp 110 [JU k (B j)] (JU k (T j)) := fun j => by rw [hT]; exact twS hK hp (B j)
  have cA : ∀ j, Sp 63 [JU k (T j), JU k XY] (JU k (Gp.plR k.O (T j) XY)) := fun j => plS hK hp (T j) XY
  have cB : ∀ j, Sp 63 [JU k (T j), JU k X] (JU k (Gp.plR k.O (T j) X)) := fun j => plS hK hp (T j) X
  have cC : ∀ j, Sp 63 [JU k (T j), JU k Y] (JU k (Gp.plR k.O (T j) Y)) := fun j => plS hK hp (T j) Y
  have cd := downS hK hp (B 256)
  rw [hB, law] at cd
  rw [← hB] at cd
  have cbit : ∀ (e i : Nat), i < 256 → Sp 112 [u4 H.lim e, .s .i64 (i : Int)] (.s .u64 ((e / 2 ^ i % 2 : Nat) : Int)) := fun e i hi => r2Bit hl e i hi
  have e0 := hK.one.1
  have es := hK.one.2
  have z := hK.zerov
  have e1 := es 0 (by decide)
  have e2 := es 1 (by decide)
  have e3 := es 2 (by decide)
  have z0 := z 0 (by decide)
  have z1 := z 1 (by decide)
  have z2 := z 2 (by decide)
  have z3 := z 3 (by decide)
  have hi1 : (B 0).x = k.O.one ∧ (B 0).y = k.O.one ∧ (B 0).z = k.O.zero := by rw [hB0]; exact ⟨rfl, rfl, rfl⟩
  obtain ⟨i1, i2, i3⟩ := hi1
  rw [← i1] at e0 e1 e2 e3
  have f0 := e0
  have f1 := e1
  have f2 := e2
  have f3 := e3
  rw [i1, ← i2] at f0 f1 f2 f3
  rw [← i3] at z0 z1 z2 z3
  clear es z hB hT law hB0 i1 i2 i3 hXY hO
  generalize Cv.sumR k.O (Gp.mn k.O P a) (Gp.mn k.O Q b) = R at *
  rcases P with _ | ⟨px, py⟩ <;> rcases Q with _ | ⟨qx, qy⟩ <;> rcases R with _ | ⟨rx, ry⟩
  all_goals
    refine mk Tryz.func66 rfl rfl L00 RBo (by decide +kernel) fun A S hA hS => ?_
    unfold bodyOf Tryz.f66
    cbv
    refine ACall.mk _ (cf hS cx) ?_
    cbv
    refine ACall.mk _ (cf hS cy) ?_
    cbv
    refine ACall.mk _ (cf hS cxy) ?_
    cbv
  · refine .inv (α := Nat × Int) (fun p => ⟨[.any, .any, .any, .any, .own 0 0, .own 1 0, .own 2 0, .own 3 0, .own 4 0, .own 5 0, .own 6 0, .own 7 0, .own 8 0, .s .i64 p.2, .any, .any, .any, .any, .any, .any, .any, .any, .any, .any, .any, .any, .any, .any, .any, .any, .any, .any, .any, .any, .any, .any, .any, .any, .any, .any, .any, .any, .any, .any, .any, .any, .any, .any, .any, .any, .any, .any, .any, .any, .any, .any, .any, .any, .any, .any, .any, .any], [⟨true, true, [.s .u64 (H.lim a 0), .s .u64 (H.lim a 1), .s .u64 (H.lim a 2), .s .u64 (H.lim a 3)]⟩, ⟨true, true, [.i .u64 0, .i .u64 0, .i .u64 0, .i .u64 0, .i .u64 0, .i .u64 0, .i .u64 0, .i .u64 0, .b true]⟩, ⟨true, true, [.s .u64 (H.lim b 0), .s .u64 (H.lim b 1), .s .u64 (H.lim b 2), .s .u64 (H.lim b 3)]⟩, ⟨true, true, [.i .u64 0, .i .u64 0, .i .u64 0, .i .u64 0, .i .u64 0, .i .u64 0, .i .u64 0, .i .u64 0, .b true]⟩, ⟨true, true, [.i .u64 0, .i .u64 0, .i .u64 0, .i .u64 0, .i .u64 0, .i .u64 0, .i .u64 0, .i .u64 0, .b false]⟩, ⟨true, true, [.s .u64 (k.v X.x 0), .s .u64 (k.v X.x 1), .s .u64 (k.v X.x 2), .s .u64 (k.v X.x 3), .s .u64 (k.v X.y 0), .s .u64 (k.v X.y 1), .s .u64 (k.v X.y 2), .s .u64 (k.v X.y 3), .s .u64 (k.v X.z 0), .s .u64 (k.v X.z 1), .s .u64 (k.v X.z 2), .s .u64 (k.v X.z 3)]⟩, ⟨true, true, [.s .u64 (k.v Y.x 0), .s .u64 (k.v Y.x 1), .s .u64 (k.v Y.x 2), .s .u64 (k.v Y.x 3), .s .u64 (k.v Y.y 0), .s .u64 (k.v Y.y 1), .s .u64 (k.v Y.y 2), .s .u64 (k.v Y.y 3), .s .u64 (k.v Y.z 0), .s .u64 (k.v Y.z 1), .s .u64 (k.v Y.z 2), .s .u64 (k.v Y.z 3)]⟩, ⟨true, true, [.s .u64 (k.v XY.x 0), .s .u64 (k.v XY.x 1), .s .u64 (k.v XY.x 2), .s .u64 (k.v XY.x 3), .s .u64 (k.v XY.y 0), .s .u64 (k.v XY.y 1), .s .u64 (k.v XY.y 2), .s .u64 (k.v XY.y 3), .s .u64 (k.v XY.z 0), .s .u64 (k.v XY.z 1), .s .u64 (k.v XY.z 2), .s .u64 (k.v XY.z 3)]⟩, ⟨true, true, [.s .u64 (k.v ((B p.1)).x 0), .s .u64 (k.v ((B p.1)).x 1), .s .u64 (k.v ((B p.1)).x 2), .s .u64 (k.v ((B p.1)).x 3), .s .u64 (k.v ((B p.1)).y 0), .s .u64 (k.v ((B p.1)).y 1), .s .u64 (k.v ((B p.1)).y 2), .s .u64 (k.v ((B p.1)).y 3), .s .u64 (k.v ((B p.1)).z 0), .s .u64 (k.v ((B p.1)).z 1), .s .u64 (k.v ((B p.1)).z 2), .s .u64 (k.v ((B p.1)).z 3)]⟩]⟩) (fun p => p.1 ≤ 256 ∧ p.2 = (255 : Int) - p.1) (fun p => 256 - p.1) (0, 255) ?_ ⟨Nat.zero_le _, rfl⟩ ?_
    · cbv
      repeat' (first | exact e0.symm | exact e1.symm | exact e2.symm | exact e3.symm | exact f0.symm | exact f1.symm | exact f2.symm | exact f3.symm | exact z0.symm | exact z1.symm | exact z2.symm | exact z3.symm | exact rfl | exact trivial | constructor)
    clear e0 e1 e2 e3 f0 f1 f2 f3 z0 z1 z2 z3
    rintro ⟨j, i⟩ ⟨h1, h2⟩
    dsimp only at h1 h2 ⊢
    by_cases hj : j = 256
    · subst hj
      have hge : A.cmp .geq i 0 = false := (i_ge hA).trans (decide_eq_false (by omega))
      clear ct cA cB cC cbit hBs h1 h2
      generalize B 256 = bj at *
      cbv
      refine ABr.f hge ?_
      cbv
      refine ACall.mk _ (cf hS cd) ?_
      cbv
    · have hge : A.cmp .geq i 0 = true := (i_ge hA).trans (decide_eq_true (by omega))
      have hk : ∃ q : Nat, q = 255 - j ∧ i = (q : Int) := ⟨255 - j, rfl, by omega⟩
      obtain ⟨q, hq, rfl⟩ := hk
      have hs_ := hBs j
      rw [← hq] at hs_
      have t1 := ct j
      have tA := cA j
      have tB := cB j
      have tC := cC j
      have b1 := cbit a q (by omega)
      have b2 := cbit b q (by omega)
      have hb1 := bit_one hA (a / 2 ^ q % 2)
      have hb2 := bit_one hA (b / 2 ^ q % 2)
      obtain ⟨y, hy⟩ : ∃ y : Int, y = (q : Int) - 1 := ⟨_, rfl⟩
      have hy2 : y = (255 : Int) - ((j + 1 : Nat) : Int) := by omega
      have q1 : j + 1 ≤ 256 := by omega
      have q2 : 256 - (j + 1) < 256 - j := by omega
      have hsub : A.bin .sub .i64 (q : Int) 1 = y := e_sub hA rfl rfl hy.symm (by omega)
      clear ct cA cB cC cbit hBs h1 h2 hq cd cx cy cxy
      generalize j + 1 = j1 at *
      generalize hbj : B j = bj at *
      generalize hbj1 : B j1 = bj1 at *
      generalize T j = tj at *
      generalize a / 2 ^ q % 2 = sa at *
      generalize b / 2 ^ q % 2 = sb at *
      by_cases c1 : sa = 1
      · rw [if_pos c1] at hs_
        rw [decide_eq_true c1] at hb1
        by_cases c2 : sb = 1
        · rw [if_pos c2] at hs_
          rw [decide_eq_true c2] at hb2
          rw [← hs_] at tA
          clear tB tC hs_
          cbv
          refine ABr.t hge ?_
          cbv
          repeat (first
            | (refine ABr.t (by assumption) ?_; cbv)
            | (refine ABr.f (by assumption) ?_; cbv)
            | (refine ABr.t rfl ?_; cbv)
            | (refine ABr.f rfl ?_; cbv)
            | (refine ACall.mk _ (cf hS t1) ?_; cbv)
            | (refine ACall.mk _ (cf hS b1) ?_; cbv)
            | (refine ACall.mk _ (cf hS b2) ?_; cbv)
            | (refine ACall.mk _ (cf hS tA) ?_; cbv))
          refine ⟨(j1, y), ?_, ⟨q1, hy2⟩, q2⟩
          subst hbj1
          cbv
          repeat' (first | exact hsub | exact rfl | exact trivial | constructor)
        · rw [if_neg c2] at hs_
          rw [decide_eq_false c2] at hb2
          rw [← hs_] at tB
          clear tA tC hs_
          cbv
          refine ABr.t hge ?_
          cbv
          repeat (first
            | (refine ABr.t (by assumption) ?_; cbv)
            | (refine ABr.f (by assumption) ?_; cbv)
            | (refine ABr.t rfl ?_; cbv)
            | (refine ABr.f rfl ?_; cbv)
            | (refine ACall.mk _ (cf hS t1) ?_; cbv)
            | (refine ACall.mk _ (cf hS b1) ?_; cbv)
            | (refine ACall.mk _ (cf hS b2) ?_; cbv)
            | (refine ACall.mk _ (cf hS tB) ?_; cbv))
          refine ⟨(j1, y), ?_, ⟨q1, hy2⟩, q2⟩
          subst hbj1
          cbv
          repeat' (first | exact hsub | exact rfl | exact trivial | constructor)
      · rw [if_neg c1] at hs_
        rw [decide_eq_false c1] at hb1
        by_cases c2 : sb = 1
        · rw [if_pos c2] at hs_
          rw [decide_eq_true c2] at hb2
          rw [← hs_] at tC
          clear tA tB hs_
          cbv
          refine ABr.t hge ?_
          cbv
          repeat (first
            | (refine ABr.t (by assumption) ?_; cbv)
            | (refine ABr.f (by assumption) ?_; cbv)
            | (refine ABr.t rfl ?_; cbv)
            | (refine ABr.f rfl ?_; cbv)
            | (refine ACall.mk _ (cf hS t1) ?_; cbv)
            | (refine ACall.mk _ (cf hS b1) ?_; cbv)
            | (refine ACall.mk _ (cf hS b2) ?_; cbv)
            | (refine ACall.mk _ (cf hS tC) ?_; cbv))
          refine ⟨(j1, y), ?_, ⟨q1, hy2⟩, q2⟩
          subst hbj1
          cbv
          repeat' (first | exact hsub | exact rfl | exact trivial | constructor)
        · rw [if_neg c2] at hs_
          rw [decide_eq_false c2] at hb2
          rw [← hs_] at t1
          clear tA tB tC hs_
          cbv
          refine ABr.t hge ?_
          cbv
          repeat (first
            | (refine ABr.t (by assumption) ?_; cbv)
            | (refine ABr.f (by assumption) ?_; cbv)
            | (refine ABr.t rfl ?_; cbv)
            | (refine ABr.f rfl ?_; cbv)
            | (refine ACall.mk _ (cf hS t1) ?_; cbv)
            | (refine ACall.mk _ (cf hS b1) ?_; cbv)
            | (refine ACall.mk _ (cf hS b2) ?_; cbv))
          refine ⟨(j1, y), ?_, ⟨q1, hy2⟩, q2⟩
          subst hbj1
          cbv
          repeat' (first | exact hsub | exact rfl | exact trivial | constructor)
  · refine .inv (α := Nat × Int) (fun p => ⟨[.any, .any, .any, .any, .own 0 0, .own 1 0, .own 2 0, .own 3 0, .own 4 0, .own 5 0, .own 6 0, .own 7 0, .own 8 0, .s .i64 p.2, .any, .any, .any, .any, .any, .any, .any, .any, .any, .any, .any, .any, .any, .any, .any, .any, .any, .any, .any, .any, .any, .any, .any, .any, .any, .any, .any, .any, .any, .any, .any, .any, .any, .any, .any, .any, .any, .any, .any, .any, .any, .any, .any, .any, .any, .any, .any, .any], [⟨true, true, [.s .u64 (H.lim a 0), .s .u64 (H.lim a 1), .s .u64 (H.lim a 2), .s .u64 (H.lim a 3)]⟩, ⟨true, true, [.i .u64 0, .i .u64 0, .i .u64 0, .i .u64 0, .i .u64 0, .i .u64 0, .i .u64 0, .i .u64 0, .b true]⟩, ⟨true, true, [.s .u64 (H.lim b 0), .s .u64 (H.lim b 1), .s .u64 (H.lim b 2), .s .u64 (H.lim b 3)]⟩, ⟨true, true, [.i .u64 0, .i .u64 0, .i .u64 0, .i .u64 0, .i .u64 0, .i .u64 0, .i .u64 0, .i .u64 0, .b true]⟩, ⟨true, true, [.i .u64 0, .i .u64 0, .i .u64 0, .i .u64 0, .i .u64 0, .i .u64 0, .i .u64 0, .i .u64 0, .b false]⟩, ⟨true, true, [.s .u64 (k.v X.x 0), .s .u64 (k.v X.x 1), .s .u64 (k.v X.x 2), .s .u64 (k.v X.x 3), .s .u64 (k.v X.y 0), .s .u64 (k.v X.y 1), .s .u64 (k.v X.y 2), .s .u64 (k.v X.y 3), .s .u64 (k.v X.z 0), .s .u64 (k.v X.z 1), .s .u64 (k.v X.z 2), .s .u64 (k.v X.z 3)]⟩, ⟨true, true, [.s .u64 (k.v Y.x 0), .s .u64 (k.v Y.x 1), .s .u64 (k.v Y.x 2), .s .u64 (k.v Y.x 3), .s .u64 (k.v Y.y 0), .s .u64 (k.v Y.y 1), .s .u64 (k.v Y.y 2), .s .u64 (k.v Y.y 3), .s .u64 (k.v Y.z 0), .s .u64 (k.v Y.z 1), .s .u64 (k.v Y.z 2), .s .u64 (k.v Y.z 3)]⟩, ⟨true, true, [.s .u64 (k.v XY.x 0), .s .u64 (k.v XY.x 1), .s .u64 (k.v XY.x 2), .s .u64 (k.v XY.x 3), .s .u64 (k.v XY.y 0), .s .u64 (k.v XY.y 1), .s .u64 (k.v XY.y 2), .s .u64 (k.v XY.y 3), .s .u64 (k.v XY.z 0), .s .u64 (k.v XY.z 1), .s .u64 (k.v XY.z 2), .s .u64 (k.v XY.z 3)]⟩, ⟨true, true, [.s .u64 (k.v ((B p.1)).x 0), .s .u64 (k.v ((B p.1)).x 1), .s .u64 (k.v ((B p.1)).x 2), .s .u64 (k.v ((B p.1)).x 3), .s .u64 (k.v ((B p.1)).y 0), .s .u64 (k.v ((B p.1)).y 1), .s .u64 (k.v ((B p.1)).y 2), .s .u64 (k.v ((B p.1)).y 3), .s .u64 (k.v ((B p.1)).z 0), .s .u64 (k.v ((B p.1)).z 1), .s .u64 (k.v ((B p.1)).z 2), .s .u64 (k.v ((B p.1)).z 3)]⟩]⟩) (fun p => p.1 ≤ 256 ∧ p.2 = (255 : Int) - p.1) (fun p => 256 - p.1) (0, 255) ?_ ⟨Nat.zero_le _, rfl⟩ ?_
    · cbv
      repeat' (first | exact e0.symm | exact e1.symm | exact e2.symm | exact e3.symm | exact f0.symm | exact f1.symm | exact f2.symm | exact f3.symm | exact z0.symm | exact z1.symm | exact z2.symm | exact z3.symm | exact rfl | exact trivial | constructor)
    clear e0 e1 e2 e3 f0 f1 f2 f3 z0 z1 z2 z3
    rintro ⟨j, i⟩ ⟨h1, h2⟩
    dsimp only at h1 h2 ⊢
    by_cases hj : j = 256
    · subst hj
      have hge : A.cmp .geq i 0 = false := (i_ge hA).trans (decide_eq_false (by omega))
      clear ct cA cB cC cbit hBs h1 h2
      generalize B 256 = bj at *
      cbv
      refine ABr.f hge ?_
      cbv
      refine ACall.mk _ (cf hS cd) ?_
      cbv
    · have hge : A.cmp .geq i 0 = true := (i_ge hA).trans (decide_eq_true (by omega))
      have hk : ∃ q : Nat, q = 255 - j ∧ i = (q : Int) := ⟨255 - j, rfl, by omega⟩
      obtain ⟨q, hq, rfl⟩ := hk
      have hs_ := hBs j
      rw [← hq] at hs_
      have t1 := ct j
      have tA := cA j
      have tB := cB j
      have tC := cC j
      have b1 := cbit a q (by omega)
      have b2 := cbit b q (by omega)
      have hb1 := bit_one hA (a / 2 ^ q % 2)
      have hb2 := bit_one hA (b / 2 ^ q % 2)
      obtain ⟨y, hy⟩ : ∃ y : Int, y = (q : Int) - 1 := ⟨_, rfl⟩
      have hy2 : y = (255 : Int) - ((j + 1 : Nat) : Int) := by omega
      have q1 : j + 1 ≤ 256 := by omega
      have q2 : 256 - (j + 1) < 256 - j := by omega
      have hsub : A.bin .sub .i64 (q : Int) 1 = y := e_sub hA rfl rfl hy.symm (by omega)
      clear ct cA cB cC cbit hBs h1 h2 hq cd cx cy cxy
      generalize j + 1 = j1 at *
      generalize hbj : B j = bj at *
      generalize hbj1 : B j1 = bj1 at *
      generalize T j = tj at *
      generalize a / 2 ^ q % 2 = sa at *
      generalize b / 2 ^ q % 2 = sb at *
      by_cases c1 : sa = 1
      · rw [if_pos c1] at hs_
        rw [decide_eq_true c1] at hb1
        by_cases c2 : sb = 1
        · rw [if_pos c2] at hs_
          rw [decide_eq_true c2] at hb2
          rw [← hs_] at tA
          clear tB tC hs_
          cbv
          refine ABr.t hge ?_
          cbv
          repeat (first
            | (refine ABr.t (by assumption) ?_; cbv)
            | (refine ABr.f (by assumption) ?_; cbv)
            | (refine ABr.t rfl ?_; cbv)
            | (refine ABr.f rfl ?_; cbv)
            | (refine ACall.mk _ (cf hS t1) ?_; cbv)
            | (refine ACall.mk _ (cf hS b1) ?_; cbv)
            | (refine ACall.mk _ (cf hS b2) ?_; cbv)
            | (refine ACall.mk _ (cf hS tA) ?_; cbv))
          refine ⟨(j1, y), ?_, ⟨q1, hy2⟩, q2⟩
          subst hbj1
          cbv
          repeat' (first | exact hsub | exact rfl | exact trivial | constructor)
        · rw [if_neg c2] at hs_
          rw [decide_eq_false c2] at hb2
          rw [← hs_] at tB
          clear tA tC hs_
          cbv
          refine ABr.t hge ?_
          cbv
          repeat (first
            | (refine ABr.t (by assumption) ?_; cbv)
            | (refine ABr.f (by assumption) ?_; cbv)
            | (refine ABr.t rfl ?_; cbv)
            | (refine ABr.f rfl ?_; cbv)
            | (refine ACall.mk _ (cf hS t1) ?_; cbv)
            | (refine ACall.mk _ (cf hS b1) ?_; cbv)
            | (refine ACall.mk _ (cf hS b2) ?_; cbv)
            | (refine ACall.mk _ (cf hS tB) ?_; cbv))
          refine ⟨(j1, y), ?_, ⟨q1, hy2⟩, q2⟩
          subst hbj1
          cbv
          repeat' (first | exact hsub | exact rfl | exact trivial | constructor)
      · rw [if_neg c1] at hs_
        rw [decide_eq_false c1] at hb1
        by_cases c2 : sb = 1
        · rw [if_pos c2] at hs_
          rw [decide_eq_true c2] at hb2
          rw [← hs_] at tC
          clear tA tB hs_
          cbv
          refine ABr.t hge ?_
          cbv
          repeat (first
            | (refine ABr.t (by assumption) ?_; cbv)
            | (refine ABr.f (by assumption) ?_; cbv)
            | (refine ABr.t rfl ?_; cbv)
            | (refine ABr.f rfl ?_; cbv)
            | (refine ACall.mk _ (cf hS t1) ?_; cbv)
            | (refine ACall.mk _ (cf hS b1) ?_; cbv)
            | (refine ACall.mk _ (cf hS b2) ?_; cbv)
            | (refine ACall.mk _ (cf hS tC) ?_; cbv))
          refine ⟨(j1, y), ?_, ⟨q1, hy2⟩, q2⟩
          subst hbj1
          cbv
          repeat' (first | exact hsub | exact rfl | exact trivial | constructor)
        · rw [if_neg c2] at hs_
          rw [decide_eq_false c2] at hb2
          rw [← hs_] at t1
          clear tA tB tC hs_
          cbv
          refine ABr.t hge ?_
          cbv
          repeat (first
            | (refine ABr.t (by assumption) ?_; cbv)
            | (refine ABr.f (by assumption) ?_; cbv)
            | (refine ABr.t rfl ?_; cbv)
            | (refine ABr.f rfl ?_; cbv)
            | (refine ACall.mk _ (cf hS t1) ?_; cbv)
            | (refine ACall.mk _ (cf hS b1) ?_; cbv)
            | (refine ACall.mk _ (cf hS b2) ?_; cbv))
          refine ⟨(j1, y), ?_, ⟨q1, hy2⟩, q2⟩
          subst hbj1
          cbv
          repeat' (first | exact hsub | exact rfl | exact trivial | constructor)
  · refine .inv (α := Nat × Int) (fun p => ⟨[.any, .any, .any, .any, .own 0 0, .own 1 0, .own 2 0, .own 3 0, .own 4 0, .own 5 0, .own 6 0, .own 7 0, .own 8 0, .s .i64 p.2, .any, .any, .any, .any, .any, .any, .any, .any, .any, .any, .any, .any, .any, .any, .any, .any, .any, .any, .any, .any, .any, .any, .any, .any, .any, .any, .any, .any, .any, .any, .any, .any, .any, .any, .any, .any, .any, .any, .any, .any, .any, .any, .any, .any, .any, .any, .any, .any], [⟨true, true, [.s .u64 (H.lim a 0), .s .u64 (H.lim a 1), .s .u64 (H.lim a 2), .s .u64 (H.lim a 3)]⟩, ⟨true, true, [.i .u64 0, .i .u64 0, .i .u64 0, .i .u64 0, .i .u64 0, .i .u64 0, .i .u64 0, .i .u64 0, .b true]⟩, ⟨true, true, [.s .u64 (H.lim b 0), .s .u64 (H.lim b 1), .s .u64 (H.lim b 2), .s .u64 (H.lim b 3)]⟩, ⟨true, true, [.s .u64 (k.v qx 0), .s .u64 (k.v qx 1), .s .u64 (k.v qx 2), .s .u64 (k.v qx 3), .s .u64 (k.v qy 0), .s .u64 (k.v qy 1), .s .u64 (k.v qy 2), .s .u64 (k.v qy 3), .b false]⟩, ⟨true, true, [.i .u64 0, .i .u64 0, .i .u64 0, .i .u64 0, .i .u64 0, .i .u64 0, .i .u64 0, .i .u64 0, .b false]⟩, ⟨true, true, [.s .u64 (k.v X.x 0), .s .u64 (k.v X.x 1), .s .u64 (k.v X.x 2), .s .u64 (k.v X.x 3), .s .u64 (k.v X.y 0), .s .u64 (k.v X.y 1), .s .u64 (k.v X.y 2), .s .u64 (k.v X.y 3), .s .u64 (k.v X.z 0), .s .u64 (k.v X.z 1), .s .u64 (k.v X.z 2), .s .u64 (k.v X.z 3)]⟩, ⟨true, true, [.s .u64 (k.v Y.x 0), .s .u64 (k.v Y.x 1), .s .u64 (k.v Y.x 2), .s .u64 (k.v Y.x 3), .s .u64 (k.v Y.y 0), .s .u64 (k.v Y.y 1), .s .u64 (k.v Y.y 2), .s .u64 (k.v Y.y 3), .s .u64 (k.v Y.z 0), .s .u64 (k.v Y.z 1), .s .u64 (k.v Y.z 2), .s .u64 (k.v Y.z 3)]⟩, ⟨true, true, [.s .u64 (k.v XY.x 0), .s .u64 (k.v XY.x 1), .s .u64 (k.v XY.x 2), .s .u64 (k.v XY.x 3), .s .u64 (k.v XY.y 0), .s .u64 (k.v XY.y 1), .s .u64 (k.v XY.y 2), .s .u64 (k.v XY.y 3), .s .u64 (k.v XY.z 0), .s .u64 (k.v XY.z 1), .s .u64 (k.v XY.z 2), .s .u64 (k.v XY.z 3)]⟩, ⟨true, true, [.s .u64 (k.v ((B p.1)).x 0), .s .u64 (k.v ((B p.1)).x 1), .s .u64 (k.v ((B p.1)).x 2), .s .u64 (k.v ((B p.1)).x 3), .s .u64 (k.v ((B p.1)).y 0), .s .u64 (k.v ((B p.1)).y 1), .s .u64 (k.v ((B p.1)).y 2), .s .u64 (k.v ((B p.1)).y 3), .s .u64 (k.v ((B p.1)).z 0), .s .u64 (k.v ((B p.1)).z 1), .s .u64 (k.v ((B p.1)).z 2), .s .u64 (k.v ((B p.1)).z 3)]⟩]⟩) (fun p => p.1 ≤ 256 ∧ p.2 = (255 : Int) - p.1) (fun p => 256 - p.1) (0, 255) ?_ ⟨Nat.zero_le _, rfl⟩ ?_
    · cbv
      repeat' (first | exact e0.symm | exact e1.symm | exact e2.symm | exact e3.symm | exact f0.symm | exact f1.symm | exact f2.symm | exact f3.symm | exact z0.symm | exact z1.symm | exact z2.symm | exact z3.symm | exact rfl | exact trivial | constructor)
    clear e0 e1 e2 e3 f0 f1 f2 f3 z0 z1 z2 z3
    rintro ⟨j, i⟩ ⟨h1, h2⟩
    dsimp only at h1 h2 ⊢
    by_cases hj : j = 256
    · subst hj
      have hge : A.cmp .geq i 0 = false := (i_ge hA).trans (decide_eq_false (by omega))
      clear ct cA cB cC cbit hBs h1 h2
      generalize B 256 = bj at *
      cbv
      refine ABr.f hge ?_
      cbv
      refine ACall.mk _ (cf hS cd) ?_
      cbv
    · have hge : A.cmp .geq i 0 = true := (i_ge hA).trans (decide_eq_true (by omega))
      have hk : ∃ q : Nat, q = 255 - j ∧ i = (q : Int) := ⟨255 - j, rfl, by omega⟩
      obtain ⟨q, hq, rfl⟩ := hk
      have hs_ := hBs j
      rw [← hq] at hs_
      have t1 := ct j
      have tA := cA j
      have tB := cB j
      have tC := cC j
      have b1 := cbit a q (by omega)
      have b2 := cbit b q (by omega)
      have hb1 := bit_one hA (a / 2 ^ q % 2)
      have hb2 := bit_one hA (b / 2 ^ q % 2)
      obtain ⟨y, hy⟩ : ∃ y : Int, y = (q : Int) - 1 := ⟨_, rfl⟩
      have hy2 : y = (255 : Int) - ((j + 1 : Nat) : Int) := by omega
      have q1 : j + 1 ≤ 256 := by omega
      have q2 : 256 - (j + 1) < 256 - j := by omega
      have hsub : A.bin .sub .i64 (q : Int) 1 = y := e_sub hA rfl rfl hy.symm (by omega)
      clear ct cA cB cC cbit hBs h1 h2 hq cd cx cy cxy
      generalize j + 1 = j1 at *
      generalize hbj : B j = bj at *
      generalize hbj1 : B j1 = bj1 at *
      generalize T j = tj at *
      generalize a / 2 ^ q % 2 = sa at *
      generalize b / 2 ^ q % 2 = sb at *
      by_cases c1 : sa = 1
      · rw [if_pos c1] at hs_
        rw [decide_eq_true c1] at hb1
        by_cases c2 : sb = 1
        · rw [if_pos c2] at hs_
          rw [decide_eq_true c2] at hb2
          rw [← hs_] at tA
          clear tB tC hs_
          cbv
          refine ABr.t hge ?_
          cbv
          repeat (first
            | (refine ABr.t (by assumption) ?_; cbv)
            | (refine ABr.f (by assumption) ?_; cbv)
            | (refine ABr.t rfl ?_; cbv)
            | (refine ABr.f rfl ?_; cbv)
            | (refine ACall.mk _ (cf hS t1) ?_; cbv)
            | (refine ACall.mk _ (cf hS b1) ?_; cbv)
            | (refine ACall.mk _ (cf hS b2) ?_; cbv)
            | (refine ACall.mk _ (cf hS tA) ?_; cbv))
          refine ⟨(j1, y), ?_, ⟨q1, hy2⟩, q2⟩
          subst hbj1
          cbv
          repeat' (first | exact hsub | exact rfl | exact trivial | constructor)
        · rw [if_neg c2] at hs_
          rw [decide_eq_false c2] at hb2
          rw [← hs_] at tB
          clear tA tC hs_
          cbv
          refine ABr.t hge ?_
          cbv
          repeat (first
            | (refine ABr.t (by assumption) ?_; cbv)
            | (refine ABr.f (by assumption) ?_; cbv)
            | (refine ABr.t rfl ?_; cbv)
            | (refine ABr.f rfl ?_; cbv)
            | (refine ACall.mk _ (cf hS t1) ?_; cbv)
            | (refine ACall.mk _ (cf hS b1) ?_; cbv)
            | (refine ACall.mk _ (cf hS b2) ?_; cbv)
            | (refine ACall.mk _ (cf hS tB) ?_; cbv))
          refine ⟨(j1, y), ?_, ⟨q1, hy2⟩, q2⟩
          subst hbj1
          cbv
          repeat' (first | exact hsub | exact rfl | exact trivial | constructor)
      · rw [if_neg c1] at hs_
        rw [decide_eq_false c1] at hb1
        by_cases c2 : sb = 1
        · rw [if_pos c2] at hs_
          rw [decide_eq_true c2] at hb2
          rw [← hs_] at tC
          clear tA tB hs_
          cbv
          refine ABr.t hge ?_
          cbv
          repeat (first
            | (refine ABr.t (by assumption) ?_; cbv)
            | (refine ABr.f (by assumption) ?_; cbv)
            | (refine ABr.t rfl ?_; cbv)
            | (refine ABr.f rfl ?_; cbv)
            | (refine ACall.mk _ (cf hS t1) ?_; cbv)
            | (refine ACall.mk _ (cf hS b1) ?_; cbv)
            | (refine ACall.mk _ (cf hS b2) ?_; cbv)
            | (refine ACall.mk _ (cf hS tC) ?_; cbv))
          refine ⟨(j1, y), ?_, ⟨q1, hy2⟩, q2⟩
          subst hbj1
          cbv
          repeat' (first | exact hsub | exact rfl | exact trivial | constructor)
        · rw [if_neg c2] at hs_
          rw [decide_eq_false c2] at hb2
          rw [← hs_] at t1
          clear tA tB tC hs_
          cbv
          refine ABr.t hge ?_
          cbv
          repeat (first
            | (refine ABr.t (by assumption) ?_; cbv)
            | (refine ABr.f (by assumption) ?_; cbv)
            | (refine ABr.t rfl ?_; cbv)
            | (refine ABr.f rfl ?_; cbv)
            | (refine ACall.mk _ (cf hS t1) ?_; cbv)
            | (refine ACall.mk _ (cf hS b1) ?_; cbv)
            | (refine ACall.mk _ (cf hS b2) ?_; cbv))
          refine ⟨(j1, y), ?_, ⟨q1, hy2⟩, q2⟩
          subst hbj1
          cbv
          repeat' (first | exact hsub | exact rfl | exact trivial | constructor)
  · refine .inv (α := Nat × Int) (fun p => ⟨[.any, .any, .any, .any, .own 0 0, .own 1 0, .own 2 0, .own 3 0, .own 4 0, .own 5 0, .own 6 0, .own 7 0, .own 8 0, .s .i64 p.2, .any, .any, .any, .any, .any, .any, .any, .any, .any, .any, .any, .any, .any, .any, .any, .any, .any, .any, .any, .any, .any, .any, .any, .any, .any, .any, .any, .any, .any, .any, .any, .any, .any, .any, .any, .any, .any, .any, .any, .any, .any, .any, .any, .any, .any, .any, .any, .any], [⟨true, true, [.s .u64 (H.lim a 0), .s .u64 (H.lim a 1), .s .u64 (H.lim a 2), .s .u64 (H.lim a 3)]⟩, ⟨true, true, [.i .u64 0, .i .u64 0, .i .u64 0, .i .u64 0, .i .u64 0, .i .u64 0, .i .u64 0, .i .u64 0, .b true]⟩, ⟨true, true, [.s .u64 (H.lim b 0), .s .u64 (H.lim b 1), .s .u64 (H.lim b 2), .s .u64 (H.lim b 3)]⟩, ⟨true, true, [.s .u64 (k.v qx 0), .s .u64 (k.v qx 1), .s .u64 (k.v qx 2), .s .u64 (k.v qx 3), .s .u64 (k.v qy 0), .s .u64 (k.v qy 1), .s .u64 (k.v qy 2), .s .u64 (k.v qy 3), .b false]⟩, ⟨true, true, [.i .u64 0, .i .u64 0, .i .u64 0, .i .u64 0, .i .u64 0, .i .u64 0, .i .u64 0, .i .u64 0, .b false]⟩, ⟨true, true, [.s .u64 (k.v X.x 0), .s .u64 (k.v X.x 1), .s .u64 (k.v X.x 2), .s .u64 (k.v X.x 3), .s .u64 (k.v X.y 0), .s .u64 (k.v X.y 1), .s .u64 (k.v X.y 2), .s .u64 (k.v X.y 3), .s .u64 (k.v X.z 0), .s .u64 (k.v X.z 1), .s .u64 (k.v X.z 2), .s .u64 (k.v X.z 3)]⟩, ⟨true, true, [.s .u64 (k.v Y.x 0), .s .u64 (k.v Y.x 1), .s .u64 (k.v Y.x 2), .s .u64 (k.v Y.x 3), .s .u64 (k.v Y.y 0), .s .u64 (k.v Y.y 1), .s .u64 (k.v Y.y 2), .s .u64 (k.v Y.y 3), .s .u64 (k.v Y.z 0), .s .u64 (k.v Y.z 1), .s .u64 (k.v Y.z 2), .s .u64 (k.v Y.z 3)]⟩, ⟨true, true, [.s .u64 (k.v XY.x 0), .s .u64 (k.v XY.x 1), .s .u64 (k.v XY.x 2), .s .u64 (k.v XY.x 3), .s .u64 (k.v XY.y 0), .s .u64 (k.v XY.y 1), .s .u64 (k.v XY.y 2), .s .u64 (k.v XY.y 3), .s .u64 (k.v XY.z 0), .s .u64 (k.v XY.z 1), .s .u64 (k.v XY.z 2), .s .u64 (k.v XY.z 3)]⟩, ⟨true, true, [.s .u64 (k.v ((B p.1)).x 0), .s .u64 (k.v ((B p.1)).x 1), .s .u64 (k.v ((B p.1)).x 2), .s .u64 (k.v ((B p.1)).x 3), .s .u64 (k.v ((B p.1)).y 0), .s .u64 (k.v ((B p.1)).y 1), .s .u64 (k.v ((B p.1)).y 2), .s .u64 (k.v ((B p.1)).y 3), .s .u64 (k.v ((B p.1)).z 0), .s .u64 (k.v ((B p.1)).z 1), .s .u64 (k.v ((B p.1)).z 2), .s .u64 (k.v ((B p.1)).z 3)]⟩]⟩) (fun p => p.1 ≤ 256 ∧ p.2 = (255 : Int) - p.1) (fun p => 256 - p.1) (0, 255) ?_ ⟨Nat.zero_le _, rfl⟩ ?_
    · cbv
      repeat' (first | exact e0.symm | exact e1.symm | exact e2.symm | exact e3.symm | exact f0.symm | exact f1.symm | exact f2.symm | exact f3.symm | exact z0.symm | exact z1.symm | exact z2.symm | exact z3.symm | exact rfl | exact trivial | constructor)
    clear e0 e1 e2 e3 f0 f1 f2 f3 z0 z1 z2 z3
    rintro ⟨j, i⟩ ⟨h1, h2⟩
    dsimp only at h1 h2 ⊢
    by_cases hj : j = 256
    · subst hj
      have hge : A.cmp .geq i 0 = false := (i_ge hA).trans (decide_eq_false (by omega))
      clear ct cA cB cC cbit hBs h1 h2
      generalize B 256 = bj at *
      cbv
      refine ABr.f hge ?_
      cbv
      refine ACall.mk _ (cf hS cd) ?_
      cbv
    · have hge : A.cmp .geq i 0 = true := (i_ge hA).trans (decide_eq_true (by omega))
      have hk : ∃ q : Nat, q = 255 - j ∧ i = (q : Int) := ⟨255 - j, rfl, by omega⟩
      obtain ⟨q, hq, rfl⟩ := hk
      have hs_ := hBs j
      rw [← hq] at hs_
      have t1 := ct j
      have tA := cA j
      have tB := cB j
      have tC := cC j
      have b1 := cbit a q (by omega)
      have b2 := cbit b q (by omega)
      have hb1 := bit_one hA (a / 2 ^ q % 2)
      have hb2 := bit_one hA (b / 2 ^ q % 2)
      obtain ⟨y, hy⟩ : ∃ y : Int, y = (q : Int) - 1 := ⟨_, rfl⟩
      have hy2 : y = (255 : Int) - ((j + 1 : Nat) : Int) := by omega
      have q1 : j + 1 ≤ 256 := by omega
      have q2 : 256 - (j + 1) < 256 - j := by omega
      have hsub : A.bin .sub .i64 (q : Int) 1 = y := e_sub hA rfl rfl hy.symm (by omega)
      clear ct cA cB cC cbit hBs h1 h2 hq cd cx cy cxy
      generalize j + 1 = j1 at *
      generalize hbj : B j = bj at *
      generalize hbj1 : B j1 = bj1 at *
      generalize T j = tj at *
      generalize a / 2 ^ q % 2 = sa at *
      generalize b / 2 ^ q % 2 = sb at *
      by_cases c1 : sa = 1
      · rw [if_pos c1] at hs_
        rw [decide_eq_true c1] at hb1
        by_cases c2 : sb = 1
        · rw [if_pos c2] at hs_
          rw [decide_eq_true c2] at hb2
          rw [← hs_] at tA
          clear tB tC hs_
          cbv
          refine ABr.t hge ?_
          cbv
          repeat (first
            | (refine ABr.t (by assumption) ?_; cbv)
            | (refine ABr.f (by assumption) ?_; cbv)
            | (refine ABr.t rfl ?_; cbv)
            | (refine ABr.f rfl ?_; cbv)
            | (refine ACall.mk _ (cf hS t1) ?_; cbv)
            | (refine ACall.mk _ (cf hS b1) ?_; cbv)
            | (refine ACall.mk _ (cf hS b2) ?_; cbv)
            | (refine ACall.mk _ (cf hS tA) ?_; cbv))
          refine ⟨(j1, y), ?_, ⟨q1, hy2⟩, q2⟩
          subst hbj1
          cbv
          repeat' (first | exact hsub | exact rfl | exact trivial | constructor)
        · rw [if_neg c2] at hs_
          rw [decide_eq_false c2] at hb2
          rw [← hs_] at tB
          clear tA tC hs_
          cbv
          refine ABr.t hge ?_
          cbv
          repeat (first
            | (refine ABr.t (by assumption) ?_; cbv)
            | (refine ABr.f (by assumption) ?_; cbv)
            | (refine ABr.t rfl ?_; cbv)
            | (refine ABr.f rfl ?_; cbv)
            | (refine ACall.mk _ (cf hS t1) ?_; cbv)
            | (refine ACall.mk _ (cf hS b1) ?_; cbv)
            | (refine ACall.mk _ (cf hS b2) ?_; cbv)
            | (refine ACall.mk _ (cf hS tB) ?_; cbv))
          refine ⟨(j1, y), ?_, ⟨q1, hy2⟩, q2⟩
          subst hbj1
          cbv
          repeat' (first | exact hsub | exact rfl | exact trivial | constructor)
      · rw [if_neg c1] at hs_
        rw [decide_eq_false c1] at hb1
        by_cases c2 : sb = 1
        · rw [if_pos c2] at hs_
          rw [decide_eq_true c2] at hb2
          rw [← hs_] at tC
          clear tA tB hs_
          cbv
          refine ABr.t hge ?_
          cbv
          repeat (first
            | (refine ABr.t (by assumption) ?_; cbv)
            | (refine ABr.f (by assumption) ?_; cbv)
            | (refine ABr.t rfl ?_; cbv)
            | (refine ABr.f rfl ?_; cbv)
            | (refine ACall.mk _ (cf hS t1) ?_; cbv)
            | (refine ACall.mk _ (cf hS b1) ?_; cbv)
            | (refine ACall.mk _ (cf hS b2) ?_; cbv)
            | (refine ACall.mk _ (cf hS tC) ?_; cbv))
          refine ⟨(j1, y), ?_, ⟨q1, hy2⟩, q2⟩
          subst hbj1
          cbv
          repeat' (first | exact hsub | exact rfl | exact trivial | constructor)
        · rw [if_neg c2] at hs_
          rw [decide_eq_false c2] at hb2
          rw [← hs_] at t1
          clear tA tB tC hs_
          cbv
          refine ABr.t hge ?_
          cbv
          repeat (first
            | (refine ABr.t (by assumption) ?_; cbv)
            | (refine ABr.f (by assumption) ?_; cbv)
            | (refine ABr.t rfl ?_; cbv)
            | (refine ABr.f rfl ?_; cbv)
            | (refine ACall.mk _ (cf hS t1) ?_; cbv)
            | (refine ACall.mk _ (cf hS b1) ?_; cbv)
            | (refine ACall.mk _ (cf hS b2) ?_; cbv))
          refine ⟨(j1, y), ?_, ⟨q1, hy2⟩, q2⟩
          subst hbj1
          cbv
          repeat' (first | exact hsub | exact rfl | exact trivial | constructor)
  · refine .inv (α := Nat × Int) (fun p => ⟨[.any, .any, .any, .any, .own 0 0, .own 1 0, .own 2 0, .own 3 0, .own 4 0, .own 5 0, .own 6 0, .own 7 0, .own 8 0, .s .i64 p.2, .any, .any, .any, .any, .any, .any, .any, .any, .any, .any, .any, .any, .any, .any, .any, .any, .any, .any, .any, .any, .any, .any, .any, .any, .any, .any, .any, .any, .any, .any, .any, .any, .any, .any, .any, .any, .any, .any, .any, .any, .any, .any, .any, .any, .any, .any, .any, .any], [⟨true, true, [.s .u64 (H.lim a 0), .s .u64 (H.lim a 1), .s .u64 (H.lim a 2), .s .u64 (H.lim a 3)]⟩, ⟨true, true, [.s .u64 (k.v px 0), .s .u64 (k.v px 1), .s .u64 (k.v px 2), .s .u64 (k.v px 3), .s .u64 (k.v py 0), .s .u64 (k.v py 1), .s .u64 (k.v py 2), .s .u64 (k.v py 3), .b false]⟩, ⟨true, true, [.s .u64 (H.lim b 0), .s .u64 (H.lim b 1), .s .u64 (H.lim b 2), .s .u64 (H.lim b 3)]⟩, ⟨true, true, [.i .u64 0, .i .u64 0, .i .u64 0, .i .u64 0, .i .u64 0, .i .u64 0, .i .u64 0, .i .u64 0, .b true]⟩, ⟨true, true, [.i .u64 0, .i .u64 0, .i .u64 0, .i .u64 0, .i .u64 0, .i .u64 0, .i .u64 0, .i .u64 0, .b false]⟩, ⟨true, true, [.s .u64 (k.v X.x 0), .s .u64 (k.v X.x 1), .s .u64 (k.v X.x 2), .s .u64 (k.v X.x 3), .s .u64 (k.v X.y 0), .s .u64 (k.v X.y 1), .s .u64 (k.v X.y 2), .s .u64 (k.v X.y 3), .s .u64 (k.v X.z 0), .s .u64 (k.v X.z 1), .s .u64 (k.v X.z 2), .s .u64 (k.v X.z 3)]⟩, ⟨true, true, [.s .u64 (k.v Y.x 0), .s .u64 (k.v Y.x 1), .s .u64 (k.v Y.x 2), .s .u64 (k.v Y.x 3), .s .u64 (k.v Y.y 0), .s .u64 (k.v Y.y 1), .s .u64 (k.v Y.y 2), .s .u64 (k.v Y.y 3), .s .u64 (k.v Y.z 0), .s .u64 (k.v Y.z 1), .s .u64 (k.v Y.z 2), .s .u64 (k.v Y.z 3)]⟩, ⟨true, true, [.s .u64 (k.v XY.x 0), .s .u64 (k.v XY.x 1), .s .u64 (k.v XY.x 2), .s .u64 (k.v XY.x 3), .s .u64 (k.v XY.y 0), .s .u64 (k.v XY.y 1), .s .u64 (k.v XY.y 2), .s .u64 (k.v XY.y 3), .s .u64 (k.v XY.z 0), .s .u64 (k.v XY.z 1), .s .u64 (k.v XY.z 2), .s .u64 (k.v XY.z 3)]⟩, ⟨true, true, [.s .u64 (k.v ((B p.1)).x 0), .s .u64 (k.v ((B p.1)).x 1), .s .u64 (k.v ((B p.1)).x 2), .s .u64 (k.v ((B p.1)).x 3), .s .u64 (k.v ((B p.1)).y 0), .s .u64 (k.v ((B p.1)).y 1), .s .u64 (k.v ((B p.1)).y 2), .s .u64 (k.v ((B p.1)).y 3), .s .u64 (k.v ((B p.1)).z 0), .s .u64 (k.v ((B p.1)).z 1), .s .u64 (k.v ((B p.1)).z 2), .s .u64 (k.v ((B p.1)).z 3)]⟩]⟩) (fun p => p.1 ≤ 256 ∧ p.2 = (255 : Int) - p.1) (fun p => 256 - p.1) (0, 255) ?_ ⟨Nat.zero_le _, rfl⟩ ?_
    · cbv
      repeat' (first | exact e0.symm | exact e1.symm | exact e2.symm | exact e3.symm | exact f0.symm | exact f1.symm | exact f2.symm | exact f3.symm | exact z0.symm | exact z1.symm | exact z2.symm | exact z3.symm | exact rfl | exact trivial | constructor)
    clear e0 e1 e2 e3 f0 f1 f2 f3 z0 z1 z2 z3
    rintro ⟨j, i⟩ ⟨h1, h2⟩
    dsimp only at h1 h2 ⊢
    by_cases hj : j = 256
    · subst hj
      have hge : A.cmp .geq i 0 = false := (i_ge hA).trans (decide_eq_false (by omega))
      clear ct cA cB cC cbit hBs h1 h2
      generalize B 256 = bj at *
      cbv
      refine ABr.f hge ?_
      cbv
      refine ACall.mk _ (cf hS cd) ?_
      cbv
    · have hge : A.cmp .geq i 0 = true := (i_ge hA).trans (decide_eq_true (by omega))
      have hk : ∃ q : Nat, q = 255 - j ∧ i = (q : Int) := ⟨255 - j, rfl, by omega⟩
      obtain ⟨q, hq, rfl⟩ := hk
      have hs_ := hBs j
      rw [← hq] at hs_
      have t1 := ct j
      have tA := cA j
      have tB := cB j
      have tC := cC j
      have b1 := cbit a q (by omega)
      have b2 := cbit b q (by omega)
      have hb1 := bit_one hA (a / 2 ^ q % 2)
      have hb2 := bit_one hA (b / 2 ^ q % 2)
      obtain ⟨y, hy⟩ : ∃ y : Int, y = (q : Int) - 1 := ⟨_, rfl⟩
      have hy2 : y = (255 : Int) - ((j + 1 : Nat) : Int) := by omega
      have q1 : j + 1 ≤ 256 := by omega
      have q2 : 256 - (j + 1) < 256 - j := by omega
      have hsub : A.bin .sub .i64 (q : Int) 1 = y := e_sub hA rfl rfl hy.symm (by omega)
      clear ct cA cB cC cbit hBs h1 h2 hq cd cx cy cxy
      generalize j + 1 = j1 at *
      generalize hbj : B j = bj at *
      generalize hbj1 : B j1 = bj1 at *
      generalize T j = tj at *
      generalize a / 2 ^ q % 2 = sa at *
      generalize b / 2 ^ q % 2 = sb at *
      by_cases c1 : sa = 1
      · rw [if_pos c1] at hs_
        rw [decide_eq_true c1] at hb1
        by_cases c2 : sb = 1
        · rw [if_pos c2] at hs_
          rw [decide_eq_true c2] at hb2
          rw [← hs_] at tA
          clear tB tC hs_
          cbv
          refine ABr.t hge ?_
          cbv
          repeat (first
            | (refine ABr.t (by assumption) ?_; cbv)
            | (refine ABr.f (by assumption) ?_; cbv)
            | (refine ABr.t rfl ?_; cbv)
            | (refine ABr.f rfl ?_; cbv)
            | (refine ACall.mk _ (cf hS t1) ?_; cbv)
            | (refine ACall.mk _ (cf hS b1) ?_; cbv)
            | (refine ACall.mk _ (cf hS b2) ?_; cbv)
            | (refine ACall.mk _ (cf hS tA) ?_; cbv))
          refine ⟨(j1, y), ?_, ⟨q1, hy2⟩, q2⟩
          subst hbj1
          cbv
          repeat' (first | exact hsub | exact rfl | exact trivial | constructor)
        · rw [if_neg c2] at hs_
          rw [decide_eq_false c2] at hb2
          rw [← hs_] at tB
          clear tA tC hs_
          cbv
          refine ABr.t hge ?_
          cbv
          repeat (first
            | (refine ABr.t (by assumption) ?_; cbv)
            | (refine ABr.f (by assumption) ?_; cbv)
            | (refine ABr.t rfl ?_; cbv)
            | (refine ABr.f rfl ?_; cbv)
            | (refine ACall.mk _ (cf hS t1) ?_; cbv)
            | (refine ACall.mk _ (cf hS b1) ?_; cbv)
            | (refine ACall.mk _ (cf hS b2) ?_; cbv)
            | (refine ACall.mk _ (cf hS tB) ?_; cbv))
          refine ⟨(j1, y), ?_, ⟨q1, hy2⟩, q2⟩
          subst hbj1
          cbv
          repeat' (first | exact hsub | exact rfl | exact trivial | constructor)
      · rw [if_neg c1] at hs_
        rw [decide_eq_false c1] at hb1
        by_cases c2 : sb = 1
        · rw [if_pos c2] at hs_
          rw [decide_eq_true c2] at hb2
          rw [← hs_] at tC
          clear tA tB hs_
          cbv
          refine ABr.t hge ?_
          cbv
          repeat (first
            | (refine ABr.t (by assumption) ?_; cbv)
            | (refine ABr.f (by assumption) ?_; cbv)
            | (refine ABr.t rfl ?_; cbv)
            | (refine ABr.f rfl ?_; cbv)
            | (refine ACall.mk _ (cf hS t1) ?_; cbv)
            | (refine ACall.mk _ (cf hS b1) ?_; cbv)
            | (refine ACall.mk _ (cf hS b2) ?_; cbv)
            | (refine ACall.mk _ (cf hS tC) ?_; cbv))
          refine ⟨(j1, y), ?_, ⟨q1, hy2⟩, q2⟩
          subst hbj1
          cbv
          repeat' (first | exact hsub | exact rfl | exact trivial | constructor)
        · rw [if_neg c2] at hs_
          rw [decide_eq_false c2] at hb2
          rw [← hs_] at t1
          clear tA tB tC hs_
          cbv
          refine ABr.t hge ?_
          cbv
          repeat (first
            | (refine ABr.t (by assumption) ?_; cbv)
            | (refine ABr.f (by assumption) ?_; cbv)
            | (refine ABr.t rfl ?_; cbv)
            | (refine ABr.f rfl ?_; cbv)
            | (refine ACall.mk _ (cf hS t1) ?_; cbv)
            | (refine ACall.mk _ (cf hS b1) ?_; cbv)
            | (refine ACall.mk _ (cf hS b2) ?_; cbv))
          refine ⟨(j1, y), ?_, ⟨q1, hy2⟩, q2⟩
          subst hbj1
          cbv
          repeat' (first | exact hsub | exact rfl | exact trivial | constructor)
  · refine .inv (α := Nat × Int) (fun p => ⟨[.any, .any, .any, .any, .own 0 0, .own 1 0, .own 2 0, .own 3 0, .own 4 0, .own 5 0, .own 6 0, .own 7 0, .own 8 0, .s .i64 p.2, .any, .any, .any, .any, .any, .any, .any, .any, .any, .any, .any, .any, .any, .any, .any, .any, .any, .any, .any, .any, .any, .any, .any, .any, .any, .any, .any, .any, .any, .any, .any, .any, .any, .any, .any, .any, .any, .any, .any, .any, .any, .any, .any, .any, .any, .any, .any, .any], [⟨true, true, [.s .u64 (H.lim a 0), .s .u64 (H.lim a 1), .s .u64 (H.lim a 2), .s .u64 (H.lim a 3)]⟩, ⟨true, true, [.s .u64 (k.v px 0), .s .u64 (k.v px 1), .s .u64 (k.v px 2), .s .u64 (k.v px 3), .s .u64 (k.v py 0), .s .u64 (k.v py 1), .s .u64 (k.v py 2), .s .u64 (k.v py 3), .b false]⟩, ⟨true, true, [.s .u64 (H.lim b 0), .s .u64 (H.lim b 1), .s .u64 (H.lim b 2), .s .u64 (H.lim b 3)]⟩, ⟨true, true, [.i .u64 0, .i .u64 0, .i .u64 0, .i .u64 0, .i .u64 0, .i .u64 0, .i .u64 0, .i .u64 0, .b true]⟩, ⟨true, true, [.i .u64 0, .i .u64 0, .i .u64 0, .i .u64 0, .i .u64 0, .i .u64 0, .i .u64 0, .i .u64 0, .b false]⟩, ⟨true, true, [.s .u64 (k.v X.x 0), .s .u64 (k.v X.x 1), .s .u64 (k.v X.x 2), .s .u64 (k.v X.x 3), .s .u64 (k.v X.y 0), .s .u64 (k.v X.y 1), .s .u64 (k.v X.y 2), .s .u64 (k.v X.y 3), .s .u64 (k.v X.z 0), .s .u64 (k.v X.z 1), .s .u64 (k.v X.z 2), .s .u64 (k.v X.z 3)]⟩, ⟨true, true, [.s .u64 (k.v Y.x 0), .s .u64 (k.v Y.x 1), .s .u64 (k.v Y.x 2), .s .u64 (k.v Y.x 3), .s .u64 (k.v Y.y 0), .s .u64 (k.v Y.y 1), .s .u64 (k.v Y.y 2), .s .u64 (k.v Y.y 3), .s .u64 (k.v Y.z 0), .s .u64 (k.v Y.z 1), .s .u64 (k.v Y.z 2), .s .u64 (k.v Y.z 3)]⟩, ⟨true, true, [.s .u64 (k.v XY.x 0), .s .u64 (k.v XY.x 1), .s .u64 (k.v XY.x 2), .s .u64 (k.v XY.x 3), .s .u64 (k.v XY.y 0), .s .u64 (k.v XY.y 1), .s .u64 (k.v XY.y 2), .s .u64 (k.v XY.y 3), .s .u64 (k.v XY.z 0), .s .u64 (k.v XY.z 1), .s .u64 (k.v XY.z 2), .s .u64 (k.v XY.z 3)]⟩, ⟨true, true, [.s .u64 (k.v ((B p.1)).x 0), .s .u64 (k.v ((B p.1)).x 1), .s .u64 (k.v ((B p.1)).x 2), .s .u64 (k.v ((B p.1)).x 3), .s .u64 (k.v ((B p.1)).y 0), .s .u64 (k.v ((B p.1)).y 1), .s .u64 (k.v ((B p.1)).y 2), .s .u64 (k.v ((B p.1)).y 3), .s .u64 (k.v ((B p.1)).z 0), .s .u64 (k.v ((B p.1)).z 1), .s .u64 (k.v ((B p.1)).z 2), .s .u64 (k.v ((B p.1)).z 3)]⟩]⟩) (fun p => p.1 ≤ 256 ∧ p.2 = (255 : Int) - p.1) (fun p => 256 - p.1) (0, 255) ?_ ⟨Nat.zero_le _, rfl⟩ ?_
    · cbv
      repeat' (first | exact e0.symm | exact e1.symm | exact e2.symm | exact e3.symm | exact f0.symm | exact f1.symm | exact f2.symm | exact f3.symm | exact z0.symm | exact z1.symm | exact z2.symm | exact z3.symm | exact rfl | exact trivial | constructor)
    clear e0 e1 e2 e3 f0 f1 f2 f3 z0 z1 z2 z3
    rintro ⟨j, i⟩ ⟨h1, h2⟩
    dsimp only at h1 h2 ⊢
    by_cases hj : j = 256
    · subst hj
      have hge : A.cmp .geq i 0 = false := (i_ge hA).trans (decide_eq_false (by omega))
      clear ct cA cB cC cbit hBs h1 h2
      generalize B 256 = bj at *
      cbv
      refine ABr.f hge ?_
      cbv
      refine ACall.mk _ (cf hS cd) ?_
      cbv
    · have hge : A.cmp .geq i 0 = true := (i_ge hA).trans (decide_eq_true (by omega))
      have hk : ∃ q : Nat, q = 255 - j ∧ i = (q : Int) := ⟨255 - j, rfl, by omega⟩
      obtain ⟨q, hq, rfl⟩ := hk
      have hs_ := hBs j
      rw [← hq] at hs_
      have t1 := ct j
      have tA := cA j
      have tB := cB j
      have tC := cC j
      have b1 := cbit a q (by omega)
      have b2 := cbit b q (by omega)
      have hb1 := bit_one hA (a / 2 ^ q % 2)
      have hb2 := bit_one hA (b / 2 ^ q % 2)
      obtain ⟨y, hy⟩ : ∃ y : Int, y = (q : Int) - 1 := ⟨_, rfl⟩
      have hy2 : y = (255 : Int) - ((j + 1 : Nat) : Int) := by omega
      have q1 : j + 1 ≤ 256 := by omega
      have q2 : 256 - (j + 1) < 256 - j := by omega
      have hsub : A.bin .sub .i64 (q : Int) 1 = y := e_sub hA rfl rfl hy.symm (by omega)
      clear ct cA cB cC cbit hBs h1 h2 hq cd cx cy cxy
      generalize j + 1 = j1 at *
      generalize hbj : B j = bj at *
      generalize hbj1 : B j1 = bj1 at *
      generalize T j = tj at *
      generalize a / 2 ^ q % 2 = sa at *
      generalize b / 2 ^ q % 2 = sb at *
      by_cases c1 : sa = 1
      · rw [if_pos c1] at hs_
        rw [decide_eq_true c1] at hb1
        by_cases c2 : sb = 1
        · rw [if_pos c2] at hs_
          rw [decide_eq_true c2] at hb2
          rw [← hs_] at tA
          clear tB tC hs_
          cbv
          refine ABr.t hge ?_
          cbv
          repeat (first
            | (refine ABr.t (by assumption) ?_; cbv)
            | (refine ABr.f (by assumption) ?_; cbv)
            | (refine ABr.t rfl ?_; cbv)
            | (refine ABr.f rfl ?_; cbv)
            | (refine ACall.mk _ (cf hS t1) ?_; cbv)
            | (refine ACall.mk _ (cf hS b1) ?_; cbv)
            | (refine ACall.mk _ (cf hS b2) ?_; cbv)
            | (refine ACall.mk _ (cf hS tA) ?_; cbv))
          refine ⟨(j1, y), ?_, ⟨q1, hy2⟩, q2⟩
          subst hbj1
          cbv
          repeat' (first | exact hsub | exact rfl | exact trivial | constructor)
        · rw [if_neg c2] at hs_
          rw [decide_eq_false c2] at hb2
          rw [← hs_] at tB
          clear tA tC hs_
          cbv
          refine ABr.t hge ?_
          cbv
          repeat (first
            | (refine ABr.t (by assumption) ?_; cbv)
            | (refine ABr.f (by assumption) ?_; cbv)
            | (refine ABr.t rfl ?_; cbv)
            | (refine ABr.f rfl ?_; cbv)
            | (refine ACall.mk _ (cf hS t1) ?_; cbv)
            | (refine ACall.mk _ (cf hS b1) ?_; cbv)
            | (refine ACall.mk _ (cf hS b2) ?_; cbv)
            | (refine ACall.mk _ (cf hS tB) ?_; cbv))
          refine ⟨(j1, y), ?_, ⟨q1, hy2⟩, q2⟩
          subst hbj1
          cbv
          repeat' (first | exact hsub | exact rfl | exact trivial | constructor)
      · rw [if_neg c1] at hs_
        rw [decide_eq_false c1] at hb1
        by_cases c2 : sb = 1
        · rw [if_pos c2] at hs_
          rw [decide_eq_true c2] at hb2
          rw [← hs_] at tC
          clear tA tB hs_
          cbv
          refine ABr.t hge ?_
          cbv
          repeat (first
            | (refine ABr.t (by assumption) ?_; cbv)
            | (refine ABr.f (by assumption) ?_; cbv)
            | (refine ABr.t rfl ?_; cbv)
            | (refine ABr.f rfl ?_; cbv)
            | (refine ACall.mk _ (cf hS t1) ?_; cbv)
            | (refine ACall.mk _ (cf hS b1) ?_; cbv)
            | (refine ACall.mk _ (cf hS b2) ?_; cbv)
            | (refine ACall.mk _ (cf hS tC) ?_; cbv))
          refine ⟨(j1, y), ?_, ⟨q1, hy2⟩, q2⟩
          subst hbj1
          cbv
          repeat' (first | exact hsub | exact rfl | exact trivial | constructor)
        · rw [if_neg c2] at hs_
          rw [decide_eq_false c2] at hb2
          rw [← hs_] at t1
          clear tA tB tC hs_
          cbv
          refine ABr.t hge ?_
          cbv
          repeat (first
            | (refine ABr.t (by assumption) ?_; cbv)
            | (refine ABr.f (by assumption) ?_; cbv)
            | (refine ABr.t rfl ?_; cbv)
            | (refine ABr.f rfl ?_; cbv)
            | (refine ACall.mk _ (cf hS t1) ?_; cbv)
            | (refine ACall.mk _ (cf hS b1) ?_; cbv)
            | (refine ACall.mk _ (cf hS b2) ?_; cbv))
          refine ⟨(j1, y), ?_, ⟨q1, hy2⟩, q2⟩
          subst hbj1
          cbv
          repeat' (first | exact hsub | exact rfl | exact trivial | constructor)
  · refine .inv (α := Nat × Int) (fun p => ⟨[.any, .any, .any, .any, .own 0 0, .own 1 0, .own 2 0, .own 3 0, .own 4 0, .own 5 0, .own 6 0, .own 7 0, .own 8 0, .s .i64 p.2, .any, .any, .any, .any, .any, .any, .any, .any, .any, .any, .any, .any, .any, .any, .any, .any, .any, .any, .any, .any, .any, .any, .any, .any, .any, .any, .any, .any, .any, .any, .any, .any, .any, .any, .any, .any, .any, .any, .any, .any, .any, .any, .any, .any, .any, .any, .any, .any], [⟨true, true, [.s .u64 (H.lim a 0), .s .u64 (H.lim a 1), .s .u64 (H.lim a 2), .s .u64 (H.lim a 3)]⟩, ⟨true, true, [.s .u64 (k.v px 0), .s .u64 (k.v px 1), .s .u64 (k.v px 2), .s .u64 (k.v px 3), .s .u64 (k.v py 0), .s .u64 (k.v py 1), .s .u64 (k.v py 2), .s .u64 (k.v py 3), .b false]⟩, ⟨true, true, [.s .u64 (H.lim b 0), .s .u64 (H.lim b 1), .s .u64 (H.lim b 2), .s .u64 (H.lim b 3)]⟩, ⟨true, true, [.s .u64 (k.v qx 0), .s .u64 (k.v qx 1), .s .u64 (k.v qx 2), .s .u64 (k.v qx 3), .s .u64 (k.v qy 0), .s .u64 (k.v qy 1), .s .u64 (k.v qy 2), .s .u64 (k.v qy 3), .b false]⟩, ⟨true, true, [.i .u64 0, .i .u64 0, .i .u64 0, .i .u64 0, .i .u64 0, .i .u64 0, .i .u64 0, .i .u64 0, .b false]⟩, ⟨true, true, [.s .u64 (k.v X.x 0), .s .u64 (k.v X.x 1), .s .u64 (k.v X.x 2), .s .u64 (k.v X.x 3), .s .u64 (k.v X.y 0), .s .u64 (k.v X.y 1), .s .u64 (k.v X.y 2), .s .u64 (k.v X.y 3), .s .u64 (k.v X.z 0), .s .u64 (k.v X.z 1), .s .u64 (k.v X.z 2), .s .u64 (k.v X.z 3)]⟩, ⟨true, true, [.s .u64 (k.v Y.x 0), .s .u64 (k.v Y.x 1), .s .u64 (k.v Y.x 2), .s .u64 (k.v Y.x 3), .s .u64 (k.v Y.y 0), .s .u64 (k.v Y.y 1), .s .u64 (k.v Y.y 2), .s .u64 (k.v Y.y 3), .s .u64 (k.v Y.z 0), .s .u64 (k.v Y.z 1), .s .u64 (k.v Y.z 2), .s .u64 (k.v Y.z 3)]⟩, ⟨true, true, [.s .u64 (k.v XY.x 0), .s .u64 (k.v XY.x 1), .s .u64 (k.v XY.x 2), .s .u64 (k.v XY.x 3), .s .u64 (k.v XY.y 0), .s .u64 (k.v XY.y 1), .s .u64 (k.v XY.y 2), .s .u64 (k.v XY.y 3), .s .u64 (k.v XY.z 0), .s .u64 (k.v XY.z 1), .s .u64 (k.v XY.z 2), .s .u64 (k.v XY.z 3)]⟩, ⟨true, true, [.s .u64 (k.v ((B p.1)).x 0), .s .u64 (k.v ((B p.1)).x 1), .s .u64 (k.v ((B p.1)).x 2), .s .u64 (k.v ((B p.1)).x 3), .s .u64 (k.v ((B p.1)).y 0), .s .u64 (k.v ((B p.1)).y 1), .s .u64 (k.v ((B p.1)).y 2), .s .u64 (k.v ((B p.1)).y 3), .s .u64 (k.v ((B p.1)).z 0), .s .u64 (k.v ((B p.1)).z 1), .s .u64 (k.v ((B p.1)).z 2), .s .u64 (k.v ((B p.1)).z 3)]⟩]⟩) (fun p => p.1 ≤ 256 ∧ p.2 = (255 : Int) - p.1) (fun p => 256 - p.1) (0, 255) ?_ ⟨Nat.zero_le _, rfl⟩ ?_
    · cbv
      repeat' (first | exact e0.symm | exact e1.symm | exact e2.symm | exact e3.symm | exact f0.symm | exact f1.symm | exact f2.symm | exact f3.symm | exact z0.symm | exact z1.symm | exact z2.symm | exact z3.symm | exact rfl | exact trivial | constructor)
    clear e0 e1 e2 e3 f0 f1 f2 f3 z0 z1 z2 z3
    rintro ⟨j, i⟩ ⟨h1, h2⟩
    dsimp only at h1 h2 ⊢
    by_cases hj : j = 256
    · subst hj
      have hge : A.cmp .geq i 0 = false := (i_ge hA).trans (decide_eq_false (by omega))
      clear ct cA cB cC cbit hBs h1 h2
      generalize B 256 = bj at *
      cbv
      refine ABr.f hge ?_
      cbv
      refine ACall.mk _ (cf hS cd) ?_
      cbv
    · have hge : A.cmp .geq i 0 = true := (i_ge hA).trans (decide_eq_true (by omega))
      have hk : ∃ q : Nat, q = 255 - j ∧ i = (q : Int) := ⟨255 - j, rfl, by omega⟩
      obtain ⟨q, hq, rfl⟩ := hk
      have hs_ := hBs j
      rw [← hq] at hs_
      have t1 := ct j
      have tA := cA j
      have tB := cB j
      have tC := cC j
      have b1 := cbit a q (by omega)
      have b2 := cbit b q (by omega)
      have hb1 := bit_one hA (a / 2 ^ q % 2)
      have hb2 := bit_one hA (b / 2 ^ q % 2)
      obtain ⟨y, hy⟩ : ∃ y : Int, y = (q : Int) - 1 := ⟨_, rfl⟩
      have hy2 : y = (255 : Int) - ((j + 1 : Nat) : Int) := by omega
      have q1 : j + 1 ≤ 256 := by omega
      have q2 : 256 - (j + 1) < 256 - j := by omega
      have hsub : A.bin .sub .i64 (q : Int) 1 = y := e_sub hA rfl rfl hy.symm (by omega)
      clear ct cA cB cC cbit hBs h1 h2 hq cd cx cy cxy
      generalize j + 1 = j1 at *
      generalize hbj : B j = bj at *
      generalize hbj1 : B j1 = bj1 at *
      generalize T j = tj at *
      generalize a / 2 ^ q % 2 = sa at *
      generalize b / 2 ^ q % 2 = sb at *
      by_cases c1 : sa = 1
      · rw [if_pos c1] at hs_
        rw [decide_eq_true c1] at hb1
        by_cases c2 : sb = 1
        · rw [if_pos c2] at hs_
          rw [decide_eq_true c2] at hb2
          rw [← hs_] at tA
          clear tB tC hs_
          cbv
          refine ABr.t hge ?_
          cbv
          repeat (first
            | (refine ABr.t (by assumption) ?_; cbv)
            | (refine ABr.f (by assumption) ?_; cbv)
            | (refine ABr.t rfl ?_; cbv)
            | (refine ABr.f rfl ?_; cbv)
            | (refine ACall.mk _ (cf hS t1) ?_; cbv)
            | (refine ACall.mk _ (cf hS b1) ?_; cbv)
            | (refine ACall.mk _ (cf hS b2) ?_; cbv)
            | (refine ACall.mk _ (cf hS tA) ?_; cbv))
          refine ⟨(j1, y), ?_, ⟨q1, hy2⟩, q2⟩
          subst hbj1
          cbv
          repeat' (first | exact hsub | exact rfl | exact trivial | constructor)
        · rw [if_neg c2] at hs_
          rw [decide_eq_false c2] at hb2
          rw [← hs_] at tB
          clear tA tC hs_
          cbv
          refine ABr.t hge ?_
          cbv
          repeat (first
            | (refine ABr.t (by assumption) ?_; cbv)
            | (refine ABr.f (by assumption) ?_; cbv)
            | (refine ABr.t rfl ?_; cbv)
            | (refine ABr.f rfl ?_; cbv)
            | (refine ACall.mk _ (cf hS t1) ?_; cbv)
            | (refine ACall.mk _ (cf hS b1) ?_; cbv)
            | (refine ACall.mk _ (cf hS b2) ?_; cbv)
            | (refine ACall.mk _ (cf hS tB) ?_; cbv))
          refine ⟨(j1, y), ?_, ⟨q1, hy2⟩, q2⟩
          subst hbj1
          cbv
          repeat' (first | exact hsub | exact rfl | exact trivial | constructor)
      · rw [if_neg c1] at hs_
        rw [decide_eq_false c1] at hb1
        by_cases c2 : sb = 1
        · rw [if_pos c2] at hs_
          rw [decide_eq_true c2] at hb2
          rw [← hs_] at tC
          clear tA tB hs_
          cbv
          refine ABr.t hge ?_
          cbv
          repeat (first
            | (refine ABr.t (by assumption) ?_; cbv)
            | (refine ABr.f (by assumption) ?_; cbv)
            | (refine ABr.t rfl ?_; cbv)
            | (refine ABr.f rfl ?_; cbv)
            | (refine ACall.mk _ (cf hS t1) ?_; cbv)
            | (refine ACall.mk _ (cf hS b1) ?_; cbv)
            | (refine ACall.mk _ (cf hS b2) ?_; cbv)
            | (refine ACall.mk _ (cf hS tC) ?_; cbv))
          refine ⟨(j1, y), ?_, ⟨q1, hy2⟩, q2⟩
          subst hbj1
          cbv
          repeat' (first | exact hsub | exact rfl | exact trivial | constructor)
        · rw [if_neg c2] at hs_
          rw [decide_eq_false c2] at hb2
          rw [← hs_] at t1
          clear tA tB tC hs_
          cbv
          refine ABr.t hge ?_
          cbv
          repeat (first
            | (refine ABr.t (by assumption) ?_; cbv)
            | (refine ABr.f (by assumption) ?_; cbv)
            | (refine ABr.t rfl ?_; cbv)
            | (refine ABr.f rfl ?_; cbv)
            | (refine ACall.mk _ (cf hS t1) ?_; cbv)
            | (refine ACall.mk _ (cf hS b1) ?_; cbv)
            | (refine ACall.mk _ (cf hS b2) ?_; cbv))
          refine ⟨(j1, y), ?_, ⟨q1, hy2⟩, q2⟩
          subst hbj1
          cbv
          repeat' (first | exact hsub | exact rfl | exact trivial | constructor)
  · refine .inv (α := Nat × Int) (fun p => ⟨[.any, .any, .any, .any, .own 0 0, .own 1 0, .own 2 0, .own 3 0, .own 4 0, .own 5 0, .own 6 0, .own 7 0, .own 8 0, .s .i64 p.2, .any, .any, .any, .any, .any, .any, .any, .any, .any, .any, .any, .any, .any, .any, .any, .any, .any, .any, .any, .any, .any, .any, .any, .any, .any, .any, .any, .any, .any, .any, .any, .any, .any, .any, .any, .any, .any, .any, .any, .any, .any, .any, .any, .any, .any, .any, .any, .any], [⟨true, true, [.s .u64 (H.lim a 0), .s .u64 (H.lim a 1), .s .u64 (H.lim a 2), .s .u64 (H.lim a 3)]⟩, ⟨true, true, [.s .u64 (k.v px 0), .s .u64 (k.v px 1), .s .u64 (k.v px 2), .s .u64 (k.v px 3), .s .u64 (k.v py 0), .s .u64 (k.v py 1), .s .u64 (k.v py 2), .s .u64 (k.v py 3), .b false]⟩, ⟨true, true, [.s .u64 (H.lim b 0), .s .u64 (H.lim b 1), .s .u64 (H.lim b 2), .s .u64 (H.lim b 3)]⟩, ⟨true, true, [.s .u64 (k.v qx 0), .s .u64 (k.v qx 1), .s .u64 (k.v qx 2), .s .u64 (k.v qx 3), .s .u64 (k.v qy 0), .s .u64 (k.v qy 1), .s .u64 (k.v qy 2), .s .u64 (k.v qy 3), .b false]⟩, ⟨true, true, [.i .u64 0, .i .u64 0, .i .u64 0, .i .u64 0, .i .u64 0, .i .u64 0, .i .u64 0, .i .u64 0, .b false]⟩, ⟨true, true, [.s .u64 (k.v X.x 0), .s .u64 (k.v X.x 1), .s .u64 (k.v X.x 2), .s .u64 (k.v X.x 3), .s .u64 (k.v X.y 0), .s .u64 (k.v X.y 1), .s .u64 (k.v X.y 2), .s .u64 (k.v X.y 3), .s .u64 (k.v X.z 0), .s .u64 (k.v X.z 1), .s .u64 (k.v X.z 2), .s .u64 (k.v X.z 3)]⟩, ⟨true, true, [.s .u64 (k.v Y.x 0), .s .u64 (k.v Y.x 1), .s .u64 (k.v Y.x 2), .s .u64 (k.v Y.x 3), .s .u64 (k.v Y.y 0), .s .u64 (k.v Y.y 1), .s .u64 (k.v Y.y 2), .s .u64 (k.v Y.y 3), .s .u64 (k.v Y.z 0), .s .u64 (k.v Y.z 1), .s .u64 (k.v Y.z 2), .s .u64 (k.v Y.z 3)]⟩, ⟨true, true, [.s .u64 (k.v XY.x 0), .s .u64 (k.v XY.x 1), .s .u64 (k.v XY.x 2), .s .u64 (k.v XY.x 3), .s .u64 (k.v XY.y 0), .s .u64 (k.v XY.y 1), .s .u64 (k.v XY.y 2), .s .u64 (k.v XY.y 3), .s .u64 (k.v XY.z 0), .s .u64 (k.v XY.z 1), .s .u64 (k.v XY.z 2), .s .u64 (k.v XY.z 3)]⟩, ⟨true, true, [.s .u64 (k.v ((B p.1)).x 0), .s .u64 (k.v ((B p.1)).x 1), .s .u64 (k.v ((B p.1)).x 2), .s .u64 (k.v ((B p.1)).x 3), .s .u64 (k.v ((B p.1)).y 0), .s .u64 (k.v ((B p.1)).y 1), .s .u64 (k.v ((B p.1)).y 2), .s .u64 (k.v ((B p.1)).y 3), .s .u64 (k.v ((B p.1)).z 0), .s .u64 (k.v ((B p.1)).z 1), .s .u64 (k.v ((B p.1)).z 2), .s .u64 (k.v ((B p.1)).z 3)]⟩]⟩) (fun p => p.1 ≤ 256 ∧ p.2 = (255 : Int) - p.1) (fun p => 256 - p.1) (0, 255) ?_ ⟨Nat.zero_le _, rfl⟩ ?_
    · cbv
      repeat' (first | exact e0.symm | exact e1.symm | exact e2.symm | exact e3.symm | exact f0.symm | exact f1.symm | exact f2.symm | exact f3.symm | exact z0.symm | exact z1.symm | exact z2.symm | exact z3.symm | exact rfl | exact trivial | constructor)
    clear e0 e1 e2 e3 f0 f1 f2 f3 z0 z1 z2 z3
    rintro ⟨j, i⟩ ⟨h1, h2⟩
    dsimp only at h1 h2 ⊢
    by_cases hj : j = 256
    · subst hj
      have hge : A.cmp .geq i 0 = false := (i_ge hA).trans (decide_eq_false (by omega))
      clear ct cA cB cC cbit hBs h1 h2
      generalize B 256 = bj at *
      cbv
      refine ABr.f hge ?_
      cbv
      refine ACall.mk _ (cf hS cd) ?_
      cbv
    · have hge : A.cmp .geq i 0 = true := (i_ge hA).trans (decide_eq_true (by omega))
      have hk : ∃ q : Nat, q = 255 - j ∧ i = (q : Int) := ⟨255 - j, rfl, by omega⟩
      obtain ⟨q, hq, rfl⟩ := hk
      have hs_ := hBs j
      rw [← hq] at hs_
      have t1 := ct j
      have tA := cA j
      have tB := cB j
      have tC := cC j
      have b1 := cbit a q (by omega)
      have b2 := cbit b q (by omega)
      have hb1 := bit_one hA (a / 2 ^ q % 2)
      have hb2 := bit_one hA (b / 2 ^ q % 2)
      obtain ⟨y, hy⟩ : ∃ y : Int, y = (q : Int) - 1 := ⟨_, rfl⟩
      have hy2 : y = (255 : Int) - ((j + 1 : Nat) : Int) := by omega
      have q1 : j + 1 ≤ 256 := by omega
      have q2 : 256 - (j + 1) < 256 - j := by omega
      have hsub : A.bin .sub .i64 (q : Int) 1 = y := e_sub hA rfl rfl hy.symm (by omega)
      clear ct cA cB cC cbit hBs h1 h2 hq cd cx cy cxy
      generalize j + 1 = j1 at *
      generalize hbj : B j = bj at *
      generalize hbj1 : B j1 = bj1 at *
      generalize T j = tj at *
      generalize a / 2 ^ q % 2 = sa at *
      generalize b / 2 ^ q % 2 = sb at *
      by_cases c1 : sa = 1
      · rw [if_pos c1] at hs_
        rw [decide_eq_true c1] at hb1
        by_cases c2 : sb = 1
        · rw [if_pos c2] at hs_
          rw [decide_eq_true c2] at hb2
          rw [← hs_] at tA
          clear tB tC hs_
          cbv
          refine ABr.t hge ?_
          cbv
          repeat (first
            | (refine ABr.t (by assumption) ?_; cbv)
            | (refine ABr.f (by assumption) ?_; cbv)
            | (refine ABr.t rfl ?_; cbv)
            | (refine ABr.f rfl ?_; cbv)
            | (refine ACall.mk _ (cf hS t1) ?_; cbv)
            | (refine ACall.mk _ (cf hS b1) ?_; cbv)
            | (refine ACall.mk _ (cf hS b2) ?_; cbv)
            | (refine ACall.mk _ (cf hS tA) ?_; cbv))
          refine ⟨(j1, y), ?_, ⟨q1, hy2⟩, q2⟩
          subst hbj1
          cbv
          repeat' (first | exact hsub | exact rfl | exact trivial | constructor)
        · rw [if_neg c2] at hs_
          rw [decide_eq_false c2] at hb2
          rw [← hs_] at tB
          clear tA tC hs_
          cbv
          refine ABr.t hge ?_
          cbv
          repeat (first
            | (refine ABr.t (by assumption) ?_; cbv)
            | (refine ABr.f (by assumption) ?_; cbv)
            | (refine ABr.t rfl ?_; cbv)
            | (refine ABr.f rfl ?_; cbv)
            | (refine ACall.mk _ (cf hS t1) ?_; cbv)
            | (refine ACall.mk _ (cf hS b1) ?_; cbv)
            | (refine ACall.mk _ (cf hS b2) ?_; cbv)
            | (refine ACall.mk _ (cf hS tB) ?_; cbv))
          refine ⟨(j1, y), ?_, ⟨q1, hy2⟩, q2⟩
          subst hbj1
          cbv
          repeat' (first | exact hsub | exact rfl | exact trivial | constructor)
      · rw [if_neg c1] at hs_
        rw [decide_eq_false c1] at hb1
        by_cases c2 : sb = 1
        · rw [if_pos c2] at hs_
          rw [decide_eq_true c2] at hb2
          rw [← hs_] at tC
          clear tA tB hs_
          cbv
          refine ABr.t hge ?_
          cbv
          repeat (first
            | (refine ABr.t (by assumption) ?_; cbv)
            | (refine ABr.f (by assumption) ?_; cbv)
            | (refine ABr.t rfl ?_; cbv)
            | (refine ABr.f rfl ?_; cbv)
            | (refine ACall.mk _ (cf hS t1) ?_; cbv)
            | (refine ACall.mk _ (cf hS b1) ?_; cbv)
            | (refine ACall.mk _ (cf hS b2) ?_; cbv)
            | (refine ACall.mk _ (cf hS tC) ?_; cbv))
          refine ⟨(j1, y), ?_, ⟨q1, hy2⟩, q2⟩
          subst hbj1
          cbv
          repeat' (first | exact hsub | exact rfl | exact trivial | constructor)
        · rw [if_neg c2] at hs_
          rw [decide_eq_false c2] at hb2
          rw [← hs_] at t1
          clear tA tB tC hs_
          cbv
          refine ABr.t hge ?_
          cbv
          repeat (first
            | (refine ABr.t (by assumption) ?_; cbv)
            | (refine ABr.f (by assumption) ?_; cbv)
            | (refine ABr.t rfl ?_; cbv)
            | (refine ABr.f rfl ?_; cbv)
            | (refine ACall.mk _ (cf hS t1) ?_; cbv)
            | (refine ACall.mk _ (cf hS b1) ?_; cbv)
            | (refine ACall.mk _ (cf hS b2) ?_; cbv))
          refine ⟨(j1, y), ?_, ⟨q1, hy2⟩, q2⟩
          subst hbj1
          cbv
          repeat' (first | exact hsub | exact rfl | exact trivial | constructor)
end
end Go.Proofs.YtkhipnhdbaahcaaGreat
