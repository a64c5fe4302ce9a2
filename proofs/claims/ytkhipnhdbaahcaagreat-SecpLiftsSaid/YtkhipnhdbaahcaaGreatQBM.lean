import Derived.Test.YtkhipnhdbaahcaaGreatQBF
section
set_option linter.unusedVariables false
set_option linter.unusedSimpArgs false
namespace Go.Proofs.YtkhipnhdbaahcaaGreat
open Go Eng
set_option maxRecDepth 100000
set_option exponentiation.threshold 2000
set_option maxHeartbeats 16000000 in
theorem mont4S {lim : Lim} (hl : lim = limR) (m inv fast one two a b r : Nat) (ha : a < 2 ^ 256) (hb : b < 2 ^ 256) (hm : m < 2 ^ 256) (hi : (lim m 0 * (inv : Int) + 1) % 18446744073709551616 = 0) (hv : inv < 18446744073709551616) (hodd : m % 2 = 1) (hab : a < m ∨ b < m) (hr : r < m) (hrr : r * 2 ^ 256 % m = a * b % m) :
    ∃ d, SpecM Tryz.prog 136 [⟨true, true, [.s .u64 (lim a 0), .s .u64 (lim a 1), .s .u64 (lim a 2), .s .u64 (lim a 3)]⟩, ⟨true, true, [.s .u64 (lim b 0), .s .u64 (lim b 1), .s .u64 (lim b 2), .s .u64 (lim b 3)]⟩, ⟨true, true, [.i .u64 0, .i .u64 0, .i .u64 0, .i .u64 0]⟩] [.own 0 0, .own 1 0, .ref (ring4 lim m inv fast one two) 1, .s .u64 inv] (.tup []) [⟨true, true, [.s .u64 (lim r 0), .s .u64 (lim r 1), .s .u64 (lim r 2), .s .u64 (lim r 3)]⟩, ⟨true, true, [.s .u64 (lim b 0), .s .u64 (lim b 1), .s .u64 (lim b 2), .s .u64 (lim b 3)]⟩, ⟨true, true, [.i .u64 0, .i .u64 0, .i .u64 0, .i .u64 0]⟩, ⟨true, true, [.s .u64 (lim d 0), .s .u64 (lim d 1), .s .u64 (lim d 2), .s .u64 (lim d 3)]⟩] := by
  have la := fun i => lim_range hl a i
  have lb := fun i => lim_range hl b i
  have lm := fun i => lim_range hl m i
  have z64 : (0 : Int) ≤ 0 ∧ (0 : Int) < 18446744073709551616 := by omega
  have z01 : (0 : Int) ≤ 0 ∧ (0 : Int) ≤ 1 := by omega
  obtain ⟨l0_0, h0_0, e0_0, rl0_0, rh0_0⟩ := steps (x := (lim a 0)) (y := lim b 0) (z := (0 : Int)) (c := (0 : Int)) (la 0) (lb 0) z64 z64
  obtain ⟨l1_0, h1_0, e1_0, rl1_0, rh1_0⟩ := steps (x := (lim a 0)) (y := lim b 1) (z := (0 : Int)) (c := h0_0) (la 0) (lb 1) z64 rh0_0
  obtain ⟨l2_0, h2_0, e2_0, rl2_0, rh2_0⟩ := steps (x := (lim a 0)) (y := lim b 2) (z := (0 : Int)) (c := h1_0) (la 0) (lb 2) z64 rh1_0
  obtain ⟨l3_0, h3_0, e3_0, rl3_0, rh3_0⟩ := steps (x := (lim a 0)) (y := lim b 3) (z := (0 : Int)) (c := h2_0) (la 0) (lb 3) z64 rh2_0
  obtain ⟨s_0, k_0, ea_0, rs_0, rk_0⟩ := carry (x := (0 : Int)) (y := h3_0) (z := 0) z64 rh3_0 z01
  obtain ⟨q_0, hq_0⟩ : ∃ q : Int, q = l0_0 * (inv : Int) % 18446744073709551616 := ⟨_, rfl⟩
  have rq_0 := modr hq_0
  have eq_0 : rbin .mul .u64 l0_0 (Int.ofNat inv) = q_0 := by rw [hq_0]; exact wrap_u64 _
  obtain ⟨u0_0, g0_0, f0_0, ru0_0, rg0_0⟩ := steps (x := q_0) (y := lim m 0) (z := l0_0) (c := (0 : Int)) rq_0 (lm 0) rl0_0 z64
  obtain ⟨u1_0, g1_0, f1_0, ru1_0, rg1_0⟩ := steps (x := q_0) (y := lim m 1) (z := l1_0) (c := g0_0) rq_0 (lm 1) rl1_0 rg0_0
  obtain ⟨u2_0, g2_0, f2_0, ru2_0, rg2_0⟩ := steps (x := q_0) (y := lim m 2) (z := l2_0) (c := g1_0) rq_0 (lm 2) rl2_0 rg1_0
  obtain ⟨u3_0, g3_0, f3_0, ru3_0, rg3_0⟩ := steps (x := q_0) (y := lim m 3) (z := l3_0) (c := g2_0) rq_0 (lm 3) rl3_0 rg2_0
  obtain ⟨w_0, c_0, fa_0, rw_0, rc_0⟩ := carry (x := s_0) (y := g3_0) (z := 0) rs_0 rg3_0 z01
  have et_0 : rbin .add .u64 k_0 c_0 = k_0 + c_0 := (wrap_u64 _).trans (kcw rk_0 rc_0)
  have rt_0 := kcr rk_0 rc_0
  obtain rfl := low0 hi hq_0 f0_0 ru0_0
  have hR_0 := round4 e0_0 e1_0 e2_0 e3_0 ea_0 f0_0 f1_0 f2_0 f3_0 fa_0
  obtain ⟨T1, hT1⟩ : ∃ T : Int, T = u1_0 + 18446744073709551616 * (u2_0 + 18446744073709551616 * (u3_0 + 18446744073709551616 * (w_0 + 18446744073709551616 * ((k_0 + c_0))))) := ⟨_, rfl⟩
  have E_0 : 18446744073709551616 * T1 = (0 : Int) + lim a 0 * (b : Int) + q_0 * (m : Int) := by
    rw [split4 hl b hb, split4 hl m hm, ← horm4, ← horm4, hT1]; exact hR_0.trans (by simp only [Int.mul_zero, Int.add_zero, Int.zero_add])
  obtain ⟨l0_1, h0_1, e0_1, rl0_1, rh0_1⟩ := steps (x := (lim a 1)) (y := lim b 0) (z := u1_0) (c := (0 : Int)) (la 1) (lb 0) ru1_0 z64
  obtain ⟨l1_1, h1_1, e1_1, rl1_1, rh1_1⟩ := steps (x := (lim a 1)) (y := lim b 1) (z := u2_0) (c := h0_1) (la 1) (lb 1) ru2_0 rh0_1
  obtain ⟨l2_1, h2_1, e2_1, rl2_1, rh2_1⟩ := steps (x := (lim a 1)) (y := lim b 2) (z := u3_0) (c := h1_1) (la 1) (lb 2) ru3_0 rh1_1
  obtain ⟨l3_1, h3_1, e3_1, rl3_1, rh3_1⟩ := steps (x := (lim a 1)) (y := lim b 3) (z := w_0) (c := h2_1) (la 1) (lb 3) rw_0 rh2_1
  obtain ⟨s_1, k_1, ea_1, rs_1, rk_1⟩ := carry (x := (k_0 + c_0)) (y := h3_1) (z := 0) rt_0 rh3_1 z01
  obtain ⟨q_1, hq_1⟩ : ∃ q : Int, q = l0_1 * (inv : Int) % 18446744073709551616 := ⟨_, rfl⟩
  have rq_1 := modr hq_1
  have eq_1 : rbin .mul .u64 l0_1 (Int.ofNat inv) = q_1 := by rw [hq_1]; exact wrap_u64 _
  obtain ⟨u0_1, g0_1, f0_1, ru0_1, rg0_1⟩ := steps (x := q_1) (y := lim m 0) (z := l0_1) (c := (0 : Int)) rq_1 (lm 0) rl0_1 z64
  obtain ⟨u1_1, g1_1, f1_1, ru1_1, rg1_1⟩ := steps (x := q_1) (y := lim m 1) (z := l1_1) (c := g0_1) rq_1 (lm 1) rl1_1 rg0_1
  obtain ⟨u2_1, g2_1, f2_1, ru2_1, rg2_1⟩ := steps (x := q_1) (y := lim m 2) (z := l2_1) (c := g1_1) rq_1 (lm 2) rl2_1 rg1_1
  obtain ⟨u3_1, g3_1, f3_1, ru3_1, rg3_1⟩ := steps (x := q_1) (y := lim m 3) (z := l3_1) (c := g2_1) rq_1 (lm 3) rl3_1 rg2_1
  obtain ⟨w_1, c_1, fa_1, rw_1, rc_1⟩ := carry (x := s_1) (y := g3_1) (z := 0) rs_1 rg3_1 z01
  have et_1 : rbin .add .u64 k_1 c_1 = k_1 + c_1 := (wrap_u64 _).trans (kcw rk_1 rc_1)
  have rt_1 := kcr rk_1 rc_1
  obtain rfl := low0 hi hq_1 f0_1 ru0_1
  have hR_1 := round4 e0_1 e1_1 e2_1 e3_1 ea_1 f0_1 f1_1 f2_1 f3_1 fa_1
  obtain ⟨T2, hT2⟩ : ∃ T : Int, T = u1_1 + 18446744073709551616 * (u2_1 + 18446744073709551616 * (u3_1 + 18446744073709551616 * (w_1 + 18446744073709551616 * ((k_1 + c_1))))) := ⟨_, rfl⟩
  have E_1 : 18446744073709551616 * T2 = T1 + lim a 1 * (b : Int) + q_1 * (m : Int) := by
    rw [split4 hl b hb, split4 hl m hm, ← horm4, ← horm4, hT2, hT1]; exact hR_1
  obtain ⟨l0_2, h0_2, e0_2, rl0_2, rh0_2⟩ := steps (x := (lim a 2)) (y := lim b 0) (z := u1_1) (c := (0 : Int)) (la 2) (lb 0) ru1_1 z64
  obtain ⟨l1_2, h1_2, e1_2, rl1_2, rh1_2⟩ := steps (x := (lim a 2)) (y := lim b 1) (z := u2_1) (c := h0_2) (la 2) (lb 1) ru2_1 rh0_2
  obtain ⟨l2_2, h2_2, e2_2, rl2_2, rh2_2⟩ := steps (x := (lim a 2)) (y := lim b 2) (z := u3_1) (c := h1_2) (la 2) (lb 2) ru3_1 rh1_2
  obtain ⟨l3_2, h3_2, e3_2, rl3_2, rh3_2⟩ := steps (x := (lim a 2)) (y := lim b 3) (z := w_1) (c := h2_2) (la 2) (lb 3) rw_1 rh2_2
  obtain ⟨s_2, k_2, ea_2, rs_2, rk_2⟩ := carry (x := (k_1 + c_1)) (y := h3_2) (z := 0) rt_1 rh3_2 z01
  obtain ⟨q_2, hq_2⟩ : ∃ q : Int, q = l0_2 * (inv : Int) % 18446744073709551616 := ⟨_, rfl⟩
  have rq_2 := modr hq_2
  have eq_2 : rbin .mul .u64 l0_2 (Int.ofNat inv) = q_2 := by rw [hq_2]; exact wrap_u64 _
  obtain ⟨u0_2, g0_2, f0_2, ru0_2, rg0_2⟩ := steps (x := q_2) (y := lim m 0) (z := l0_2) (c := (0 : Int)) rq_2 (lm 0) rl0_2 z64
  obtain ⟨u1_2, g1_2, f1_2, ru1_2, rg1_2⟩ := steps (x := q_2) (y := lim m 1) (z := l1_2) (c := g0_2) rq_2 (lm 1) rl1_2 rg0_2
  obtain ⟨u2_2, g2_2, f2_2, ru2_2, rg2_2⟩ := steps (x := q_2) (y := lim m 2) (z := l2_2) (c := g1_2) rq_2 (lm 2) rl2_2 rg1_2
  obtain ⟨u3_2, g3_2, f3_2, ru3_2, rg3_2⟩ := steps (x := q_2) (y := lim m 3) (z := l3_2) (c := g2_2) rq_2 (lm 3) rl3_2 rg2_2
  obtain ⟨w_2, c_2, fa_2, rw_2, rc_2⟩ := carry (x := s_2) (y := g3_2) (z := 0) rs_2 rg3_2 z01
  have et_2 : rbin .add .u64 k_2 c_2 = k_2 + c_2 := (wrap_u64 _).trans (kcw rk_2 rc_2)
  have rt_2 := kcr rk_2 rc_2
  obtain rfl := low0 hi hq_2 f0_2 ru0_2
  have hR_2 := round4 e0_2 e1_2 e2_2 e3_2 ea_2 f0_2 f1_2 f2_2 f3_2 fa_2
  obtain ⟨T3, hT3⟩ : ∃ T : Int, T = u1_2 + 18446744073709551616 * (u2_2 + 18446744073709551616 * (u3_2 + 18446744073709551616 * (w_2 + 18446744073709551616 * ((k_2 + c_2))))) := ⟨_, rfl⟩
  have E_2 : 18446744073709551616 * T3 = T2 + lim a 2 * (b : Int) + q_2 * (m : Int) := by
    rw [split4 hl b hb, split4 hl m hm, ← horm4, ← horm4, hT3, hT2]; exact hR_2
  obtain ⟨l0_3, h0_3, e0_3, rl0_3, rh0_3⟩ := steps (x := (lim a 3)) (y := lim b 0) (z := u1_2) (c := (0 : Int)) (la 3) (lb 0) ru1_2 z64
  obtain ⟨l1_3, h1_3, e1_3, rl1_3, rh1_3⟩ := steps (x := (lim a 3)) (y := lim b 1) (z := u2_2) (c := h0_3) (la 3) (lb 1) ru2_2 rh0_3
  obtain ⟨l2_3, h2_3, e2_3, rl2_3, rh2_3⟩ := steps (x := (lim a 3)) (y := lim b 2) (z := u3_2) (c := h1_3) (la 3) (lb 2) ru3_2 rh1_3
  obtain ⟨l3_3, h3_3, e3_3, rl3_3, rh3_3⟩ := steps (x := (lim a 3)) (y := lim b 3) (z := w_2) (c := h2_3) (la 3) (lb 3) rw_2 rh2_3
  obtain ⟨s_3, k_3, ea_3, rs_3, rk_3⟩ := carry (x := (k_2 + c_2)) (y := h3_3) (z := 0) rt_2 rh3_3 z01
  obtain ⟨q_3, hq_3⟩ : ∃ q : Int, q = l0_3 * (inv : Int) % 18446744073709551616 := ⟨_, rfl⟩
  have rq_3 := modr hq_3
  have eq_3 : rbin .mul .u64 l0_3 (Int.ofNat inv) = q_3 := by rw [hq_3]; exact wrap_u64 _
  obtain ⟨u0_3, g0_3, f0_3, ru0_3, rg0_3⟩ := steps (x := q_3) (y := lim m 0) (z := l0_3) (c := (0 : Int)) rq_3 (lm 0) rl0_3 z64
  obtain ⟨u1_3, g1_3, f1_3, ru1_3, rg1_3⟩ := steps (x := q_3) (y := lim m 1) (z := l1_3) (c := g0_3) rq_3 (lm 1) rl1_3 rg0_3
  obtain ⟨u2_3, g2_3, f2_3, ru2_3, rg2_3⟩ := steps (x := q_3) (y := lim m 2) (z := l2_3) (c := g1_3) rq_3 (lm 2) rl2_3 rg1_3
  obtain ⟨u3_3, g3_3, f3_3, ru3_3, rg3_3⟩ := steps (x := q_3) (y := lim m 3) (z := l3_3) (c := g2_3) rq_3 (lm 3) rl3_3 rg2_3
  obtain ⟨w_3, c_3, fa_3, rw_3, rc_3⟩ := carry (x := s_3) (y := g3_3) (z := 0) rs_3 rg3_3 z01
  have et_3 : rbin .add .u64 k_3 c_3 = k_3 + c_3 := (wrap_u64 _).trans (kcw rk_3 rc_3)
  have rt_3 := kcr rk_3 rc_3
  obtain rfl := low0 hi hq_3 f0_3 ru0_3
  have hR_3 := round4 e0_3 e1_3 e2_3 e3_3 ea_3 f0_3 f1_3 f2_3 f3_3 fa_3
  obtain ⟨T4, hT4⟩ : ∃ T : Int, T = u1_3 + 18446744073709551616 * (u2_3 + 18446744073709551616 * (u3_3 + 18446744073709551616 * (w_3 + 18446744073709551616 * ((k_3 + c_3))))) := ⟨_, rfl⟩
  have E_3 : 18446744073709551616 * T4 = T3 + lim a 3 * (b : Int) + q_3 * (m : Int) := by
    rw [split4 hl b hb, split4 hl m hm, ← horm4, ← horm4, hT4, hT3]; exact hR_3
  have hC := chain4 E_0 E_1 E_2 E_3
  rw [horn4, horn4, ← split4 hl a ha] at hC
  have hend := mont_end4 ha hb hm hodd hab hr hrr hC rq_0 rq_1 rq_2 rq_3 ru1_3 ru2_3 ru3_3 rw_3 rk_3 rc_3 hT4
  obtain ⟨s, d, k, hs, hs', hd, hd', hcase⟩ := hend
  obtain ⟨y0, y1, y2, y3⟩ := lim_of4 hl hs ru1_3 ru2_3 ru3_3 hs'
  have hmin := minus4 hl s m d k hs hm hd hd'
  unfold u4 at hmin
  rw [y0, y1, y2, y3] at hmin
  refine ⟨d, mkM Tryz.func136 rfl rfl L0 R0 (by decide +kernel) fun A S hA hS => ?_⟩
  unfold bodyOf Tryz.f136
  cbv
  refine ACall.mk (.tup [.s .u64 h0_0, .s .u64 l0_0]) (cf hS (stepS (lim a 0) (lim b 0) (0 : Int) (0 : Int) _ _ (la 0) (lb 0) z64 z64 (.i _) (.i _) e0_0 rl0_0)) ?_
  cbv
  refine ACall.mk (.tup [.s .u64 h1_0, .s .u64 l1_0]) (cf hS (stepS (lim a 0) (lim b 1) (0 : Int) h0_0 _ _ (la 0) (lb 1) z64 rh0_0 (.i _) (.s _) e1_0 rl1_0)) ?_
  cbv
  refine ACall.mk (.tup [.s .u64 h2_0, .s .u64 l2_0]) (cf hS (stepS (lim a 0) (lim b 2) (0 : Int) h1_0 _ _ (la 0) (lb 2) z64 rh1_0 (.i _) (.s _) e2_0 rl2_0)) ?_
  cbv
  refine ACall.mk (.tup [.s .u64 h3_0, .s .u64 l3_0]) (cf hS (stepS (lim a 0) (lim b 3) (0 : Int) h2_0 _ _ (la 0) (lb 3) z64 rh2_0 (.i _) (.s _) e3_0 rl3_0)) ?_
  cbv
  refine ACall.mk (.tup [.s .u64 s_0, .s .u64 k_0]) (cf hS (add64S (.i _) (.s _) (.i _) z64.1 rh3_0.1 z01 _ _ ea_0 rs_0)) ?_
  cbv
  refine ACall.mk (.tup [.s .u64 g0_0, .s .u64 (0 : Int)]) (cf hS (sub_arg (show A.bin .mul .u64 l0_0 (Int.ofNat inv) = q_0 from by rw [hA]; exact eq_0) (stepS q_0 (lim m 0) l0_0 (0 : Int) _ _ rq_0 (lm 0) rl0_0 z64 (.s _) (.i _) f0_0 ru0_0))) ?_
  cbv
  refine ACall.mk (.tup [.s .u64 g1_0, .s .u64 u1_0]) (cf hS (sub_arg (show A.bin .mul .u64 l0_0 (Int.ofNat inv) = q_0 from by rw [hA]; exact eq_0) (stepS q_0 (lim m 1) l1_0 g0_0 _ _ rq_0 (lm 1) rl1_0 rg0_0 (.s _) (.s _) f1_0 ru1_0))) ?_
  cbv
  refine ACall.mk (.tup [.s .u64 g2_0, .s .u64 u2_0]) (cf hS (sub_arg (show A.bin .mul .u64 l0_0 (Int.ofNat inv) = q_0 from by rw [hA]; exact eq_0) (stepS q_0 (lim m 2) l2_0 g1_0 _ _ rq_0 (lm 2) rl2_0 rg1_0 (.s _) (.s _) f2_0 ru2_0))) ?_
  cbv
  refine ACall.mk (.tup [.s .u64 g3_0, .s .u64 u3_0]) (cf hS (sub_arg (show A.bin .mul .u64 l0_0 (Int.ofNat inv) = q_0 from by rw [hA]; exact eq_0) (stepS q_0 (lim m 3) l3_0 g2_0 _ _ rq_0 (lm 3) rl3_0 rg2_0 (.s _) (.s _) f3_0 ru3_0))) ?_
  cbv
  refine ACall.mk (.tup [.s .u64 w_0, .s .u64 c_0]) (cf hS (add64S (.s _) (.s _) (.i _) rs_0.1 rg3_0.1 z01 _ _ fa_0 rw_0)) ?_
  cbv
  refine ACall.mk (.tup [.s .u64 h0_1, .s .u64 l0_1]) (cf hS (stepS (lim a 1) (lim b 0) u1_0 (0 : Int) _ _ (la 1) (lb 0) ru1_0 z64 (.s _) (.i _) e0_1 rl0_1)) ?_
  cbv
  refine ACall.mk (.tup [.s .u64 h1_1, .s .u64 l1_1]) (cf hS (stepS (lim a 1) (lim b 1) u2_0 h0_1 _ _ (la 1) (lb 1) ru2_0 rh0_1 (.s _) (.s _) e1_1 rl1_1)) ?_
  cbv
  refine ACall.mk (.tup [.s .u64 h2_1, .s .u64 l2_1]) (cf hS (stepS (lim a 1) (lim b 2) u3_0 h1_1 _ _ (la 1) (lb 2) ru3_0 rh1_1 (.s _) (.s _) e2_1 rl2_1)) ?_
  cbv
  refine ACall.mk (.tup [.s .u64 h3_1, .s .u64 l3_1]) (cf hS (stepS (lim a 1) (lim b 3) w_0 h2_1 _ _ (la 1) (lb 3) rw_0 rh2_1 (.s _) (.s _) e3_1 rl3_1)) ?_
  cbv
  refine ACall.mk (.tup [.s .u64 s_1, .s .u64 k_1]) (cf hS (sub_arg (show A.bin .add .u64 k_0 c_0 = k_0 + c_0 from by rw [hA]; exact et_0) <| add64S (.s _) (.s _) (.i _) rt_0.1 rh3_1.1 z01 _ _ ea_1 rs_1)) ?_
  cbv
  refine ACall.mk (.tup [.s .u64 g0_1, .s .u64 (0 : Int)]) (cf hS (sub_arg (show A.bin .mul .u64 l0_1 (Int.ofNat inv) = q_1 from by rw [hA]; exact eq_1) (stepS q_1 (lim m 0) l0_1 (0 : Int) _ _ rq_1 (lm 0) rl0_1 z64 (.s _) (.i _) f0_1 ru0_1))) ?_
  cbv
  refine ACall.mk (.tup [.s .u64 g1_1, .s .u64 u1_1]) (cf hS (sub_arg (show A.bin .mul .u64 l0_1 (Int.ofNat inv) = q_1 from by rw [hA]; exact eq_1) (stepS q_1 (lim m 1) l1_1 g0_1 _ _ rq_1 (lm 1) rl1_1 rg0_1 (.s _) (.s _) f1_1 ru1_1))) ?_
  cbv
  refine ACall.mk (.tup [.s .u64 g2_1, .s .u64 u2_1]) (cf hS (sub_arg (show A.bin .mul .u64 l0_1 (Int.ofNat inv) = q_1 from by rw [hA]; exact eq_1) (stepS q_1 (lim m 2) l2_1 g1_1 _ _ rq_1 (lm 2) rl2_1 rg1_1 (.s _) (.s _) f2_1 ru2_1))) ?_
  cbv
  refine ACall.mk (.tup [.s .u64 g3_1, .s .u64 u3_1]) (cf hS (sub_arg (show A.bin .mul .u64 l0_1 (Int.ofNat inv) = q_1 from by rw [hA]; exact eq_1) (stepS q_1 (lim m 3) l3_1 g2_1 _ _ rq_1 (lm 3) rl3_1 rg2_1 (.s _) (.s _) f3_1 ru3_1))) ?_
  cbv
  refine ACall.mk (.tup [.s .u64 w_1, .s .u64 c_1]) (cf hS (add64S (.s _) (.s _) (.i _) rs_1.1 rg3_1.1 z01 _ _ fa_1 rw_1)) ?_
  cbv
  refine ACall.mk (.tup [.s .u64 h0_2, .s .u64 l0_2]) (cf hS (stepS (lim a 2) (lim b 0) u1_1 (0 : Int) _ _ (la 2) (lb 0) ru1_1 z64 (.s _) (.i _) e0_2 rl0_2)) ?_
  cbv
  refine ACall.mk (.tup [.s .u64 h1_2, .s .u64 l1_2]) (cf hS (stepS (lim a 2) (lim b 1) u2_1 h0_2 _ _ (la 2) (lb 1) ru2_1 rh0_2 (.s _) (.s _) e1_2 rl1_2)) ?_
  cbv
  refine ACall.mk (.tup [.s .u64 h2_2, .s .u64 l2_2]) (cf hS (stepS (lim a 2) (lim b 2) u3_1 h1_2 _ _ (la 2) (lb 2) ru3_1 rh1_2 (.s _) (.s _) e2_2 rl2_2)) ?_
  cbv
  refine ACall.mk (.tup [.s .u64 h3_2, .s .u64 l3_2]) (cf hS (stepS (lim a 2) (lim b 3) w_1 h2_2 _ _ (la 2) (lb 3) rw_1 rh2_2 (.s _) (.s _) e3_2 rl3_2)) ?_
  cbv
  refine ACall.mk (.tup [.s .u64 s_2, .s .u64 k_2]) (cf hS (sub_arg (show A.bin .add .u64 k_1 c_1 = k_1 + c_1 from by rw [hA]; exact et_1) <| add64S (.s _) (.s _) (.i _) rt_1.1 rh3_2.1 z01 _ _ ea_2 rs_2)) ?_
  cbv
  refine ACall.mk (.tup [.s .u64 g0_2, .s .u64 (0 : Int)]) (cf hS (sub_arg (show A.bin .mul .u64 l0_2 (Int.ofNat inv) = q_2 from by rw [hA]; exact eq_2) (stepS q_2 (lim m 0) l0_2 (0 : Int) _ _ rq_2 (lm 0) rl0_2 z64 (.s _) (.i _) f0_2 ru0_2))) ?_
  cbv
  refine ACall.mk (.tup [.s .u64 g1_2, .s .u64 u1_2]) (cf hS (sub_arg (show A.bin .mul .u64 l0_2 (Int.ofNat inv) = q_2 from by rw [hA]; exact eq_2) (stepS q_2 (lim m 1) l1_2 g0_2 _ _ rq_2 (lm 1) rl1_2 rg0_2 (.s _) (.s _) f1_2 ru1_2))) ?_
  cbv
  refine ACall.mk (.tup [.s .u64 g2_2, .s .u64 u2_2]) (cf hS (sub_arg (show A.bin .mul .u64 l0_2 (Int.ofNat inv) = q_2 from by rw [hA]; exact eq_2) (stepS q_2 (lim m 2) l2_2 g1_2 _ _ rq_2 (lm 2) rl2_2 rg1_2 (.s _) (.s _) f2_2 ru2_2))) ?_
  cbv
  refine ACall.mk (.tup [.s .u64 g3_2, .s .u64 u3_2]) (cf hS (sub_arg (show A.bin .mul .u64 l0_2 (Int.ofNat inv) = q_2 from by rw [hA]; exact eq_2) (stepS q_2 (lim m 3) l3_2 g2_2 _ _ rq_2 (lm 3) rl3_2 rg2_2 (.s _) (.s _) f3_2 ru3_2))) ?_
  cbv
  refine ACall.mk (.tup [.s .u64 w_2, .s .u64 c_2]) (cf hS (add64S (.s _) (.s _) (.i _) rs_2.1 rg3_2.1 z01 _ _ fa_2 rw_2)) ?_
  cbv
  refine ACall.mk (.tup [.s .u64 h0_3, .s .u64 l0_3]) (cf hS (stepS (lim a 3) (lim b 0) u1_2 (0 : Int) _ _ (la 3) (lb 0) ru1_2 z64 (.s _) (.i _) e0_3 rl0_3)) ?_
  cbv
  refine ACall.mk (.tup [.s .u64 h1_3, .s .u64 l1_3]) (cf hS (stepS (lim a 3) (lim b 1) u2_2 h0_3 _ _ (la 3) (lb 1) ru2_2 rh0_3 (.s _) (.s _) e1_3 rl1_3)) ?_
  cbv
  refine ACall.mk (.tup [.s .u64 h2_3, .s .u64 l2_3]) (cf hS (stepS (lim a 3) (lim b 2) u3_2 h1_3 _ _ (la 3) (lb 2) ru3_2 rh1_3 (.s _) (.s _) e2_3 rl2_3)) ?_
  cbv
  refine ACall.mk (.tup [.s .u64 h3_3, .s .u64 l3_3]) (cf hS (stepS (lim a 3) (lim b 3) w_2 h2_3 _ _ (la 3) (lb 3) rw_2 rh2_3 (.s _) (.s _) e3_3 rl3_3)) ?_
  cbv
  refine ACall.mk (.tup [.s .u64 s_3, .s .u64 k_3]) (cf hS (sub_arg (show A.bin .add .u64 k_2 c_2 = k_2 + c_2 from by rw [hA]; exact et_2) <| add64S (.s _) (.s _) (.i _) rt_2.1 rh3_3.1 z01 _ _ ea_3 rs_3)) ?_
  cbv
  refine ACall.mk (.tup [.s .u64 g0_3, .s .u64 (0 : Int)]) (cf hS (sub_arg (show A.bin .mul .u64 l0_3 (Int.ofNat inv) = q_3 from by rw [hA]; exact eq_3) (stepS q_3 (lim m 0) l0_3 (0 : Int) _ _ rq_3 (lm 0) rl0_3 z64 (.s _) (.i _) f0_3 ru0_3))) ?_
  cbv
  refine ACall.mk (.tup [.s .u64 g1_3, .s .u64 u1_3]) (cf hS (sub_arg (show A.bin .mul .u64 l0_3 (Int.ofNat inv) = q_3 from by rw [hA]; exact eq_3) (stepS q_3 (lim m 1) l1_3 g0_3 _ _ rq_3 (lm 1) rl1_3 rg0_3 (.s _) (.s _) f1_3 ru1_3))) ?_
  cbv
  refine ACall.mk (.tup [.s .u64 g2_3, .s .u64 u2_3]) (cf hS (sub_arg (show A.bin .mul .u64 l0_3 (Int.ofNat inv) = q_3 from by rw [hA]; exact eq_3) (stepS q_3 (lim m 2) l2_3 g1_3 _ _ rq_3 (lm 2) rl2_3 rg1_3 (.s _) (.s _) f2_3 ru2_3))) ?_
  cbv
  refine ACall.mk (.tup [.s .u64 g3_3, .s .u64 u3_3]) (cf hS (sub_arg (show A.bin .mul .u64 l0_3 (Int.ofNat inv) = q_3 from by rw [hA]; exact eq_3) (stepS q_3 (lim m 3) l3_3 g2_3 _ _ rq_3 (lm 3) rl3_3 rg2_3 (.s _) (.s _) f3_3 ru3_3))) ?_
  cbv
  refine ACall.mk (.tup [.s .u64 w_3, .s .u64 c_3]) (cf hS (add64S (.s _) (.s _) (.i _) rs_3.1 rg3_3.1 z01 _ _ fa_3 rw_3)) ?_
  cbv
  refine ACall.mk (.tup [u4 lim d, .s .u64 k]) (cf hS hmin) ?_
  cbv
  have hgt : A.cmp .gtr (A.bin .add .u64 k_3 c_3) 0 = decide (k_3 + c_3 > 0) := by rw [hA]; show decide (rbin .add .u64 k_3 c_3 > 0) = _; rw [et_3]
  rcases hcase with ⟨hh, rfl⟩ | ⟨h0, rfl, rfl⟩
  · by_cases h0 : k_3 + c_3 > 0
    · rw [decide_eq_true h0] at hgt
      refine ABr.t hgt ?_
      cbv
      refine ABr.t hgt ?_
      cbv
      refine ABr.t hgt ?_
      cbv
      exact ⟨rfl, trivial⟩
    · rw [decide_eq_false h0] at hgt
      obtain rfl : k = 0 := by omega
      have heq : A.cmp .eql (Int.ofNat 0) 0 = true := by rw [hA]; rfl
      refine ABr.f hgt ?_
      cbv
      refine ABr.f hgt ?_
      cbv
      refine ABr.f hgt ?_
      cbv
      refine ABr.t heq ?_
      cbv
      exact ⟨rfl, trivial⟩
  · rw [decide_eq_false (by omega)] at hgt
    have heq : A.cmp .eql (Int.ofNat 1) 0 = false := by rw [hA]; rfl
    refine ABr.f hgt ?_
    cbv
    refine ABr.f hgt ?_
    cbv
    refine ABr.f hgt ?_
    cbv
    refine ABr.f heq ?_
    cbv
    rw [y0, y1, y2, y3]
    exact ⟨rfl, rfl⟩
end Go.Proofs.YtkhipnhdbaahcaaGreat
end
section
set_option linter.unusedVariables false
set_option linter.unusedSimpArgs false
namespace Go.Proofs.YtkhipnhdbaahcaaGreat
open Go Eng
set_option maxRecDepth 100000
set_option exponentiation.threshold 2000

/-- An inverse modulo 2^64, by Newton's steps; less that. -/
def newton (m : Nat) : Nat → Nat
  | 0 => 1
  | k + 1 => newton m k * ((18446744073709551616 + 2 - m * newton m k % 18446744073709551616) % 18446744073709551616) % 18446744073709551616
def minvR (m : Nat) : Nat := (18446744073709551616 - newton m 6) % 18446744073709551616
def primes4 : List Nat := [0xfffffffffffffffffffffffffffffffffffffffffffffffffffffffefffffc2f, 0xfffffffffffffffffffffffffffffffebaaedce6af48a03bbfd25e8cd0364141, 0x30644e72e131a029b85045b68181585d97816a916871ca8d3c208c16d87cfd47,
  0x30644e72e131a029b85045b68181585d2833e84879b9709143e1f593f0000001, 0x73eda753299d7d483339d80809a1d80553bda402fffe5bfeffffffff00000001]
def primes6 : List Nat := [0x1a0111ea397fe69a4b1ba7b6434bacd764774b84f38512bf6730d2a0f6b0f6241eabfffeb153ffffb9feffffffffaaab]

/-- What a walk is not to open. -/
structure H5 where
  lim : Nat → Nat → Int
  mf : Nat → Nat → Nat → Nat
  add : Nat → Nat → Nat → Nat
  sub : Nat → Nat → Nat → Nat
  mul : Nat → Nat → Nat → Nat
  mod : Nat → Nat → Nat
  lt : Nat → Nat → Bool
  minv : Nat → Nat
  fast4 : Nat → Nat
  fast6 : Nat → Nat
  pow : Nat → Nat → Nat → Nat
def H5.real : H5 where
  lim := limR
  mf := fun b m a => a * 2 ^ b % m
  add := fun m a b => (a + b) % m
  sub := fun m a b => (a + m - b) % m
  mul := fun m a b => a * b % m
  mod := fun m a => a % m
  lt := fun a b => decide (a < b)
  minv := minvR
  fast4 := fun m => if m ∈ primes4 then 1 else 0
  fast6 := fun m => if m ∈ primes6 then 1 else 0
  pow := fun m a e => a ^ e % m

theorem newton_ok {m : Nat} (hm : m % 2 = 1) : ∀ k, k ≤ 6 → m * newton m k % 2 ^ (2 ^ k) = 1 := by
  intro k
  induction k with
  | zero => intro _; simp [newton, hm]
  | succ k ih =>
    intro hk
    have ih := ih (by omega)
    obtain ⟨x, hx⟩ : ∃ x, x = newton m k := ⟨_, rfl⟩
    rw [← hx] at ih
    have hd : 2 ^ (2 ^ (k + 1)) ∣ 18446744073709551616 := Nat.pow_dvd_pow 2 (show 2 ^ (k + 1) ≤ 64 from Nat.pow_le_pow_right (n := 2) (by omega) (show k + 1 ≤ 6 by omega))
    have he : newton m (k + 1) = x * ((18446744073709551616 + 2 - m * x % 18446744073709551616) % 18446744073709551616) % 18446744073709551616 := by rw [newton, ← hx]
    rw [he, Nat.mul_mod, Nat.mod_mod_of_dvd _ hd, ← Nat.mul_mod, ← Nat.mul_assoc, Nat.mul_mod, Nat.mod_mod_of_dvd _ hd, ← Nat.mul_mod]
    -- y (2 - y) = 1 - (y - 1)^2
    obtain ⟨y, hy⟩ : ∃ y, y = m * x := ⟨_, rfl⟩
    rw [← hy] at ih ⊢
    obtain ⟨q, hq⟩ : ∃ q, q = y / 2 ^ 2 ^ k := ⟨_, rfl⟩
    have hyq : y = 2 ^ 2 ^ k * q + 1 := by rw [hq, ← ih]; exact (Nat.div_add_mod y _).symm
    obtain ⟨r, hr⟩ : ∃ r, r = y / 18446744073709551616 := ⟨_, rfl⟩
    have hyr : y % 18446744073709551616 + 18446744073709551616 * r = y := by rw [hr]; exact Nat.mod_add_div y _
    have hlt : y % 18446744073709551616 < 18446744073709551616 := Nat.mod_lt _ (by omega)
    have hs : y * (18446744073709551616 + 2 - y % 18446744073709551616) + (2 ^ 2 ^ k * q) * (2 ^ 2 ^ k * q) = 1 + 18446744073709551616 * (y * (1 + r)) := by
      have h1 : y * (18446744073709551616 + 2 - y % 18446744073709551616) + y * y = y * 2 + 18446744073709551616 * (y * (1 + r)) := by
        rw [← Nat.mul_add, show 18446744073709551616 + 2 - y % 18446744073709551616 + y = 2 + 18446744073709551616 * (1 + r) by omega, Nat.mul_add, Nat.mul_left_comm]
      have h2 : y * y = (2 ^ 2 ^ k * q) * (2 ^ 2 ^ k * q) + 2 * (2 ^ 2 ^ k * q) + 1 := by
        rw [hyq, Nat.mul_add, Nat.add_mul]; omega
      omega
    have hp : 2 ^ 2 ^ (k + 1) = 2 ^ 2 ^ k * 2 ^ 2 ^ k := by rw [← Nat.pow_add]; congr 1; omega
    have hd2 : 2 ^ 2 ^ (k + 1) ∣ (2 ^ 2 ^ k * q) * (2 ^ 2 ^ k * q) := by
      rw [hp, show (2 ^ 2 ^ k * q) * (2 ^ 2 ^ k * q) = 2 ^ 2 ^ k * 2 ^ 2 ^ k * (q * q) by simp only [Nat.mul_assoc, Nat.mul_left_comm, Nat.mul_comm]]
      exact Nat.dvd_mul_right _ _
    have hd3 : 2 ^ 2 ^ (k + 1) ∣ 18446744073709551616 * (y * (1 + r)) := Nat.dvd_trans hd (Nat.dvd_mul_right _ _)
    have h1 : 1 < 2 ^ 2 ^ (k + 1) := Nat.one_lt_two_pow (by have := Nat.two_pow_pos (k + 1); omega)
    obtain ⟨u, hu⟩ := hd2
    obtain ⟨v, hv⟩ := hd3
    rw [hu, hv] at hs
    have : (y * (18446744073709551616 + 2 - y % 18446744073709551616) + 2 ^ 2 ^ (k + 1) * u) % 2 ^ 2 ^ (k + 1) = (1 + 2 ^ 2 ^ (k + 1) * v) % 2 ^ 2 ^ (k + 1) := by rw [hs]
    rw [Nat.add_mul_mod_self_left, Nat.add_mul_mod_self_left, Nat.mod_eq_of_lt h1] at this
    exact this
theorem minv_ok {m : Nat} (hm : m % 2 = 1) : (m * minvR m + 1) % 18446744073709551616 = 0 := by
  have h := newton_ok hm 6 (by omega)
  have hb : newton m 6 < 18446744073709551616 := Nat.mod_lt _ (by omega)
  have h0 : newton m 6 ≠ 0 := by intro e; rw [e] at h; simp at h
  unfold minvR
  rw [Nat.mod_eq_of_lt (a := 18446744073709551616 - newton m 6) (by omega), Nat.mul_sub]
  have hle : m * newton m 6 ≤ m * 18446744073709551616 := Nat.mul_le_mul_left _ (by omega)
  have h2 : m * newton m 6 % 18446744073709551616 = 1 := h
  omega
theorem minv_lt (m : Nat) : minvR m < 18446744073709551616 := Nat.mod_lt _ (by omega)
theorem minv_lim {lim : Lim} (hl : lim = limR) {m : Nat} (hm : m % 2 = 1) : (lim m 0 * (minvR m : Int) + 1) % 18446744073709551616 = 0 := by
  have h := minv_ok hm
  rw [lim_mod hl]
  have : ((m % 18446744073709551616 * minvR m + 1) % 18446744073709551616 : Nat) = 0 := by
    rw [Nat.add_mod, Nat.mul_mod, Nat.mod_mod, ← Nat.mul_mod, ← Nat.add_mod]; exact h
  have h2 : (((m % 18446744073709551616 * minvR m + 1) % 18446744073709551616 : Nat) : Int) = 0 := by rw [this]; rfl
  rw [Int.natCast_emod, Int.natCast_add, Int.natCast_mul] at h2
  exact h2

/-- A ring that reckons modulo m. -/
structure Mod (b m : Nat) : Prop where
  lt : m < 2 ^ b
  odd : m % 2 = 1
  one : 1 < m
theorem Mod.pos {b m : Nat} (h : Mod b m) : 0 < m := Nat.lt_trans Nat.zero_lt_one h.one
theorem mf_lt {b m a : Nat} (h : 0 < m) : a * 2 ^ b % m < m := Nat.mod_lt _ h
theorem mf_mul (b m a c : Nat) : a * c % m * 2 ^ b % m * 2 ^ b % m = a * 2 ^ b % m * (c * 2 ^ b % m) % m := by
  simp only [Nat.mul_mod, Nat.mod_mod]
  simp only [← Nat.mul_mod]
  congr 1
  simp only [Nat.mul_assoc, Nat.mul_left_comm, Nat.mul_comm]
theorem mf_add (b m a c : Nat) : (a * 2 ^ b % m + c * 2 ^ b % m) % m = (a + c) % m * 2 ^ b % m := by
  rw [← Nat.add_mod, ← Nat.add_mul, Nat.mod_mul_mod]
theorem mf_sub {b m a c : Nat} (hm : 0 < m) (hc : c < m) : (a * 2 ^ b % m + m - c * 2 ^ b % m) % m = (a + m - c) % m * 2 ^ b % m := by
  have h1 : c * 2 ^ b % m < m := Nat.mod_lt _ hm
  have key : ((a * 2 ^ b % m + m - c * 2 ^ b % m) + c * 2 ^ b % m) % m = ((a + m - c) % m * 2 ^ b % m + c * 2 ^ b % m) % m := by
    rw [mf_add, Nat.sub_add_cancel (by omega), Nat.add_mod_right, Nat.mod_mod, Nat.mod_add_mod, Nat.sub_add_cancel (by omega), Nat.add_mod_right, Nat.mod_mul_mod]
  have h2 : (a * 2 ^ b % m + m - c * 2 ^ b % m) % m < m := Nat.mod_lt _ hm
  have h3 : (a + m - c) % m * 2 ^ b % m < m := Nat.mod_lt _ hm
  generalize (a + m - c) % m * 2 ^ b % m = y at *
  generalize c * 2 ^ b % m = z at *
  generalize a * 2 ^ b % m + m - z = x at *
  rw [Nat.add_mod, Nat.mod_eq_of_lt h1] at key
  generalize x % m = x at *
  by_cases h4 : x + z < m
  · by_cases h5 : y + z < m
    · rw [Nat.mod_eq_of_lt h4, Nat.mod_eq_of_lt h5] at key; omega
    · rw [Nat.mod_eq_of_lt h4, Nat.mod_eq_sub_mod (by omega), Nat.mod_eq_of_lt (by omega)] at key; omega
  · by_cases h5 : y + z < m
    · rw [Nat.mod_eq_of_lt h5, Nat.mod_eq_sub_mod (by omega), Nat.mod_eq_of_lt (by omega)] at key; omega
    · rw [Nat.mod_eq_sub_mod (by omega), Nat.mod_eq_of_lt (by omega), Nat.mod_eq_sub_mod (a := y + z) (by omega), Nat.mod_eq_of_lt (by omega)] at key; omega
theorem H5.hlim {H : H5} (hH : H = H5.real) : H.lim = limR := by rw [hH]; rfl
/-- An element, a ring. -/
def el4 (H : H5) (m a : Nat) : AVal := u4 H.lim (H.mf 256 m a)
def R4 (H : H5) (m : Nat) : List AVal := ring4 H.lim m (H.minv m) (H.fast4 m) (H.mf 256 m 1) (H.mf (2 * 256) m 1)
theorem mulS4 {lim : Lim} (hl : lim = limR) {m inv : Nat} (hR : Mod 256 m) (hi : inv = minvR m) (fast one two a b r : Nat) (ha : a < 2 ^ 256) (hb : b < 2 ^ 256) (hab : a < m ∨ b < m) (hr : r < m) (hrr : r * 2 ^ 256 % m = a * b % m) :
    Sp 104 [.ref (ring4 lim m inv fast one two) 0, u4 lim a, u4 lim b] (u4 lim r) := by
  obtain ⟨d, hd⟩ := mont4S hl m inv fast one two a b r ha hb hR.lt (hi ▸ minv_lim hl hR.odd) (hi ▸ minv_lt m) hR.odd hab hr hrr
  refine mk Tryz.func104 rfl rfl L0 R0 (by decide +kernel) fun A S hA hS => ?_
  unfold bodyOf Tryz.f104
  cbv
  refine AMut.mk _ _ (cm hS hd) ?_
  cbv
theorem isS4 {H : H5} (m : Nat) : Sp 99 [.ref (R4 H m) 0] (.b true) := by
  refine mk Tryz.func99 rfl rfl L0 R0 (by decide +kernel) fun A S hA hS => ?_
  unfold bodyOf Tryz.f99
  cbv
theorem mulE4 {H : H5} (hH : H = H5.real) {m a b : Nat} (hR : Mod 256 m) : Sp 104 [.ref (R4 H m) 0, el4 H m a, el4 H m b] (el4 H m (H.mul m a b)) := by
  have h1 : H.mf 256 m a < m := by rw [hH]; exact mf_lt hR.pos
  have h2 : H.mf 256 m b < m := by rw [hH]; exact mf_lt hR.pos
  exact mulS4 (H5.hlim hH) hR (by rw [hH]; rfl) _ _ _ _ _ _ (Nat.lt_trans h1 hR.lt) (Nat.lt_trans h2 hR.lt) (.inl h1) (by rw [hH]; exact mf_lt hR.pos) (by rw [hH]; exact mf_mul 256 m a b)
theorem addS4 {lim : Lim} (hl : lim = limR) {m inv : Nat} (hR : Mod 256 m) (fast one two a b r : Nat) (ha : a < m) (hb : b < m) (hr : r = (a + b) % m) :
    Sp 128 [.ref (ring4 lim m inv fast one two) 0, u4 lim a, u4 lim b] (u4 lim r) := by
  have hm := hR.lt
  obtain ⟨s, hs⟩ : ∃ s, s = (a + b) % 2 ^ 256 := ⟨_, rfl⟩
  obtain ⟨c, hc⟩ : ∃ s, s = (a + b) / 2 ^ 256 := ⟨_, rfl⟩
  obtain ⟨d, hd⟩ : ∃ d, d = if s < m then s + 2 ^ 256 - m else s - m := ⟨_, rfl⟩
  obtain ⟨k, h1, h2, h3⟩ := less_dif (a := s) (b := m) (n := 2 ^ 256) (by omega) hm (decide (s < m)) rfl hd
  have hc2 : c = 0 ∨ c = 1 := by omega
  have hcase : (c = 1 ∧ r = d) ∨ (c = 0 ∧ k = 0 ∧ r = d) ∨ (c = 0 ∧ k = 1 ∧ r = s) := by
    have hab : (a + b) % m = if a + b < m then a + b else a + b - m := by
      split
      · exact Nat.mod_eq_of_lt (by omega)
      · rw [Nat.mod_eq_sub_mod (by omega)]; exact Nat.mod_eq_of_lt (by omega)
    rw [hab] at hr
    by_cases hlt : s < m
    · simp [hlt] at h3
      split at hr <;> omega
    · simp [hlt] at h3
      split at hr <;> omega
  have hp := plus4 hl a b s c (by omega) (by omega) (by omega) (by omega)
  have hq := minus4 hl s m d k (by omega) hm h1 h2
  refine mk Tryz.func128 rfl rfl L0 R1 (by decide +kernel) fun A S hA hS => ?_
  unfold bodyOf Tryz.f128
  cbv
  refine ACall.mk (.tup [u4 lim s, .s .u64 c]) (cf hS hp) ?_
  cbv
  refine ACall.mk (.tup [u4 lim d, .s .u64 k]) (cf hS hq) ?_
  cbv
  rcases hcase with ⟨rfl, rfl⟩ | ⟨rfl, rfl, rfl⟩ | ⟨rfl, rfl, rfl⟩
  all_goals repeat (first | (refine ABr.t (cmp_lit hA rfl) ?_; cbv) | (refine ABr.f (cmp_lit hA rfl) ?_; cbv))
theorem addE4 {H : H5} (hH : H = H5.real) {m a b : Nat} (hR : Mod 256 m) : Sp 128 [.ref (R4 H m) 0, el4 H m a, el4 H m b] (el4 H m (H.add m a b)) :=
  addS4 (H5.hlim hH) hR _ _ _ _ _ _ (by rw [hH]; exact mf_lt hR.pos) (by rw [hH]; exact mf_lt hR.pos) (by rw [hH]; exact (mf_add 256 m a b).symm)
theorem rlessS4 {lim : Lim} (hl : lim = limR) {m inv : Nat} (hR : Mod 256 m) (fast one two a b r : Nat) (ha : a < m) (hb : b < m) (hr : r = (a + m - b) % m) :
    Sp 141 [.ref (ring4 lim m inv fast one two) 0, u4 lim a, u4 lim b] (u4 lim r) := by
  have hm := hR.lt
  obtain ⟨d, hd⟩ : ∃ d, d = if a < b then a + 2 ^ 256 - b else a - b := ⟨_, rfl⟩
  obtain ⟨k, h1, h2, h3⟩ := less_dif (a := a) (b := b) (n := 2 ^ 256) (by omega) (by omega) (decide (a < b)) rfl hd
  have hq := minus4 hl a b d k (by omega) (by omega) h1 h2
  have hab : (a + m - b) % m = if a < b then a + m - b else a - b := by
    split
    · exact Nat.mod_eq_of_lt (by omega)
    · rw [Nat.mod_eq_sub_mod (by omega)]; exact (Nat.mod_eq_of_lt (by omega)).trans (by omega)
  rw [hab] at hr
  refine mk Tryz.func141 rfl rfl L0 R1 (by decide +kernel) fun A S hA hS => ?_
  unfold bodyOf Tryz.f141
  cbv
  refine ACall.mk (.tup [u4 lim d, .s .u64 k]) (cf hS hq) ?_
  cbv
  by_cases hlt : a < b
  · simp [hlt] at h3
    subst h3
    refine ABr.t (cmp_lit hA rfl) ?_
    cbv
    refine ACall.mk (.tup [u4 lim r, .s .u64 (1 : Nat)]) (cf hS (plus4 hl d m r 1 h2 hm (by rw [if_pos hlt] at hr hd; omega) (by rw [if_pos hlt] at hr; omega))) ?_
    cbv
  · simp [hlt] at h3
    subst h3
    rw [if_neg hlt] at hr hd
    obtain rfl : r = d := hr.trans hd.symm
    refine ABr.f (cmp_lit hA rfl) ?_
    cbv
theorem rlessE4 {H : H5} (hH : H = H5.real) {m a b : Nat} (hR : Mod 256 m) (hb : b < m) : Sp 141 [.ref (R4 H m) 0, el4 H m a, el4 H m b] (el4 H m (H.sub m a b)) :=
  rlessS4 (H5.hlim hH) hR _ _ _ _ _ _ (by rw [hH]; exact mf_lt hR.pos) (by rw [hH]; exact mf_lt hR.pos) (by rw [hH]; exact (mf_sub hR.pos hb).symm)
/-- What is of no ring. -/
def z4 (H : H5) : AVal := u4 H.lim 0
theorem zS4 {H : H5} (hH : H = H5.real) : Sp 100 [] (z4 H) := Spec.res none4S (by rw [hH]; exact ⟨rfl, rfl, rfl, rfl⟩)
theorem MulS4 {H : H5} (hH : H = H5.real) {m a b : Nat} (hR : Mod 256 m) : Sp 57 [.ref (R4 H m) 0, el4 H m a, el4 H m b] (el4 H m (H.mul m a b)) := by
  refine mk Tryz.func57 rfl rfl L0 R1 (by decide +kernel) fun A S hA hS => ?_
  unfold bodyOf Tryz.f57
  cbv
  refine ACall.mk _ (cf hS (isS4 (H := H) m)) ?_
  cbv
  refine ACall.mk _ (cf hS (mulE4 hH hR (a := a) (b := b))) ?_
  cbv
theorem AddS4 {H : H5} (hH : H = H5.real) {m a b : Nat} (hR : Mod 256 m) : Sp 90 [.ref (R4 H m) 0, el4 H m a, el4 H m b] (el4 H m (H.add m a b)) := by
  refine mk Tryz.func90 rfl rfl L0 R1 (by decide +kernel) fun A S hA hS => ?_
  unfold bodyOf Tryz.f90
  cbv
  refine ACall.mk _ (cf hS (isS4 (H := H) m)) ?_
  cbv
  refine ACall.mk _ (cf hS (addE4 hH hR (a := a) (b := b))) ?_
  cbv
theorem SubS4 {H : H5} (hH : H = H5.real) {m a b : Nat} (hR : Mod 256 m) (hb : b < m) : Sp 108 [.ref (R4 H m) 0, el4 H m a, el4 H m b] (el4 H m (H.sub m a b)) := by
  refine mk Tryz.func108 rfl rfl L0 R1 (by decide +kernel) fun A S hA hS => ?_
  unfold bodyOf Tryz.f108
  cbv
  refine ACall.mk _ (cf hS (isS4 (H := H) m)) ?_
  cbv
  refine ACall.mk _ (cf hS (rlessE4 hH hR hb (a := a) (b := b))) ?_
  cbv
theorem NegS4 {H : H5} (hH : H = H5.real) {m b : Nat} (hR : Mod 256 m) (hb : b < m) : Sp 89 [.ref (R4 H m) 0, el4 H m b] (el4 H m (H.sub m 0 b)) := by
  have hz : z4 H = el4 H m 0 := by rw [hH]; unfold z4 el4 H5.real; simp
  refine mk Tryz.func89 rfl rfl L0 R1 (by decide +kernel) fun A S hA hS => ?_
  unfold bodyOf Tryz.f89
  cbv
  refine ACall.mk (el4 H m 0) (cf hS (hz ▸ zS4 hH)) ?_
  cbv
  refine ACall.mk _ (cf hS (SubS4 hH hR hb (a := 0) (b := b))) ?_
  cbv
theorem InS4 {H : H5} (hH : H = H5.real) {m a : Nat} (hR : Mod 256 m) (ha : a < 2 ^ 256) : Sp 52 [.ref (R4 H m) 0, u4 H.lim a] (el4 H m (H.mod m a)) := by
  have h2 : H.mf (2 * 256) m 1 < m := by rw [hH]; exact mf_lt hR.pos
  have hm := mulS4 (H5.hlim hH) hR (inv := H.minv m) (by rw [hH]; rfl) (H.fast4 m) (H.mf 256 m 1) (H.mf (2 * 256) m 1) a (H.mf (2 * 256) m 1) (H.mf 256 m (H.mod m a)) ha (Nat.lt_trans h2 hR.lt) (.inr h2)
    (by rw [hH]; exact mf_lt hR.pos) (by
      rw [hH]
      show a % m * 2 ^ 256 % m * 2 ^ 256 % m = a * (1 * 2 ^ (2 * 256) % m) % m
      rw [Nat.mod_mul_mod, Nat.mul_mod_mod, Nat.one_mul, Nat.mul_assoc, Nat.mod_mul_mod, ← Nat.pow_add])
  refine mk Tryz.func52 rfl rfl L0 R1 (by decide +kernel) fun A S hA hS => ?_
  unfold bodyOf Tryz.f52
  cbv
  refine ACall.mk _ (cf hS (isS4 (H := H) m)) ?_
  cbv
  refine ACall.mk _ (cf hS hm) ?_
  cbv
theorem OutS4 {H : H5} (hH : H = H5.real) {m a : Nat} (hR : Mod 256 m) (ha : a < m) : Sp 53 [.ref (R4 H m) 0, el4 H m a] (u4 H.lim a) := by
  have h2 : H.mf 256 m a < m := by rw [hH]; exact mf_lt hR.pos
  have h1 := hR.one
  have hlt := hR.lt
  have hm := mulS4 (H5.hlim hH) hR (inv := H.minv m) (by rw [hH]; rfl) (H.fast4 m) (H.mf 256 m 1) (H.mf (2 * 256) m 1) (H.mf 256 m a) 1 a (Nat.lt_trans h2 hR.lt) (by omega) (.inl h2) ha (by
      rw [hH]
      show a * 2 ^ 256 % m = a * 2 ^ 256 % m * 1 % m
      rw [Nat.mul_one, Nat.mod_mod])
  have hone : u4 H.lim 1 = .agg [.s .u64 1, .s .u64 0, .s .u64 0, .s .u64 0] := by rw [hH]; rfl
  refine mk Tryz.func53 rfl rfl L0 R1 (by decide +kernel) fun A S hA hS => ?_
  unfold bodyOf Tryz.f53
  cbv
  refine ACall.mk _ (cf hS (isS4 (H := H) m)) ?_
  cbv
  refine ACall.mk _ (cg hS hm (by rw [hone]; cbv)) ?_
  cbv
end Go.Proofs.YtkhipnhdbaahcaaGreat
end
section
set_option linter.unusedVariables false
set_option linter.unusedSimpArgs false
namespace Go.Proofs.YtkhipnhdbaahcaaGreat
open Go Eng
set_option maxRecDepth 100000
set_option exponentiation.threshold 2000

abbrev secpP : Nat := 0xfffffffffffffffffffffffffffffffffffffffffffffffffffffffefffffc2f
abbrev secpN : Nat := 0xfffffffffffffffffffffffffffffffebaaedce6af48a03bbfd25e8cd0364141
abbrev bnP : Nat := 0x30644e72e131a029b85045b68181585d97816a916871ca8d3c208c16d87cfd47
abbrev bnR : Nat := 0x30644e72e131a029b85045b68181585d2833e84879b9709143e1f593f0000001
abbrev blsR : Nat := 0x73eda753299d7d483339d80809a1d80553bda402fffe5bfeffffffff00000001
theorem leafEq_s (k : IntKind) (a b : Int) : leafEq (.s k a, .s k b) = decide (a = b) := by
  show (a == b) = _
  by_cases h : a = b <;> simp [h]
theorem eqs_real {A : Ar} (hA : A = Ar.real) (l : List (AVal × AVal)) : A.eqs l = l.all leafEq := by rw [hA]; rfl
theorem eqs4 {A : Ar} (hA : A = Ar.real) {lim : Lim} (hl : lim = limR) (a b : Nat) (ha : a < 2 ^ 256) (hb : b < 2 ^ 256) : A.eqs [(.s .u64 (lim a 0), .s .u64 (lim b 0)), (.s .u64 (lim a 1), .s .u64 (lim b 1)), (.s .u64 (lim a 2), .s .u64 (lim b 2)), (.s .u64 (lim a 3), .s .u64 (lim b 3))] = decide (a = b) := by
  rw [eqs_real hA]
  simp only [List.all_cons, List.all_nil, leafEq_s, Bool.and_true]
  by_cases h : a = b
  · subst h; simp
  · rw [decide_eq_false h]
    refine Bool.eq_false_iff.2 fun h' => h (lim_inj4 hl ha hb ?_)
    simpa using h'
theorem wordsS4 {H : H5} (a : Nat) : Sp 102 [u4 H.lim a] (.new false 4 1 [.s .u64 (H.lim a 0), .s .u64 (H.lim a 1), .s .u64 (H.lim a 2), .s .u64 (H.lim a 3)]) := by
  refine mk Tryz.func102 rfl rfl L0 R0 (by decide +kernel) fun A S hA hS => ?_
  unfold bodyOf Tryz.f102
  cbv
theorem SecpPS {H : H5} (hH : H = H5.real) : Sp 48 [] (u4 H.lim secpP) := by
  refine mk Tryz.func48 rfl rfl L0 R1 (by decide +kernel) fun A S hA hS => ?_
  unfold bodyOf Tryz.f48
  cbv
  rw [hH]
  exact ⟨rfl, rfl, rfl, rfl⟩
theorem SecpNS {H : H5} (hH : H = H5.real) : Sp 80 [] (u4 H.lim secpN) := by
  refine mk Tryz.func80 rfl rfl L0 R1 (by decide +kernel) fun A S hA hS => ?_
  unfold bodyOf Tryz.f80
  cbv
  rw [hH]
  exact ⟨rfl, rfl, rfl, rfl⟩
theorem BnPS {H : H5} (hH : H = H5.real) : Sp 154 [] (u4 H.lim bnP) := by
  refine mk Tryz.func154 rfl rfl L0 R1 (by decide +kernel) fun A S hA hS => ?_
  unfold bodyOf Tryz.f154
  cbv
  rw [hH]
  exact ⟨rfl, rfl, rfl, rfl⟩
theorem BnRS {H : H5} (hH : H = H5.real) : Sp 155 [] (u4 H.lim bnR) := by
  refine mk Tryz.func155 rfl rfl L0 R1 (by decide +kernel) fun A S hA hS => ?_
  unfold bodyOf Tryz.f155
  cbv
  rw [hH]
  exact ⟨rfl, rfl, rfl, rfl⟩
theorem BlsRS {H : H5} (hH : H = H5.real) : Sp 156 [] (u4 H.lim blsR) := by
  refine mk Tryz.func156 rfl rfl L0 R1 (by decide +kernel) fun A S hA hS => ?_
  unfold bodyOf Tryz.f156
  cbv
  rw [hH]
  exact ⟨rfl, rfl, rfl, rfl⟩
theorem prime4S {H : H5} (hH : H = H5.real) (m : Nat) (hm : m < 2 ^ 256) : Sp 133 [u4 H.lim m] (.s .i64 (H.fast4 m)) := by
  refine mk Tryz.func133 rfl rfl L0 R1 (by decide +kernel) fun A S hA hS => ?_
  unfold bodyOf Tryz.f133
  cbv
  refine ACall.mk _ (cf hS (SecpPS hH)) ?_
  cbv
  by_cases hsecpP : m = secpP
  · have e := (eqs4 hA (H5.hlim hH) m secpP hm (by decide)).trans (decide_eq_true hsecpP)
    repeat (first | (refine ABr.f (by assumption) ?_; cbv) | (refine ABr.t (by assumption) ?_; cbv))
    rw [hH, hsecpP]
    decide
  have esecpP := (eqs4 hA (H5.hlim hH) m secpP hm (by decide)).trans (decide_eq_false hsecpP)
  repeat (refine ABr.f (by assumption) ?_; cbv)
  refine ACall.mk _ (cf hS (SecpNS hH)) ?_
  cbv
  by_cases hsecpN : m = secpN
  · have e := (eqs4 hA (H5.hlim hH) m secpN hm (by decide)).trans (decide_eq_true hsecpN)
    repeat (first | (refine ABr.f (by assumption) ?_; cbv) | (refine ABr.t (by assumption) ?_; cbv))
    rw [hH, hsecpN]
    decide
  have esecpN := (eqs4 hA (H5.hlim hH) m secpN hm (by decide)).trans (decide_eq_false hsecpN)
  repeat (refine ABr.f (by assumption) ?_; cbv)
  refine ACall.mk _ (cf hS (BnPS hH)) ?_
  cbv
  by_cases hbnP : m = bnP
  · have e := (eqs4 hA (H5.hlim hH) m bnP hm (by decide)).trans (decide_eq_true hbnP)
    repeat (first | (refine ABr.f (by assumption) ?_; cbv) | (refine ABr.t (by assumption) ?_; cbv))
    rw [hH, hbnP]
    decide
  have ebnP := (eqs4 hA (H5.hlim hH) m bnP hm (by decide)).trans (decide_eq_false hbnP)
  repeat (refine ABr.f (by assumption) ?_; cbv)
  refine ACall.mk _ (cf hS (BnRS hH)) ?_
  cbv
  by_cases hbnR : m = bnR
  · have e := (eqs4 hA (H5.hlim hH) m bnR hm (by decide)).trans (decide_eq_true hbnR)
    repeat (first | (refine ABr.f (by assumption) ?_; cbv) | (refine ABr.t (by assumption) ?_; cbv))
    rw [hH, hbnR]
    decide
  have ebnR := (eqs4 hA (H5.hlim hH) m bnR hm (by decide)).trans (decide_eq_false hbnR)
  repeat (refine ABr.f (by assumption) ?_; cbv)
  refine ACall.mk _ (cf hS (BlsRS hH)) ?_
  cbv
  by_cases hblsR : m = blsR
  · have e := (eqs4 hA (H5.hlim hH) m blsR hm (by decide)).trans (decide_eq_true hblsR)
    repeat (first | (refine ABr.f (by assumption) ?_; cbv) | (refine ABr.t (by assumption) ?_; cbv))
    rw [hH, hblsR]
    decide
  have eblsR := (eqs4 hA (H5.hlim hH) m blsR hm (by decide)).trans (decide_eq_false hblsR)
  repeat (refine ABr.f (by assumption) ?_; cbv)
  rw [hH]
  show (0 : Int) = ((if m ∈ primes4 then 1 else 0 : Nat) : Int)
  rw [if_neg (by simp only [primes4, List.mem_cons, List.not_mem_nil, or_false, not_or]; exact ⟨hsecpP, hsecpN, hbnP, hbnR, hblsR⟩)]
  rfl
end Go.Proofs.YtkhipnhdbaahcaaGreat
end
section
set_option linter.unusedVariables false
set_option linter.unusedSimpArgs false
namespace Go.Proofs.YtkhipnhdbaahcaaGreat
open Go Eng
set_option maxRecDepth 100000
set_option exponentiation.threshold 2000

theorem limR_half (n i : Nat) : limR (n / 2) i = limR n i / 2 + 9223372036854775808 * (limR n (i + 1) % 2) := by
  unfold limR
  obtain ⟨q, hq⟩ : ∃ q, q = n / 2 ^ (64 * i) := ⟨_, rfl⟩
  have h1 : n / 2 / 2 ^ (64 * i) = q / 2 := by rw [hq, Nat.div_div_eq_div_mul, Nat.mul_comm 2, ← Nat.div_div_eq_div_mul]
  have h2 : n / 2 ^ (64 * (i + 1)) = q / 18446744073709551616 := by rw [hq, Nat.div_div_eq_div_mul, show (18446744073709551616 : Nat) = 2 ^ 64 from rfl, ← Nat.pow_add]; rfl
  rw [h1, h2, ← hq]
  omega
/-- A word's half, and the bit above. -/
theorem half_word {A : Ar} (hA : A = Ar.real) {x y : Int} (hx : 0 ≤ x ∧ x < 18446744073709551616) (hy : 0 ≤ y ∧ y < 18446744073709551616) : A.bin .or .u64 (A.bin .shr .u64 x 1) (A.bin .shl .u64 (A.bin .and .u64 y 1) 63) = x / 2 + 9223372036854775808 * (y % 2) := by
  obtain ⟨a, rfl⟩ : ∃ n : Nat, x = n := ⟨x.toNat, by omega⟩
  obtain ⟨b, rfl⟩ : ∃ n : Nat, y = n := ⟨y.toNat, by omega⟩
  rw [hA]
  show rbin .or .u64 (rbin .shr .u64 (Int.ofNat a) (Int.ofNat 1)) (rbin .shl .u64 (rbin .and .u64 (Int.ofNat b) (Int.ofNat 1)) (Int.ofNat 63)) = _
  rw [u_shr a 1 (by omega), show (Int.ofNat 1) = Int.ofNat (2 ^ 1 - 1) from rfl, u_mask b 1 (by omega) (by omega), u_shl _ 63 (by omega), Nat.mod_eq_of_lt (by omega), Nat.mul_comm (b % 2 ^ 1), u_or_add _ _ 63 (by omega) (by omega) (by omega)]
  show ((a / 2 ^ 1 + 2 ^ 63 * (b % 2 ^ 1) : Nat) : Int) = _
  omega
theorem half_top {A : Ar} (hA : A = Ar.real) {x y : Int} (hx : 0 ≤ x ∧ x < 18446744073709551616) (hy : y = 0 ∨ y = 1) : A.bin .or .u64 (A.bin .shr .u64 x 1) (A.bin .shl .u64 y 63) = x / 2 + 9223372036854775808 * y := by
  obtain ⟨a, rfl⟩ : ∃ n : Nat, x = n := ⟨x.toNat, by omega⟩
  obtain ⟨b, rfl⟩ : ∃ n : Nat, y = n := ⟨y.toNat, by omega⟩
  rw [hA]
  show rbin .or .u64 (rbin .shr .u64 (Int.ofNat a) (Int.ofNat 1)) (rbin .shl .u64 (Int.ofNat b) (Int.ofNat 63)) = _
  rw [u_shr a 1 (by omega), u_shl _ 63 (by omega), Nat.mod_eq_of_lt (by omega), Nat.mul_comm b, u_or_add _ _ 63 (by omega) (by omega) (by omega)]
  show ((a / 2 ^ 1 + 2 ^ 63 * b : Nat) : Int) = _
  omega
/-- Half of a number modulo m. -/
def hv (m a : Nat) : Nat := if a % 2 = 0 then a / 2 else (a + m) / 2
theorem half_lim4 {lim : Lim} (hl : lim = limR) {a top : Nat} (ha : a < 2 ^ 256) (ht : top ≤ 1) :
    lim a 0 / 2 + 9223372036854775808 * (lim a 1 % 2) = lim ((a + 2 ^ 256 * top) / 2) 0 ∧ lim a 1 / 2 + 9223372036854775808 * (lim a 2 % 2) = lim ((a + 2 ^ 256 * top) / 2) 1 ∧ lim a 2 / 2 + 9223372036854775808 * (lim a 3 % 2) = lim ((a + 2 ^ 256 * top) / 2) 2 ∧ lim a (4 - 1) / 2 + 9223372036854775808 * (top : Int) = lim ((a + 2 ^ 256 * top) / 2) (4 - 1) := by
  subst hl
  have e : ∀ i, i < 4 → limR (a + 2 ^ 256 * top) i = limR a i := by
    intro i hi
    unfold limR
    congr 1
    rw [show 2 ^ 256 * top = 2 ^ (64 * i) * (2 ^ 64 * (2 ^ (256 - 64 * i - 64) * top)) by
      rw [← Nat.mul_assoc, ← Nat.mul_assoc, ← Nat.pow_add, ← Nat.pow_add]; congr 2; omega]
    rw [Nat.add_mul_div_left _ _ (Nat.two_pow_pos _), Nat.add_mul_mod_self_left]
  have e4 : limR (a + 2 ^ 256 * top) 4 = (top : Int) := by
    unfold limR
    congr 1
    show (a + 2 ^ 256 * top) / 2 ^ 256 % 2 ^ 64 = top
    rw [Nat.add_mul_div_left _ _ (Nat.two_pow_pos _), Nat.div_eq_of_lt ha]
    omega
  have et : (top : Int) % 2 = top := by omega
  refine ⟨?_, ?_, ?_, ?_⟩
  all_goals rw [limR_half]
  · rw [e 0 (by omega), e 1 (by omega)]
  · rw [e 1 (by omega), e 2 (by omega)]
  · rw [e 2 (by omega), e 3 (by omega)]
  · rw [e (4 - 1) (by omega), e4, et]
theorem halfS4 {lim : Lim} (hl : lim = limR) {a top h : Nat} (ha : a < 2 ^ 256) (ht : top ≤ 1) (hh : h = (a + 2 ^ 256 * top) / 2) : Sp 150 [u4 lim a, .s .u64 top] (u4 lim h) := by
  have la := fun i => lim_range hl a i
  have hf := half_lim4 hl ha ht
  rw [← hh] at hf
  obtain ⟨h0, h1, h2, h3⟩ := hf
  have ht' : (top : Int) = 0 ∨ (top : Int) = 1 := by omega
  refine mk Tryz.func150 rfl rfl L0 R1 (by decide +kernel) fun A S hA hS => ?_
  unfold bodyOf Tryz.f150
  cbv
  exact ⟨(half_word hA (la 0) (la 1)).trans h0, (half_word hA (la 1) (la 2)).trans h1, (half_word hA (la 2) (la 3)).trans h2, (half_top hA (la (4 - 1)) ht').trans h3⟩
theorem even_lim4 {A : Ar} (hA : A = Ar.real) {lim : Lim} (hl : lim = limR) (a : Nat) : A.cmp .eql (A.bin .and .u64 (lim a 0) 1) 0 = decide (a % 2 = 0) := by
  rw [lim_mod hl, hA]
  show rcmp .eql (rbin .and .u64 (Int.ofNat (a % 18446744073709551616)) (Int.ofNat (2 ^ 1 - 1))) 0 = _
  rw [u_mask _ 1 (by omega) (by omega)]
  show ((Int.ofNat (a % 18446744073709551616 % 2 ^ 1)) == (0 : Int)) = _
  by_cases h : a % 2 = 0
  · rw [decide_eq_true h, show a % 18446744073709551616 % 2 ^ 1 = 0 by omega]; rfl
  · rw [decide_eq_false h, show a % 18446744073709551616 % 2 ^ 1 = 1 by omega]; rfl
theorem halvedS4 {lim : Lim} (hl : lim = limR) {m inv : Nat} (hR : Mod 256 m) (fast one two a h : Nat) (ha : a < m) (hh : h = hv m a) :
    Sp 151 [.ref (ring4 lim m inv fast one two) 0, u4 lim a] (u4 lim h) := by
  have hm := hR.lt
  refine mk Tryz.func151 rfl rfl L0 R1 (by decide +kernel) fun A S hA hS => ?_
  unfold bodyOf Tryz.f151
  cbv
  have e := even_lim4 hA hl a
  unfold hv at hh
  by_cases h2 : a % 2 = 0
  · rw [decide_eq_true h2] at e
    rw [if_pos h2] at hh
    refine ABr.t e ?_
    cbv
    refine ACall.mk (u4 lim h) (cg hS (halfS4 hl (a := a) (top := 0) (by omega) (by omega) (by omega)) (by cbv)) ?_
    cbv
  · rw [decide_eq_false h2] at e
    rw [if_neg h2] at hh
    refine ABr.f e ?_
    cbv
    obtain ⟨s, hs⟩ : ∃ s, s = (a + m) % 2 ^ 256 := ⟨_, rfl⟩
    obtain ⟨c, hc⟩ : ∃ s, s = (a + m) / 2 ^ 256 := ⟨_, rfl⟩
    refine ACall.mk (.tup [u4 lim s, .s .u64 c]) (cf hS (plus4 hl a m s c (by omega) (by omega) (by omega) (by omega))) ?_
    cbv
    refine ACall.mk (u4 lim h) (cf hS (halfS4 hl (a := s) (top := c) (by omega) (by omega) (by omega))) ?_
    cbv
end Go.Proofs.YtkhipnhdbaahcaaGreat
end
section
set_option linter.unusedVariables false
set_option linter.unusedSimpArgs false
namespace Go.Proofs.YtkhipnhdbaahcaaGreat
open Go Eng
set_option maxRecDepth 100000
set_option exponentiation.threshold 2000
/-- A contract out of a walk that comes to the very answer. -/
theorem mkE {f : FuncId} {fn : Func} {As : List AVal} {r : AVal} (hf : Tryz.prog.funcs[f]? = some fn) (hb : fn.body = some (bodyOf fn)) (hn : (fn.name == "runtime.NumGoroutine") = false) (Nl : Nat → Nat) (tr : Nat → Md)
    (hok : codeOK tr (bodyOf fn) = true) (h : ∀ (A : Ar) (S : SpecT), A = Ar.real → OkS true S → afun A TT S Nl tr fn.ntmps fn.results (bodyOf fn) As (fun x => x = r)) : Sp f As r :=
  spec_of_afun (P := Tryz.prog) (T := TT) TT.ok TT.mixed (draw_ok (P := Tryz.prog) (T := TT) TT.ok) (Sp := specs Tryz.prog) ⟨fun _ _ _ h => h, fun _ _ _ _ _ h => h, fun _ _ _ _ h => h, fun _ => rfl⟩ rfl hf hb hn (N := Nl) (tr := tr) hok (h Ar.real _ rfl ⟨rfl⟩)
theorem digitsS {row : List AVal} {n : Nat} : Sp 135 [.lst true n row] (.fn (.func 158) [] [.ref [.lst true n row] 0]) := by
  refine mkE Tryz.func135 rfl rfl LN R0 (by decide +kernel) fun A S hA hS => ?_
  unfold bodyOf Tryz.f135
  cbv
theorem bitAt_eq (e n i : Nat) (hi : i < 64 * n) : bitAt (limR e) n i = e / 2 ^ (64 * n - 1 - i) % 2 := by
  unfold bitAt limR
  obtain ⟨k, hk⟩ : ∃ k, k = 64 * n - 1 - i := ⟨_, rfl⟩
  rw [← hk, Int.toNat_natCast]
  obtain ⟨r, hr⟩ : ∃ r, r = k % 64 := ⟨_, rfl⟩
  rw [← hr]
  have hr64 : r < 64 := by omega
  have e1 : k = 64 * (k / 64) + r := by omega
  have e2 : e / 2 ^ k = e / 2 ^ (64 * (k / 64)) / 2 ^ r := by
    rw [Nat.div_div_eq_div_mul, ← Nat.pow_add, ← e1]
  rw [e2]
  generalize e / 2 ^ (64 * (k / 64)) = x
  rw [show (2 : Nat) ^ 64 = 2 ^ r * 2 ^ (64 - r) by rw [← Nat.pow_add]; congr 1; omega, Nat.mod_mul_right_div_self, Nat.mod_mod_of_dvd]
  exact Nat.dvd_trans (by decide) (Nat.pow_dvd_pow 2 (show 1 ≤ 64 - r by omega))
/-- A power, a digit more. -/
theorem pow_step (m a e j : Nat) : a ^ (e / 2 ^ j) % m = if e / 2 ^ j % 2 = 1 then a ^ (e / 2 ^ (j + 1)) % m * (a ^ (e / 2 ^ (j + 1)) % m) % m * a % m else a ^ (e / 2 ^ (j + 1)) % m * (a ^ (e / 2 ^ (j + 1)) % m) % m := by
  have e1 : e / 2 ^ (j + 1) = e / 2 ^ j / 2 := by rw [Nat.pow_succ, Nat.div_div_eq_div_mul]
  rw [e1]
  generalize e / 2 ^ j = x
  have sq : a ^ (x / 2) % m * (a ^ (x / 2) % m) % m = a ^ (2 * (x / 2)) % m := by
    rw [← Nat.mul_mod, ← Nat.pow_add]; congr 2; omega
  rw [sq]
  split
  · rw [Nat.mod_mul_mod, ← Nat.pow_succ]; congr 2; omega
  · congr 2; omega
theorem bit_eq {A : Ar} (hA : A = Ar.real) (t : Nat) : A.cmp .eql (t : Int) 1 = decide (t = 1) := by
  rw [i_eq hA]
  by_cases h : t = 1
  · subst h; rfl
  · rw [decide_eq_false h, decide_eq_false (by omega)]
/-- The memory of Exp. -/
def expH4 (H : H5) (m a x : Nat) : List Blk := [⟨true, true, [.ref (R4 H m) 0]⟩, ⟨true, true, [.s .u64 (H.lim (H.mf 256 m a) 0), .s .u64 (H.lim (H.mf 256 m a) 1), .s .u64 (H.lim (H.mf 256 m a) 2), .s .u64 (H.lim (H.mf 256 m a) 3)]⟩, ⟨true, true, [.i .u64 0, .i .u64 0, .i .u64 0, .i .u64 0]⟩, ⟨true, true, [.s .u64 (H.lim (H.mf 256 m x) 0), .s .u64 (H.lim (H.mf 256 m x) 1), .s .u64 (H.lim (H.mf 256 m x) 2), .s .u64 (H.lim (H.mf 256 m x) 3)]⟩]
theorem ExpS4 {H : H5} (hH : H = H5.real) {m a : Nat} (hR : Mod 256 m) (ha : a < m) {row : List AVal} {e k : Nat} (hrow : IsRow row (limR e) k) (hk : k < 1000) (he : e < 2 ^ (64 * k)) :
    Sp 103 [.ref (R4 H m) 0, el4 H m a, .lst true k row] (el4 H m (H.pow m a e)) := by
  obtain ⟨t, ht⟩ : ∃ t : Nat → Nat, t = bitAt (limR e) k := ⟨_, rfl⟩
  obtain ⟨x, hx⟩ : ∃ x : Nat → Nat, x = fun i => H.pow m a (e / 2 ^ (64 * k - i)) := ⟨_, rfl⟩
  have hx0 : x 0 = 1 := by
    rw [hx, hH]
    show a ^ (e / 2 ^ (64 * k)) % m = 1
    rw [Nat.div_eq_of_lt he, Nat.pow_zero, Nat.mod_eq_of_lt hR.one]
  have hxs : ∀ i, i < 64 * k → x (i + 1) = if t i = 1 then H.mul m (H.mul m (x i) (x i)) a else H.mul m (x i) (x i) := by
    intro i hi
    rw [hx, ht, bitAt_eq e k i hi, hH]
    show a ^ (e / 2 ^ (64 * k - (i + 1))) % m = if e / 2 ^ (64 * k - 1 - i) % 2 = 1 then a ^ (e / 2 ^ (64 * k - i)) % m * (a ^ (e / 2 ^ (64 * k - i)) % m) % m * a % m else a ^ (e / 2 ^ (64 * k - i)) % m * (a ^ (e / 2 ^ (64 * k - i)) % m) % m
    rw [show 64 * k - (i + 1) = 64 * k - 1 - i by omega, show 64 * k - i = 64 * k - 1 - i + 1 by omega]
    exact pow_step m a e _
  have hxe : x (64 * k) = H.pow m a e := by rw [hx]; show H.pow m a (e / 2 ^ (64 * k - 64 * k)) = _; rw [Nat.sub_self, Nat.pow_zero, Nat.div_one]
  have hd := digitsI hrow hk (fun i _ => lim_range rfl e i) (fun i => [.s .u64 (t i : Nat)]) (fun i _ => by rw [ht])
  refine mk Tryz.func103 rfl rfl LN R1 (by decide +kernel) fun A S hA hS => ?_
  unfold bodyOf Tryz.f103
  cbv
  refine ACall.mk _ (cf hS (isS4 (H := H) m)) ?_
  cbv
  refine ACall.mk _ (cf hS digitsS) ?_
  cbv
  refine .mk _ _ (cs hS hd) (fun i _ => rfl) (fun i => expH4 H m a (x i)) ?_ ?_ ?_
  · rw [hx0]; cbv
  · intro i hi
    have hst := hxs i hi
    have hb := bit_eq hA (t i)
    generalize x (i + 1) = y at hst ⊢
    generalize x i = xi at hst ⊢
    generalize t i = ti at hst hb ⊢
    cbv
    refine ACall.mk _ (cf hS (mulE4 hH hR (a := xi) (b := xi))) ?_
    cbv
    by_cases h1 : ti = 1
    · rw [if_pos h1] at hst
      rw [decide_eq_true h1] at hb
      refine ABr.t hb ?_
      cbv
      refine ACall.mk _ (cf hS (mulE4 hH hR (a := H.mul m xi xi) (b := a))) ?_
      rw [hst]
      cbv
    · rw [if_neg h1] at hst
      rw [decide_eq_false h1] at hb
      rw [hst]
      refine ABr.f hb ?_
      cbv
  · rw [hxe]
    cbv
end Go.Proofs.YtkhipnhdbaahcaaGreat
end
