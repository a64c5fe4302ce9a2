import Derived.Test.YtmholgclgamnnaaGreatQXF
set_option linter.unusedVariables false
set_option linter.unusedSimpArgs false
set_option linter.unusedSectionVars false
set_option maxRecDepth 100000
set_option exponentiation.threshold 2000
section
namespace Go.Proofs.YtmholgclgamnnaaGreat
open Go Eng
set_option maxHeartbeats 16000000 in
theorem mont4S {lim : Lim} (hl : lim = limR) (m inv fast one two a b r : Nat) (ha : a < 2 ^ 256) (hb : b < 2 ^ 256) (hm : m < 2 ^ 256) (hi : (lim m 0 * (inv : Int) + 1) % 18446744073709551616 = 0) (hv : inv < 18446744073709551616) (hodd : m % 2 = 1) (hab : a < m ∨ b < m) (hr : r < m) (hrr : r * 2 ^ 256 % m = a * b % m) :
   ∃ d, SpecM Tryz.prog 203 [⟨true, true, [.s .u64 (lim a 0), .s .u64 (lim a 1), .s .u64 (lim a 2), .s .u64 (lim a 3)]⟩, ⟨true, true, [.s .u64 (lim b 0), .s .u64 (lim b 1), .s .u64 (lim b 2), .s .u64 (lim b 3)]⟩, ⟨true, true, [.i .u64 0, .i .u64 0, .i .u64 0, .i .u64 0]⟩] [.own 0 0, .own 1 0, .ref (ring4 lim m inv fast one two) 1, .s .u64 inv] (.tup []) [⟨true, true, [.s .u64 (lim r 0), .s .u64 (lim r 1), .s .u64 (lim r 2), .s .u64 (lim r 3)]⟩, ⟨true, true, [.s .u64 (lim b 0), .s .u64 (lim b 1), .s .u64 (lim b 2), .s .u64 (lim b 3)]⟩, ⟨true, true, [.i .u64 0, .i .u64 0, .i .u64 0, .i .u64 0]⟩, ⟨true, true, [.s .u64 (lim d 0), .s .u64 (lim d 1), .s .u64 (lim d 2), .s .u64 (lim d 3)]⟩] := by
 have la := fun i => lim_range hl a i
 have lb := fun i => lim_range hl b i
 have lm := fun i => lim_range hl m i
 have z64 : (0 : Int) ≤ 0 ∧ (0 : Int) < 18446744073709551616 := by omega
 have z01 : (0 : Int) ≤ 0 ∧ (0 : Int) ≤ 1 := by omega
 obtain ⟨l0_0, h0_0, e0_0, rl0_0, rh0_0⟩ := steps (x := (lim a 0)) (y := lim b 0) (z := (0 : Int)) (c := (0 : Int)) (la 0) (lb 0) z64 z64
 obtain ⟨l1_0, h1_0, e1_0, rl1_0, rh1_0⟩ := steps (x := (lim a 0)) (y := lim b 1) (z := (0 : Int)) (c := h0_0) (la 0) (lb 1) z64 rh0_0
 obtain ⟨l2_0, h2_0, e2_0, rl2_0, rh2_0⟩ := steps (x := (lim a 0)) (y := lim b 2) (z := (0 : Int)) (c := h1_0) (la 0) (lb 2) z64 rh1_0
 obtain ⟨l3_0, h3_0, e3_0, rl3_0, rh3_0⟩ := steps (x := (lim a 0)) (y := lim b 3) (z := (0 : Int)) (c := h2_0) (la 0) (lb 3) z64 rh2_0
 obtain ⟨s_0, k_0, ea_0, rs_0, rk_0⟩ := carry (x := (0 : Int)) (y := h3_0) (z := 0) z64 rh3_0 z01
 obtain ⟨q_0, hq_0⟩ : ∃ q : Int, q = l0_0 * (inv : Int) % 18446744073709551616 := ⟨_, rfl⟩
 have rq_0 := modr hq_0
 have eq_0 : rbin .mul .u64 l0_0 (Int.ofNat inv) = q_0 := by rw [hq_0]; exact wrap_u64 _
 obtain ⟨u0_0, g0_0, f0_0, ru0_0, rg0_0⟩ := steps (x := q_0) (y := lim m 0) (z := l0_0) (c := (0 : Int)) rq_0 (lm 0) rl0_0 z64
 obtain ⟨u1_0, g1_0, f1_0, ru1_0, rg1_0⟩ := steps (x := q_0) (y := lim m 1) (z := l1_0) (c := g0_0) rq_0 (lm 1) rl1_0 rg0_0
 obtain ⟨u2_0, g2_0, f2_0, ru2_0, rg2_0⟩ := steps (x := q_0) (y := lim m 2) (z := l2_0) (c := g1_0) rq_0 (lm 2) rl2_0 rg1_0
 obtain ⟨u3_0, g3_0, f3_0, ru3_0, rg3_0⟩ := steps (x := q_0) (y := lim m 3) (z := l3_0) (c := g2_0) rq_0 (lm 3) rl3_0 rg2_0
 obtain ⟨w_0, c_0, fa_0, rw_0, rc_0⟩ := carry (x := s_0) (y := g3_0) (z := 0) rs_0 rg3_0 z01
 have et_0 : rbin .add .u64 k_0 c_0 = k_0 + c_0 := (wrap_u64 _).trans (kcw rk_0 rc_0)
 have rt_0 := kcr rk_0 rc_0
 obtain rfl := low0 hi hq_0 f0_0 ru0_0
 have hR_0 := round4 e0_0 e1_0 e2_0 e3_0 ea_0 f0_0 f1_0 f2_0 f3_0 fa_0
 obtain ⟨T1, hT1⟩ : ∃ T : Int, T = u1_0 + 18446744073709551616 * (u2_0 + 18446744073709551616 * (u3_0 + 18446744073709551616 * (w_0 + 18446744073709551616 * ((k_0 + c_0))))) := ⟨_, rfl⟩
 have E_0 : 18446744073709551616 * T1 = (0 : Int) + lim a 0 * (b : Int) + q_0 * (m : Int) := by
   rw [split4 hl b hb, split4 hl m hm, ← horm4, ← horm4, hT1]; exact hR_0.trans (by simp only [Int.mul_zero, Int.add_zero, Int.zero_add])
 obtain ⟨l0_1, h0_1, e0_1, rl0_1, rh0_1⟩ := steps (x := (lim a 1)) (y := lim b 0) (z := u1_0) (c := (0 : Int)) (la 1) (lb 0) ru1_0 z64
 obtain ⟨l1_1, h1_1, e1_1, rl1_1, rh1_1⟩ := steps (x := (lim a 1)) (y := lim b 1) (z := u2_0) (c := h0_1) (la 1) (lb 1) ru2_0 rh0_1
 obtain ⟨l2_1, h2_1, e2_1, rl2_1, rh2_1⟩ := steps (x := (lim a 1)) (y := lim b 2) (z := u3_0) (c := h1_1) (la 1) (lb 2) ru3_0 rh1_1
 obtain ⟨l3_1, h3_1, e3_1, rl3_1, rh3_1⟩ := steps (x := (lim a 1)) (y := lim b 3) (z := w_0) (c := h2_1) (la 1) (lb 3) rw_0 rh2_1
 obtain ⟨s_1, k_1, ea_1, rs_1, rk_1⟩ := carry (x := (k_0 + c_0)) (y := h3_1) (z := 0) rt_0 rh3_1 z01
 obtain ⟨q_1, hq_1⟩ : ∃ q : Int, q = l0_1 * (inv : Int) % 18446744073709551616 := ⟨_, rfl⟩
 have rq_1 := modr hq_1
 have eq_1 : rbin .mul .u64 l0_1 (Int.ofNat inv) = q_1 := by rw [hq_1]; exact wrap_u64 _
 obtain ⟨u0_1, g0_1, f0_1, ru0_1, rg0_1⟩ := steps (x := q_1) (y := lim m 0) (z := l0_1) (c := (0 : Int)) rq_1 (lm 0) rl0_1 z64
 obtain ⟨u1_1, g1_1, f1_1, ru1_1, rg1_1⟩ := steps (x := q_1) (y := lim m 1) (z := l1_1) (c := g0_1) rq_1 (lm 1) rl1_1 rg0_1
 obtain ⟨u2_1, g2_1, f2_1, ru2_1, rg2_1⟩ := steps (x := q_1) (y := lim m 2) (z := l2_1) (c := g1_1) rq_1 (lm 2) rl2_1 rg1_1
 obtain ⟨u3_1, g3_1, f3_1, ru3_1, rg3_1⟩ := steps (x := q_1) (y := lim m 3) (z := l3_1) (c := g2_1) rq_1 (lm 3) rl3_1 rg2_1
 obtain ⟨w_1, c_1, fa_1, rw_1, rc_1⟩ := carry (x := s_1) (y := g3_1) (z := 0) rs_1 rg3_1 z01
 have et_1 : rbin .add .u64 k_1 c_1 = k_1 + c_1 := (wrap_u64 _).trans (kcw rk_1 rc_1)
 have rt_1 := kcr rk_1 rc_1
 obtain rfl := low0 hi hq_1 f0_1 ru0_1
 have hR_1 := round4 e0_1 e1_1 e2_1 e3_1 ea_1 f0_1 f1_1 f2_1 f3_1 fa_1
 obtain ⟨T2, hT2⟩ : ∃ T : Int, T = u1_1 + 18446744073709551616 * (u2_1 + 18446744073709551616 * (u3_1 + 18446744073709551616 * (w_1 + 18446744073709551616 * ((k_1 + c_1))))) := ⟨_, rfl⟩
 have E_1 : 18446744073709551616 * T2 = T1 + lim a 1 * (b : Int) + q_1 * (m : Int) := by
   rw [split4 hl b hb, split4 hl m hm, ← horm4, ← horm4, hT2, hT1]; exact hR_1
 obtain ⟨l0_2, h0_2, e0_2, rl0_2, rh0_2⟩ := steps (x := (lim a 2)) (y := lim b 0) (z := u1_1) (c := (0 : Int)) (la 2) (lb 0) ru1_1 z64
 obtain ⟨l1_2, h1_2, e1_2, rl1_2, rh1_2⟩ := steps (x := (lim a 2)) (y := lim b 1) (z := u2_1) (c := h0_2) (la 2) (lb 1) ru2_1 rh0_2
 obtain ⟨l2_2, h2_2, e2_2, rl2_2, rh2_2⟩ := steps (x := (lim a 2)) (y := lim b 2) (z := u3_1) (c := h1_2) (la 2) (lb 2) ru3_1 rh1_2
 obtain ⟨l3_2, h3_2, e3_2, rl3_2, rh3_2⟩ := steps (x := (lim a 2)) (y := lim b 3) (z := w_1) (c := h2_2) (la 2) (lb 3) rw_1 rh2_2
 obtain ⟨s_2, k_2, ea_2, rs_2, rk_2⟩ := carry (x := (k_1 + c_1)) (y := h3_2) (z := 0) rt_1 rh3_2 z01
 obtain ⟨q_2, hq_2⟩ : ∃ q : Int, q = l0_2 * (inv : Int) % 18446744073709551616 := ⟨_, rfl⟩
 have rq_2 := modr hq_2
 have eq_2 : rbin .mul .u64 l0_2 (Int.ofNat inv) = q_2 := by rw [hq_2]; exact wrap_u64 _
 obtain ⟨u0_2, g0_2, f0_2, ru0_2, rg0_2⟩ := steps (x := q_2) (y := lim m 0) (z := l0_2) (c := (0 : Int)) rq_2 (lm 0) rl0_2 z64
 obtain ⟨u1_2, g1_2, f1_2, ru1_2, rg1_2⟩ := steps (x := q_2) (y := lim m 1) (z := l1_2) (c := g0_2) rq_2 (lm 1) rl1_2 rg0_2
 obtain ⟨u2_2, g2_2, f2_2, ru2_2, rg2_2⟩ := steps (x := q_2) (y := lim m 2) (z := l2_2) (c := g1_2) rq_2 (lm 2) rl2_2 rg1_2
 obtain ⟨u3_2, g3_2, f3_2, ru3_2, rg3_2⟩ := steps (x := q_2) (y := lim m 3) (z := l3_2) (c := g2_2) rq_2 (lm 3) rl3_2 rg2_2
 obtain ⟨w_2, c_2, fa_2, rw_2, rc_2⟩ := carry (x := s_2) (y := g3_2) (z := 0) rs_2 rg3_2 z01
 have et_2 : rbin .add .u64 k_2 c_2 = k_2 + c_2 := (wrap_u64 _).trans (kcw rk_2 rc_2)
 have rt_2 := kcr rk_2 rc_2
 obtain rfl := low0 hi hq_2 f0_2 ru0_2
 have hR_2 := round4 e0_2 e1_2 e2_2 e3_2 ea_2 f0_2 f1_2 f2_2 f3_2 fa_2
 obtain ⟨T3, hT3⟩ : ∃ T : Int, T = u1_2 + 18446744073709551616 * (u2_2 + 18446744073709551616 * (u3_2 + 18446744073709551616 * (w_2 + 18446744073709551616 * ((k_2 + c_2))))) := ⟨_, rfl⟩
 have E_2 : 18446744073709551616 * T3 = T2 + lim a 2 * (b : Int) + q_2 * (m : Int) := by
   rw [split4 hl b hb, split4 hl m hm, ← horm4, ← horm4, hT3, hT2]; exact hR_2
 obtain ⟨l0_3, h0_3, e0_3, rl0_3, rh0_3⟩ := steps (x := (lim a 3)) (y := lim b 0) (z := u1_2) (c := (0 : Int)) (la 3) (lb 0) ru1_2 z64
 obtain ⟨l1_3, h1_3, e1_3, rl1_3, rh1_3⟩ := steps (x := (lim a 3)) (y := lim b 1) (z := u2_2) (c := h0_3) (la 3) (lb 1) ru2_2 rh0_3
 obtain ⟨l2_3, h2_3, e2_3, rl2_3, rh2_3⟩ := steps (x := (lim a 3)) (y := lim b 2) (z := u3_2) (c := h1_3) (la 3) (lb 2) ru3_2 rh1_3
 obtain ⟨l3_3, h3_3, e3_3, rl3_3, rh3_3⟩ := steps (x := (lim a 3)) (y := lim b 3) (z := w_2) (c := h2_3) (la 3) (lb 3) rw_2 rh2_3
 obtain ⟨s_3, k_3, ea_3, rs_3, rk_3⟩ := carry (x := (k_2 + c_2)) (y := h3_3) (z := 0) rt_2 rh3_3 z01
 obtain ⟨q_3, hq_3⟩ : ∃ q : Int, q = l0_3 * (inv : Int) % 18446744073709551616 := ⟨_, rfl⟩
 have rq_3 := modr hq_3
 have eq_3 : rbin .mul .u64 l0_3 (Int.ofNat inv) = q_3 := by rw [hq_3]; exact wrap_u64 _
 obtain ⟨u0_3, g0_3, f0_3, ru0_3, rg0_3⟩ := steps (x := q_3) (y := lim m 0) (z := l0_3) (c := (0 : Int)) rq_3 (lm 0) rl0_3 z64
 obtain ⟨u1_3, g1_3, f1_3, ru1_3, rg1_3⟩ := steps (x := q_3) (y := lim m 1) (z := l1_3) (c := g0_3) rq_3 (lm 1) rl1_3 rg0_3
 obtain ⟨u2_3, g2_3, f2_3, ru2_3, rg2_3⟩ := steps (x := q_3) (y := lim m 2) (z := l2_3) (c := g1_3) rq_3 (lm 2) rl2_3 rg1_3
 obtain ⟨u3_3, g3_3, f3_3, ru3_3, rg3_3⟩ := steps (x := q_3) (y := lim m 3) (z := l3_3) (c := g2_3) rq_3 (lm 3) rl3_3 rg2_3
 obtain ⟨w_3, c_3, fa_3, rw_3, rc_3⟩ := carry (x := s_3) (y := g3_3) (z := 0) rs_3 rg3_3 z01
 have et_3 : rbin .add .u64 k_3 c_3 = k_3 + c_3 := (wrap_u64 _).trans (kcw rk_3 rc_3)
 have rt_3 := kcr rk_3 rc_3
 obtain rfl := low0 hi hq_3 f0_3 ru0_3
 have hR_3 := round4 e0_3 e1_3 e2_3 e3_3 ea_3 f0_3 f1_3 f2_3 f3_3 fa_3
 obtain ⟨T4, hT4⟩ : ∃ T : Int, T = u1_3 + 18446744073709551616 * (u2_3 + 18446744073709551616 * (u3_3 + 18446744073709551616 * (w_3 + 18446744073709551616 * ((k_3 + c_3))))) := ⟨_, rfl⟩
 have E_3 : 18446744073709551616 * T4 = T3 + lim a 3 * (b : Int) + q_3 * (m : Int) := by
   rw [split4 hl b hb, split4 hl m hm, ← horm4, ← horm4, hT4, hT3]; exact hR_3
 have hC := chain4 E_0 E_1 E_2 E_3
 rw [horn4, horn4, ← split4 hl a ha] at hC
 have hend := mont_end4 ha hb hm hodd hab hr hrr hC rq_0 rq_1 rq_2 rq_3 ru1_3 ru2_3 ru3_3 rw_3 rk_3 rc_3 hT4
 obtain ⟨s, d, k, hs, hs', hd, hd', hcase⟩ := hend
 obtain ⟨y0, y1, y2, y3⟩ := lim_of4 hl hs ru1_3 ru2_3 ru3_3 hs'
 have hmin := minus4 hl s m d k hs hm hd hd'
 unfold u4 at hmin
 rw [y0, y1, y2, y3] at hmin
 refine ⟨d, mkM Tryz.func203 rfl rfl L0 R0 (by decide +kernel) fun A S hA hS => ?_⟩
 unfold bodyOf Tryz.f203
 cbv
 refine ACall.mk (.tup [.s .u64 h0_0, .s .u64 l0_0]) (cf hS (stepS (lim a 0) (lim b 0) (0 : Int) (0 : Int) _ _ (la 0) (lb 0) z64 z64 (.i _) (.i _) e0_0 rl0_0)) ?_
 cbv
 refine ACall.mk (.tup [.s .u64 h1_0, .s .u64 l1_0]) (cf hS (stepS (lim a 0) (lim b 1) (0 : Int) h0_0 _ _ (la 0) (lb 1) z64 rh0_0 (.i _) (.s _) e1_0 rl1_0)) ?_
 cbv
 refine ACall.mk (.tup [.s .u64 h2_0, .s .u64 l2_0]) (cf hS (stepS (lim a 0) (lim b 2) (0 : Int) h1_0 _ _ (la 0) (lb 2) z64 rh1_0 (.i _) (.s _) e2_0 rl2_0)) ?_
 cbv
 refine ACall.mk (.tup [.s .u64 h3_0, .s .u64 l3_0]) (cf hS (stepS (lim a 0) (lim b 3) (0 : Int) h2_0 _ _ (la 0) (lb 3) z64 rh2_0 (.i _) (.s _) e3_0 rl3_0)) ?_
 cbv
 refine ACall.mk (.tup [.s .u64 s_0, .s .u64 k_0]) (cf hS (add64S (.i _) (.s _) (.i _) z64.1 rh3_0.1 z01 _ _ ea_0 rs_0)) ?_
 cbv
 refine ACall.mk (.tup [.s .u64 g0_0, .s .u64 (0 : Int)]) (cf hS (sub_arg (show A.bin .mul .u64 l0_0 (Int.ofNat inv) = q_0 from by rw [hA]; exact eq_0) (stepS q_0 (lim m 0) l0_0 (0 : Int) _ _ rq_0 (lm 0) rl0_0 z64 (.s _) (.i _) f0_0 ru0_0))) ?_
 cbv
 refine ACall.mk (.tup [.s .u64 g1_0, .s .u64 u1_0]) (cf hS (sub_arg (show A.bin .mul .u64 l0_0 (Int.ofNat inv) = q_0 from by rw [hA]; exact eq_0) (stepS q_0 (lim m 1) l1_0 g0_0 _ _ rq_0 (lm 1) rl1_0 rg0_0 (.s _) (.s _) f1_0 ru1_0))) ?_
 cbv
 refine ACall.mk (.tup [.s .u64 g2_0, .s .u64 u2_0]) (cf hS (sub_arg (show A.bin .mul .u64 l0_0 (Int.ofNat inv) = q_0 from by rw [hA]; exact eq_0) (stepS q_0 (lim m 2) l2_0 g1_0 _ _ rq_0 (lm 2) rl2_0 rg1_0 (.s _) (.s _) f2_0 ru2_0))) ?_
 cbv
 refine ACall.mk (.tup [.s .u64 g3_0, .s .u64 u3_0]) (cf hS (sub_arg (show A.bin .mul .u64 l0_0 (Int.ofNat inv) = q_0 from by rw [hA]; exact eq_0) (stepS q_0 (lim m 3) l3_0 g2_0 _ _ rq_0 (lm 3) rl3_0 rg2_0 (.s _) (.s _) f3_0 ru3_0))) ?_
 cbv
 refine ACall.mk (.tup [.s .u64 w_0, .s .u64 c_0]) (cf hS (add64S (.s _) (.s _) (.i _) rs_0.1 rg3_0.1 z01 _ _ fa_0 rw_0)) ?_
 cbv
 refine ACall.mk (.tup [.s .u64 h0_1, .s .u64 l0_1]) (cf hS (stepS (lim a 1) (lim b 0) u1_0 (0 : Int) _ _ (la 1) (lb 0) ru1_0 z64 (.s _) (.i _) e0_1 rl0_1)) ?_
 cbv
 refine ACall.mk (.tup [.s .u64 h1_1, .s .u64 l1_1]) (cf hS (stepS (lim a 1) (lim b 1) u2_0 h0_1 _ _ (la 1) (lb 1) ru2_0 rh0_1 (.s _) (.s _) e1_1 rl1_1)) ?_
 cbv
 refine ACall.mk (.tup [.s .u64 h2_1, .s .u64 l2_1]) (cf hS (stepS (lim a 1) (lim b 2) u3_0 h1_1 _ _ (la 1) (lb 2) ru3_0 rh1_1 (.s _) (.s _) e2_1 rl2_1)) ?_
 cbv
 refine ACall.mk (.tup [.s .u64 h3_1, .s .u64 l3_1]) (cf hS (stepS (lim a 1) (lim b 3) w_0 h2_1 _ _ (la 1) (lb 3) rw_0 rh2_1 (.s _) (.s _) e3_1 rl3_1)) ?_
 cbv
 refine ACall.mk (.tup [.s .u64 s_1, .s .u64 k_1]) (cf hS (sub_arg (show A.bin .add .u64 k_0 c_0 = k_0 + c_0 from by rw [hA]; exact et_0) <| add64S (.s _) (.s _) (.i _) rt_0.1 rh3_1.1 z01 _ _ ea_1 rs_1)) ?_
 cbv
 refine ACall.mk (.tup [.s .u64 g0_1, .s .u64 (0 : Int)]) (cf hS (sub_arg (show A.bin .mul .u64 l0_1 (Int.ofNat inv) = q_1 from by rw [hA]; exact eq_1) (stepS q_1 (lim m 0) l0_1 (0 : Int) _ _ rq_1 (lm 0) rl0_1 z64 (.s _) (.i _) f0_1 ru0_1))) ?_
 cbv
 refine ACall.mk (.tup [.s .u64 g1_1, .s .u64 u1_1]) (cf hS (sub_arg (show A.bin .mul .u64 l0_1 (Int.ofNat inv) = q_1 from by rw [hA]; exact eq_1) (stepS q_1 (lim m 1) l1_1 g0_1 _ _ rq_1 (lm 1) rl1_1 rg0_1 (.s _) (.s _) f1_1 ru1_1))) ?_
 cbv
 refine ACall.mk (.tup [.s .u64 g2_1, .s .u64 u2_1]) (cf hS (sub_arg (show A.bin .mul .u64 l0_1 (Int.ofNat inv) = q_1 from by rw [hA]; exact eq_1) (stepS q_1 (lim m 2) l2_1 g1_1 _ _ rq_1 (lm 2) rl2_1 rg1_1 (.s _) (.s _) f2_1 ru2_1))) ?_
 cbv
 refine ACall.mk (.tup [.s .u64 g3_1, .s .u64 u3_1]) (cf hS (sub_arg (show A.bin .mul .u64 l0_1 (Int.ofNat inv) = q_1 from by rw [hA]; exact eq_1) (stepS q_1 (lim m 3) l3_1 g2_1 _ _ rq_1 (lm 3) rl3_1 rg2_1 (.s _) (.s _) f3_1 ru3_1))) ?_
 cbv
 refine ACall.mk (.tup [.s .u64 w_1, .s .u64 c_1]) (cf hS (add64S (.s _) (.s _) (.i _) rs_1.1 rg3_1.1 z01 _ _ fa_1 rw_1)) ?_
 cbv
 refine ACall.mk (.tup [.s .u64 h0_2, .s .u64 l0_2]) (cf hS (stepS (lim a 2) (lim b 0) u1_1 (0 : Int) _ _ (la 2) (lb 0) ru1_1 z64 (.s _) (.i _) e0_2 rl0_2)) ?_
 cbv
 refine ACall.mk (.tup [.s .u64 h1_2, .s .u64 l1_2]) (cf hS (stepS (lim a 2) (lim b 1) u2_1 h0_2 _ _ (la 2) (lb 1) ru2_1 rh0_2 (.s _) (.s _) e1_2 rl1_2)) ?_
 cbv
 refine ACall.mk (.tup [.s .u64 h2_2, .s .u64 l2_2]) (cf hS (stepS (lim a 2) (lim b 2) u3_1 h1_2 _ _ (la 2) (lb 2) ru3_1 rh1_2 (.s _) (.s _) e2_2 rl2_2)) ?_
 cbv
 refine ACall.mk (.tup [.s .u64 h3_2, .s .u64 l3_2]) (cf hS (stepS (lim a 2) (lim b 3) w_1 h2_2 _ _ (la 2) (lb 3) rw_1 rh2_2 (.s _) (.s _) e3_2 rl3_2)) ?_
 cbv
 refine ACall.mk (.tup [.s .u64 s_2, .s .u64 k_2]) (cf hS (sub_arg (show A.bin .add .u64 k_1 c_1 = k_1 + c_1 from by rw [hA]; exact et_1) <| add64S (.s _) (.s _) (.i _) rt_1.1 rh3_2.1 z01 _ _ ea_2 rs_2)) ?_
 cbv
 refine ACall.mk (.tup [.s .u64 g0_2, .s .u64 (0 : Int)]) (cf hS (sub_arg (show A.bin .mul .u64 l0_2 (Int.ofNat inv) = q_2 from by rw [hA]; exact eq_2) (stepS q_2 (lim m 0) l0_2 (0 : Int) _ _ rq_2 (lm 0) rl0_2 z64 (.s _) (.i _) f0_2 ru0_2))) ?_
 cbv
 refine ACall.mk (.tup [.s .u64 g1_2, .s .u64 u1_2]) (cf hS (sub_arg (show A.bin .mul .u64 l0_2 (Int.ofNat inv) = q_2 from by rw [hA]; exact eq_2) (stepS q_2 (lim m 1) l1_2 g0_2 _ _ rq_2 (lm 1) rl1_2 rg0_2 (.s _) (.s _) f1_2 ru1_2))) ?_
 cbv
 refine ACall.mk (.tup [.s .u64 g2_2, .s .u64 u2_2]) (cf hS (sub_arg (show A.bin .mul .u64 l0_2 (Int.ofNat inv) = q_2 from by rw [hA]; exact eq_2) (stepS q_2 (lim m 2) l2_2 g1_2 _ _ rq_2 (lm 2) rl2_2 rg1_2 (.s _) (.s _) f2_2 ru2_2))) ?_
 cbv
 refine ACall.mk (.tup [.s .u64 g3_2, .s .u64 u3_2]) (cf hS (sub_arg (show A.bin .mul .u64 l0_2 (Int.ofNat inv) = q_2 from by rw [hA]; exact eq_2) (stepS q_2 (lim m 3) l3_2 g2_2 _ _ rq_2 (lm 3) rl3_2 rg2_2 (.s _) (.s _) f3_2 ru3_2))) ?_
 cbv
 refine ACall.mk (.tup [.s .u64 w_2, .s .u64 c_2]) (cf hS (add64S (.s _) (.s _) (.i _) rs_2.1 rg3_2.1 z01 _ _ fa_2 rw_2)) ?_
 cbv
 refine ACall.mk (.tup [.s .u64 h0_3, .s .u64 l0_3]) (cf hS (stepS (lim a 3) (lim b 0) u1_2 (0 : Int) _ _ (la 3) (lb 0) ru1_2 z64 (.s _) (.i _) e0_3 rl0_3)) ?_
 cbv
 refine ACall.mk (.tup [.s .u64 h1_3, .s .u64 l1_3]) (cf hS (stepS (lim a 3) (lim b 1) u2_2 h0_3 _ _ (la 3) (lb 1) ru2_2 rh0_3 (.s _) (.s _) e1_3 rl1_3)) ?_
 cbv
 refine ACall.mk (.tup [.s .u64 h2_3, .s .u64 l2_3]) (cf hS (stepS (lim a 3) (lim b 2) u3_2 h1_3 _ _ (la 3) (lb 2) ru3_2 rh1_3 (.s _) (.s _) e2_3 rl2_3)) ?_
 cbv
 refine ACall.mk (.tup [.s .u64 h3_3, .s .u64 l3_3]) (cf hS (stepS (lim a 3) (lim b 3) w_2 h2_3 _ _ (la 3) (lb 3) rw_2 rh2_3 (.s _) (.s _) e3_3 rl3_3)) ?_
 cbv
 refine ACall.mk (.tup [.s .u64 s_3, .s .u64 k_3]) (cf hS (sub_arg (show A.bin .add .u64 k_2 c_2 = k_2 + c_2 from by rw [hA]; exact et_2) <| add64S (.s _) (.s _) (.i _) rt_2.1 rh3_3.1 z01 _ _ ea_3 rs_3)) ?_
 cbv
 refine ACall.mk (.tup [.s .u64 g0_3, .s .u64 (0 : Int)]) (cf hS (sub_arg (show A.bin .mul .u64 l0_3 (Int.ofNat inv) = q_3 from by rw [hA]; exact eq_3) (stepS q_3 (lim m 0) l0_3 (0 : Int) _ _ rq_3 (lm 0) rl0_3 z64 (.s _) (.i _) f0_3 ru0_3))) ?_
 cbv
 refine ACall.mk (.tup [.s .u64 g1_3, .s .u64 u1_3]) (cf hS (sub_arg (show A.bin .mul .u64 l0_3 (Int.ofNat inv) = q_3 from by rw [hA]; exact eq_3) (stepS q_3 (lim m 1) l1_3 g0_3 _ _ rq_3 (lm 1) rl1_3 rg0_3 (.s _) (.s _) f1_3 ru1_3))) ?_
 cbv
 refine ACall.mk (.tup [.s .u64 g2_3, .s .u64 u2_3]) (cf hS (sub_arg (show A.bin .mul .u64 l0_3 (Int.ofNat inv) = q_3 from by rw [hA]; exact eq_3) (stepS q_3 (lim m 2) l2_3 g1_3 _ _ rq_3 (lm 2) rl2_3 rg1_3 (.s _) (.s _) f2_3 ru2_3))) ?_
 cbv
 refine ACall.mk (.tup [.s .u64 g3_3, .s .u64 u3_3]) (cf hS (sub_arg (show A.bin .mul .u64 l0_3 (Int.ofNat inv) = q_3 from by rw [hA]; exact eq_3) (stepS q_3 (lim m 3) l3_3 g2_3 _ _ rq_3 (lm 3) rl3_3 rg2_3 (.s _) (.s _) f3_3 ru3_3))) ?_
 cbv
 refine ACall.mk (.tup [.s .u64 w_3, .s .u64 c_3]) (cf hS (add64S (.s _) (.s _) (.i _) rs_3.1 rg3_3.1 z01 _ _ fa_3 rw_3)) ?_
 cbv
 refine ACall.mk (.tup [u4 lim d, .s .u64 k]) (cf hS hmin) ?_
 cbv
 have hgt : A.cmp .gtr (A.bin .add .u64 k_3 c_3) 0 = decide (k_3 + c_3 > 0) := by rw [hA]; show decide (rbin .add .u64 k_3 c_3 > 0) = _; rw [et_3]
 rcases hcase with ⟨hh, rfl⟩ | ⟨h0, rfl, rfl⟩
 . by_cases h0 : k_3 + c_3 > 0
   . rw [decide_eq_true h0] at hgt
     refine ABr.t hgt ?_
     cbv
     refine ABr.t hgt ?_
     cbv
     refine ABr.t hgt ?_
     cbv
     exact ⟨rfl, trivial⟩
   . rw [decide_eq_false h0] at hgt
     obtain rfl : k = 0 := by omega
     have heq : A.cmp .eql (Int.ofNat 0) 0 = true := by rw [hA]; rfl
     refine ABr.f hgt ?_
     cbv
     refine ABr.f hgt ?_
     cbv
     refine ABr.f hgt ?_
     cbv
     refine ABr.t heq ?_
     cbv
     exact ⟨rfl, trivial⟩
 . rw [decide_eq_false (by omega)] at hgt
   have heq : A.cmp .eql (Int.ofNat 1) 0 = false := by rw [hA]; rfl
   refine ABr.f hgt ?_
   cbv
   refine ABr.f hgt ?_
   cbv
   refine ABr.f hgt ?_
   cbv
   refine ABr.f heq ?_
   cbv
   rw [y0, y1, y2, y3]
   exact ⟨rfl, rfl⟩
set_option maxHeartbeats 16000000 in
theorem mont6S {lim : Lim} (hl : lim = limR) (m inv fast one two a b r : Nat) (ha : a < 2 ^ 384) (hb : b < 2 ^ 384) (hm : m < 2 ^ 384) (hi : (lim m 0 * (inv : Int) + 1) % 18446744073709551616 = 0) (hv : inv < 18446744073709551616) (hodd : m % 2 = 1) (hab : a < m ∨ b < m) (hr : r < m) (hrr : r * 2 ^ 384 % m = a * b % m) :
   ∃ d, SpecM Tryz.prog 204 [⟨true, true, [.s .u64 (lim a 0), .s .u64 (lim a 1), .s .u64 (lim a 2), .s .u64 (lim a 3), .s .u64 (lim a 4), .s .u64 (lim a 5)]⟩, ⟨true, true, [.s .u64 (lim b 0), .s .u64 (lim b 1), .s .u64 (lim b 2), .s .u64 (lim b 3), .s .u64 (lim b 4), .s .u64 (lim b 5)]⟩, ⟨true, true, [.i .u64 0, .i .u64 0, .i .u64 0, .i .u64 0, .i .u64 0, .i .u64 0]⟩] [.own 0 0, .own 1 0, .ref (ring6 lim m inv fast one two) 1, .s .u64 inv] (.tup []) [⟨true, true, [.s .u64 (lim r 0), .s .u64 (lim r 1), .s .u64 (lim r 2), .s .u64 (lim r 3), .s .u64 (lim r 4), .s .u64 (lim r 5)]⟩, ⟨true, true, [.s .u64 (lim b 0), .s .u64 (lim b 1), .s .u64 (lim b 2), .s .u64 (lim b 3), .s .u64 (lim b 4), .s .u64 (lim b 5)]⟩, ⟨true, true, [.i .u64 0, .i .u64 0, .i .u64 0, .i .u64 0, .i .u64 0, .i .u64 0]⟩, ⟨true, true, [.s .u64 (lim d 0), .s .u64 (lim d 1), .s .u64 (lim d 2), .s .u64 (lim d 3), .s .u64 (lim d 4), .s .u64 (lim d 5)]⟩] := by
 have la := fun i => lim_range hl a i
 have lb := fun i => lim_range hl b i
 have lm := fun i => lim_range hl m i
 have z64 : (0 : Int) ≤ 0 ∧ (0 : Int) < 18446744073709551616 := by omega
 have z01 : (0 : Int) ≤ 0 ∧ (0 : Int) ≤ 1 := by omega
 obtain ⟨l0_0, h0_0, e0_0, rl0_0, rh0_0⟩ := steps (x := (lim a 0)) (y := lim b 0) (z := (0 : Int)) (c := (0 : Int)) (la 0) (lb 0) z64 z64
 obtain ⟨l1_0, h1_0, e1_0, rl1_0, rh1_0⟩ := steps (x := (lim a 0)) (y := lim b 1) (z := (0 : Int)) (c := h0_0) (la 0) (lb 1) z64 rh0_0
 obtain ⟨l2_0, h2_0, e2_0, rl2_0, rh2_0⟩ := steps (x := (lim a 0)) (y := lim b 2) (z := (0 : Int)) (c := h1_0) (la 0) (lb 2) z64 rh1_0
 obtain ⟨l3_0, h3_0, e3_0, rl3_0, rh3_0⟩ := steps (x := (lim a 0)) (y := lim b 3) (z := (0 : Int)) (c := h2_0) (la 0) (lb 3) z64 rh2_0
 obtain ⟨l4_0, h4_0, e4_0, rl4_0, rh4_0⟩ := steps (x := (lim a 0)) (y := lim b 4) (z := (0 : Int)) (c := h3_0) (la 0) (lb 4) z64 rh3_0
 obtain ⟨l5_0, h5_0, e5_0, rl5_0, rh5_0⟩ := steps (x := (lim a 0)) (y := lim b 5) (z := (0 : Int)) (c := h4_0) (la 0) (lb 5) z64 rh4_0
 obtain ⟨s_0, k_0, ea_0, rs_0, rk_0⟩ := carry (x := (0 : Int)) (y := h5_0) (z := 0) z64 rh5_0 z01
 obtain ⟨q_0, hq_0⟩ : ∃ q : Int, q = l0_0 * (inv : Int) % 18446744073709551616 := ⟨_, rfl⟩
 have rq_0 := modr hq_0
 have eq_0 : rbin .mul .u64 l0_0 (Int.ofNat inv) = q_0 := by rw [hq_0]; exact wrap_u64 _
 obtain ⟨u0_0, g0_0, f0_0, ru0_0, rg0_0⟩ := steps (x := q_0) (y := lim m 0) (z := l0_0) (c := (0 : Int)) rq_0 (lm 0) rl0_0 z64
 obtain ⟨u1_0, g1_0, f1_0, ru1_0, rg1_0⟩ := steps (x := q_0) (y := lim m 1) (z := l1_0) (c := g0_0) rq_0 (lm 1) rl1_0 rg0_0
 obtain ⟨u2_0, g2_0, f2_0, ru2_0, rg2_0⟩ := steps (x := q_0) (y := lim m 2) (z := l2_0) (c := g1_0) rq_0 (lm 2) rl2_0 rg1_0
 obtain ⟨u3_0, g3_0, f3_0, ru3_0, rg3_0⟩ := steps (x := q_0) (y := lim m 3) (z := l3_0) (c := g2_0) rq_0 (lm 3) rl3_0 rg2_0
 obtain ⟨u4_0, g4_0, f4_0, ru4_0, rg4_0⟩ := steps (x := q_0) (y := lim m 4) (z := l4_0) (c := g3_0) rq_0 (lm 4) rl4_0 rg3_0
 obtain ⟨u5_0, g5_0, f5_0, ru5_0, rg5_0⟩ := steps (x := q_0) (y := lim m 5) (z := l5_0) (c := g4_0) rq_0 (lm 5) rl5_0 rg4_0
 obtain ⟨w_0, c_0, fa_0, rw_0, rc_0⟩ := carry (x := s_0) (y := g5_0) (z := 0) rs_0 rg5_0 z01
 have et_0 : rbin .add .u64 k_0 c_0 = k_0 + c_0 := (wrap_u64 _).trans (kcw rk_0 rc_0)
 have rt_0 := kcr rk_0 rc_0
 obtain rfl := low0 hi hq_0 f0_0 ru0_0
 have hR_0 := round6 e0_0 e1_0 e2_0 e3_0 e4_0 e5_0 ea_0 f0_0 f1_0 f2_0 f3_0 f4_0 f5_0 fa_0
 obtain ⟨T1, hT1⟩ : ∃ T : Int, T = u1_0 + 18446744073709551616 * (u2_0 + 18446744073709551616 * (u3_0 + 18446744073709551616 * (u4_0 + 18446744073709551616 * (u5_0 + 18446744073709551616 * (w_0 + 18446744073709551616 * ((k_0 + c_0))))))) := ⟨_, rfl⟩
 have E_0 : 18446744073709551616 * T1 = (0 : Int) + lim a 0 * (b : Int) + q_0 * (m : Int) := by
   rw [split6 hl b hb, split6 hl m hm, ← horm6, ← horm6, hT1]; exact hR_0.trans (by simp only [Int.mul_zero, Int.add_zero, Int.zero_add])
 obtain ⟨l0_1, h0_1, e0_1, rl0_1, rh0_1⟩ := steps (x := (lim a 1)) (y := lim b 0) (z := u1_0) (c := (0 : Int)) (la 1) (lb 0) ru1_0 z64
 obtain ⟨l1_1, h1_1, e1_1, rl1_1, rh1_1⟩ := steps (x := (lim a 1)) (y := lim b 1) (z := u2_0) (c := h0_1) (la 1) (lb 1) ru2_0 rh0_1
 obtain ⟨l2_1, h2_1, e2_1, rl2_1, rh2_1⟩ := steps (x := (lim a 1)) (y := lim b 2) (z := u3_0) (c := h1_1) (la 1) (lb 2) ru3_0 rh1_1
 obtain ⟨l3_1, h3_1, e3_1, rl3_1, rh3_1⟩ := steps (x := (lim a 1)) (y := lim b 3) (z := u4_0) (c := h2_1) (la 1) (lb 3) ru4_0 rh2_1
 obtain ⟨l4_1, h4_1, e4_1, rl4_1, rh4_1⟩ := steps (x := (lim a 1)) (y := lim b 4) (z := u5_0) (c := h3_1) (la 1) (lb 4) ru5_0 rh3_1
 obtain ⟨l5_1, h5_1, e5_1, rl5_1, rh5_1⟩ := steps (x := (lim a 1)) (y := lim b 5) (z := w_0) (c := h4_1) (la 1) (lb 5) rw_0 rh4_1
 obtain ⟨s_1, k_1, ea_1, rs_1, rk_1⟩ := carry (x := (k_0 + c_0)) (y := h5_1) (z := 0) rt_0 rh5_1 z01
 obtain ⟨q_1, hq_1⟩ : ∃ q : Int, q = l0_1 * (inv : Int) % 18446744073709551616 := ⟨_, rfl⟩
 have rq_1 := modr hq_1
 have eq_1 : rbin .mul .u64 l0_1 (Int.ofNat inv) = q_1 := by rw [hq_1]; exact wrap_u64 _
 obtain ⟨u0_1, g0_1, f0_1, ru0_1, rg0_1⟩ := steps (x := q_1) (y := lim m 0) (z := l0_1) (c := (0 : Int)) rq_1 (lm 0) rl0_1 z64
 obtain ⟨u1_1, g1_1, f1_1, ru1_1, rg1_1⟩ := steps (x := q_1) (y := lim m 1) (z := l1_1) (c := g0_1) rq_1 (lm 1) rl1_1 rg0_1
 obtain ⟨u2_1, g2_1, f2_1, ru2_1, rg2_1⟩ := steps (x := q_1) (y := lim m 2) (z := l2_1) (c := g1_1) rq_1 (lm 2) rl2_1 rg1_1
 obtain ⟨u3_1, g3_1, f3_1, ru3_1, rg3_1⟩ := steps (x := q_1) (y := lim m 3) (z := l3_1) (c := g2_1) rq_1 (lm 3) rl3_1 rg2_1
 obtain ⟨u4_1, g4_1, f4_1, ru4_1, rg4_1⟩ := steps (x := q_1) (y := lim m 4) (z := l4_1) (c := g3_1) rq_1 (lm 4) rl4_1 rg3_1
 obtain ⟨u5_1, g5_1, f5_1, ru5_1, rg5_1⟩ := steps (x := q_1) (y := lim m 5) (z := l5_1) (c := g4_1) rq_1 (lm 5) rl5_1 rg4_1
 obtain ⟨w_1, c_1, fa_1, rw_1, rc_1⟩ := carry (x := s_1) (y := g5_1) (z := 0) rs_1 rg5_1 z01
 have et_1 : rbin .add .u64 k_1 c_1 = k_1 + c_1 := (wrap_u64 _).trans (kcw rk_1 rc_1)
 have rt_1 := kcr rk_1 rc_1
 obtain rfl := low0 hi hq_1 f0_1 ru0_1
 have hR_1 := round6 e0_1 e1_1 e2_1 e3_1 e4_1 e5_1 ea_1 f0_1 f1_1 f2_1 f3_1 f4_1 f5_1 fa_1
 obtain ⟨T2, hT2⟩ : ∃ T : Int, T = u1_1 + 18446744073709551616 * (u2_1 + 18446744073709551616 * (u3_1 + 18446744073709551616 * (u4_1 + 18446744073709551616 * (u5_1 + 18446744073709551616 * (w_1 + 18446744073709551616 * ((k_1 + c_1))))))) := ⟨_, rfl⟩
 have E_1 : 18446744073709551616 * T2 = T1 + lim a 1 * (b : Int) + q_1 * (m : Int) := by
   rw [split6 hl b hb, split6 hl m hm, ← horm6, ← horm6, hT2, hT1]; exact hR_1
 obtain ⟨l0_2, h0_2, e0_2, rl0_2, rh0_2⟩ := steps (x := (lim a 2)) (y := lim b 0) (z := u1_1) (c := (0 : Int)) (la 2) (lb 0) ru1_1 z64
 obtain ⟨l1_2, h1_2, e1_2, rl1_2, rh1_2⟩ := steps (x := (lim a 2)) (y := lim b 1) (z := u2_1) (c := h0_2) (la 2) (lb 1) ru2_1 rh0_2
 obtain ⟨l2_2, h2_2, e2_2, rl2_2, rh2_2⟩ := steps (x := (lim a 2)) (y := lim b 2) (z := u3_1) (c := h1_2) (la 2) (lb 2) ru3_1 rh1_2
 obtain ⟨l3_2, h3_2, e3_2, rl3_2, rh3_2⟩ := steps (x := (lim a 2)) (y := lim b 3) (z := u4_1) (c := h2_2) (la 2) (lb 3) ru4_1 rh2_2
 obtain ⟨l4_2, h4_2, e4_2, rl4_2, rh4_2⟩ := steps (x := (lim a 2)) (y := lim b 4) (z := u5_1) (c := h3_2) (la 2) (lb 4) ru5_1 rh3_2
 obtain ⟨l5_2, h5_2, e5_2, rl5_2, rh5_2⟩ := steps (x := (lim a 2)) (y := lim b 5) (z := w_1) (c := h4_2) (la 2) (lb 5) rw_1 rh4_2
 obtain ⟨s_2, k_2, ea_2, rs_2, rk_2⟩ := carry (x := (k_1 + c_1)) (y := h5_2) (z := 0) rt_1 rh5_2 z01
 obtain ⟨q_2, hq_2⟩ : ∃ q : Int, q = l0_2 * (inv : Int) % 18446744073709551616 := ⟨_, rfl⟩
 have rq_2 := modr hq_2
 have eq_2 : rbin .mul .u64 l0_2 (Int.ofNat inv) = q_2 := by rw [hq_2]; exact wrap_u64 _
 obtain ⟨u0_2, g0_2, f0_2, ru0_2, rg0_2⟩ := steps (x := q_2) (y := lim m 0) (z := l0_2) (c := (0 : Int)) rq_2 (lm 0) rl0_2 z64
 obtain ⟨u1_2, g1_2, f1_2, ru1_2, rg1_2⟩ := steps (x := q_2) (y := lim m 1) (z := l1_2) (c := g0_2) rq_2 (lm 1) rl1_2 rg0_2
 obtain ⟨u2_2, g2_2, f2_2, ru2_2, rg2_2⟩ := steps (x := q_2) (y := lim m 2) (z := l2_2) (c := g1_2) rq_2 (lm 2) rl2_2 rg1_2
 obtain ⟨u3_2, g3_2, f3_2, ru3_2, rg3_2⟩ := steps (x := q_2) (y := lim m 3) (z := l3_2) (c := g2_2) rq_2 (lm 3) rl3_2 rg2_2
 obtain ⟨u4_2, g4_2, f4_2, ru4_2, rg4_2⟩ := steps (x := q_2) (y := lim m 4) (z := l4_2) (c := g3_2) rq_2 (lm 4) rl4_2 rg3_2
 obtain ⟨u5_2, g5_2, f5_2, ru5_2, rg5_2⟩ := steps (x := q_2) (y := lim m 5) (z := l5_2) (c := g4_2) rq_2 (lm 5) rl5_2 rg4_2
 obtain ⟨w_2, c_2, fa_2, rw_2, rc_2⟩ := carry (x := s_2) (y := g5_2) (z := 0) rs_2 rg5_2 z01
 have et_2 : rbin .add .u64 k_2 c_2 = k_2 + c_2 := (wrap_u64 _).trans (kcw rk_2 rc_2)
 have rt_2 := kcr rk_2 rc_2
 obtain rfl := low0 hi hq_2 f0_2 ru0_2
 have hR_2 := round6 e0_2 e1_2 e2_2 e3_2 e4_2 e5_2 ea_2 f0_2 f1_2 f2_2 f3_2 f4_2 f5_2 fa_2
 obtain ⟨T3, hT3⟩ : ∃ T : Int, T = u1_2 + 18446744073709551616 * (u2_2 + 18446744073709551616 * (u3_2 + 18446744073709551616 * (u4_2 + 18446744073709551616 * (u5_2 + 18446744073709551616 * (w_2 + 18446744073709551616 * ((k_2 + c_2))))))) := ⟨_, rfl⟩
 have E_2 : 18446744073709551616 * T3 = T2 + lim a 2 * (b : Int) + q_2 * (m : Int) := by
   rw [split6 hl b hb, split6 hl m hm, ← horm6, ← horm6, hT3, hT2]; exact hR_2
 obtain ⟨l0_3, h0_3, e0_3, rl0_3, rh0_3⟩ := steps (x := (lim a 3)) (y := lim b 0) (z := u1_2) (c := (0 : Int)) (la 3) (lb 0) ru1_2 z64
 obtain ⟨l1_3, h1_3, e1_3, rl1_3, rh1_3⟩ := steps (x := (lim a 3)) (y := lim b 1) (z := u2_2) (c := h0_3) (la 3) (lb 1) ru2_2 rh0_3
 obtain ⟨l2_3, h2_3, e2_3, rl2_3, rh2_3⟩ := steps (x := (lim a 3)) (y := lim b 2) (z := u3_2) (c := h1_3) (la 3) (lb 2) ru3_2 rh1_3
 obtain ⟨l3_3, h3_3, e3_3, rl3_3, rh3_3⟩ := steps (x := (lim a 3)) (y := lim b 3) (z := u4_2) (c := h2_3) (la 3) (lb 3) ru4_2 rh2_3
 obtain ⟨l4_3, h4_3, e4_3, rl4_3, rh4_3⟩ := steps (x := (lim a 3)) (y := lim b 4) (z := u5_2) (c := h3_3) (la 3) (lb 4) ru5_2 rh3_3
 obtain ⟨l5_3, h5_3, e5_3, rl5_3, rh5_3⟩ := steps (x := (lim a 3)) (y := lim b 5) (z := w_2) (c := h4_3) (la 3) (lb 5) rw_2 rh4_3
 obtain ⟨s_3, k_3, ea_3, rs_3, rk_3⟩ := carry (x := (k_2 + c_2)) (y := h5_3) (z := 0) rt_2 rh5_3 z01
 obtain ⟨q_3, hq_3⟩ : ∃ q : Int, q = l0_3 * (inv : Int) % 18446744073709551616 := ⟨_, rfl⟩
 have rq_3 := modr hq_3
 have eq_3 : rbin .mul .u64 l0_3 (Int.ofNat inv) = q_3 := by rw [hq_3]; exact wrap_u64 _
 obtain ⟨u0_3, g0_3, f0_3, ru0_3, rg0_3⟩ := steps (x := q_3) (y := lim m 0) (z := l0_3) (c := (0 : Int)) rq_3 (lm 0) rl0_3 z64
 obtain ⟨u1_3, g1_3, f1_3, ru1_3, rg1_3⟩ := steps (x := q_3) (y := lim m 1) (z := l1_3) (c := g0_3) rq_3 (lm 1) rl1_3 rg0_3
 obtain ⟨u2_3, g2_3, f2_3, ru2_3, rg2_3⟩ := steps (x := q_3) (y := lim m 2) (z := l2_3) (c := g1_3) rq_3 (lm 2) rl2_3 rg1_3
 obtain ⟨u3_3, g3_3, f3_3, ru3_3, rg3_3⟩ := steps (x := q_3) (y := lim m 3) (z := l3_3) (c := g2_3) rq_3 (lm 3) rl3_3 rg2_3
 obtain ⟨u4_3, g4_3, f4_3, ru4_3, rg4_3⟩ := steps (x := q_3) (y := lim m 4) (z := l4_3) (c := g3_3) rq_3 (lm 4) rl4_3 rg3_3
 obtain ⟨u5_3, g5_3, f5_3, ru5_3, rg5_3⟩ := steps (x := q_3) (y := lim m 5) (z := l5_3) (c := g4_3) rq_3 (lm 5) rl5_3 rg4_3
 obtain ⟨w_3, c_3, fa_3, rw_3, rc_3⟩ := carry (x := s_3) (y := g5_3) (z := 0) rs_3 rg5_3 z01
 have et_3 : rbin .add .u64 k_3 c_3 = k_3 + c_3 := (wrap_u64 _).trans (kcw rk_3 rc_3)
 have rt_3 := kcr rk_3 rc_3
 obtain rfl := low0 hi hq_3 f0_3 ru0_3
 have hR_3 := round6 e0_3 e1_3 e2_3 e3_3 e4_3 e5_3 ea_3 f0_3 f1_3 f2_3 f3_3 f4_3 f5_3 fa_3
 obtain ⟨T4, hT4⟩ : ∃ T : Int, T = u1_3 + 18446744073709551616 * (u2_3 + 18446744073709551616 * (u3_3 + 18446744073709551616 * (u4_3 + 18446744073709551616 * (u5_3 + 18446744073709551616 * (w_3 + 18446744073709551616 * ((k_3 + c_3))))))) := ⟨_, rfl⟩
 have E_3 : 18446744073709551616 * T4 = T3 + lim a 3 * (b : Int) + q_3 * (m : Int) := by
   rw [split6 hl b hb, split6 hl m hm, ← horm6, ← horm6, hT4, hT3]; exact hR_3
 obtain ⟨l0_4, h0_4, e0_4, rl0_4, rh0_4⟩ := steps (x := (lim a 4)) (y := lim b 0) (z := u1_3) (c := (0 : Int)) (la 4) (lb 0) ru1_3 z64
 obtain ⟨l1_4, h1_4, e1_4, rl1_4, rh1_4⟩ := steps (x := (lim a 4)) (y := lim b 1) (z := u2_3) (c := h0_4) (la 4) (lb 1) ru2_3 rh0_4
 obtain ⟨l2_4, h2_4, e2_4, rl2_4, rh2_4⟩ := steps (x := (lim a 4)) (y := lim b 2) (z := u3_3) (c := h1_4) (la 4) (lb 2) ru3_3 rh1_4
 obtain ⟨l3_4, h3_4, e3_4, rl3_4, rh3_4⟩ := steps (x := (lim a 4)) (y := lim b 3) (z := u4_3) (c := h2_4) (la 4) (lb 3) ru4_3 rh2_4
 obtain ⟨l4_4, h4_4, e4_4, rl4_4, rh4_4⟩ := steps (x := (lim a 4)) (y := lim b 4) (z := u5_3) (c := h3_4) (la 4) (lb 4) ru5_3 rh3_4
 obtain ⟨l5_4, h5_4, e5_4, rl5_4, rh5_4⟩ := steps (x := (lim a 4)) (y := lim b 5) (z := w_3) (c := h4_4) (la 4) (lb 5) rw_3 rh4_4
 obtain ⟨s_4, k_4, ea_4, rs_4, rk_4⟩ := carry (x := (k_3 + c_3)) (y := h5_4) (z := 0) rt_3 rh5_4 z01
 obtain ⟨q_4, hq_4⟩ : ∃ q : Int, q = l0_4 * (inv : Int) % 18446744073709551616 := ⟨_, rfl⟩
 have rq_4 := modr hq_4
 have eq_4 : rbin .mul .u64 l0_4 (Int.ofNat inv) = q_4 := by rw [hq_4]; exact wrap_u64 _
 obtain ⟨u0_4, g0_4, f0_4, ru0_4, rg0_4⟩ := steps (x := q_4) (y := lim m 0) (z := l0_4) (c := (0 : Int)) rq_4 (lm 0) rl0_4 z64
 obtain ⟨u1_4, g1_4, f1_4, ru1_4, rg1_4⟩ := steps (x := q_4) (y := lim m 1) (z := l1_4) (c := g0_4) rq_4 (lm 1) rl1_4 rg0_4
 obtain ⟨u2_4, g2_4, f2_4, ru2_4, rg2_4⟩ := steps (x := q_4) (y := lim m 2) (z := l2_4) (c := g1_4) rq_4 (lm 2) rl2_4 rg1_4
 obtain ⟨u3_4, g3_4, f3_4, ru3_4, rg3_4⟩ := steps (x := q_4) (y := lim m 3) (z := l3_4) (c := g2_4) rq_4 (lm 3) rl3_4 rg2_4
 obtain ⟨u4_4, g4_4, f4_4, ru4_4, rg4_4⟩ := steps (x := q_4) (y := lim m 4) (z := l4_4) (c := g3_4) rq_4 (lm 4) rl4_4 rg3_4
 obtain ⟨u5_4, g5_4, f5_4, ru5_4, rg5_4⟩ := steps (x := q_4) (y := lim m 5) (z := l5_4) (c := g4_4) rq_4 (lm 5) rl5_4 rg4_4
 obtain ⟨w_4, c_4, fa_4, rw_4, rc_4⟩ := carry (x := s_4) (y := g5_4) (z := 0) rs_4 rg5_4 z01
 have et_4 : rbin .add .u64 k_4 c_4 = k_4 + c_4 := (wrap_u64 _).trans (kcw rk_4 rc_4)
 have rt_4 := kcr rk_4 rc_4
 obtain rfl := low0 hi hq_4 f0_4 ru0_4
 have hR_4 := round6 e0_4 e1_4 e2_4 e3_4 e4_4 e5_4 ea_4 f0_4 f1_4 f2_4 f3_4 f4_4 f5_4 fa_4
 obtain ⟨T5, hT5⟩ : ∃ T : Int, T = u1_4 + 18446744073709551616 * (u2_4 + 18446744073709551616 * (u3_4 + 18446744073709551616 * (u4_4 + 18446744073709551616 * (u5_4 + 18446744073709551616 * (w_4 + 18446744073709551616 * ((k_4 + c_4))))))) := ⟨_, rfl⟩
 have E_4 : 18446744073709551616 * T5 = T4 + lim a 4 * (b : Int) + q_4 * (m : Int) := by
   rw [split6 hl b hb, split6 hl m hm, ← horm6, ← horm6, hT5, hT4]; exact hR_4
 obtain ⟨l0_5, h0_5, e0_5, rl0_5, rh0_5⟩ := steps (x := (lim a 5)) (y := lim b 0) (z := u1_4) (c := (0 : Int)) (la 5) (lb 0) ru1_4 z64
 obtain ⟨l1_5, h1_5, e1_5, rl1_5, rh1_5⟩ := steps (x := (lim a 5)) (y := lim b 1) (z := u2_4) (c := h0_5) (la 5) (lb 1) ru2_4 rh0_5
 obtain ⟨l2_5, h2_5, e2_5, rl2_5, rh2_5⟩ := steps (x := (lim a 5)) (y := lim b 2) (z := u3_4) (c := h1_5) (la 5) (lb 2) ru3_4 rh1_5
 obtain ⟨l3_5, h3_5, e3_5, rl3_5, rh3_5⟩ := steps (x := (lim a 5)) (y := lim b 3) (z := u4_4) (c := h2_5) (la 5) (lb 3) ru4_4 rh2_5
 obtain ⟨l4_5, h4_5, e4_5, rl4_5, rh4_5⟩ := steps (x := (lim a 5)) (y := lim b 4) (z := u5_4) (c := h3_5) (la 5) (lb 4) ru5_4 rh3_5
 obtain ⟨l5_5, h5_5, e5_5, rl5_5, rh5_5⟩ := steps (x := (lim a 5)) (y := lim b 5) (z := w_4) (c := h4_5) (la 5) (lb 5) rw_4 rh4_5
 obtain ⟨s_5, k_5, ea_5, rs_5, rk_5⟩ := carry (x := (k_4 + c_4)) (y := h5_5) (z := 0) rt_4 rh5_5 z01
 obtain ⟨q_5, hq_5⟩ : ∃ q : Int, q = l0_5 * (inv : Int) % 18446744073709551616 := ⟨_, rfl⟩
 have rq_5 := modr hq_5
 have eq_5 : rbin .mul .u64 l0_5 (Int.ofNat inv) = q_5 := by rw [hq_5]; exact wrap_u64 _
 obtain ⟨u0_5, g0_5, f0_5, ru0_5, rg0_5⟩ := steps (x := q_5) (y := lim m 0) (z := l0_5) (c := (0 : Int)) rq_5 (lm 0) rl0_5 z64
 obtain ⟨u1_5, g1_5, f1_5, ru1_5, rg1_5⟩ := steps (x := q_5) (y := lim m 1) (z := l1_5) (c := g0_5) rq_5 (lm 1) rl1_5 rg0_5
 obtain ⟨u2_5, g2_5, f2_5, ru2_5, rg2_5⟩ := steps (x := q_5) (y := lim m 2) (z := l2_5) (c := g1_5) rq_5 (lm 2) rl2_5 rg1_5
 obtain ⟨u3_5, g3_5, f3_5, ru3_5, rg3_5⟩ := steps (x := q_5) (y := lim m 3) (z := l3_5) (c := g2_5) rq_5 (lm 3) rl3_5 rg2_5
 obtain ⟨u4_5, g4_5, f4_5, ru4_5, rg4_5⟩ := steps (x := q_5) (y := lim m 4) (z := l4_5) (c := g3_5) rq_5 (lm 4) rl4_5 rg3_5
 obtain ⟨u5_5, g5_5, f5_5, ru5_5, rg5_5⟩ := steps (x := q_5) (y := lim m 5) (z := l5_5) (c := g4_5) rq_5 (lm 5) rl5_5 rg4_5
 obtain ⟨w_5, c_5, fa_5, rw_5, rc_5⟩ := carry (x := s_5) (y := g5_5) (z := 0) rs_5 rg5_5 z01
 have et_5 : rbin .add .u64 k_5 c_5 = k_5 + c_5 := (wrap_u64 _).trans (kcw rk_5 rc_5)
 have rt_5 := kcr rk_5 rc_5
 obtain rfl := low0 hi hq_5 f0_5 ru0_5
 have hR_5 := round6 e0_5 e1_5 e2_5 e3_5 e4_5 e5_5 ea_5 f0_5 f1_5 f2_5 f3_5 f4_5 f5_5 fa_5
 obtain ⟨T6, hT6⟩ : ∃ T : Int, T = u1_5 + 18446744073709551616 * (u2_5 + 18446744073709551616 * (u3_5 + 18446744073709551616 * (u4_5 + 18446744073709551616 * (u5_5 + 18446744073709551616 * (w_5 + 18446744073709551616 * ((k_5 + c_5))))))) := ⟨_, rfl⟩
 have E_5 : 18446744073709551616 * T6 = T5 + lim a 5 * (b : Int) + q_5 * (m : Int) := by
   rw [split6 hl b hb, split6 hl m hm, ← horm6, ← horm6, hT6, hT5]; exact hR_5
 have hC := chain6 E_0 E_1 E_2 E_3 E_4 E_5
 rw [horn6, horn6, ← split6 hl a ha] at hC
 have hend := mont_end6 ha hb hm hodd hab hr hrr hC rq_0 rq_1 rq_2 rq_3 rq_4 rq_5 ru1_5 ru2_5 ru3_5 ru4_5 ru5_5 rw_5 rk_5 rc_5 hT6
 obtain ⟨s, d, k, hs, hs', hd, hd', hcase⟩ := hend
 obtain ⟨y0, y1, y2, y3, y4, y5⟩ := lim_of6 hl hs ru1_5 ru2_5 ru3_5 ru4_5 ru5_5 hs'
 have hmin := minus6 hl s m d k hs hm hd hd'
 unfold u6 at hmin
 rw [y0, y1, y2, y3, y4, y5] at hmin
 refine ⟨d, mkM Tryz.func204 rfl rfl L0 R0 (by decide +kernel) fun A S hA hS => ?_⟩
 unfold bodyOf Tryz.f204
 cbv
 refine ACall.mk (.tup [.s .u64 h0_0, .s .u64 l0_0]) (cf hS (stepS (lim a 0) (lim b 0) (0 : Int) (0 : Int) _ _ (la 0) (lb 0) z64 z64 (.i _) (.i _) e0_0 rl0_0)) ?_
 cbv
 refine ACall.mk (.tup [.s .u64 h1_0, .s .u64 l1_0]) (cf hS (stepS (lim a 0) (lim b 1) (0 : Int) h0_0 _ _ (la 0) (lb 1) z64 rh0_0 (.i _) (.s _) e1_0 rl1_0)) ?_
 cbv
 refine ACall.mk (.tup [.s .u64 h2_0, .s .u64 l2_0]) (cf hS (stepS (lim a 0) (lim b 2) (0 : Int) h1_0 _ _ (la 0) (lb 2) z64 rh1_0 (.i _) (.s _) e2_0 rl2_0)) ?_
 cbv
 refine ACall.mk (.tup [.s .u64 h3_0, .s .u64 l3_0]) (cf hS (stepS (lim a 0) (lim b 3) (0 : Int) h2_0 _ _ (la 0) (lb 3) z64 rh2_0 (.i _) (.s _) e3_0 rl3_0)) ?_
 cbv
 refine ACall.mk (.tup [.s .u64 h4_0, .s .u64 l4_0]) (cf hS (stepS (lim a 0) (lim b 4) (0 : Int) h3_0 _ _ (la 0) (lb 4) z64 rh3_0 (.i _) (.s _) e4_0 rl4_0)) ?_
 cbv
 refine ACall.mk (.tup [.s .u64 h5_0, .s .u64 l5_0]) (cf hS (stepS (lim a 0) (lim b 5) (0 : Int) h4_0 _ _ (la 0) (lb 5) z64 rh4_0 (.i _) (.s _) e5_0 rl5_0)) ?_
 cbv
 refine ACall.mk (.tup [.s .u64 s_0, .s .u64 k_0]) (cf hS (add64S (.i _) (.s _) (.i _) z64.1 rh5_0.1 z01 _ _ ea_0 rs_0)) ?_
 cbv
 refine ACall.mk (.tup [.s .u64 g0_0, .s .u64 (0 : Int)]) (cf hS (sub_arg (show A.bin .mul .u64 l0_0 (Int.ofNat inv) = q_0 from by rw [hA]; exact eq_0) (stepS q_0 (lim m 0) l0_0 (0 : Int) _ _ rq_0 (lm 0) rl0_0 z64 (.s _) (.i _) f0_0 ru0_0))) ?_
 cbv
 refine ACall.mk (.tup [.s .u64 g1_0, .s .u64 u1_0]) (cf hS (sub_arg (show A.bin .mul .u64 l0_0 (Int.ofNat inv) = q_0 from by rw [hA]; exact eq_0) (stepS q_0 (lim m 1) l1_0 g0_0 _ _ rq_0 (lm 1) rl1_0 rg0_0 (.s _) (.s _) f1_0 ru1_0))) ?_
 cbv
 refine ACall.mk (.tup [.s .u64 g2_0, .s .u64 u2_0]) (cf hS (sub_arg (show A.bin .mul .u64 l0_0 (Int.ofNat inv) = q_0 from by rw [hA]; exact eq_0) (stepS q_0 (lim m 2) l2_0 g1_0 _ _ rq_0 (lm 2) rl2_0 rg1_0 (.s _) (.s _) f2_0 ru2_0))) ?_
 cbv
 refine ACall.mk (.tup [.s .u64 g3_0, .s .u64 u3_0]) (cf hS (sub_arg (show A.bin .mul .u64 l0_0 (Int.ofNat inv) = q_0 from by rw [hA]; exact eq_0) (stepS q_0 (lim m 3) l3_0 g2_0 _ _ rq_0 (lm 3) rl3_0 rg2_0 (.s _) (.s _) f3_0 ru3_0))) ?_
 cbv
 refine ACall.mk (.tup [.s .u64 g4_0, .s .u64 u4_0]) (cf hS (sub_arg (show A.bin .mul .u64 l0_0 (Int.ofNat inv) = q_0 from by rw [hA]; exact eq_0) (stepS q_0 (lim m 4) l4_0 g3_0 _ _ rq_0 (lm 4) rl4_0 rg3_0 (.s _) (.s _) f4_0 ru4_0))) ?_
 cbv
 refine ACall.mk (.tup [.s .u64 g5_0, .s .u64 u5_0]) (cf hS (sub_arg (show A.bin .mul .u64 l0_0 (Int.ofNat inv) = q_0 from by rw [hA]; exact eq_0) (stepS q_0 (lim m 5) l5_0 g4_0 _ _ rq_0 (lm 5) rl5_0 rg4_0 (.s _) (.s _) f5_0 ru5_0))) ?_
 cbv
 refine ACall.mk (.tup [.s .u64 w_0, .s .u64 c_0]) (cf hS (add64S (.s _) (.s _) (.i _) rs_0.1 rg5_0.1 z01 _ _ fa_0 rw_0)) ?_
 cbv
 refine ACall.mk (.tup [.s .u64 h0_1, .s .u64 l0_1]) (cf hS (stepS (lim a 1) (lim b 0) u1_0 (0 : Int) _ _ (la 1) (lb 0) ru1_0 z64 (.s _) (.i _) e0_1 rl0_1)) ?_
 cbv
 refine ACall.mk (.tup [.s .u64 h1_1, .s .u64 l1_1]) (cf hS (stepS (lim a 1) (lim b 1) u2_0 h0_1 _ _ (la 1) (lb 1) ru2_0 rh0_1 (.s _) (.s _) e1_1 rl1_1)) ?_
 cbv
 refine ACall.mk (.tup [.s .u64 h2_1, .s .u64 l2_1]) (cf hS (stepS (lim a 1) (lim b 2) u3_0 h1_1 _ _ (la 1) (lb 2) ru3_0 rh1_1 (.s _) (.s _) e2_1 rl2_1)) ?_
 cbv
 refine ACall.mk (.tup [.s .u64 h3_1, .s .u64 l3_1]) (cf hS (stepS (lim a 1) (lim b 3) u4_0 h2_1 _ _ (la 1) (lb 3) ru4_0 rh2_1 (.s _) (.s _) e3_1 rl3_1)) ?_
 cbv
 refine ACall.mk (.tup [.s .u64 h4_1, .s .u64 l4_1]) (cf hS (stepS (lim a 1) (lim b 4) u5_0 h3_1 _ _ (la 1) (lb 4) ru5_0 rh3_1 (.s _) (.s _) e4_1 rl4_1)) ?_
 cbv
 refine ACall.mk (.tup [.s .u64 h5_1, .s .u64 l5_1]) (cf hS (stepS (lim a 1) (lim b 5) w_0 h4_1 _ _ (la 1) (lb 5) rw_0 rh4_1 (.s _) (.s _) e5_1 rl5_1)) ?_
 cbv
 refine ACall.mk (.tup [.s .u64 s_1, .s .u64 k_1]) (cf hS (sub_arg (show A.bin .add .u64 k_0 c_0 = k_0 + c_0 from by rw [hA]; exact et_0) <| add64S (.s _) (.s _) (.i _) rt_0.1 rh5_1.1 z01 _ _ ea_1 rs_1)) ?_
 cbv
 refine ACall.mk (.tup [.s .u64 g0_1, .s .u64 (0 : Int)]) (cf hS (sub_arg (show A.bin .mul .u64 l0_1 (Int.ofNat inv) = q_1 from by rw [hA]; exact eq_1) (stepS q_1 (lim m 0) l0_1 (0 : Int) _ _ rq_1 (lm 0) rl0_1 z64 (.s _) (.i _) f0_1 ru0_1))) ?_
 cbv
 refine ACall.mk (.tup [.s .u64 g1_1, .s .u64 u1_1]) (cf hS (sub_arg (show A.bin .mul .u64 l0_1 (Int.ofNat inv) = q_1 from by rw [hA]; exact eq_1) (stepS q_1 (lim m 1) l1_1 g0_1 _ _ rq_1 (lm 1) rl1_1 rg0_1 (.s _) (.s _) f1_1 ru1_1))) ?_
 cbv
 refine ACall.mk (.tup [.s .u64 g2_1, .s .u64 u2_1]) (cf hS (sub_arg (show A.bin .mul .u64 l0_1 (Int.ofNat inv) = q_1 from by rw [hA]; exact eq_1) (stepS q_1 (lim m 2) l2_1 g1_1 _ _ rq_1 (lm 2) rl2_1 rg1_1 (.s _) (.s _) f2_1 ru2_1))) ?_
 cbv
 refine ACall.mk (.tup [.s .u64 g3_1, .s .u64 u3_1]) (cf hS (sub_arg (show A.bin .mul .u64 l0_1 (Int.ofNat inv) = q_1 from by rw [hA]; exact eq_1) (stepS q_1 (lim m 3) l3_1 g2_1 _ _ rq_1 (lm 3) rl3_1 rg2_1 (.s _) (.s _) f3_1 ru3_1))) ?_
 cbv
 refine ACall.mk (.tup [.s .u64 g4_1, .s .u64 u4_1]) (cf hS (sub_arg (show A.bin .mul .u64 l0_1 (Int.ofNat inv) = q_1 from by rw [hA]; exact eq_1) (stepS q_1 (lim m 4) l4_1 g3_1 _ _ rq_1 (lm 4) rl4_1 rg3_1 (.s _) (.s _) f4_1 ru4_1))) ?_
 cbv
 refine ACall.mk (.tup [.s .u64 g5_1, .s .u64 u5_1]) (cf hS (sub_arg (show A.bin .mul .u64 l0_1 (Int.ofNat inv) = q_1 from by rw [hA]; exact eq_1) (stepS q_1 (lim m 5) l5_1 g4_1 _ _ rq_1 (lm 5) rl5_1 rg4_1 (.s _) (.s _) f5_1 ru5_1))) ?_
 cbv
 refine ACall.mk (.tup [.s .u64 w_1, .s .u64 c_1]) (cf hS (add64S (.s _) (.s _) (.i _) rs_1.1 rg5_1.1 z01 _ _ fa_1 rw_1)) ?_
 cbv
 refine ACall.mk (.tup [.s .u64 h0_2, .s .u64 l0_2]) (cf hS (stepS (lim a 2) (lim b 0) u1_1 (0 : Int) _ _ (la 2) (lb 0) ru1_1 z64 (.s _) (.i _) e0_2 rl0_2)) ?_
 cbv
 refine ACall.mk (.tup [.s .u64 h1_2, .s .u64 l1_2]) (cf hS (stepS (lim a 2) (lim b 1) u2_1 h0_2 _ _ (la 2) (lb 1) ru2_1 rh0_2 (.s _) (.s _) e1_2 rl1_2)) ?_
 cbv
 refine ACall.mk (.tup [.s .u64 h2_2, .s .u64 l2_2]) (cf hS (stepS (lim a 2) (lim b 2) u3_1 h1_2 _ _ (la 2) (lb 2) ru3_1 rh1_2 (.s _) (.s _) e2_2 rl2_2)) ?_
 cbv
 refine ACall.mk (.tup [.s .u64 h3_2, .s .u64 l3_2]) (cf hS (stepS (lim a 2) (lim b 3) u4_1 h2_2 _ _ (la 2) (lb 3) ru4_1 rh2_2 (.s _) (.s _) e3_2 rl3_2)) ?_
 cbv
 refine ACall.mk (.tup [.s .u64 h4_2, .s .u64 l4_2]) (cf hS (stepS (lim a 2) (lim b 4) u5_1 h3_2 _ _ (la 2) (lb 4) ru5_1 rh3_2 (.s _) (.s _) e4_2 rl4_2)) ?_
 cbv
 refine ACall.mk (.tup [.s .u64 h5_2, .s .u64 l5_2]) (cf hS (stepS (lim a 2) (lim b 5) w_1 h4_2 _ _ (la 2) (lb 5) rw_1 rh4_2 (.s _) (.s _) e5_2 rl5_2)) ?_
 cbv
 refine ACall.mk (.tup [.s .u64 s_2, .s .u64 k_2]) (cf hS (sub_arg (show A.bin .add .u64 k_1 c_1 = k_1 + c_1 from by rw [hA]; exact et_1) <| add64S (.s _) (.s _) (.i _) rt_1.1 rh5_2.1 z01 _ _ ea_2 rs_2)) ?_
 cbv
 refine ACall.mk (.tup [.s .u64 g0_2, .s .u64 (0 : Int)]) (cf hS (sub_arg (show A.bin .mul .u64 l0_2 (Int.ofNat inv) = q_2 from by rw [hA]; exact eq_2) (stepS q_2 (lim m 0) l0_2 (0 : Int) _ _ rq_2 (lm 0) rl0_2 z64 (.s _) (.i _) f0_2 ru0_2))) ?_
 cbv
 refine ACall.mk (.tup [.s .u64 g1_2, .s .u64 u1_2]) (cf hS (sub_arg (show A.bin .mul .u64 l0_2 (Int.ofNat inv) = q_2 from by rw [hA]; exact eq_2) (stepS q_2 (lim m 1) l1_2 g0_2 _ _ rq_2 (lm 1) rl1_2 rg0_2 (.s _) (.s _) f1_2 ru1_2))) ?_
 cbv
 refine ACall.mk (.tup [.s .u64 g2_2, .s .u64 u2_2]) (cf hS (sub_arg (show A.bin .mul .u64 l0_2 (Int.ofNat inv) = q_2 from by rw [hA]; exact eq_2) (stepS q_2 (lim m 2) l2_2 g1_2 _ _ rq_2 (lm 2) rl2_2 rg1_2 (.s _) (.s _) f2_2 ru2_2))) ?_
 cbv
 refine ACall.mk (.tup [.s .u64 g3_2, .s .u64 u3_2]) (cf hS (sub_arg (show A.bin .mul .u64 l0_2 (Int.ofNat inv) = q_2 from by rw [hA]; exact eq_2) (stepS q_2 (lim m 3) l3_2 g2_2 _ _ rq_2 (lm 3) rl3_2 rg2_2 (.s _) (.s _) f3_2 ru3_2))) ?_
 cbv
 refine ACall.mk (.tup [.s .u64 g4_2, .s .u64 u4_2]) (cf hS (sub_arg (show A.bin .mul .u64 l0_2 (Int.ofNat inv) = q_2 from by rw [hA]; exact eq_2) (stepS q_2 (lim m 4) l4_2 g3_2 _ _ rq_2 (lm 4) rl4_2 rg3_2 (.s _) (.s _) f4_2 ru4_2))) ?_
 cbv
 refine ACall.mk (.tup [.s .u64 g5_2, .s .u64 u5_2]) (cf hS (sub_arg (show A.bin .mul .u64 l0_2 (Int.ofNat inv) = q_2 from by rw [hA]; exact eq_2) (stepS q_2 (lim m 5) l5_2 g4_2 _ _ rq_2 (lm 5) rl5_2 rg4_2 (.s _) (.s _) f5_2 ru5_2))) ?_
 cbv
 refine ACall.mk (.tup [.s .u64 w_2, .s .u64 c_2]) (cf hS (add64S (.s _) (.s _) (.i _) rs_2.1 rg5_2.1 z01 _ _ fa_2 rw_2)) ?_
 cbv
 refine ACall.mk (.tup [.s .u64 h0_3, .s .u64 l0_3]) (cf hS (stepS (lim a 3) (lim b 0) u1_2 (0 : Int) _ _ (la 3) (lb 0) ru1_2 z64 (.s _) (.i _) e0_3 rl0_3)) ?_
 cbv
 refine ACall.mk (.tup [.s .u64 h1_3, .s .u64 l1_3]) (cf hS (stepS (lim a 3) (lim b 1) u2_2 h0_3 _ _ (la 3) (lb 1) ru2_2 rh0_3 (.s _) (.s _) e1_3 rl1_3)) ?_
 cbv
 refine ACall.mk (.tup [.s .u64 h2_3, .s .u64 l2_3]) (cf hS (stepS (lim a 3) (lim b 2) u3_2 h1_3 _ _ (la 3) (lb 2) ru3_2 rh1_3 (.s _) (.s _) e2_3 rl2_3)) ?_
 cbv
 refine ACall.mk (.tup [.s .u64 h3_3, .s .u64 l3_3]) (cf hS (stepS (lim a 3) (lim b 3) u4_2 h2_3 _ _ (la 3) (lb 3) ru4_2 rh2_3 (.s _) (.s _) e3_3 rl3_3)) ?_
 cbv
 refine ACall.mk (.tup [.s .u64 h4_3, .s .u64 l4_3]) (cf hS (stepS (lim a 3) (lim b 4) u5_2 h3_3 _ _ (la 3) (lb 4) ru5_2 rh3_3 (.s _) (.s _) e4_3 rl4_3)) ?_
 cbv
 refine ACall.mk (.tup [.s .u64 h5_3, .s .u64 l5_3]) (cf hS (stepS (lim a 3) (lim b 5) w_2 h4_3 _ _ (la 3) (lb 5) rw_2 rh4_3 (.s _) (.s _) e5_3 rl5_3)) ?_
 cbv
 refine ACall.mk (.tup [.s .u64 s_3, .s .u64 k_3]) (cf hS (sub_arg (show A.bin .add .u64 k_2 c_2 = k_2 + c_2 from by rw [hA]; exact et_2) <| add64S (.s _) (.s _) (.i _) rt_2.1 rh5_3.1 z01 _ _ ea_3 rs_3)) ?_
 cbv
 refine ACall.mk (.tup [.s .u64 g0_3, .s .u64 (0 : Int)]) (cf hS (sub_arg (show A.bin .mul .u64 l0_3 (Int.ofNat inv) = q_3 from by rw [hA]; exact eq_3) (stepS q_3 (lim m 0) l0_3 (0 : Int) _ _ rq_3 (lm 0) rl0_3 z64 (.s _) (.i _) f0_3 ru0_3))) ?_
 cbv
 refine ACall.mk (.tup [.s .u64 g1_3, .s .u64 u1_3]) (cf hS (sub_arg (show A.bin .mul .u64 l0_3 (Int.ofNat inv) = q_3 from by rw [hA]; exact eq_3) (stepS q_3 (lim m 1) l1_3 g0_3 _ _ rq_3 (lm 1) rl1_3 rg0_3 (.s _) (.s _) f1_3 ru1_3))) ?_
 cbv
 refine ACall.mk (.tup [.s .u64 g2_3, .s .u64 u2_3]) (cf hS (sub_arg (show A.bin .mul .u64 l0_3 (Int.ofNat inv) = q_3 from by rw [hA]; exact eq_3) (stepS q_3 (lim m 2) l2_3 g1_3 _ _ rq_3 (lm 2) rl2_3 rg1_3 (.s _) (.s _) f2_3 ru2_3))) ?_
 cbv
 refine ACall.mk (.tup [.s .u64 g3_3, .s .u64 u3_3]) (cf hS (sub_arg (show A.bin .mul .u64 l0_3 (Int.ofNat inv) = q_3 from by rw [hA]; exact eq_3) (stepS q_3 (lim m 3) l3_3 g2_3 _ _ rq_3 (lm 3) rl3_3 rg2_3 (.s _) (.s _) f3_3 ru3_3))) ?_
 cbv
 refine ACall.mk (.tup [.s .u64 g4_3, .s .u64 u4_3]) (cf hS (sub_arg (show A.bin .mul .u64 l0_3 (Int.ofNat inv) = q_3 from by rw [hA]; exact eq_3) (stepS q_3 (lim m 4) l4_3 g3_3 _ _ rq_3 (lm 4) rl4_3 rg3_3 (.s _) (.s _) f4_3 ru4_3))) ?_
 cbv
 refine ACall.mk (.tup [.s .u64 g5_3, .s .u64 u5_3]) (cf hS (sub_arg (show A.bin .mul .u64 l0_3 (Int.ofNat inv) = q_3 from by rw [hA]; exact eq_3) (stepS q_3 (lim m 5) l5_3 g4_3 _ _ rq_3 (lm 5) rl5_3 rg4_3 (.s _) (.s _) f5_3 ru5_3))) ?_
 cbv
 refine ACall.mk (.tup [.s .u64 w_3, .s .u64 c_3]) (cf hS (add64S (.s _) (.s _) (.i _) rs_3.1 rg5_3.1 z01 _ _ fa_3 rw_3)) ?_
 cbv
 refine ACall.mk (.tup [.s .u64 h0_4, .s .u64 l0_4]) (cf hS (stepS (lim a 4) (lim b 0) u1_3 (0 : Int) _ _ (la 4) (lb 0) ru1_3 z64 (.s _) (.i _) e0_4 rl0_4)) ?_
 cbv
 refine ACall.mk (.tup [.s .u64 h1_4, .s .u64 l1_4]) (cf hS (stepS (lim a 4) (lim b 1) u2_3 h0_4 _ _ (la 4) (lb 1) ru2_3 rh0_4 (.s _) (.s _) e1_4 rl1_4)) ?_
 cbv
 refine ACall.mk (.tup [.s .u64 h2_4, .s .u64 l2_4]) (cf hS (stepS (lim a 4) (lim b 2) u3_3 h1_4 _ _ (la 4) (lb 2) ru3_3 rh1_4 (.s _) (.s _) e2_4 rl2_4)) ?_
 cbv
 refine ACall.mk (.tup [.s .u64 h3_4, .s .u64 l3_4]) (cf hS (stepS (lim a 4) (lim b 3) u4_3 h2_4 _ _ (la 4) (lb 3) ru4_3 rh2_4 (.s _) (.s _) e3_4 rl3_4)) ?_
 cbv
 refine ACall.mk (.tup [.s .u64 h4_4, .s .u64 l4_4]) (cf hS (stepS (lim a 4) (lim b 4) u5_3 h3_4 _ _ (la 4) (lb 4) ru5_3 rh3_4 (.s _) (.s _) e4_4 rl4_4)) ?_
 cbv
 refine ACall.mk (.tup [.s .u64 h5_4, .s .u64 l5_4]) (cf hS (stepS (lim a 4) (lim b 5) w_3 h4_4 _ _ (la 4) (lb 5) rw_3 rh4_4 (.s _) (.s _) e5_4 rl5_4)) ?_
 cbv
 refine ACall.mk (.tup [.s .u64 s_4, .s .u64 k_4]) (cf hS (sub_arg (show A.bin .add .u64 k_3 c_3 = k_3 + c_3 from by rw [hA]; exact et_3) <| add64S (.s _) (.s _) (.i _) rt_3.1 rh5_4.1 z01 _ _ ea_4 rs_4)) ?_
 cbv
 refine ACall.mk (.tup [.s .u64 g0_4, .s .u64 (0 : Int)]) (cf hS (sub_arg (show A.bin .mul .u64 l0_4 (Int.ofNat inv) = q_4 from by rw [hA]; exact eq_4) (stepS q_4 (lim m 0) l0_4 (0 : Int) _ _ rq_4 (lm 0) rl0_4 z64 (.s _) (.i _) f0_4 ru0_4))) ?_
 cbv
 refine ACall.mk (.tup [.s .u64 g1_4, .s .u64 u1_4]) (cf hS (sub_arg (show A.bin .mul .u64 l0_4 (Int.ofNat inv) = q_4 from by rw [hA]; exact eq_4) (stepS q_4 (lim m 1) l1_4 g0_4 _ _ rq_4 (lm 1) rl1_4 rg0_4 (.s _) (.s _) f1_4 ru1_4))) ?_
 cbv
 refine ACall.mk (.tup [.s .u64 g2_4, .s .u64 u2_4]) (cf hS (sub_arg (show A.bin .mul .u64 l0_4 (Int.ofNat inv) = q_4 from by rw [hA]; exact eq_4) (stepS q_4 (lim m 2) l2_4 g1_4 _ _ rq_4 (lm 2) rl2_4 rg1_4 (.s _) (.s _) f2_4 ru2_4))) ?_
 cbv
 refine ACall.mk (.tup [.s .u64 g3_4, .s .u64 u3_4]) (cf hS (sub_arg (show A.bin .mul .u64 l0_4 (Int.ofNat inv) = q_4 from by rw [hA]; exact eq_4) (stepS q_4 (lim m 3) l3_4 g2_4 _ _ rq_4 (lm 3) rl3_4 rg2_4 (.s _) (.s _) f3_4 ru3_4))) ?_
 cbv
 refine ACall.mk (.tup [.s .u64 g4_4, .s .u64 u4_4]) (cf hS (sub_arg (show A.bin .mul .u64 l0_4 (Int.ofNat inv) = q_4 from by rw [hA]; exact eq_4) (stepS q_4 (lim m 4) l4_4 g3_4 _ _ rq_4 (lm 4) rl4_4 rg3_4 (.s _) (.s _) f4_4 ru4_4))) ?_
 cbv
 refine ACall.mk (.tup [.s .u64 g5_4, .s .u64 u5_4]) (cf hS (sub_arg (show A.bin .mul .u64 l0_4 (Int.ofNat inv) = q_4 from by rw [hA]; exact eq_4) (stepS q_4 (lim m 5) l5_4 g4_4 _ _ rq_4 (lm 5) rl5_4 rg4_4 (.s _) (.s _) f5_4 ru5_4))) ?_
 cbv
 refine ACall.mk (.tup [.s .u64 w_4, .s .u64 c_4]) (cf hS (add64S (.s _) (.s _) (.i _) rs_4.1 rg5_4.1 z01 _ _ fa_4 rw_4)) ?_
 cbv
 refine ACall.mk (.tup [.s .u64 h0_5, .s .u64 l0_5]) (cf hS (stepS (lim a 5) (lim b 0) u1_4 (0 : Int) _ _ (la 5) (lb 0) ru1_4 z64 (.s _) (.i _) e0_5 rl0_5)) ?_
 cbv
 refine ACall.mk (.tup [.s .u64 h1_5, .s .u64 l1_5]) (cf hS (stepS (lim a 5) (lim b 1) u2_4 h0_5 _ _ (la 5) (lb 1) ru2_4 rh0_5 (.s _) (.s _) e1_5 rl1_5)) ?_
 cbv
 refine ACall.mk (.tup [.s .u64 h2_5, .s .u64 l2_5]) (cf hS (stepS (lim a 5) (lim b 2) u3_4 h1_5 _ _ (la 5) (lb 2) ru3_4 rh1_5 (.s _) (.s _) e2_5 rl2_5)) ?_
 cbv
 refine ACall.mk (.tup [.s .u64 h3_5, .s .u64 l3_5]) (cf hS (stepS (lim a 5) (lim b 3) u4_4 h2_5 _ _ (la 5) (lb 3) ru4_4 rh2_5 (.s _) (.s _) e3_5 rl3_5)) ?_
 cbv
 refine ACall.mk (.tup [.s .u64 h4_5, .s .u64 l4_5]) (cf hS (stepS (lim a 5) (lim b 4) u5_4 h3_5 _ _ (la 5) (lb 4) ru5_4 rh3_5 (.s _) (.s _) e4_5 rl4_5)) ?_
 cbv
 refine ACall.mk (.tup [.s .u64 h5_5, .s .u64 l5_5]) (cf hS (stepS (lim a 5) (lim b 5) w_4 h4_5 _ _ (la 5) (lb 5) rw_4 rh4_5 (.s _) (.s _) e5_5 rl5_5)) ?_
 cbv
 refine ACall.mk (.tup [.s .u64 s_5, .s .u64 k_5]) (cf hS (sub_arg (show A.bin .add .u64 k_4 c_4 = k_4 + c_4 from by rw [hA]; exact et_4) <| add64S (.s _) (.s _) (.i _) rt_4.1 rh5_5.1 z01 _ _ ea_5 rs_5)) ?_
 cbv
 refine ACall.mk (.tup [.s .u64 g0_5, .s .u64 (0 : Int)]) (cf hS (sub_arg (show A.bin .mul .u64 l0_5 (Int.ofNat inv) = q_5 from by rw [hA]; exact eq_5) (stepS q_5 (lim m 0) l0_5 (0 : Int) _ _ rq_5 (lm 0) rl0_5 z64 (.s _) (.i _) f0_5 ru0_5))) ?_
 cbv
 refine ACall.mk (.tup [.s .u64 g1_5, .s .u64 u1_5]) (cf hS (sub_arg (show A.bin .mul .u64 l0_5 (Int.ofNat inv) = q_5 from by rw [hA]; exact eq_5) (stepS q_5 (lim m 1) l1_5 g0_5 _ _ rq_5 (lm 1) rl1_5 rg0_5 (.s _) (.s _) f1_5 ru1_5))) ?_
 cbv
 refine ACall.mk (.tup [.s .u64 g2_5, .s .u64 u2_5]) (cf hS (sub_arg (show A.bin .mul .u64 l0_5 (Int.ofNat inv) = q_5 from by rw [hA]; exact eq_5) (stepS q_5 (lim m 2) l2_5 g1_5 _ _ rq_5 (lm 2) rl2_5 rg1_5 (.s _) (.s _) f2_5 ru2_5))) ?_
 cbv
 refine ACall.mk (.tup [.s .u64 g3_5, .s .u64 u3_5]) (cf hS (sub_arg (show A.bin .mul .u64 l0_5 (Int.ofNat inv) = q_5 from by rw [hA]; exact eq_5) (stepS q_5 (lim m 3) l3_5 g2_5 _ _ rq_5 (lm 3) rl3_5 rg2_5 (.s _) (.s _) f3_5 ru3_5))) ?_
 cbv
 refine ACall.mk (.tup [.s .u64 g4_5, .s .u64 u4_5]) (cf hS (sub_arg (show A.bin .mul .u64 l0_5 (Int.ofNat inv) = q_5 from by rw [hA]; exact eq_5) (stepS q_5 (lim m 4) l4_5 g3_5 _ _ rq_5 (lm 4) rl4_5 rg3_5 (.s _) (.s _) f4_5 ru4_5))) ?_
 cbv
 refine ACall.mk (.tup [.s .u64 g5_5, .s .u64 u5_5]) (cf hS (sub_arg (show A.bin .mul .u64 l0_5 (Int.ofNat inv) = q_5 from by rw [hA]; exact eq_5) (stepS q_5 (lim m 5) l5_5 g4_5 _ _ rq_5 (lm 5) rl5_5 rg4_5 (.s _) (.s _) f5_5 ru5_5))) ?_
 cbv
 refine ACall.mk (.tup [.s .u64 w_5, .s .u64 c_5]) (cf hS (add64S (.s _) (.s _) (.i _) rs_5.1 rg5_5.1 z01 _ _ fa_5 rw_5)) ?_
 cbv
 refine ACall.mk (.tup [u6 lim d, .s .u64 k]) (cf hS hmin) ?_
 cbv
 have hgt : A.cmp .gtr (A.bin .add .u64 k_5 c_5) 0 = decide (k_5 + c_5 > 0) := by rw [hA]; show decide (rbin .add .u64 k_5 c_5 > 0) = _; rw [et_5]
 rcases hcase with ⟨hh, rfl⟩ | ⟨h0, rfl, rfl⟩
 . by_cases h0 : k_5 + c_5 > 0
   . rw [decide_eq_true h0] at hgt
     refine ABr.t hgt ?_
     cbv
     refine ABr.t hgt ?_
     cbv
     refine ABr.t hgt ?_
     cbv
     exact ⟨rfl, trivial⟩
   . rw [decide_eq_false h0] at hgt
     obtain rfl : k = 0 := by omega
     have heq : A.cmp .eql (Int.ofNat 0) 0 = true := by rw [hA]; rfl
     refine ABr.f hgt ?_
     cbv
     refine ABr.f hgt ?_
     cbv
     refine ABr.f hgt ?_
     cbv
     refine ABr.t heq ?_
     cbv
     exact ⟨rfl, trivial⟩
 . rw [decide_eq_false (by omega)] at hgt
   have heq : A.cmp .eql (Int.ofNat 1) 0 = false := by rw [hA]; rfl
   refine ABr.f hgt ?_
   cbv
   refine ABr.f hgt ?_
   cbv
   refine ABr.f hgt ?_
   cbv
   refine ABr.f heq ?_
   cbv
   rw [y0, y1, y2, y3, y4, y5]
   exact ⟨rfl, rfl⟩
end Go.Proofs.YtmholgclgamnnaaGreat
end
