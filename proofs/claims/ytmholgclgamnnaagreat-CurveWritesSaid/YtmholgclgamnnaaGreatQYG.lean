import Derived.Test.YtmholgclgamnnaaGreatQYF
set_option linter.unusedVariables false
set_option linter.unusedSimpArgs false
namespace Go.Proofs.YtmholgclgamnnaaGreat
open Go Eng
set_option maxRecDepth 100000
set_option exponentiation.threshold 2000
set_option maxHeartbeats 16000000 in
theorem mont4S {lim : Lim} (hl : lim = limR) (m inv fast one two a b r : Nat) (ha : a < 2 ^ 256) (hb : b < 2 ^ 256) (hm : m < 2 ^ 256) (hi : (lim m 0 * (inv : Int) + 1) % 18446744073709551616 = 0) (hv : inv < 18446744073709551616) (hodd : m % 2 = 1) (hab : a < m ∨ b < m) (hr : r < m) (hrr : r * 2 ^ 256 % m = a * b % m) :
    ∃ d, SpecM Tryz.prog 203 [⟨true, true, [.s .u64 (lim a 0), .s .u64 (lim a 1), .s .u64 (lim a 2), .s .u64 (lim a 3)]⟩, ⟨true, true, [.s .u64 (lim b 0), .s .u64 (lim b 1), .s .u64 (lim b 2), .s .u64 (lim b 3)]⟩, ⟨true, true, [.i .u64 0, .i .u64 0, .i .u64 0, .i .u64 0]⟩] [.own 0 0, .own 1 0, .ref (ring4 lim m inv fast one two) 1, .s .u64 inv] (.tup []) [⟨true, true, [.s .u64 (lim r 0), .s .u64 (lim r 1), .s .u64 (lim r 2), .s .u64 (lim r 3)]⟩, ⟨true, true, [.s .u64 (lim b 0), .s .u64 (lim b 1), .s .u64 (lim b 2), .s .u64 (lim b 3)]⟩, ⟨true, true, [.i .u64 0, .i .u64 0, .i .u64 0, .i .u64 0]⟩, ⟨true, true, [.s .u64 (lim d 0), .s .u64 (lim d 1), .s .u64 (lim d 2), .s .u64 (lim d 3)]⟩] := by
  have la := fun i => lim_range hl a i
  have lb := fun i => lim_range hl b i
  have lm := fun i => lim_range hl m i
  have z64 : (0 : Int) ≤ 0 ∧ (0 : Int) < 18446744073709551616 := by omega
  have z01 : (0 : Int) ≤ 0 ∧ (0 : Int) ≤ 1 := by omega
  obtain ⟨l0_0, h0_0, e0_0, rl0_0, rh0_0⟩ := steps (x := (lim a 0)) (y := lim b 0) (z := (0 : Int)) (c := (0 : Int)) (la 0) (lb 0) z64 z64
  obtain ⟨l1_0, h1_0, e1_0, rl1_0, rh1_0⟩ := steps (x := (lim a 0)) (y := lim b 1) (z := (0 : Int)) (c := h0_0) (la 0) (lb 1) z64 rh0_0
  obtain ⟨l2_0, h2_0, e2_0, rl2_0, rh2_0⟩ := steps (x := (lim a 0)) (y := lim b 2) (z := (0 : Int)) (c := h1_0) (la 0) (lb 2) z64 rh1_0
  obtain ⟨l3_0, h3_0, e3_0, rl3_0, rh3_0⟩ := steps (x := (lim a 0)) (y := lim b 3) (z := (0 : Int)) (c := h2_0) (la 0) (lb 3) z64 rh2_0
  obtain ⟨s_0, k_0, ea_0, rs_0, rk_0⟩ := carry (x := (0 : Int)) (y := h3_0) (z := 0) z64 rh3_0 z01
  obtain ⟨q_0, hq_0⟩ : ∃ q : Int, q = l0_0 * (inv : Int) % 18446744073709551616 := ⟨_, rfl⟩
  have rq_0 := modr hq_0
  have eq_0 : rbin .mul .u64 l0_0 (Int.ofNat inv) = q_0 := by rw [hq_0]; exact wrap_u64 _
  obtain ⟨u0_0, g0_0, f0_0, ru0_0, rg0_0⟩ := steps (x := q_0) (y := lim m 0) (z := l0_0) (c := (0 : Int)) rq_0 (lm 0) rl0_0 z64
  obtain ⟨u1_0, g1_0, f1_0, ru1_0, rg1_0⟩ := steps (x := q_0) (y := lim m 1) (z := l1_0) (c := g0_0) rq_0 (lm 1) rl1_0 rg0_0
  obtain ⟨u2_0, g2_0, f2_0, ru2_0, rg2_0⟩ := steps (x := q_0) (y := lim m 2) (z := l2_0) (c := g1_0) rq_0 (lm 2) rl2_0 rg1_0
  obtain ⟨u3_0, g3_0, f3_0, ru3_0, rg3_0⟩ := steps (x := q_0) (y := lim m 3) (z := l3_0) (c := g2_0) rq_0 (lm 3) rl3_0 rg2_0
  obtain ⟨w_0, c_0, fa_0, rw_0, rc_0⟩ := carry (x := s_0) (y := g3_0) (z := 0) rs_0 rg3_0 z01
  have et_0 : rbin .add .u64 k_0 c_0 = k_0 + c_0 := (wrap_u64 _).trans (kcw rk_0 rc_0)
  have rt_0 := kcr rk_0 rc_0
  obtain rfl := low0 hi hq_0 f0_0 ru0_0
  have hR_0 := round4 e0_0 e1_0 e2_0 e3_0 ea_0 f0_0 f1_0 f2_0 f3_0 fa_0
  obtain ⟨T1, hT1⟩ : ∃ T : Int, T = u1_0 + 18446744073709551616 * (u2_0 + 18446744073709551616 * (u3_0 + 18446744073709551616 * (w_0 + 18446744073709551616 * ((k_0 + c_0))))) := ⟨_, rfl⟩
  have E_0 : 18446744073709551616 * T1 = (0 : Int) + lim a 0 * (b : Int) + q_0 * (m : Int) := by
    rw [split4 hl b hb, split4 hl m hm, ← horm4, ← horm4, hT1]; exact hR_0.trans (by simp only [Int.mul_zero, Int.add_zero, Int.zero_add])
  obtain ⟨l0_1, h0_1, e0_1, rl0_1, rh0_1⟩ := steps (x := (lim a 1)) (y := lim b 0) (z := u1_0) (c := (0 : Int)) (la 1) (lb 0) ru1_0 z64
  obtain ⟨l1_1, h1_1, e1_1, rl1_1, rh1_1⟩ := steps (x := (lim a 1)) (y := lim b 1) (z := u2_0) (c := h0_1) (la 1) (lb 1) ru2_0 rh0_1
  obtain ⟨l2_1, h2_1, e2_1, rl2_1, rh2_1⟩ := steps (x := (lim a 1)) (y := lim b 2) (z := u3_0) (c := h1_1) (la 1) (lb 2) ru3_0 rh1_1
  obtain ⟨l3_1, h3_1, e3_1, rl3_1, rh3_1⟩ := steps (x := (lim a 1)) (y := lim b 3) (z := w_0) (c := h2_1) (la 1) (lb 3) rw_0 rh2_1
  obtain ⟨s_1, k_1, ea_1, rs_1, rk_1⟩ := carry (x := (k_0 + c_0)) (y := h3_1) (z := 0) rt_0 rh3_1 z01
  obtain ⟨q_1, hq_1⟩ : ∃ q : Int, q = l0_1 * (inv : Int) % 18446744073709551616 := ⟨_, rfl⟩
  have rq_1 := modr hq_1
  have eq_1 : rbin .mul .u64 l0_1 (Int.ofNat inv) = q_1 := by rw [hq_1]; exact wrap_u64 _
  obtain ⟨u0_1, g0_1, f0_1, ru0_1, rg0_1⟩ := steps (x := q_1) (y := lim m 0) (z := l0_1) (c := (0 : Int)) rq_1 (lm 0) rl0_1 z64
  obtain ⟨u1_1, g1_1, f1_1, ru1_1, rg1_1⟩ := steps (x := q_1) (y := lim m 1) (z := l1_1) (c := g0_1) rq_1 (lm 1) rl1_1 rg0_1
  obtain ⟨u2_1, g2_1, f2_1, ru2_1, rg2_1⟩ := steps (x := q_1) (y := lim m 2) (z := l2_1) (c := g1_1) rq_1 (lm 2) rl2_1 rg1_1
  obtain ⟨u3_1, g3_1, f3_1, ru3_1, rg3_1⟩ := steps (x := q_1) (y := lim m 3) (z := l3_1) (c := g2_1) rq_1 (lm 3) rl3_1 rg2_1
  obtain ⟨w_1, c_1, fa_1, rw_1, rc_1⟩ := carry (x := s_1) (y := g3_1) (z := 0) rs_1 rg3_1 z01
  have et_1 : rbin .add .u64 k_1 c_1 = k_1 + c_1 := (wrap_u64 _).trans (kcw rk_1 rc_1)
  have rt_1 := kcr rk_1 rc_1
  obtain rfl := low0 hi hq_1 f0_1 ru0_1
  have hR_1 := round4 e0_1 e1_1 e2_1 e3_1 ea_1 f0_1 f1_1 f2_1 f3_1 fa_1
  obtain ⟨T2, hT2⟩ : ∃ T : Int, T = u1_1 + 18446744073709551616 * (u2_1 + 18446744073709551616 * (u3_1 + 18446744073709551616 * (w_1 + 18446744073709551616 * ((k_1 + c_1))))) := ⟨_, rfl⟩
  have E_1 : 18446744073709551616 * T2 = T1 + lim a 1 * (b : Int) + q_1 * (m : Int) := by
    rw [split4 hl b hb, split4 hl m hm, ← horm4, ← horm4, hT2, hT1]; exact hR_1
  obtain ⟨l0_2, h0_2, e0_2, rl0_2, rh0_2⟩ := steps (x := (lim a 2)) (y := lim b 0) (z := u1_1) (c := (0 : Int)) (la 2) (lb 0) ru1_1 z64
  obtain ⟨l1_2, h1_2, e1_2, rl1_2, rh1_2⟩ := steps (x := (lim a 2)) (y := lim b 1) (z := u2_1) (c := h0_2) (la 2) (lb 1) ru2_1 rh0_2
  obtain ⟨l2_2, h2_2, e2_2, rl2_2, rh2_2⟩ := steps (x := (lim a 2)) (y := lim b 2) (z := u3_1) (c := h1_2) (la 2) (lb 2) ru3_1 rh1_2
  obtain ⟨l3_2, h3_2, e3_2, rl3_2, rh3_2⟩ := steps (x := (lim a 2)) (y := lim b 3) (z := w_1) (c := h2_2) (la 2) (lb 3) rw_1 rh2_2
  obtain ⟨s_2, k_2, ea_2, rs_2, rk_2⟩ := carry (x := (k_1 + c_1)) (y := h3_2) (z := 0) rt_1 rh3_2 z01
  obtain ⟨q_2, hq_2⟩ : ∃ q : Int, q = l0_2 * (inv : Int) % 18446744073709551616 := ⟨_, rfl⟩
  have rq_2 := modr hq_2
  have eq_2 : rbin .mul .u64 l0_2 (Int.ofNat inv) = q_2 := by rw [hq_2]; exact wrap_u64 _
  obtain ⟨u0_2, g0_2, f0_2, ru0_2, rg0_2⟩ := steps (x := q_2) (y := lim m 0) (z := l0_2) (c := (0 : Int)) rq_2 (lm 0) rl0_2 z64
  obtain ⟨u1_2, g1_2, f1_2, ru1_2, rg1_2⟩ := steps (x := q_2) (y := lim m 1) (z := l1_2) (c := g0_2) rq_2 (lm 1) rl1_2 rg0_2
  obtain ⟨u2_2, g2_2, f2_2, ru2_2, rg2_2⟩ := steps (x := q_2) (y := lim m 2) (z := l2_2) (c := g1_2) rq_2 (lm 2) rl2_2 rg1_2
  obtain ⟨u3_2, g3_2, f3_2, ru3_2, rg3_2⟩ := steps (x := q_2) (y := lim m 3) (z := l3_2) (c := g2_2) rq_2 (lm 3) rl3_2 rg2_2
  obtain ⟨w_2, c_2, fa_2, rw_2, rc_2⟩ := carry (x := s_2) (y := g3_2) (z := 0) rs_2 rg3_2 z01
  have et_2 : rbin .add .u64 k_2 c_2 = k_2 + c_2 := (wrap_u64 _).trans (kcw rk_2 rc_2)
  have rt_2 := kcr rk_2 rc_2
  obtain rfl := low0 hi hq_2 f0_2 ru0_2
  have hR_2 := round4 e0_2 e1_2 e2_2 e3_2 ea_2 f0_2 f1_2 f2_2 f3_2 fa_2
  obtain ⟨T3, hT3⟩ : ∃ T : Int, T = u1_2 + 18446744073709551616 * (u2_2 + 18446744073709551616 * (u3_2 + 18446744073709551616 * (w_2 + 18446744073709551616 * ((k_2 + c_2))))) := ⟨_, rfl⟩
  have E_2 : 18446744073709551616 * T3 = T2 + lim a 2 * (b : Int) + q_2 * (m : Int) := by
    rw [split4 hl b hb, split4 hl m hm, ← horm4, ← horm4, hT3, hT2]; exact hR_2
  obtain ⟨l0_3, h0_3, e0_3, rl0_3, rh0_3⟩ := steps (x := (lim a 3)) (y := lim b 0) (z := u1_2) (c := (0 : Int)) (la 3) (lb 0) ru1_2 z64
  obtain ⟨l1_3, h1_3, e1_3, rl1_3, rh1_3⟩ := steps (x := (lim a 3)) (y := lim b 1) (z := u2_2) (c := h0_3) (la 3) (lb 1) ru2_2 rh0_3
  obtain ⟨l2_3, h2_3, e2_3, rl2_3, rh2_3⟩ := steps (x := (lim a 3)) (y := lim b 2) (z := u3_2) (c := h1_3) (la 3) (lb 2) ru3_2 rh1_3
  obtain ⟨l3_3, h3_3, e3_3, rl3_3, rh3_3⟩ := steps (x := (lim a 3)) (y := lim b 3) (z := w_2) (c := h2_3) (la 3) (lb 3) rw_2 rh2_3
  obtain ⟨s_3, k_3, ea_3, rs_3, rk_3⟩ := carry (x := (k_2 + c_2)) (y := h3_3) (z := 0) rt_2 rh3_3 z01
  obtain ⟨q_3, hq_3⟩ : ∃ q : Int, q = l0_3 * (inv : Int) % 18446744073709551616 := ⟨_, rfl⟩
  have rq_3 := modr hq_3
  have eq_3 : rbin .mul .u64 l0_3 (Int.ofNat inv) = q_3 := by rw [hq_3]; exact wrap_u64 _
  obtain ⟨u0_3, g0_3, f0_3, ru0_3, rg0_3⟩ := steps (x := q_3) (y := lim m 0) (z := l0_3) (c := (0 : Int)) rq_3 (lm 0) rl0_3 z64
  obtain ⟨u1_3, g1_3, f1_3, ru1_3, rg1_3⟩ := steps (x := q_3) (y := lim m 1) (z := l1_3) (c := g0_3) rq_3 (lm 1) rl1_3 rg0_3
  obtain ⟨u2_3, g2_3, f2_3, ru2_3, rg2_3⟩ := steps (x := q_3) (y := lim m 2) (z := l2_3) (c := g1_3) rq_3 (lm 2) rl2_3 rg1_3
  obtain ⟨u3_3, g3_3, f3_3, ru3_3, rg3_3⟩ := steps (x := q_3) (y := lim m 3) (z := l3_3) (c := g2_3) rq_3 (lm 3) rl3_3 rg2_3
  obtain ⟨w_3, c_3, fa_3, rw_3, rc_3⟩ := carry (x := s_3) (y := g3_3) (z := 0) rs_3 rg3_3 z01
  have et_3 : rbin .add .u64 k_3 c_3 = k_3 + c_3 := (wrap_u64 _).trans (kcw rk_3 rc_3)
  have rt_3 := kcr rk_3 rc_3
  obtain rfl := low0 hi hq_3 f0_3 ru0_3
  have hR_3 := round4 e0_3 e1_3 e2_3 e3_3 ea_3 f0_3 f1_3 f2_3 f3_3 fa_3
  obtain ⟨T4, hT4⟩ : ∃ T : Int, T = u1_3 + 18446744073709551616 * (u2_3 + 18446744073709551616 * (u3_3 + 18446744073709551616 * (w_3 + 18446744073709551616 * ((k_3 + c_3))))) := ⟨_, rfl⟩
  have E_3 : 18446744073709551616 * T4 = T3 + lim a 3 * (b : Int) + q_3 * (m : Int) := by
    rw [split4 hl b hb, split4 hl m hm, ← horm4, ← horm4, hT4, hT3]; exact hR_3
  have hC := chain4 E_0 E_1 E_2 E_3
  rw [horn4, horn4, ← split4 hl a ha] at hC
  have hend := mont_end4 ha hb hm hodd hab hr hrr hC rq_0 rq_1 rq_2 rq_3 ru1_3 ru2_3 ru3_3 rw_3 rk_3 rc_3 hT4
  obtain ⟨s, d, k, hs, hs', hd, hd', hcase⟩ := hend
  obtain ⟨y0, y1, y2, y3⟩ := lim_of4 hl hs ru1_3 ru2_3 ru3_3 hs'
  have hmin := minus4 hl s m d k hs hm hd hd'
  unfold u4 at hmin
  rw [y0, y1, y2, y3] at hmin
  refine ⟨d, mkM Tryz.func203 rfl rfl L0 R0 (by decide +kernel) fun A S hA hS => ?_⟩
  unfold bodyOf Tryz.f203
  cbv
  refine ACall.mk (.tup [.s .u64 h0_0, .s .u64 l0_0]) (cf hS (stepS (lim a 0) (lim b 0) (0 : Int) (0 : Int) _ _ (la 0) (lb 0) z64 z64 (.i _) (.i _) e0_0 rl0_0)) ?_
  cbv
  refine ACall.mk (.tup [.s .u64 h1_0, .s .u64 l1_0]) (cf hS (stepS (lim a 0) (lim b 1) (0 : Int) h0_0 _ _ (la 0) (lb 1) z64 rh0_0 (.i _) (.s _) e1_0 rl1_0)) ?_
  cbv
  refine ACall.mk (.tup [.s .u64 h2_0, .s .u64 l2_0]) (cf hS (stepS (lim a 0) (lim b 2) (0 : Int) h1_0 _ _ (la 0) (lb 2) z64 rh1_0 (.i _) (.s _) e2_0 rl2_0)) ?_
  cbv
  refine ACall.mk (.tup [.s .u64 h3_0, .s .u64 l3_0]) (cf hS (stepS (lim a 0) (lim b 3) (0 : Int) h2_0 _ _ (la 0) (lb 3) z64 rh2_0 (.i _) (.s _) e3_0 rl3_0)) ?_
  cbv
  refine ACall.mk (.tup [.s .u64 s_0, .s .u64 k_0]) (cf hS (add64S (.i _) (.s _) (.i _) z64.1 rh3_0.1 z01 _ _ ea_0 rs_0)) ?_
  cbv
  refine ACall.mk (.tup [.s .u64 g0_0, .s .u64 (0 : Int)]) (cf hS (sub_arg (show A.bin .mul .u64 l0_0 (Int.ofNat inv) = q_0 from by rw [hA]; exact eq_0) (stepS q_0 (lim m 0) l0_0 (0 : Int) _ _ rq_0 (lm 0) rl0_0 z64 (.s _) (.i _) f0_0 ru0_0))) ?_
  cbv
  refine ACall.mk (.tup [.s .u64 g1_0, .s .u64 u1_0]) (cf hS (sub_arg (show A.bin .mul .u64 l0_0 (Int.ofNat inv) = q_0 from by rw [hA]; exact eq_0) (stepS q_0 (lim m 1) l1_0 g0_0 _ _ rq_0 (lm 1) rl1_0 rg0_0 (.s _) (.s _) f1_0 ru1_0))) ?_
  cbv
  refine ACall.mk (.tup [.s .u64 g2_0, .s .u64 u2_0]) (cf hS (sub_arg (show A.bin .mul .u64 l0_0 (Int.ofNat inv) = q_0 from by rw [hA]; exact eq_0) (stepS q_0 (lim m 2) l2_0 g1_0 _ _ rq_0 (lm 2) rl2_0 rg1_0 (.s _) (.s _) f2_0 ru2_0))) ?_
  cbv
  refine ACall.mk (.tup [.s .u64 g3_0, .s .u64 u3_0]) (cf hS (sub_arg (show A.bin .mul .u64 l0_0 (Int.ofNat inv) = q_0 from by rw [hA]; exact eq_0) (stepS q_0 (lim m 3) l3_0 g2_0 _ _ rq_0 (lm 3) rl3_0 rg2_0 (.s _) (.s _) f3_0 ru3_0))) ?_
  cbv
  refine ACall.mk (.tup [.s .u64 w_0, .s .u64 c_0]) (cf hS (add64S (.s _) (.s _) (.i _) rs_0.1 rg3_0.1 z01 _ _ fa_0 rw_0)) ?_
  cbv
  refine ACall.mk (.tup [.s .u64 h0_1, .s .u64 l0_1]) (cf hS (stepS (lim a 1) (lim b 0) u1_0 (0 : Int) _ _ (la 1) (lb 0) ru1_0 z64 (.s _) (.i _) e0_1 rl0_1)) ?_
  cbv
  refine ACall.mk (.tup [.s .u64 h1_1, .s .u64 l1_1]) (cf hS (stepS (lim a 1) (lim b 1) u2_0 h0_1 _ _ (la 1) (lb 1) ru2_0 rh0_1 (.s _) (.s _) e1_1 rl1_1)) ?_
  cbv
  refine ACall.mk (.tup [.s .u64 h2_1, .s .u64 l2_1]) (cf hS (stepS (lim a 1) (lim b 2) u3_0 h1_1 _ _ (la 1) (lb 2) ru3_0 rh1_1 (.s _) (.s _) e2_1 rl2_1)) ?_
  cbv
  refine ACall.mk (.tup [.s .u64 h3_1, .s .u64 l3_1]) (cf hS (stepS (lim a 1) (lim b 3) w_0 h2_1 _ _ (la 1) (lb 3) rw_0 rh2_1 (.s _) (.s _) e3_1 rl3_1)) ?_
  cbv
  refine ACall.mk (.tup [.s .u64 s_1, .s .u64 k_1]) (cf hS (sub_arg (show A.bin .add .u64 k_0 c_0 = k_0 + c_0 from by rw [hA]; exact et_0) <| add64S (.s _) (.s _) (.i _) rt_0.1 rh3_1.1 z01 _ _ ea_1 rs_1)) ?_
  cbv
  refine ACall.mk (.tup [.s .u64 g0_1, .s .u64 (0 : Int)]) (cf hS (sub_arg (show A.bin .mul .u64 l0_1 (Int.ofNat inv) = q_1 from by rw [hA]; exact eq_1) (stepS q_1 (lim m 0) l0_1 (0 : Int) _ _ rq_1 (lm 0) rl0_1 z64 (.s _) (.i _) f0_1 ru0_1))) ?_
  cbv
  refine ACall.mk (.tup [.s .u64 g1_1, .s .u64 u1_1]) (cf hS (sub_arg (show A.bin .mul .u64 l0_1 (Int.ofNat inv) = q_1 from by rw [hA]; exact eq_1) (stepS q_1 (lim m 1) l1_1 g0_1 _ _ rq_1 (lm 1) rl1_1 rg0_1 (.s _) (.s _) f1_1 ru1_1))) ?_
  cbv
  refine ACall.mk (.tup [.s .u64 g2_1, .s .u64 u2_1]) (cf hS (sub_arg (show A.bin .mul .u64 l0_1 (Int.ofNat inv) = q_1 from by rw [hA]; exact eq_1) (stepS q_1 (lim m 2) l2_1 g1_1 _ _ rq_1 (lm 2) rl2_1 rg1_1 (.s _) (.s _) f2_1 ru2_1))) ?_
  cbv
  refine ACall.mk (.tup [.s .u64 g3_1, .s .u64 u3_1]) (cf hS (sub_arg (show A.bin .mul .u64 l0_1 (Int.ofNat inv) = q_1 from by rw [hA]; exact eq_1) (stepS q_1 (lim m 3) l3_1 g2_1 _ _ rq_1 (lm 3) rl3_1 rg2_1 (.s _) (.s _) f3_1 ru3_1))) ?_
  cbv
  refine ACall.mk (.tup [.s .u64 w_1, .s .u64 c_1]) (cf hS (add64S (.s _) (.s _) (.i _) rs_1.1 rg3_1.1 z01 _ _ fa_1 rw_1)) ?_
  cbv
  refine ACall.mk (.tup [.s .u64 h0_2, .s .u64 l0_2]) (cf hS (stepS (lim a 2) (lim b 0) u1_1 (0 : Int) _ _ (la 2) (lb 0) ru1_1 z64 (.s _) (.i _) e0_2 rl0_2)) ?_
  cbv
  refine ACall.mk (.tup [.s .u64 h1_2, .s .u64 l1_2]) (cf hS (stepS (lim a 2) (lim b 1) u2_1 h0_2 _ _ (la 2) (lb 1) ru2_1 rh0_2 (.s _) (.s _) e1_2 rl1_2)) ?_
  cbv
  refine ACall.mk (.tup [.s .u64 h2_2, .s .u64 l2_2]) (cf hS (stepS (lim a 2) (lim b 2) u3_1 h1_2 _ _ (la 2) (lb 2) ru3_1 rh1_2 (.s _) (.s _) e2_2 rl2_2)) ?_
  cbv
  refine ACall.mk (.tup [.s .u64 h3_2, .s .u64 l3_2]) (cf hS (stepS (lim a 2) (lim b 3) w_1 h2_2 _ _ (la 2) (lb 3) rw_1 rh2_2 (.s _) (.s _) e3_2 rl3_2)) ?_
  cbv
  refine ACall.mk (.tup [.s .u64 s_2, .s .u64 k_2]) (cf hS (sub_arg (show A.bin .add .u64 k_1 c_1 = k_1 + c_1 from by rw [hA]; exact et_1) <| add64S (.s _) (.s _) (.i _) rt_1.1 rh3_2.1 z01 _ _ ea_2 rs_2)) ?_
  cbv
  refine ACall.mk (.tup [.s .u64 g0_2, .s .u64 (0 : Int)]) (cf hS (sub_arg (show A.bin .mul .u64 l0_2 (Int.ofNat inv) = q_2 from by rw [hA]; exact eq_2) (stepS q_2 (lim m 0) l0_2 (0 : Int) _ _ rq_2 (lm 0) rl0_2 z64 (.s _) (.i _) f0_2 ru0_2))) ?_
  cbv
  refine ACall.mk (.tup [.s .u64 g1_2, .s .u64 u1_2]) (cf hS (sub_arg (show A.bin .mul .u64 l0_2 (Int.ofNat inv) = q_2 from by rw [hA]; exact eq_2) (stepS q_2 (lim m 1) l1_2 g0_2 _ _ rq_2 (lm 1) rl1_2 rg0_2 (.s _) (.s _) f1_2 ru1_2))) ?_
  cbv
  refine ACall.mk (.tup [.s .u64 g2_2, .s .u64 u2_2]) (cf hS (sub_arg (show A.bin .mul .u64 l0_2 (Int.ofNat inv) = q_2 from by rw [hA]; exact eq_2) (stepS q_2 (lim m 2) l2_2 g1_2 _ _ rq_2 (lm 2) rl2_2 rg1_2 (.s _) (.s _) f2_2 ru2_2))) ?_
  cbv
  refine ACall.mk (.tup [.s .u64 g3_2, .s .u64 u3_2]) (cf hS (sub_arg (show A.bin .mul .u64 l0_2 (Int.ofNat inv) = q_2 from by rw [hA]; exact eq_2) (stepS q_2 (lim m 3) l3_2 g2_2 _ _ rq_2 (lm 3) rl3_2 rg2_2 (.s _) (.s _) f3_2 ru3_2))) ?_
  cbv
  refine ACall.mk (.tup [.s .u64 w_2, .s .u64 c_2]) (cf hS (add64S (.s _) (.s _) (.i _) rs_2.1 rg3_2.1 z01 _ _ fa_2 rw_2)) ?_
  cbv
  refine ACall.mk (.tup [.s .u64 h0_3, .s .u64 l0_3]) (cf hS (stepS (lim a 3) (lim b 0) u1_2 (0 : Int) _ _ (la 3) (lb 0) ru1_2 z64 (.s _) (.i _) e0_3 rl0_3)) ?_
  cbv
  refine ACall.mk (.tup [.s .u64 h1_3, .s .u64 l1_3]) (cf hS (stepS (lim a 3) (lim b 1) u2_2 h0_3 _ _ (la 3) (lb 1) ru2_2 rh0_3 (.s _) (.s _) e1_3 rl1_3)) ?_
  cbv
  refine ACall.mk (.tup [.s .u64 h2_3, .s .u64 l2_3]) (cf hS (stepS (lim a 3) (lim b 2) u3_2 h1_3 _ _ (la 3) (lb 2) ru3_2 rh1_3 (.s _) (.s _) e2_3 rl2_3)) ?_
  cbv
  refine ACall.mk (.tup [.s .u64 h3_3, .s .u64 l3_3]) (cf hS (stepS (lim a 3) (lim b 3) w_2 h2_3 _ _ (la 3) (lb 3) rw_2 rh2_3 (.s _) (.s _) e3_3 rl3_3)) ?_
  cbv
  refine ACall.mk (.tup [.s .u64 s_3, .s .u64 k_3]) (cf hS (sub_arg (show A.bin .add .u64 k_2 c_2 = k_2 + c_2 from by rw [hA]; exact et_2) <| add64S (.s _) (.s _) (.i _) rt_2.1 rh3_3.1 z01 _ _ ea_3 rs_3)) ?_
  cbv
  refine ACall.mk (.tup [.s .u64 g0_3, .s .u64 (0 : Int)]) (cf hS (sub_arg (show A.bin .mul .u64 l0_3 (Int.ofNat inv) = q_3 from by rw [hA]; exact eq_3) (stepS q_3 (lim m 0) l0_3 (0 : Int) _ _ rq_3 (lm 0) rl0_3 z64 (.s _) (.i _) f0_3 ru0_3))) ?_
  cbv
  refine ACall.mk (.tup [.s .u64 g1_3, .s .u64 u1_3]) (cf hS (sub_arg (show A.bin .mul .u64 l0_3 (Int.ofNat inv) = q_3 from by rw [hA]; exact eq_3) (stepS q_3 (lim m 1) l1_3 g0_3 _ _ rq_3 (lm 1) rl1_3 rg0_3 (.s _) (.s _) f1_3 ru1_3))) ?_
  cbv
  refine ACall.mk (.tup [.s .u64 g2_3, .s .u64 u2_3]) (cf hS (sub_arg (show A.bin .mul .u64 l0_3 (Int.ofNat inv) = q_3 from by rw [hA]; exact eq_3) (stepS q_3 (lim m 2) l2_3 g1_3 _ _ rq_3 (lm 2) rl2_3 rg1_3 (.s _) (.s _) f2_3 ru2_3))) ?_
  cbv
  refine ACall.mk (.tup [.s .u64 g3_3, .s .u64 u3_3]) (cf hS (sub_arg (show A.bin .mul .u64 l0_3 (Int.ofNat inv) = q_3 from by rw [hA]; exact eq_3) (stepS q_3 (lim m 3) l3_3 g2_3 _ _ rq_3 (lm 3) rl3_3 rg2_3 (.s _) (.s _) f3_3 ru3_3))) ?_
  cbv
  refine ACall.mk (.tup [.s .u64 w_3, .s .u64 c_3]) (cf hS (add64S (.s _) (.s _) (.i _) rs_3.1 rg3_3.1 z01 _ _ fa_3 rw_3)) ?_
  cbv
  refine ACall.mk (.tup [u4 lim d, .s .u64 k]) (cf hS hmin) ?_
  cbv
  have hgt : A.cmp .gtr (A.bin .add .u64 k_3 c_3) 0 = decide (k_3 + c_3 > 0) := by rw [hA]; show decide (rbin .add .u64 k_3 c_3 > 0) = _; rw [et_3]
  rcases hcase with ⟨hh, rfl⟩ | ⟨h0, rfl, rfl⟩
  · by_cases h0 : k_3 + c_3 > 0
    · rw [decide_eq_true h0] at hgt
      refine ABr.t hgt ?_
      cbv
      refine ABr.t hgt ?_
      cbv
      refine ABr.t hgt ?_
      cbv
      exact ⟨rfl, trivial⟩
    · rw [decide_eq_false h0] at hgt
      obtain rfl : k = 0 := by omega
      have heq : A.cmp .eql (Int.ofNat 0) 0 = true := by rw [hA]; rfl
      refine ABr.f hgt ?_
      cbv
      refine ABr.f hgt ?_
      cbv
      refine ABr.f hgt ?_
      cbv
      refine ABr.t heq ?_
      cbv
      exact ⟨rfl, trivial⟩
  · rw [decide_eq_false (by omega)] at hgt
    have heq : A.cmp .eql (Int.ofNat 1) 0 = false := by rw [hA]; rfl
    refine ABr.f hgt ?_
    cbv
    refine ABr.f hgt ?_
    cbv
    refine ABr.f hgt ?_
    cbv
    refine ABr.f heq ?_
    cbv
    rw [y0, y1, y2, y3]
    exact ⟨rfl, rfl⟩
end Go.Proofs.YtmholgclgamnnaaGreat
