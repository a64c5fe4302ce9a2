import Derived.Test.YtlmlganfjnokiaaB
set_option linter.unusedVariables false
set_option linter.unusedSimpArgs false
namespace Go.Proofs.Ytlmlganfjnokiaa
open Go Eng
set_option maxRecDepth 100000
set_option exponentiation.threshold 2000
theorem sum4 {a0 b0 o0 k1 a1 b1 o1 k2 a2 b2 o2 k3 a3 b3 o3 k4 : Int} {a b o k : Nat} (sa : (a : Int) = a0 + 18446744073709551616 * (a1 + 18446744073709551616 * (a2 + 18446744073709551616 * (a3)))) (sb : (b : Int) = b0 + 18446744073709551616 * (b1 + 18446744073709551616 * (b2 + 18446744073709551616 * (b3)))) (h : o + 2 ^ 256 * k = a + b) (ho : o < 2 ^ 256)
    (e0 : o0 + 18446744073709551616 * k1 = a0 + b0 + 0) (e1 : o1 + 18446744073709551616 * k2 = a1 + b1 + k1) (e2 : o2 + 18446744073709551616 * k3 = a2 + b2 + k2) (e3 : o3 + 18446744073709551616 * k4 = a3 + b3 + k3) (r0 : 0 ≤ o0 ∧ o0 < 18446744073709551616) (r1 : 0 ≤ o1 ∧ o1 < 18446744073709551616) (r2 : 0 ≤ o2 ∧ o2 < 18446744073709551616) (r3 : 0 ≤ o3 ∧ o3 < 18446744073709551616) :
    (o : Int) = o0 + 18446744073709551616 * (o1 + 18446744073709551616 * (o2 + 18446744073709551616 * (o3))) ∧ (k : Int) = k4 := by
  have hh : (o : Int) + 115792089237316195423570985008687907853269984665640564039457584007913129639936 * (k : Int) = (a : Int) + (b : Int) := by omega
  have ho' : (o : Int) < 115792089237316195423570985008687907853269984665640564039457584007913129639936 := by omega
  have ho2 : (0 : Int) ≤ o := by omega
  clear h ho
  rw [sa, sb] at hh
  clear sa sb
  omega
theorem dif4 {a0 b0 o0 k1 a1 b1 o1 k2 a2 b2 o2 k3 a3 b3 o3 k4 : Int} {a b o k : Nat} (sa : (a : Int) = a0 + 18446744073709551616 * (a1 + 18446744073709551616 * (a2 + 18446744073709551616 * (a3)))) (sb : (b : Int) = b0 + 18446744073709551616 * (b1 + 18446744073709551616 * (b2 + 18446744073709551616 * (b3)))) (h : o + b = a + 2 ^ 256 * k) (ho : o < 2 ^ 256)
    (e0 : o0 - 18446744073709551616 * k1 = a0 - b0 - 0) (e1 : o1 - 18446744073709551616 * k2 = a1 - b1 - k1) (e2 : o2 - 18446744073709551616 * k3 = a2 - b2 - k2) (e3 : o3 - 18446744073709551616 * k4 = a3 - b3 - k3) (r0 : 0 ≤ o0 ∧ o0 < 18446744073709551616) (r1 : 0 ≤ o1 ∧ o1 < 18446744073709551616) (r2 : 0 ≤ o2 ∧ o2 < 18446744073709551616) (r3 : 0 ≤ o3 ∧ o3 < 18446744073709551616) :
    (o : Int) = o0 + 18446744073709551616 * (o1 + 18446744073709551616 * (o2 + 18446744073709551616 * (o3))) ∧ (k : Int) = k4 := by
  have hh : (o : Int) + (b : Int) = (a : Int) + 115792089237316195423570985008687907853269984665640564039457584007913129639936 * (k : Int) := by omega
  have ho' : (o : Int) < 115792089237316195423570985008687907853269984665640564039457584007913129639936 := by omega
  have ho2 : (0 : Int) ≤ o := by omega
  clear h ho
  rw [sa, sb] at hh
  clear sa sb
  omega
theorem plus4 {lim : Lim} (hl : lim = limR) (a b o k : Nat) (ha : a < 2 ^ 256) (hb : b < 2 ^ 256) (h : o + 2 ^ 256 * k = a + b) (ho : o < 2 ^ 256) :
    Sp 79 [u4 lim a, u4 lim b] (.tup [u4 lim o, .s .u64 k]) := by
  have la := fun i => lim_range hl a i
  have lb := fun i => lim_range hl b i
  obtain ⟨o0, k1, e0, r0, q1⟩ := carry (la 0) (lb 0) (z := 0) (by omega)
  obtain ⟨o1, k2, e1, r1, q2⟩ := carry (la 1) (lb 1) q1
  obtain ⟨o2, k3, e2, r2, q3⟩ := carry (la 2) (lb 2) q2
  obtain ⟨o3, k4, e3, r3, q4⟩ := carry (la 3) (lb 3) q3
  have hs := sum4 (split4 hl a ha) (split4 hl b hb) h ho e0 e1 e2 e3 r0 r1 r2 r3
  have hf := lim_of4 hl ho r0 r1 r2 hs.1
  refine mk Try.func79 rfl rfl L0 R0 (by decide +kernel) fun A S hA hS => ?_
  unfold bodyOf Try.f79
  cbv
  refine ACall.mk (.tup [.s .u64 o0, .s .u64 k1]) (cf hS (add64S (.s _) (.s _) (.i _) (la 0).1 (lb 0).1 (by omega) _ _ e0 r0)) ?_
  cbv
  refine ACall.mk (.tup [.s .u64 o1, .s .u64 k2]) (cf hS (add64S (.s _) (.s _) (.s _) (la 1).1 (lb 1).1 q1 _ _ e1 r1)) ?_
  cbv
  refine ACall.mk (.tup [.s .u64 o2, .s .u64 k3]) (cf hS (add64S (.s _) (.s _) (.s _) (la 2).1 (lb 2).1 q2 _ _ e2 r2)) ?_
  cbv
  refine ACall.mk (.tup [.s .u64 o3, .s .u64 k4]) (cf hS (add64S (.s _) (.s _) (.s _) (la 3).1 (lb 3).1 q3 _ _ e3 r3)) ?_
  cbv
  obtain ⟨f0, f1, f2, f3⟩ := hf
  exact ⟨⟨f0.symm, f1.symm, f2.symm, f3.symm⟩, hs.2.symm⟩
theorem minus4 {lim : Lim} (hl : lim = limR) (a b o k : Nat) (ha : a < 2 ^ 256) (hb : b < 2 ^ 256) (h : o + b = a + 2 ^ 256 * k) (ho : o < 2 ^ 256) :
    Sp 77 [u4 lim a, u4 lim b] (.tup [u4 lim o, .s .u64 k]) := by
  have la := fun i => lim_range hl a i
  have lb := fun i => lim_range hl b i
  obtain ⟨o0, k1, e0, r0, q1⟩ := borrow (la 0) (lb 0) (z := 0) (by omega)
  obtain ⟨o1, k2, e1, r1, q2⟩ := borrow (la 1) (lb 1) q1
  obtain ⟨o2, k3, e2, r2, q3⟩ := borrow (la 2) (lb 2) q2
  obtain ⟨o3, k4, e3, r3, q4⟩ := borrow (la 3) (lb 3) q3
  have hs := dif4 (split4 hl a ha) (split4 hl b hb) h ho e0 e1 e2 e3 r0 r1 r2 r3
  have hf := lim_of4 hl ho r0 r1 r2 hs.1
  refine mk Try.func77 rfl rfl L0 R0 (by decide +kernel) fun A S hA hS => ?_
  unfold bodyOf Try.f77
  cbv
  refine ACall.mk (.tup [.s .u64 o0, .s .u64 k1]) (cf hS (sub64S (.s _) (.s _) (.i _) (la 0) (lb 0) (by omega) _ _ e0 r0)) ?_
  cbv
  refine ACall.mk (.tup [.s .u64 o1, .s .u64 k2]) (cf hS (sub64S (.s _) (.s _) (.s _) (la 1) (lb 1) q1 _ _ e1 r1)) ?_
  cbv
  refine ACall.mk (.tup [.s .u64 o2, .s .u64 k3]) (cf hS (sub64S (.s _) (.s _) (.s _) (la 2) (lb 2) q2 _ _ e2 r2)) ?_
  cbv
  refine ACall.mk (.tup [.s .u64 o3, .s .u64 k4]) (cf hS (sub64S (.s _) (.s _) (.s _) (la 3) (lb 3) q3 _ _ e3 r3)) ?_
  cbv
  obtain ⟨f0, f1, f2, f3⟩ := hf
  exact ⟨⟨f0.symm, f1.symm, f2.symm, f3.symm⟩, hs.2.symm⟩
theorem sum6 {a0 b0 o0 k1 a1 b1 o1 k2 a2 b2 o2 k3 a3 b3 o3 k4 a4 b4 o4 k5 a5 b5 o5 k6 : Int} {a b o k : Nat} (sa : (a : Int) = a0 + 18446744073709551616 * (a1 + 18446744073709551616 * (a2 + 18446744073709551616 * (a3 + 18446744073709551616 * (a4 + 18446744073709551616 * (a5)))))) (sb : (b : Int) = b0 + 18446744073709551616 * (b1 + 18446744073709551616 * (b2 + 18446744073709551616 * (b3 + 18446744073709551616 * (b4 + 18446744073709551616 * (b5)))))) (h : o + 2 ^ 384 * k = a + b) (ho : o < 2 ^ 384)
    (e0 : o0 + 18446744073709551616 * k1 = a0 + b0 + 0) (e1 : o1 + 18446744073709551616 * k2 = a1 + b1 + k1) (e2 : o2 + 18446744073709551616 * k3 = a2 + b2 + k2) (e3 : o3 + 18446744073709551616 * k4 = a3 + b3 + k3) (e4 : o4 + 18446744073709551616 * k5 = a4 + b4 + k4) (e5 : o5 + 18446744073709551616 * k6 = a5 + b5 + k5) (r0 : 0 ≤ o0 ∧ o0 < 18446744073709551616) (r1 : 0 ≤ o1 ∧ o1 < 18446744073709551616) (r2 : 0 ≤ o2 ∧ o2 < 18446744073709551616) (r3 : 0 ≤ o3 ∧ o3 < 18446744073709551616) (r4 : 0 ≤ o4 ∧ o4 < 18446744073709551616) (r5 : 0 ≤ o5 ∧ o5 < 18446744073709551616) :
    (o : Int) = o0 + 18446744073709551616 * (o1 + 18446744073709551616 * (o2 + 18446744073709551616 * (o3 + 18446744073709551616 * (o4 + 18446744073709551616 * (o5))))) ∧ (k : Int) = k6 := by
  have hh : (o : Int) + 39402006196394479212279040100143613805079739270465446667948293404245721771497210611414266254884915640806627990306816 * (k : Int) = (a : Int) + (b : Int) := by omega
  have ho' : (o : Int) < 39402006196394479212279040100143613805079739270465446667948293404245721771497210611414266254884915640806627990306816 := by omega
  have ho2 : (0 : Int) ≤ o := by omega
  clear h ho
  rw [sa, sb] at hh
  clear sa sb
  omega
theorem dif6 {a0 b0 o0 k1 a1 b1 o1 k2 a2 b2 o2 k3 a3 b3 o3 k4 a4 b4 o4 k5 a5 b5 o5 k6 : Int} {a b o k : Nat} (sa : (a : Int) = a0 + 18446744073709551616 * (a1 + 18446744073709551616 * (a2 + 18446744073709551616 * (a3 + 18446744073709551616 * (a4 + 18446744073709551616 * (a5)))))) (sb : (b : Int) = b0 + 18446744073709551616 * (b1 + 18446744073709551616 * (b2 + 18446744073709551616 * (b3 + 18446744073709551616 * (b4 + 18446744073709551616 * (b5)))))) (h : o + b = a + 2 ^ 384 * k) (ho : o < 2 ^ 384)
    (e0 : o0 - 18446744073709551616 * k1 = a0 - b0 - 0) (e1 : o1 - 18446744073709551616 * k2 = a1 - b1 - k1) (e2 : o2 - 18446744073709551616 * k3 = a2 - b2 - k2) (e3 : o3 - 18446744073709551616 * k4 = a3 - b3 - k3) (e4 : o4 - 18446744073709551616 * k5 = a4 - b4 - k4) (e5 : o5 - 18446744073709551616 * k6 = a5 - b5 - k5) (r0 : 0 ≤ o0 ∧ o0 < 18446744073709551616) (r1 : 0 ≤ o1 ∧ o1 < 18446744073709551616) (r2 : 0 ≤ o2 ∧ o2 < 18446744073709551616) (r3 : 0 ≤ o3 ∧ o3 < 18446744073709551616) (r4 : 0 ≤ o4 ∧ o4 < 18446744073709551616) (r5 : 0 ≤ o5 ∧ o5 < 18446744073709551616) :
    (o : Int) = o0 + 18446744073709551616 * (o1 + 18446744073709551616 * (o2 + 18446744073709551616 * (o3 + 18446744073709551616 * (o4 + 18446744073709551616 * (o5))))) ∧ (k : Int) = k6 := by
  have hh : (o : Int) + (b : Int) = (a : Int) + 39402006196394479212279040100143613805079739270465446667948293404245721771497210611414266254884915640806627990306816 * (k : Int) := by omega
  have ho' : (o : Int) < 39402006196394479212279040100143613805079739270465446667948293404245721771497210611414266254884915640806627990306816 := by omega
  have ho2 : (0 : Int) ≤ o := by omega
  clear h ho
  rw [sa, sb] at hh
  clear sa sb
  omega
theorem plus6 {lim : Lim} (hl : lim = limR) (a b o k : Nat) (ha : a < 2 ^ 384) (hb : b < 2 ^ 384) (h : o + 2 ^ 384 * k = a + b) (ho : o < 2 ^ 384) :
    Sp 85 [u6 lim a, u6 lim b] (.tup [u6 lim o, .s .u64 k]) := by
  have la := fun i => lim_range hl a i
  have lb := fun i => lim_range hl b i
  obtain ⟨o0, k1, e0, r0, q1⟩ := carry (la 0) (lb 0) (z := 0) (by omega)
  obtain ⟨o1, k2, e1, r1, q2⟩ := carry (la 1) (lb 1) q1
  obtain ⟨o2, k3, e2, r2, q3⟩ := carry (la 2) (lb 2) q2
  obtain ⟨o3, k4, e3, r3, q4⟩ := carry (la 3) (lb 3) q3
  obtain ⟨o4, k5, e4, r4, q5⟩ := carry (la 4) (lb 4) q4
  obtain ⟨o5, k6, e5, r5, q6⟩ := carry (la 5) (lb 5) q5
  have hs := sum6 (split6 hl a ha) (split6 hl b hb) h ho e0 e1 e2 e3 e4 e5 r0 r1 r2 r3 r4 r5
  have hf := lim_of6 hl ho r0 r1 r2 r3 r4 hs.1
  refine mk Try.func85 rfl rfl L0 R0 (by decide +kernel) fun A S hA hS => ?_
  unfold bodyOf Try.f85
  cbv
  refine ACall.mk (.tup [.s .u64 o0, .s .u64 k1]) (cf hS (add64S (.s _) (.s _) (.i _) (la 0).1 (lb 0).1 (by omega) _ _ e0 r0)) ?_
  cbv
  refine ACall.mk (.tup [.s .u64 o1, .s .u64 k2]) (cf hS (add64S (.s _) (.s _) (.s _) (la 1).1 (lb 1).1 q1 _ _ e1 r1)) ?_
  cbv
  refine ACall.mk (.tup [.s .u64 o2, .s .u64 k3]) (cf hS (add64S (.s _) (.s _) (.s _) (la 2).1 (lb 2).1 q2 _ _ e2 r2)) ?_
  cbv
  refine ACall.mk (.tup [.s .u64 o3, .s .u64 k4]) (cf hS (add64S (.s _) (.s _) (.s _) (la 3).1 (lb 3).1 q3 _ _ e3 r3)) ?_
  cbv
  refine ACall.mk (.tup [.s .u64 o4, .s .u64 k5]) (cf hS (add64S (.s _) (.s _) (.s _) (la 4).1 (lb 4).1 q4 _ _ e4 r4)) ?_
  cbv
  refine ACall.mk (.tup [.s .u64 o5, .s .u64 k6]) (cf hS (add64S (.s _) (.s _) (.s _) (la 5).1 (lb 5).1 q5 _ _ e5 r5)) ?_
  cbv
  obtain ⟨f0, f1, f2, f3, f4, f5⟩ := hf
  exact ⟨⟨f0.symm, f1.symm, f2.symm, f3.symm, f4.symm, f5.symm⟩, hs.2.symm⟩
theorem minus6 {lim : Lim} (hl : lim = limR) (a b o k : Nat) (ha : a < 2 ^ 384) (hb : b < 2 ^ 384) (h : o + b = a + 2 ^ 384 * k) (ho : o < 2 ^ 384) :
    Sp 89 [u6 lim a, u6 lim b] (.tup [u6 lim o, .s .u64 k]) := by
  have la := fun i => lim_range hl a i
  have lb := fun i => lim_range hl b i
  obtain ⟨o0, k1, e0, r0, q1⟩ := borrow (la 0) (lb 0) (z := 0) (by omega)
  obtain ⟨o1, k2, e1, r1, q2⟩ := borrow (la 1) (lb 1) q1
  obtain ⟨o2, k3, e2, r2, q3⟩ := borrow (la 2) (lb 2) q2
  obtain ⟨o3, k4, e3, r3, q4⟩ := borrow (la 3) (lb 3) q3
  obtain ⟨o4, k5, e4, r4, q5⟩ := borrow (la 4) (lb 4) q4
  obtain ⟨o5, k6, e5, r5, q6⟩ := borrow (la 5) (lb 5) q5
  have hs := dif6 (split6 hl a ha) (split6 hl b hb) h ho e0 e1 e2 e3 e4 e5 r0 r1 r2 r3 r4 r5
  have hf := lim_of6 hl ho r0 r1 r2 r3 r4 hs.1
  refine mk Try.func89 rfl rfl L0 R0 (by decide +kernel) fun A S hA hS => ?_
  unfold bodyOf Try.f89
  cbv
  refine ACall.mk (.tup [.s .u64 o0, .s .u64 k1]) (cf hS (sub64S (.s _) (.s _) (.i _) (la 0) (lb 0) (by omega) _ _ e0 r0)) ?_
  cbv
  refine ACall.mk (.tup [.s .u64 o1, .s .u64 k2]) (cf hS (sub64S (.s _) (.s _) (.s _) (la 1) (lb 1) q1 _ _ e1 r1)) ?_
  cbv
  refine ACall.mk (.tup [.s .u64 o2, .s .u64 k3]) (cf hS (sub64S (.s _) (.s _) (.s _) (la 2) (lb 2) q2 _ _ e2 r2)) ?_
  cbv
  refine ACall.mk (.tup [.s .u64 o3, .s .u64 k4]) (cf hS (sub64S (.s _) (.s _) (.s _) (la 3) (lb 3) q3 _ _ e3 r3)) ?_
  cbv
  refine ACall.mk (.tup [.s .u64 o4, .s .u64 k5]) (cf hS (sub64S (.s _) (.s _) (.s _) (la 4) (lb 4) q4 _ _ e4 r4)) ?_
  cbv
  refine ACall.mk (.tup [.s .u64 o5, .s .u64 k6]) (cf hS (sub64S (.s _) (.s _) (.s _) (la 5) (lb 5) q5 _ _ e5 r5)) ?_
  cbv
  obtain ⟨f0, f1, f2, f3, f4, f5⟩ := hf
  exact ⟨⟨f0.symm, f1.symm, f2.symm, f3.symm, f4.symm, f5.symm⟩, hs.2.symm⟩
end Go.Proofs.Ytlmlganfjnokiaa
