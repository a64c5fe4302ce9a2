import Derived.Test.YtkhipnhdbaahcaaQCWG
set_option linter.unusedVariables false
set_option linter.unusedSimpArgs false
set_option linter.unusedSectionVars false
set_option maxRecDepth 100000
set_option exponentiation.threshold 2000
set_option maxHeartbeats 8000000
section
namespace Go.Proofs.Ytkhipnhdbaahcaa
open Go Eng Dg
theorem carryS {lim : Lim} (hl : lim = limR) (a b o k : Nat) (ha : a < 2 ^ 256) (hb : b < 2 ^ 256) (h : o + 2 ^ 256 * k = a + b) (ho : o < 2 ^ 256) (t : Bool) (ht : t = decide ((k : Int) ≠ 0)) :
   Sp 57 [u4 lim a, u4 lim b] (.tup [u4 lim o, .sb t]) := by
 have la := fun i => lim_range hl a i
 have lb := fun i => lim_range hl b i
 obtain ⟨o0, k1, e0, r0, q1⟩ := carry (la 0) (lb 0) (z := 0) (by omega)
 obtain ⟨o1, k2, e1, r1, q2⟩ := carry (la 1) (lb 1) q1
 obtain ⟨o2, k3, e2, r2, q3⟩ := carry (la 2) (lb 2) q2
 obtain ⟨o3, k4, e3, r3, q4⟩ := carry (la 3) (lb 3) q3
 have hs := sum4 (split4 hl a ha) (split4 hl b hb) h ho e0 e1 e2 e3 r0 r1 r2 r3
 have hf := lim_of4 hl ho r0 r1 r2 hs.1
 obtain ⟨f0, f1, f2, f3⟩ := hf
 have hk : decide (k4 ≠ 0) = t := by rw [ht, hs.2]
 refine mk Try.func57 rfl rfl L0 R0 (by decide +kernel) fun A S hA hS => ?_
 have hne : A.cmp .neq k4 0 = t := by
   rw [← hk, hA]
   show (k4 != 0) = _
   by_cases h : k4 = 0
   . subst h; rfl
   . rw [decide_eq_true h]; exact bne_iff_ne.2 h
 unfold bodyOf Try.f57
 cbv
 refine ACall.mk (.tup [.s .u64 o0, .s .u64 k1]) (cf hS (add64S (.s _) (.s _) (.i _) (la 0).1 (lb 0).1 (by omega) _ _ e0 r0)) ?_
 cbv
 refine ACall.mk (.tup [.s .u64 o1, .s .u64 k2]) (cf hS (add64S (.s _) (.s _) (.s _) (la 1).1 (lb 1).1 q1 _ _ e1 r1)) ?_
 cbv
 refine ACall.mk (.tup [.s .u64 o2, .s .u64 k3]) (cf hS (add64S (.s _) (.s _) (.s _) (la 2).1 (lb 2).1 q2 _ _ e2 r2)) ?_
 cbv
 refine ACall.mk (.tup [.s .u64 o3, .s .u64 k4]) (cf hS (add64S (.s _) (.s _) (.s _) (la 3).1 (lb 3).1 q3 _ _ e3 r3)) ?_
 cbv
 exact ⟨⟨f0.symm, f1.symm, f2.symm, f3.symm⟩, hne⟩
theorem wAddS {lim : Lim} (hl : lim = limR) (a b : Nat) (ha : a < 2 ^ 256) (hb : b < 2 ^ 256) : Sp 23 [u4 lim a, u4 lim b] (u4 lim ((a + b) % 2 ^ 256)) := by
 have c := carryS hl a b ((a + b) % 2 ^ 256) ((a + b) / 2 ^ 256) ha hb (Nat.mod_add_div _ _) (Nat.mod_lt _ (Nat.two_pow_pos _)) _ rfl
 generalize (a + b) % 2 ^ 256 = o at *
 generalize decide ((((a + b) / 2 ^ 256 : Nat) : Int) ≠ 0) = t at *
 refine mk Try.func23 rfl rfl L0 R0 (by decide +kernel) fun A S hA hS => ?_
 unfold bodyOf Try.f23
 cbv
 refine aF hS c ?_
 cbv
theorem pow_W (i : Nat) : 18446744073709551616 ^ i = 2 ^ (64 * i) := by rw [Nat.pow_mul]
def wd (a i : Nat) : Nat := a / 2 ^ (64 * i) % 18446744073709551616
theorem wd_lt (a i : Nat) : wd a i < 18446744073709551616 := Nat.mod_lt _ (by decide)
theorem wd_dg (a i : Nat) : wd a i = dg 18446744073709551616 a i := by unfold wd dg; rw [pow_W]
theorem wd_num {a : Nat} (n : Nat) (ha : a < 2 ^ (64 * n)) : V 18446744073709551616 (wd a) n = a := by
 have e : wd a = dg 18446744073709551616 a := funext fun i => wd_dg a i
 rw [e, V_dg, pow_W, Nat.mod_eq_of_lt ha]
theorem lim_w {lim : Lim} (hl : lim = limR) (a i : Nat) : lim a i = ((wd a i : Nat) : Int) := by subst hl; rfl
theorem u4_w {lim : Lim} (hl : lim = limR) (a : Nat) : u4 lim a = .agg (w4 (wd a)) := by
 unfold u4; rw [lim_w hl, lim_w hl, lim_w hl, lim_w hl]
theorem wd_mod (a i n : Nat) (hi : i < n) : wd (a % 2 ^ (64 * n)) i = wd a i := by
 unfold wd
 rw [show 64 * n = 64 * i + 64 * (n - i) by omega, Nat.pow_add, Nat.mod_mul_right_div_self, show 64 * (n - i) = 64 + 64 * (n - i - 1) by omega, Nat.pow_add]
 exact Nat.mod_mul_right_mod _ _ _
theorem wWideS {lim : Lim} (hl : lim = limR) (x y : Nat) (hx : x < 2 ^ 256) (hy : y < 2 ^ 256) : Sp 60 [u4 lim x, u4 lim y] (.agg (w8 (wd (x * y)))) := by
 obtain ⟨z, hv, hz, c⟩ := wideS (wd x) (wd y) (wd_lt x) (wd_lt y)
 rw [wd_num 4 hx, wd_num 4 hy] at hv
 have e : ∀ j, j < 8 → z j = wd (x * y) j := fun j hj => by
   rw [wd_dg]; exact V_of (B := 18446744073709551616) (n := 8) (by decide) hv (fun j _ => hz j) hj
 rw [u4_w hl, u4_w hl]
 unfold w8 at c ⊢
 rw [e 0 (by decide), e 1 (by decide), e 2 (by decide), e 3 (by decide), e 4 (by decide), e 5 (by decide), e 6 (by decide), e 7 (by decide)] at c
 exact c
theorem wMulS {lim : Lim} (hl : lim = limR) (x y : Nat) (hx : x < 2 ^ 256) (hy : y < 2 ^ 256) : Sp 25 [u4 lim x, u4 lim y] (u4 lim (x * y % 2 ^ 256)) := by
 have c := wWideS hl x y hx hy
 have e : u4 lim (x * y % 2 ^ 256) = .agg (w4 (wd (x * y))) := by
   rw [u4_w hl]
   unfold w4
   rw [wd_mod _ 0 4 (by decide), wd_mod _ 1 4 (by decide), wd_mod _ 2 4 (by decide), wd_mod _ 3 4 (by decide)]
 rw [e]
 generalize wd (x * y) = z at *
 refine mk Try.func25 rfl rfl L0 R0 (by decide +kernel) fun A S hA hS => ?_
 unfold bodyOf Try.f25
 cbv
 refine aF hS c ?_
 cbv
theorem low_w {r a v : Nat} (h1 : a < 18446744073709551616) (h2 : r < v) : r * 18446744073709551616 + a < v * 18446744073709551616 := by omega
theorem short_num1 {B v a0 q0 r0 : Nat} (hv : 0 < v) (e0 : 0 * B + a0 = v * q0 + r0) (lt0 : r0 < v) : (q0) * v ≤ a0 ∧ a0 < (q0 + 1) * v := by
 have key : a0 = v * (q0) + r0 := by
   clear hv lt0
   grind
 rw [key]
 constructor
 . rw [Nat.mul_comm]; exact Nat.le_add_right _ _
 . rw [Nat.add_mul, Nat.one_mul, Nat.mul_comm]; exact Nat.add_lt_add_left lt0 _
theorem short_num2 {B v a0 q0 r0 a1 q1 r1 : Nat} (hv : 0 < v) (e0 : r1 * B + a0 = v * q0 + r0) (e1 : 0 * B + a1 = v * q1 + r1) (lt0 : r0 < v) : (q0 + q1 * B) * v ≤ a0 + a1 * B ∧ a0 + a1 * B < (q0 + q1 * B + 1) * v := by
 have key : a0 + a1 * B = v * (q0 + q1 * B) + r0 := by
   clear hv lt0
   grind
 rw [key]
 constructor
 . rw [Nat.mul_comm]; exact Nat.le_add_right _ _
 . rw [Nat.add_mul, Nat.one_mul, Nat.mul_comm]; exact Nat.add_lt_add_left lt0 _
theorem short_num3 {B v a0 q0 r0 a1 q1 r1 a2 q2 r2 : Nat} (hv : 0 < v) (e0 : r1 * B + a0 = v * q0 + r0) (e1 : r2 * B + a1 = v * q1 + r1) (e2 : 0 * B + a2 = v * q2 + r2) (lt0 : r0 < v) : (q0 + q1 * B + q2 * B ^ 2) * v ≤ a0 + a1 * B + a2 * B ^ 2 ∧ a0 + a1 * B + a2 * B ^ 2 < (q0 + q1 * B + q2 * B ^ 2 + 1) * v := by
 have key : a0 + a1 * B + a2 * B ^ 2 = v * (q0 + q1 * B + q2 * B ^ 2) + r0 := by
   clear hv lt0
   grind
 rw [key]
 constructor
 . rw [Nat.mul_comm]; exact Nat.le_add_right _ _
 . rw [Nat.add_mul, Nat.one_mul, Nat.mul_comm]; exact Nat.add_lt_add_left lt0 _
theorem short_num4 {B v a0 q0 r0 a1 q1 r1 a2 q2 r2 a3 q3 r3 : Nat} (hv : 0 < v) (e0 : r1 * B + a0 = v * q0 + r0) (e1 : r2 * B + a1 = v * q1 + r1) (e2 : r3 * B + a2 = v * q2 + r2) (e3 : 0 * B + a3 = v * q3 + r3) (lt0 : r0 < v) : (q0 + q1 * B + q2 * B ^ 2 + q3 * B ^ 3) * v ≤ a0 + a1 * B + a2 * B ^ 2 + a3 * B ^ 3 ∧ a0 + a1 * B + a2 * B ^ 2 + a3 * B ^ 3 < (q0 + q1 * B + q2 * B ^ 2 + q3 * B ^ 3 + 1) * v := by
 have key : a0 + a1 * B + a2 * B ^ 2 + a3 * B ^ 3 = v * (q0 + q1 * B + q2 * B ^ 2 + q3 * B ^ 3) + r0 := by
   clear hv lt0
   grind
 rw [key]
 constructor
 . rw [Nat.mul_comm]; exact Nat.le_add_right _ _
 . rw [Nat.add_mul, Nat.one_mul, Nat.mul_comm]; exact Nat.add_lt_add_left lt0 _
theorem short0S (a : Nat → Nat) (v : Nat) (ha : ∀ j, a j < 18446744073709551616) (hv : 0 < v) (hvW : v < 18446744073709551616) : ∃ q : Nat → Nat, ∃ r : Nat, V 18446744073709551616 q 0 = V 18446744073709551616 a 0 / v ∧ (∀ j, q j < 18446744073709551616) ∧ Sp 113 [.lst false 0 [], .s .u64 ((v : Nat) : Int)] (.tup [.lst false 0 [], .lst false 1 [.s .u64 ((r : Nat) : Int)]]) := by
 refine ⟨fun _ => 0, 0, ?_, ?_, ?_⟩
 . show 0 = 0 / v; rw [Nat.zero_div]
 . intro j; exact (by decide : 0 < 18446744073709551616)
 clear ha
 refine mk Try.func113 rfl rfl L0 R0 (by decide +kernel) fun A S hA hS => ?_
 unfold bodyOf Try.f113
 cbv
 try (repeat' (first | exact rfl | exact trivial | constructor))
theorem short1S (a : Nat → Nat) (v : Nat) (ha : ∀ j, a j < 18446744073709551616) (hv : 0 < v) (hvW : v < 18446744073709551616) : ∃ q : Nat → Nat, ∃ r : Nat, V 18446744073709551616 q 1 = V 18446744073709551616 a 1 / v ∧ (∀ j, q j < 18446744073709551616) ∧ Sp 113 [.lst false 1 [.s .u64 ((a 0 : Nat) : Int)], .s .u64 ((v : Nat) : Int)] (.tup [.lst false 1 [.s .u64 ((q 0 : Nat) : Int)], .lst false 1 [.s .u64 ((r : Nat) : Int)]]) := by
 obtain ⟨q0, hq0⟩ : ∃ q, q = (0 * 18446744073709551616 + a 0) / v := ⟨_, rfl⟩
 obtain ⟨r0, hr0⟩ : ∃ r, r = (0 * 18446744073709551616 + a 0) % v := ⟨_, rfl⟩
 have lt0 : r0 < v := by rw [hr0]; exact Nat.mod_lt _ hv
 have c0 := div64S 0 (a 0) v q0 r0 (ha 0) hv hvW hq0 hr0
 have e0 : 0 * 18446744073709551616 + a 0 = v * q0 + r0 := by rw [hq0, hr0]; exact (Nat.div_add_mod _ _).symm
 have w0 : q0 < 18446744073709551616 := by rw [hq0]; exact (Nat.div_lt_iff_lt_mul hv).2 (by have h1 := ha 0; have h2 : 0 < v := hv; rw [Nat.mul_comm 18446744073709551616 v]; exact low_w h1 h2)
 refine ⟨fun j => match j with | 0 => q0 | _ => 0, r0, ?_, ?_, ?_⟩
 . clear c0 w0 hq0 hr0
   simp only [V, Nat.pow_zero, Nat.mul_one, Nat.zero_add, Nat.pow_one]
   refine (Nat.div_eq_of_lt_le ?_ ?_).symm
   . exact (short_num1 hv e0 lt0).1
   . exact (short_num1 hv e0 lt0).2
 . intro j; dsimp only; split <;> first | assumption | decide
 clear e0 w0 hq0 hr0 lt0
 refine mk Try.func113 rfl rfl L0 R0 (by decide +kernel) fun A S hA hS => ?_
 unfold bodyOf Try.f113
 cbv
 refine aG hS c0 ?_ ?_
 . cbv
   repeat' (first | exact rfl | exact trivial | constructor)
 cbv
 try (repeat' (first | exact rfl | exact trivial | constructor))
theorem short2S (a : Nat → Nat) (v : Nat) (ha : ∀ j, a j < 18446744073709551616) (hv : 0 < v) (hvW : v < 18446744073709551616) : ∃ q : Nat → Nat, ∃ r : Nat, V 18446744073709551616 q 2 = V 18446744073709551616 a 2 / v ∧ (∀ j, q j < 18446744073709551616) ∧ Sp 113 [.lst false 2 [.s .u64 ((a 0 : Nat) : Int), .s .u64 ((a 1 : Nat) : Int)], .s .u64 ((v : Nat) : Int)] (.tup [.lst false 2 [.s .u64 ((q 0 : Nat) : Int), .s .u64 ((q 1 : Nat) : Int)], .lst false 1 [.s .u64 ((r : Nat) : Int)]]) := by
 obtain ⟨q1, hq1⟩ : ∃ q, q = (0 * 18446744073709551616 + a 1) / v := ⟨_, rfl⟩
 obtain ⟨r1, hr1⟩ : ∃ r, r = (0 * 18446744073709551616 + a 1) % v := ⟨_, rfl⟩
 have lt1 : r1 < v := by rw [hr1]; exact Nat.mod_lt _ hv
 have c1 := div64S 0 (a 1) v q1 r1 (ha 1) hv hvW hq1 hr1
 have e1 : 0 * 18446744073709551616 + a 1 = v * q1 + r1 := by rw [hq1, hr1]; exact (Nat.div_add_mod _ _).symm
 have w1 : q1 < 18446744073709551616 := by rw [hq1]; exact (Nat.div_lt_iff_lt_mul hv).2 (by have h1 := ha 1; have h2 : 0 < v := hv; rw [Nat.mul_comm 18446744073709551616 v]; exact low_w h1 h2)
 obtain ⟨q0, hq0⟩ : ∃ q, q = (r1 * 18446744073709551616 + a 0) / v := ⟨_, rfl⟩
 obtain ⟨r0, hr0⟩ : ∃ r, r = (r1 * 18446744073709551616 + a 0) % v := ⟨_, rfl⟩
 have lt0 : r0 < v := by rw [hr0]; exact Nat.mod_lt _ hv
 have c0 := div64S r1 (a 0) v q0 r0 (ha 0) lt1 hvW hq0 hr0
 have e0 : r1 * 18446744073709551616 + a 0 = v * q0 + r0 := by rw [hq0, hr0]; exact (Nat.div_add_mod _ _).symm
 have w0 : q0 < 18446744073709551616 := by rw [hq0]; exact (Nat.div_lt_iff_lt_mul hv).2 (by have h1 := ha 0; have h2 : r1 < v := lt1; rw [Nat.mul_comm 18446744073709551616 v]; exact low_w h1 h2)
 refine ⟨fun j => match j with | 0 => q0 | 1 => q1 | _ => 0, r0, ?_, ?_, ?_⟩
 . clear c0 w0 hq0 hr0 c1 w1 hq1 hr1
   simp only [V, Nat.pow_zero, Nat.mul_one, Nat.zero_add, Nat.pow_one]
   refine (Nat.div_eq_of_lt_le ?_ ?_).symm
   . exact (short_num2 hv e0 e1 lt0).1
   . exact (short_num2 hv e0 e1 lt0).2
 . intro j; dsimp only; split <;> first | assumption | decide
 clear e0 w0 hq0 hr0 lt0 e1 w1 hq1 hr1 lt1
 refine mk Try.func113 rfl rfl L0 R0 (by decide +kernel) fun A S hA hS => ?_
 unfold bodyOf Try.f113
 cbv
 refine aG hS c1 ?_ ?_
 . cbv
   repeat' (first | exact rfl | exact trivial | constructor)
 cbv
 refine aF hS c0 ?_
 cbv
 try (repeat' (first | exact rfl | exact trivial | constructor))
theorem short3S (a : Nat → Nat) (v : Nat) (ha : ∀ j, a j < 18446744073709551616) (hv : 0 < v) (hvW : v < 18446744073709551616) : ∃ q : Nat → Nat, ∃ r : Nat, V 18446744073709551616 q 3 = V 18446744073709551616 a 3 / v ∧ (∀ j, q j < 18446744073709551616) ∧ Sp 113 [.lst false 3 [.s .u64 ((a 0 : Nat) : Int), .s .u64 ((a 1 : Nat) : Int), .s .u64 ((a 2 : Nat) : Int)], .s .u64 ((v : Nat) : Int)] (.tup [.lst false 3 [.s .u64 ((q 0 : Nat) : Int), .s .u64 ((q 1 : Nat) : Int), .s .u64 ((q 2 : Nat) : Int)], .lst false 1 [.s .u64 ((r : Nat) : Int)]]) := by
 obtain ⟨q2, hq2⟩ : ∃ q, q = (0 * 18446744073709551616 + a 2) / v := ⟨_, rfl⟩
 obtain ⟨r2, hr2⟩ : ∃ r, r = (0 * 18446744073709551616 + a 2) % v := ⟨_, rfl⟩
 have lt2 : r2 < v := by rw [hr2]; exact Nat.mod_lt _ hv
 have c2 := div64S 0 (a 2) v q2 r2 (ha 2) hv hvW hq2 hr2
 have e2 : 0 * 18446744073709551616 + a 2 = v * q2 + r2 := by rw [hq2, hr2]; exact (Nat.div_add_mod _ _).symm
 have w2 : q2 < 18446744073709551616 := by rw [hq2]; exact (Nat.div_lt_iff_lt_mul hv).2 (by have h1 := ha 2; have h2 : 0 < v := hv; rw [Nat.mul_comm 18446744073709551616 v]; exact low_w h1 h2)
 obtain ⟨q1, hq1⟩ : ∃ q, q = (r2 * 18446744073709551616 + a 1) / v := ⟨_, rfl⟩
 obtain ⟨r1, hr1⟩ : ∃ r, r = (r2 * 18446744073709551616 + a 1) % v := ⟨_, rfl⟩
 have lt1 : r1 < v := by rw [hr1]; exact Nat.mod_lt _ hv
 have c1 := div64S r2 (a 1) v q1 r1 (ha 1) lt2 hvW hq1 hr1
 have e1 : r2 * 18446744073709551616 + a 1 = v * q1 + r1 := by rw [hq1, hr1]; exact (Nat.div_add_mod _ _).symm
 have w1 : q1 < 18446744073709551616 := by rw [hq1]; exact (Nat.div_lt_iff_lt_mul hv).2 (by have h1 := ha 1; have h2 : r2 < v := lt2; rw [Nat.mul_comm 18446744073709551616 v]; exact low_w h1 h2)
 obtain ⟨q0, hq0⟩ : ∃ q, q = (r1 * 18446744073709551616 + a 0) / v := ⟨_, rfl⟩
 obtain ⟨r0, hr0⟩ : ∃ r, r = (r1 * 18446744073709551616 + a 0) % v := ⟨_, rfl⟩
 have lt0 : r0 < v := by rw [hr0]; exact Nat.mod_lt _ hv
 have c0 := div64S r1 (a 0) v q0 r0 (ha 0) lt1 hvW hq0 hr0
 have e0 : r1 * 18446744073709551616 + a 0 = v * q0 + r0 := by rw [hq0, hr0]; exact (Nat.div_add_mod _ _).symm
 have w0 : q0 < 18446744073709551616 := by rw [hq0]; exact (Nat.div_lt_iff_lt_mul hv).2 (by have h1 := ha 0; have h2 : r1 < v := lt1; rw [Nat.mul_comm 18446744073709551616 v]; exact low_w h1 h2)
 refine ⟨fun j => match j with | 0 => q0 | 1 => q1 | 2 => q2 | _ => 0, r0, ?_, ?_, ?_⟩
 . clear c0 w0 hq0 hr0 c1 w1 hq1 hr1 c2 w2 hq2 hr2
   simp only [V, Nat.pow_zero, Nat.mul_one, Nat.zero_add, Nat.pow_one]
   refine (Nat.div_eq_of_lt_le ?_ ?_).symm
   . exact (short_num3 hv e0 e1 e2 lt0).1
   . exact (short_num3 hv e0 e1 e2 lt0).2
 . intro j; dsimp only; split <;> first | assumption | decide
 clear e0 w0 hq0 hr0 lt0 e1 w1 hq1 hr1 lt1 e2 w2 hq2 hr2 lt2
 refine mk Try.func113 rfl rfl L0 R0 (by decide +kernel) fun A S hA hS => ?_
 unfold bodyOf Try.f113
 cbv
 refine aG hS c2 ?_ ?_
 . cbv
   repeat' (first | exact rfl | exact trivial | constructor)
 cbv
 refine aF hS c1 ?_
 cbv
 refine aF hS c0 ?_
 cbv
 try (repeat' (first | exact rfl | exact trivial | constructor))
theorem short4S (a : Nat → Nat) (v : Nat) (ha : ∀ j, a j < 18446744073709551616) (hv : 0 < v) (hvW : v < 18446744073709551616) : ∃ q : Nat → Nat, ∃ r : Nat, V 18446744073709551616 q 4 = V 18446744073709551616 a 4 / v ∧ (∀ j, q j < 18446744073709551616) ∧ Sp 113 [.lst false 4 [.s .u64 ((a 0 : Nat) : Int), .s .u64 ((a 1 : Nat) : Int), .s .u64 ((a 2 : Nat) : Int), .s .u64 ((a 3 : Nat) : Int)], .s .u64 ((v : Nat) : Int)] (.tup [.lst false 4 [.s .u64 ((q 0 : Nat) : Int), .s .u64 ((q 1 : Nat) : Int), .s .u64 ((q 2 : Nat) : Int), .s .u64 ((q 3 : Nat) : Int)], .lst false 1 [.s .u64 ((r : Nat) : Int)]]) := by
 obtain ⟨q3, hq3⟩ : ∃ q, q = (0 * 18446744073709551616 + a 3) / v := ⟨_, rfl⟩
 obtain ⟨r3, hr3⟩ : ∃ r, r = (0 * 18446744073709551616 + a 3) % v := ⟨_, rfl⟩
 have lt3 : r3 < v := by rw [hr3]; exact Nat.mod_lt _ hv
 have c3 := div64S 0 (a 3) v q3 r3 (ha 3) hv hvW hq3 hr3
 have e3 : 0 * 18446744073709551616 + a 3 = v * q3 + r3 := by rw [hq3, hr3]; exact (Nat.div_add_mod _ _).symm
 have w3 : q3 < 18446744073709551616 := by rw [hq3]; exact (Nat.div_lt_iff_lt_mul hv).2 (by have h1 := ha 3; have h2 : 0 < v := hv; rw [Nat.mul_comm 18446744073709551616 v]; exact low_w h1 h2)
 obtain ⟨q2, hq2⟩ : ∃ q, q = (r3 * 18446744073709551616 + a 2) / v := ⟨_, rfl⟩
 obtain ⟨r2, hr2⟩ : ∃ r, r = (r3 * 18446744073709551616 + a 2) % v := ⟨_, rfl⟩
 have lt2 : r2 < v := by rw [hr2]; exact Nat.mod_lt _ hv
 have c2 := div64S r3 (a 2) v q2 r2 (ha 2) lt3 hvW hq2 hr2
 have e2 : r3 * 18446744073709551616 + a 2 = v * q2 + r2 := by rw [hq2, hr2]; exact (Nat.div_add_mod _ _).symm
 have w2 : q2 < 18446744073709551616 := by rw [hq2]; exact (Nat.div_lt_iff_lt_mul hv).2 (by have h1 := ha 2; have h2 : r3 < v := lt3; rw [Nat.mul_comm 18446744073709551616 v]; exact low_w h1 h2)
 obtain ⟨q1, hq1⟩ : ∃ q, q = (r2 * 18446744073709551616 + a 1) / v := ⟨_, rfl⟩
 obtain ⟨r1, hr1⟩ : ∃ r, r = (r2 * 18446744073709551616 + a 1) % v := ⟨_, rfl⟩
 have lt1 : r1 < v := by rw [hr1]; exact Nat.mod_lt _ hv
 have c1 := div64S r2 (a 1) v q1 r1 (ha 1) lt2 hvW hq1 hr1
 have e1 : r2 * 18446744073709551616 + a 1 = v * q1 + r1 := by rw [hq1, hr1]; exact (Nat.div_add_mod _ _).symm
 have w1 : q1 < 18446744073709551616 := by rw [hq1]; exact (Nat.div_lt_iff_lt_mul hv).2 (by have h1 := ha 1; have h2 : r2 < v := lt2; rw [Nat.mul_comm 18446744073709551616 v]; exact low_w h1 h2)
 obtain ⟨q0, hq0⟩ : ∃ q, q = (r1 * 18446744073709551616 + a 0) / v := ⟨_, rfl⟩
 obtain ⟨r0, hr0⟩ : ∃ r, r = (r1 * 18446744073709551616 + a 0) % v := ⟨_, rfl⟩
 have lt0 : r0 < v := by rw [hr0]; exact Nat.mod_lt _ hv
 have c0 := div64S r1 (a 0) v q0 r0 (ha 0) lt1 hvW hq0 hr0
 have e0 : r1 * 18446744073709551616 + a 0 = v * q0 + r0 := by rw [hq0, hr0]; exact (Nat.div_add_mod _ _).symm
 have w0 : q0 < 18446744073709551616 := by rw [hq0]; exact (Nat.div_lt_iff_lt_mul hv).2 (by have h1 := ha 0; have h2 : r1 < v := lt1; rw [Nat.mul_comm 18446744073709551616 v]; exact low_w h1 h2)
 refine ⟨fun j => match j with | 0 => q0 | 1 => q1 | 2 => q2 | 3 => q3 | _ => 0, r0, ?_, ?_, ?_⟩
 . clear c0 w0 hq0 hr0 c1 w1 hq1 hr1 c2 w2 hq2 hr2 c3 w3 hq3 hr3
   simp only [V, Nat.pow_zero, Nat.mul_one, Nat.zero_add, Nat.pow_one]
   refine (Nat.div_eq_of_lt_le ?_ ?_).symm
   . exact (short_num4 hv e0 e1 e2 e3 lt0).1
   . exact (short_num4 hv e0 e1 e2 e3 lt0).2
 . intro j; dsimp only; split <;> first | assumption | decide
 clear e0 w0 hq0 hr0 lt0 e1 w1 hq1 hr1 lt1 e2 w2 hq2 hr2 lt2 e3 w3 hq3 hr3 lt3
 refine mk Try.func113 rfl rfl L0 R0 (by decide +kernel) fun A S hA hS => ?_
 unfold bodyOf Try.f113
 cbv
 refine aG hS c3 ?_ ?_
 . cbv
   repeat' (first | exact rfl | exact trivial | constructor)
 cbv
 refine aF hS c2 ?_
 cbv
 refine aF hS c1 ?_
 cbv
 refine aF hS c0 ?_
 cbv
 try (repeat' (first | exact rfl | exact trivial | constructor))
theorem ddiv0S {lim : Lim} (hl : lim = limR) (x v : Nat) (hx : x < 2 ^ 256) (hk : TopW x 0) (hv : 0 < v) (hvW : v < 18446744073709551616) : Sp 24 [u4 lim x, u4 lim v] (u4 lim (x / v)) := by
 have hvk : TopW v 1 := ⟨hvW, fun _ => hv⟩
 have cx := trim0S hl x hk
 have cv := trim1S hl v hvk
 obtain ⟨q, r, hq, hqW, cs_⟩ := short0S (wd x) v (wd_lt x) hv hvW
 rw [wd_num 0 hk.1] at hq
 have v0 : lim v 0 = ((v : Nat) : Int) := by rw [hl]; show ((v / 2 ^ (64 * 0) % 2 ^ 64 : Nat) : Int) = _; rw [Nat.mul_zero, Nat.pow_zero, Nat.div_one, Nat.mod_eq_of_lt hvW]
 have xs := fun i => lim_w hl x i
 rw [xs 0, xs 1, xs 2, xs 3] at cx
 rw [v0] at cv
 obtain ⟨w, hw⟩ : ∃ w, w = x / v := ⟨_, rfl⟩
 have hwk : w < 2 ^ (64 * 0) := by rw [hw]; exact Nat.lt_of_le_of_lt (Nat.div_le_self _ _) hk.1
 have ws : ∀ i, i < 0 → ((q i : Nat) : Int) = lim w i := fun i hi => by
   rw [lim_w hl, wd_dg]; exact congrArg Int.ofNat (V_of (B := 18446744073709551616) (n := 0) (by decide) (hq.trans hw.symm) (fun j _ => hqW j) hi)
 have wz : ∀ i, 0 ≤ i → (0 : Int) = lim w i := fun i hi => by
   rw [hl]; show (0 : Int) = ((w / 2 ^ (64 * i) % 2 ^ 64 : Nat) : Int)
   rw [Nat.div_eq_of_lt (Nat.lt_of_lt_of_le hwk (Nat.pow_le_pow_right (by decide) (by omega)))]; rfl
 rw [← hw]
 have f0 := wz 0 (by decide)
 have f1 := wz 1 (by decide)
 have f2 := wz 2 (by decide)
 have f3 := wz 3 (by decide)
 have cd : Sp 93 [.lst false 4 [.s .u64 ((wd x 0 : Nat) : Int), .s .u64 ((wd x 1 : Nat) : Int), .s .u64 ((wd x 2 : Nat) : Int), .s .u64 ((wd x 3 : Nat) : Int)], .lst false 4 [.s .u64 ((v : Nat) : Int), .s .u64 (lim v 1), .s .u64 (lim v 2), .s .u64 (lim v 3)]] (.tup [.lst false 0 [], .lst false 1 [.s .u64 ((r : Nat) : Int)]]) := by
   clear f0 f1 f2 f3 ws wz hw hwk hq hqW hk hvk hx
   generalize wd x = a at *
   refine mk Try.func93 rfl rfl L0 R0 (by decide +kernel) fun A S hA hS => ?_
   unfold bodyOf Try.f93
   cbv
   refine aF hS cx ?_
   cbv
   refine aF hS cv ?_
   cbv
   refine aF hS cs_ ?_
   cbv
 have cr : Sp 59 [.lst false 1 [.s .u64 ((r : Nat) : Int)]] (.agg [.s .u64 ((r : Nat) : Int), .i .u64 0, .i .u64 0, .i .u64 0]) := by
   refine mk Try.func59 rfl rfl L0 R0 (by decide +kernel) fun A S hA hS => ?_
   unfold bodyOf Try.f59
   cbv
 have cq : Sp 59 [.lst false 0 []] (u4 lim w) := by
   refine mk Try.func59 rfl rfl L0 R0 (by decide +kernel) fun A S hA hS => ?_
   unfold bodyOf Try.f59
   cbv
   repeat' (first | exact f0 | exact f1 | exact f2 | exact f3 | exact rfl | exact trivial | constructor)
 have cb : Sp 58 [.lst false 4 [.s .u64 ((wd x 0 : Nat) : Int), .s .u64 ((wd x 1 : Nat) : Int), .s .u64 ((wd x 2 : Nat) : Int), .s .u64 ((wd x 3 : Nat) : Int)], u4 lim v] (.tup [.lst false 0 [], .agg [.s .u64 ((r : Nat) : Int), .i .u64 0, .i .u64 0, .i .u64 0]]) := by
   have v256 : v < 2 ^ 256 := Nat.lt_trans hvW (by decide)
   have hv0 : v ≠ 0 := by omega
   have ez := fun (A : Ar) (hA : A = Ar.real) => (zeq4 hA hl (x := v) v256).trans (decide_eq_false hv0)
   rw [v0] at ez
   rw [show u4 lim v = .agg [.s .u64 ((v : Nat) : Int), .s .u64 (lim v 1), .s .u64 (lim v 2), .s .u64 (lim v 3)] by unfold u4; rw [v0]]
   clear f0 f1 f2 f3 ws wz hw hwk hq hqW hk hvk hx cx cv cs_ cq
   generalize wd x = a at *
   refine mk Try.func58 rfl rfl L0 R0 (by decide +kernel) fun A S hA hS => ?_
   have e := ez A hA
   unfold bodyOf Try.f58
   cbv
   refine ABr.f e ?_
   cbv
   refine aF hS cd ?_
   cbv
   refine aF hS cr ?_
   cbv
 rw [u4_w hl x]
 clear f0 f1 f2 f3 ws wz hw hwk hq hqW hk hvk hx cx cv cs_ cd cr xs
 generalize wd x = a at *
 refine mk Try.func24 rfl rfl L0 R1 (by decide +kernel) fun A S hA hS => ?_
 unfold bodyOf Try.f24
 cbv
 refine aF hS cb ?_
 cbv
 refine aF hS cq ?_
 cbv
theorem ddiv1S {lim : Lim} (hl : lim = limR) (x v : Nat) (hx : x < 2 ^ 256) (hk : TopW x 1) (hv : 0 < v) (hvW : v < 18446744073709551616) : Sp 24 [u4 lim x, u4 lim v] (u4 lim (x / v)) := by
 have hvk : TopW v 1 := ⟨hvW, fun _ => hv⟩
 have cx := trim1S hl x hk
 have cv := trim1S hl v hvk
 obtain ⟨q, r, hq, hqW, cs_⟩ := short1S (wd x) v (wd_lt x) hv hvW
 rw [wd_num 1 hk.1] at hq
 have v0 : lim v 0 = ((v : Nat) : Int) := by rw [hl]; show ((v / 2 ^ (64 * 0) % 2 ^ 64 : Nat) : Int) = _; rw [Nat.mul_zero, Nat.pow_zero, Nat.div_one, Nat.mod_eq_of_lt hvW]
 have xs := fun i => lim_w hl x i
 rw [xs 0, xs 1, xs 2, xs 3] at cx
 rw [v0] at cv
 obtain ⟨w, hw⟩ : ∃ w, w = x / v := ⟨_, rfl⟩
 have hwk : w < 2 ^ (64 * 1) := by rw [hw]; exact Nat.lt_of_le_of_lt (Nat.div_le_self _ _) hk.1
 have ws : ∀ i, i < 1 → ((q i : Nat) : Int) = lim w i := fun i hi => by
   rw [lim_w hl, wd_dg]; exact congrArg Int.ofNat (V_of (B := 18446744073709551616) (n := 1) (by decide) (hq.trans hw.symm) (fun j _ => hqW j) hi)
 have wz : ∀ i, 1 ≤ i → (0 : Int) = lim w i := fun i hi => by
   rw [hl]; show (0 : Int) = ((w / 2 ^ (64 * i) % 2 ^ 64 : Nat) : Int)
   rw [Nat.div_eq_of_lt (Nat.lt_of_lt_of_le hwk (Nat.pow_le_pow_right (by decide) (by omega)))]; rfl
 rw [← hw]
 have f0 := ws 0 (by decide)
 have f1 := wz 1 (by decide)
 have f2 := wz 2 (by decide)
 have f3 := wz 3 (by decide)
 have cd : Sp 93 [.lst false 4 [.s .u64 ((wd x 0 : Nat) : Int), .s .u64 ((wd x 1 : Nat) : Int), .s .u64 ((wd x 2 : Nat) : Int), .s .u64 ((wd x 3 : Nat) : Int)], .lst false 4 [.s .u64 ((v : Nat) : Int), .s .u64 (lim v 1), .s .u64 (lim v 2), .s .u64 (lim v 3)]] (.tup [.lst false 1 [.s .u64 ((q 0 : Nat) : Int)], .lst false 1 [.s .u64 ((r : Nat) : Int)]]) := by
   clear f0 f1 f2 f3 ws wz hw hwk hq hqW hk hvk hx
   generalize wd x = a at *
   refine mk Try.func93 rfl rfl L0 R0 (by decide +kernel) fun A S hA hS => ?_
   unfold bodyOf Try.f93
   cbv
   refine aF hS cx ?_
   cbv
   refine aF hS cv ?_
   cbv
   refine aF hS cs_ ?_
   cbv
 have cr : Sp 59 [.lst false 1 [.s .u64 ((r : Nat) : Int)]] (.agg [.s .u64 ((r : Nat) : Int), .i .u64 0, .i .u64 0, .i .u64 0]) := by
   refine mk Try.func59 rfl rfl L0 R0 (by decide +kernel) fun A S hA hS => ?_
   unfold bodyOf Try.f59
   cbv
 have cq : Sp 59 [.lst false 1 [.s .u64 ((q 0 : Nat) : Int)]] (u4 lim w) := by
   refine mk Try.func59 rfl rfl L0 R0 (by decide +kernel) fun A S hA hS => ?_
   unfold bodyOf Try.f59
   cbv
   repeat' (first | exact f0 | exact f1 | exact f2 | exact f3 | exact rfl | exact trivial | constructor)
 have cb : Sp 58 [.lst false 4 [.s .u64 ((wd x 0 : Nat) : Int), .s .u64 ((wd x 1 : Nat) : Int), .s .u64 ((wd x 2 : Nat) : Int), .s .u64 ((wd x 3 : Nat) : Int)], u4 lim v] (.tup [.lst false 1 [.s .u64 ((q 0 : Nat) : Int)], .agg [.s .u64 ((r : Nat) : Int), .i .u64 0, .i .u64 0, .i .u64 0]]) := by
   have v256 : v < 2 ^ 256 := Nat.lt_trans hvW (by decide)
   have hv0 : v ≠ 0 := by omega
   have ez := fun (A : Ar) (hA : A = Ar.real) => (zeq4 hA hl (x := v) v256).trans (decide_eq_false hv0)
   rw [v0] at ez
   rw [show u4 lim v = .agg [.s .u64 ((v : Nat) : Int), .s .u64 (lim v 1), .s .u64 (lim v 2), .s .u64 (lim v 3)] by unfold u4; rw [v0]]
   clear f0 f1 f2 f3 ws wz hw hwk hq hqW hk hvk hx cx cv cs_ cq
   generalize wd x = a at *
   refine mk Try.func58 rfl rfl L0 R0 (by decide +kernel) fun A S hA hS => ?_
   have e := ez A hA
   unfold bodyOf Try.f58
   cbv
   refine ABr.f e ?_
   cbv
   refine aF hS cd ?_
   cbv
   refine aF hS cr ?_
   cbv
 rw [u4_w hl x]
 clear f0 f1 f2 f3 ws wz hw hwk hq hqW hk hvk hx cx cv cs_ cd cr xs
 generalize wd x = a at *
 refine mk Try.func24 rfl rfl L0 R1 (by decide +kernel) fun A S hA hS => ?_
 unfold bodyOf Try.f24
 cbv
 refine aF hS cb ?_
 cbv
 refine aF hS cq ?_
 cbv
theorem ddiv2S {lim : Lim} (hl : lim = limR) (x v : Nat) (hx : x < 2 ^ 256) (hk : TopW x 2) (hv : 0 < v) (hvW : v < 18446744073709551616) : Sp 24 [u4 lim x, u4 lim v] (u4 lim (x / v)) := by
 have hvk : TopW v 1 := ⟨hvW, fun _ => hv⟩
 have cx := trim2S hl x hk
 have cv := trim1S hl v hvk
 obtain ⟨q, r, hq, hqW, cs_⟩ := short2S (wd x) v (wd_lt x) hv hvW
 rw [wd_num 2 hk.1] at hq
 have v0 : lim v 0 = ((v : Nat) : Int) := by rw [hl]; show ((v / 2 ^ (64 * 0) % 2 ^ 64 : Nat) : Int) = _; rw [Nat.mul_zero, Nat.pow_zero, Nat.div_one, Nat.mod_eq_of_lt hvW]
 have xs := fun i => lim_w hl x i
 rw [xs 0, xs 1, xs 2, xs 3] at cx
 rw [v0] at cv
 obtain ⟨w, hw⟩ : ∃ w, w = x / v := ⟨_, rfl⟩
 have hwk : w < 2 ^ (64 * 2) := by rw [hw]; exact Nat.lt_of_le_of_lt (Nat.div_le_self _ _) hk.1
 have ws : ∀ i, i < 2 → ((q i : Nat) : Int) = lim w i := fun i hi => by
   rw [lim_w hl, wd_dg]; exact congrArg Int.ofNat (V_of (B := 18446744073709551616) (n := 2) (by decide) (hq.trans hw.symm) (fun j _ => hqW j) hi)
 have wz : ∀ i, 2 ≤ i → (0 : Int) = lim w i := fun i hi => by
   rw [hl]; show (0 : Int) = ((w / 2 ^ (64 * i) % 2 ^ 64 : Nat) : Int)
   rw [Nat.div_eq_of_lt (Nat.lt_of_lt_of_le hwk (Nat.pow_le_pow_right (by decide) (by omega)))]; rfl
 rw [← hw]
 have f0 := ws 0 (by decide)
 have f1 := ws 1 (by decide)
 have f2 := wz 2 (by decide)
 have f3 := wz 3 (by decide)
 have cd : Sp 93 [.lst false 4 [.s .u64 ((wd x 0 : Nat) : Int), .s .u64 ((wd x 1 : Nat) : Int), .s .u64 ((wd x 2 : Nat) : Int), .s .u64 ((wd x 3 : Nat) : Int)], .lst false 4 [.s .u64 ((v : Nat) : Int), .s .u64 (lim v 1), .s .u64 (lim v 2), .s .u64 (lim v 3)]] (.tup [.lst false 2 [.s .u64 ((q 0 : Nat) : Int), .s .u64 ((q 1 : Nat) : Int)], .lst false 1 [.s .u64 ((r : Nat) : Int)]]) := by
   clear f0 f1 f2 f3 ws wz hw hwk hq hqW hk hvk hx
   generalize wd x = a at *
   refine mk Try.func93 rfl rfl L0 R0 (by decide +kernel) fun A S hA hS => ?_
   unfold bodyOf Try.f93
   cbv
   refine aF hS cx ?_
   cbv
   refine aF hS cv ?_
   cbv
   refine aF hS cs_ ?_
   cbv
 have cr : Sp 59 [.lst false 1 [.s .u64 ((r : Nat) : Int)]] (.agg [.s .u64 ((r : Nat) : Int), .i .u64 0, .i .u64 0, .i .u64 0]) := by
   refine mk Try.func59 rfl rfl L0 R0 (by decide +kernel) fun A S hA hS => ?_
   unfold bodyOf Try.f59
   cbv
 have cq : Sp 59 [.lst false 2 [.s .u64 ((q 0 : Nat) : Int), .s .u64 ((q 1 : Nat) : Int)]] (u4 lim w) := by
   refine mk Try.func59 rfl rfl L0 R0 (by decide +kernel) fun A S hA hS => ?_
   unfold bodyOf Try.f59
   cbv
   repeat' (first | exact f0 | exact f1 | exact f2 | exact f3 | exact rfl | exact trivial | constructor)
 have cb : Sp 58 [.lst false 4 [.s .u64 ((wd x 0 : Nat) : Int), .s .u64 ((wd x 1 : Nat) : Int), .s .u64 ((wd x 2 : Nat) : Int), .s .u64 ((wd x 3 : Nat) : Int)], u4 lim v] (.tup [.lst false 2 [.s .u64 ((q 0 : Nat) : Int), .s .u64 ((q 1 : Nat) : Int)], .agg [.s .u64 ((r : Nat) : Int), .i .u64 0, .i .u64 0, .i .u64 0]]) := by
   have v256 : v < 2 ^ 256 := Nat.lt_trans hvW (by decide)
   have hv0 : v ≠ 0 := by omega
   have ez := fun (A : Ar) (hA : A = Ar.real) => (zeq4 hA hl (x := v) v256).trans (decide_eq_false hv0)
   rw [v0] at ez
   rw [show u4 lim v = .agg [.s .u64 ((v : Nat) : Int), .s .u64 (lim v 1), .s .u64 (lim v 2), .s .u64 (lim v 3)] by unfold u4; rw [v0]]
   clear f0 f1 f2 f3 ws wz hw hwk hq hqW hk hvk hx cx cv cs_ cq
   generalize wd x = a at *
   refine mk Try.func58 rfl rfl L0 R0 (by decide +kernel) fun A S hA hS => ?_
   have e := ez A hA
   unfold bodyOf Try.f58
   cbv
   refine ABr.f e ?_
   cbv
   refine aF hS cd ?_
   cbv
   refine aF hS cr ?_
   cbv
 rw [u4_w hl x]
 clear f0 f1 f2 f3 ws wz hw hwk hq hqW hk hvk hx cx cv cs_ cd cr xs
 generalize wd x = a at *
 refine mk Try.func24 rfl rfl L0 R1 (by decide +kernel) fun A S hA hS => ?_
 unfold bodyOf Try.f24
 cbv
 refine aF hS cb ?_
 cbv
 refine aF hS cq ?_
 cbv
theorem ddiv3S {lim : Lim} (hl : lim = limR) (x v : Nat) (hx : x < 2 ^ 256) (hk : TopW x 3) (hv : 0 < v) (hvW : v < 18446744073709551616) : Sp 24 [u4 lim x, u4 lim v] (u4 lim (x / v)) := by
 have hvk : TopW v 1 := ⟨hvW, fun _ => hv⟩
 have cx := trim3S hl x hk
 have cv := trim1S hl v hvk
 obtain ⟨q, r, hq, hqW, cs_⟩ := short3S (wd x) v (wd_lt x) hv hvW
 rw [wd_num 3 hk.1] at hq
 have v0 : lim v 0 = ((v : Nat) : Int) := by rw [hl]; show ((v / 2 ^ (64 * 0) % 2 ^ 64 : Nat) : Int) = _; rw [Nat.mul_zero, Nat.pow_zero, Nat.div_one, Nat.mod_eq_of_lt hvW]
 have xs := fun i => lim_w hl x i
 rw [xs 0, xs 1, xs 2, xs 3] at cx
 rw [v0] at cv
 obtain ⟨w, hw⟩ : ∃ w, w = x / v := ⟨_, rfl⟩
 have hwk : w < 2 ^ (64 * 3) := by rw [hw]; exact Nat.lt_of_le_of_lt (Nat.div_le_self _ _) hk.1
 have ws : ∀ i, i < 3 → ((q i : Nat) : Int) = lim w i := fun i hi => by
   rw [lim_w hl, wd_dg]; exact congrArg Int.ofNat (V_of (B := 18446744073709551616) (n := 3) (by decide) (hq.trans hw.symm) (fun j _ => hqW j) hi)
 have wz : ∀ i, 3 ≤ i → (0 : Int) = lim w i := fun i hi => by
   rw [hl]; show (0 : Int) = ((w / 2 ^ (64 * i) % 2 ^ 64 : Nat) : Int)
   rw [Nat.div_eq_of_lt (Nat.lt_of_lt_of_le hwk (Nat.pow_le_pow_right (by decide) (by omega)))]; rfl
 rw [← hw]
 have f0 := ws 0 (by decide)
 have f1 := ws 1 (by decide)
 have f2 := ws 2 (by decide)
 have f3 := wz 3 (by decide)
 have cd : Sp 93 [.lst false 4 [.s .u64 ((wd x 0 : Nat) : Int), .s .u64 ((wd x 1 : Nat) : Int), .s .u64 ((wd x 2 : Nat) : Int), .s .u64 ((wd x 3 : Nat) : Int)], .lst false 4 [.s .u64 ((v : Nat) : Int), .s .u64 (lim v 1), .s .u64 (lim v 2), .s .u64 (lim v 3)]] (.tup [.lst false 3 [.s .u64 ((q 0 : Nat) : Int), .s .u64 ((q 1 : Nat) : Int), .s .u64 ((q 2 : Nat) : Int)], .lst false 1 [.s .u64 ((r : Nat) : Int)]]) := by
   clear f0 f1 f2 f3 ws wz hw hwk hq hqW hk hvk hx
   generalize wd x = a at *
   refine mk Try.func93 rfl rfl L0 R0 (by decide +kernel) fun A S hA hS => ?_
   unfold bodyOf Try.f93
   cbv
   refine aF hS cx ?_
   cbv
   refine aF hS cv ?_
   cbv
   refine aF hS cs_ ?_
   cbv
 have cr : Sp 59 [.lst false 1 [.s .u64 ((r : Nat) : Int)]] (.agg [.s .u64 ((r : Nat) : Int), .i .u64 0, .i .u64 0, .i .u64 0]) := by
   refine mk Try.func59 rfl rfl L0 R0 (by decide +kernel) fun A S hA hS => ?_
   unfold bodyOf Try.f59
   cbv
 have cq : Sp 59 [.lst false 3 [.s .u64 ((q 0 : Nat) : Int), .s .u64 ((q 1 : Nat) : Int), .s .u64 ((q 2 : Nat) : Int)]] (u4 lim w) := by
   refine mk Try.func59 rfl rfl L0 R0 (by decide +kernel) fun A S hA hS => ?_
   unfold bodyOf Try.f59
   cbv
   repeat' (first | exact f0 | exact f1 | exact f2 | exact f3 | exact rfl | exact trivial | constructor)
 have cb : Sp 58 [.lst false 4 [.s .u64 ((wd x 0 : Nat) : Int), .s .u64 ((wd x 1 : Nat) : Int), .s .u64 ((wd x 2 : Nat) : Int), .s .u64 ((wd x 3 : Nat) : Int)], u4 lim v] (.tup [.lst false 3 [.s .u64 ((q 0 : Nat) : Int), .s .u64 ((q 1 : Nat) : Int), .s .u64 ((q 2 : Nat) : Int)], .agg [.s .u64 ((r : Nat) : Int), .i .u64 0, .i .u64 0, .i .u64 0]]) := by
   have v256 : v < 2 ^ 256 := Nat.lt_trans hvW (by decide)
   have hv0 : v ≠ 0 := by omega
   have ez := fun (A : Ar) (hA : A = Ar.real) => (zeq4 hA hl (x := v) v256).trans (decide_eq_false hv0)
   rw [v0] at ez
   rw [show u4 lim v = .agg [.s .u64 ((v : Nat) : Int), .s .u64 (lim v 1), .s .u64 (lim v 2), .s .u64 (lim v 3)] by unfold u4; rw [v0]]
   clear f0 f1 f2 f3 ws wz hw hwk hq hqW hk hvk hx cx cv cs_ cq
   generalize wd x = a at *
   refine mk Try.func58 rfl rfl L0 R0 (by decide +kernel) fun A S hA hS => ?_
   have e := ez A hA
   unfold bodyOf Try.f58
   cbv
   refine ABr.f e ?_
   cbv
   refine aF hS cd ?_
   cbv
   refine aF hS cr ?_
   cbv
 rw [u4_w hl x]
 clear f0 f1 f2 f3 ws wz hw hwk hq hqW hk hvk hx cx cv cs_ cd cr xs
 generalize wd x = a at *
 refine mk Try.func24 rfl rfl L0 R1 (by decide +kernel) fun A S hA hS => ?_
 unfold bodyOf Try.f24
 cbv
 refine aF hS cb ?_
 cbv
 refine aF hS cq ?_
 cbv
theorem ddiv4S {lim : Lim} (hl : lim = limR) (x v : Nat) (hx : x < 2 ^ 256) (hk : TopW x 4) (hv : 0 < v) (hvW : v < 18446744073709551616) : Sp 24 [u4 lim x, u4 lim v] (u4 lim (x / v)) := by
 have hvk : TopW v 1 := ⟨hvW, fun _ => hv⟩
 have cx := trim4S hl x hk
 have cv := trim1S hl v hvk
 obtain ⟨q, r, hq, hqW, cs_⟩ := short4S (wd x) v (wd_lt x) hv hvW
 rw [wd_num 4 hk.1] at hq
 have v0 : lim v 0 = ((v : Nat) : Int) := by rw [hl]; show ((v / 2 ^ (64 * 0) % 2 ^ 64 : Nat) : Int) = _; rw [Nat.mul_zero, Nat.pow_zero, Nat.div_one, Nat.mod_eq_of_lt hvW]
 have xs := fun i => lim_w hl x i
 rw [xs 0, xs 1, xs 2, xs 3] at cx
 rw [v0] at cv
 obtain ⟨w, hw⟩ : ∃ w, w = x / v := ⟨_, rfl⟩
 have hwk : w < 2 ^ (64 * 4) := by rw [hw]; exact Nat.lt_of_le_of_lt (Nat.div_le_self _ _) hk.1
 have ws : ∀ i, i < 4 → ((q i : Nat) : Int) = lim w i := fun i hi => by
   rw [lim_w hl, wd_dg]; exact congrArg Int.ofNat (V_of (B := 18446744073709551616) (n := 4) (by decide) (hq.trans hw.symm) (fun j _ => hqW j) hi)
 have wz : ∀ i, 4 ≤ i → (0 : Int) = lim w i := fun i hi => by
   rw [hl]; show (0 : Int) = ((w / 2 ^ (64 * i) % 2 ^ 64 : Nat) : Int)
   rw [Nat.div_eq_of_lt (Nat.lt_of_lt_of_le hwk (Nat.pow_le_pow_right (by decide) (by omega)))]; rfl
 rw [← hw]
 have f0 := ws 0 (by decide)
 have f1 := ws 1 (by decide)
 have f2 := ws 2 (by decide)
 have f3 := ws 3 (by decide)
 have cd : Sp 93 [.lst false 4 [.s .u64 ((wd x 0 : Nat) : Int), .s .u64 ((wd x 1 : Nat) : Int), .s .u64 ((wd x 2 : Nat) : Int), .s .u64 ((wd x 3 : Nat) : Int)], .lst false 4 [.s .u64 ((v : Nat) : Int), .s .u64 (lim v 1), .s .u64 (lim v 2), .s .u64 (lim v 3)]] (.tup [.lst false 4 [.s .u64 ((q 0 : Nat) : Int), .s .u64 ((q 1 : Nat) : Int), .s .u64 ((q 2 : Nat) : Int), .s .u64 ((q 3 : Nat) : Int)], .lst false 1 [.s .u64 ((r : Nat) : Int)]]) := by
   clear f0 f1 f2 f3 ws wz hw hwk hq hqW hk hvk hx
   generalize wd x = a at *
   refine mk Try.func93 rfl rfl L0 R0 (by decide +kernel) fun A S hA hS => ?_
   unfold bodyOf Try.f93
   cbv
   refine aF hS cx ?_
   cbv
   refine aF hS cv ?_
   cbv
   refine aF hS cs_ ?_
   cbv
 have cr : Sp 59 [.lst false 1 [.s .u64 ((r : Nat) : Int)]] (.agg [.s .u64 ((r : Nat) : Int), .i .u64 0, .i .u64 0, .i .u64 0]) := by
   refine mk Try.func59 rfl rfl L0 R0 (by decide +kernel) fun A S hA hS => ?_
   unfold bodyOf Try.f59
   cbv
 have cq : Sp 59 [.lst false 4 [.s .u64 ((q 0 : Nat) : Int), .s .u64 ((q 1 : Nat) : Int), .s .u64 ((q 2 : Nat) : Int), .s .u64 ((q 3 : Nat) : Int)]] (u4 lim w) := by
   refine mk Try.func59 rfl rfl L0 R0 (by decide +kernel) fun A S hA hS => ?_
   unfold bodyOf Try.f59
   cbv
   repeat' (first | exact f0 | exact f1 | exact f2 | exact f3 | exact rfl | exact trivial | constructor)
 have cb : Sp 58 [.lst false 4 [.s .u64 ((wd x 0 : Nat) : Int), .s .u64 ((wd x 1 : Nat) : Int), .s .u64 ((wd x 2 : Nat) : Int), .s .u64 ((wd x 3 : Nat) : Int)], u4 lim v] (.tup [.lst false 4 [.s .u64 ((q 0 : Nat) : Int), .s .u64 ((q 1 : Nat) : Int), .s .u64 ((q 2 : Nat) : Int), .s .u64 ((q 3 : Nat) : Int)], .agg [.s .u64 ((r : Nat) : Int), .i .u64 0, .i .u64 0, .i .u64 0]]) := by
   have v256 : v < 2 ^ 256 := Nat.lt_trans hvW (by decide)
   have hv0 : v ≠ 0 := by omega
   have ez := fun (A : Ar) (hA : A = Ar.real) => (zeq4 hA hl (x := v) v256).trans (decide_eq_false hv0)
   rw [v0] at ez
   rw [show u4 lim v = .agg [.s .u64 ((v : Nat) : Int), .s .u64 (lim v 1), .s .u64 (lim v 2), .s .u64 (lim v 3)] by unfold u4; rw [v0]]
   clear f0 f1 f2 f3 ws wz hw hwk hq hqW hk hvk hx cx cv cs_ cq
   generalize wd x = a at *
   refine mk Try.func58 rfl rfl L0 R0 (by decide +kernel) fun A S hA hS => ?_
   have e := ez A hA
   unfold bodyOf Try.f58
   cbv
   refine ABr.f e ?_
   cbv
   refine aF hS cd ?_
   cbv
   refine aF hS cr ?_
   cbv
 rw [u4_w hl x]
 clear f0 f1 f2 f3 ws wz hw hwk hq hqW hk hvk hx cx cv cs_ cd cr xs
 generalize wd x = a at *
 refine mk Try.func24 rfl rfl L0 R1 (by decide +kernel) fun A S hA hS => ?_
 unfold bodyOf Try.f24
 cbv
 refine aF hS cb ?_
 cbv
 refine aF hS cq ?_
 cbv
theorem wDivS {lim : Lim} (hl : lim = limR) (x v : Nat) (hx : x < 2 ^ 256) (hv : 0 < v) (hvW : v < 18446744073709551616) : Sp 24 [u4 lim x, u4 lim v] (u4 lim (x / v)) := by
 obtain ⟨k, hk, ht⟩ := topW_ex hx
 rcases (by omega : k = 0 ∨ k = 1 ∨ k = 2 ∨ k = 3 ∨ k = 4) with rfl | rfl | rfl | rfl | rfl
 . exact ddiv0S hl x v hx ht hv hvW
 . exact ddiv1S hl x v hx ht hv hvW
 . exact ddiv2S hl x v hx ht hv hvW
 . exact ddiv3S hl x v hx ht hv hvW
 . exact ddiv4S hl x v hx ht hv hvW
end Go.Proofs.Ytkhipnhdbaahcaa
end
section
namespace Go.Proofs.Ytkhipnhdbaahcaa
open Go Eng Dg
theorem short_num5 {B v a0 q0 r0 a1 q1 r1 a2 q2 r2 a3 q3 r3 a4 q4 r4 : Nat} (hv : 0 < v) (e0 : r1 * B + a0 = v * q0 + r0) (e1 : r2 * B + a1 = v * q1 + r1) (e2 : r3 * B + a2 = v * q2 + r2) (e3 : r4 * B + a3 = v * q3 + r3) (e4 : 0 * B + a4 = v * q4 + r4) (lt0 : r0 < v) : (q0 + q1 * B + q2 * B ^ 2 + q3 * B ^ 3 + q4 * B ^ 4) * v ≤ a0 + a1 * B + a2 * B ^ 2 + a3 * B ^ 3 + a4 * B ^ 4 ∧ a0 + a1 * B + a2 * B ^ 2 + a3 * B ^ 3 + a4 * B ^ 4 < (q0 + q1 * B + q2 * B ^ 2 + q3 * B ^ 3 + q4 * B ^ 4 + 1) * v := by
 have key : a0 + a1 * B + a2 * B ^ 2 + a3 * B ^ 3 + a4 * B ^ 4 = v * (q0 + q1 * B + q2 * B ^ 2 + q3 * B ^ 3 + q4 * B ^ 4) + r0 := by
   clear hv lt0
   grind
 rw [key]
 constructor
 . rw [Nat.mul_comm]; exact Nat.le_add_right _ _
 . rw [Nat.add_mul, Nat.one_mul, Nat.mul_comm]; exact Nat.add_lt_add_left lt0 _
theorem eighth (Q i : Nat) : wd (Q / 8) i = wd Q i / 8 + wd Q (i + 1) % 8 * 2 ^ 61 := by
 unfold wd
 have e1 : Q / 8 / 2 ^ (64 * i) = Q / 2 ^ (64 * i) / 8 := by rw [Nat.div_div_eq_div_mul, Nat.div_div_eq_div_mul, Nat.mul_comm]
 have e2 : Q / 2 ^ (64 * (i + 1)) = Q / 2 ^ (64 * i) / 18446744073709551616 := by rw [show 64 * (i + 1) = 64 * i + 64 by omega, Nat.pow_add, Nat.div_div_eq_div_mul]
 rw [e1, e2]
 generalize Q / 2 ^ (64 * i) = y
 have e3 : (2 : Nat) ^ 61 = 2305843009213693952 := by decide
 rw [e3]
 omega
theorem eighth_bin {A : Ar} (hA : A = Ar.real) (a b : Nat) (ha : a < 18446744073709551616) (hb : b < 18446744073709551616) : A.bin .or .u64 (A.bin .shr .u64 (a : Int) 3) (A.bin .shl .u64 (b : Int) 61) = ((a / 8 + b % 8 * 2 ^ 61 : Nat) : Int) := by
 have e1 : A.bin .shr .u64 (a : Int) 3 = ((a / 8 : Nat) : Int) := by
   rw [hA]; exact u_shr a 3 (by decide)
 have e2 : A.bin .shl .u64 (b : Int) 61 = ((2 ^ 61 * (b % 8) : Nat) : Int) := by
   rw [hA]; refine (u_shl b 61 (by decide)).trans (congrArg Int.ofNat ?_)
   have e3 : (2 : Nat) ^ 61 = 2305843009213693952 := by decide
   rw [e3]; omega
 rw [e1, e2, hA]
 have e3 : (2 : Nat) ^ 61 = 2305843009213693952 := by decide
 refine (u_or_add (a / 8) (b % 8) 61 (by rw [e3]; omega) (by rw [e3]; omega) (by decide)).trans (congrArg Int.ofNat ?_)
 rw [Nat.mul_comm]
theorem hwideS {lim : Lim} (hl : lim = limR) (f n t : Nat) (hf : f < 2 ^ 256) (hn : n < 18446744073709551616) (ht : 0 < t) (htW : t < 18446744073709551616) : Sp 29 [u4 lim f, .s .u64 ((n : Nat) : Int), .s .u64 ((t : Nat) : Int)] (u4 lim (f * n / t / 8 % 2 ^ 256)) := by
 have co := ofS hl n hn
 have n256 : n < 2 ^ 256 := Nat.lt_trans hn (by decide)
 have cw := wWideS hl f n hf n256
 obtain ⟨P, hP⟩ : ∃ P, P = f * n := ⟨_, rfl⟩
 rw [← hP] at cw ⊢
 have P320 : P < 2 ^ (64 * 5) := by
   rw [hP]
   have := Nat.mul_lt_mul_of_lt_of_lt hf hn
   exact Nat.lt_of_lt_of_le this (by decide)
 obtain ⟨a, ha⟩ : ∃ a, a = wd P := ⟨_, rfl⟩
 have haW : ∀ j, a j < 18446744073709551616 := fun j => by rw [ha]; exact wd_lt P j
 have hv5 : V 18446744073709551616 a 5 = P := by rw [ha]; exact wd_num 5 P320
 rw [← ha] at cw
 obtain ⟨q4, hq4⟩ : ∃ q, q = (0 * 18446744073709551616 + a 4) / t := ⟨_, rfl⟩
 obtain ⟨r4, hr4⟩ : ∃ r, r = (0 * 18446744073709551616 + a 4) % t := ⟨_, rfl⟩
 have lt4 : r4 < t := by rw [hr4]; exact Nat.mod_lt _ ht
 have c4 := div64S 0 (a 4) t q4 r4 (haW 4) ht htW hq4 hr4
 have e4 : 0 * 18446744073709551616 + a 4 = t * q4 + r4 := by rw [hq4, hr4]; exact (Nat.div_add_mod _ _).symm
 have w4 : q4 < 18446744073709551616 := by rw [hq4]; exact (Nat.div_lt_iff_lt_mul ht).2 (by have h1 := haW 4; have h2 : 0 < t := ht; rw [Nat.mul_comm 18446744073709551616 t]; exact low_w h1 h2)
 obtain ⟨q3, hq3⟩ : ∃ q, q = (r4 * 18446744073709551616 + a 3) / t := ⟨_, rfl⟩
 obtain ⟨r3, hr3⟩ : ∃ r, r = (r4 * 18446744073709551616 + a 3) % t := ⟨_, rfl⟩
 have lt3 : r3 < t := by rw [hr3]; exact Nat.mod_lt _ ht
 have c3 := div64S r4 (a 3) t q3 r3 (haW 3) lt4 htW hq3 hr3
 have e3 : r4 * 18446744073709551616 + a 3 = t * q3 + r3 := by rw [hq3, hr3]; exact (Nat.div_add_mod _ _).symm
 have w3 : q3 < 18446744073709551616 := by rw [hq3]; exact (Nat.div_lt_iff_lt_mul ht).2 (by have h1 := haW 3; have h2 : r4 < t := lt4; rw [Nat.mul_comm 18446744073709551616 t]; exact low_w h1 h2)
 obtain ⟨q2, hq2⟩ : ∃ q, q = (r3 * 18446744073709551616 + a 2) / t := ⟨_, rfl⟩
 obtain ⟨r2, hr2⟩ : ∃ r, r = (r3 * 18446744073709551616 + a 2) % t := ⟨_, rfl⟩
 have lt2 : r2 < t := by rw [hr2]; exact Nat.mod_lt _ ht
 have c2 := div64S r3 (a 2) t q2 r2 (haW 2) lt3 htW hq2 hr2
 have e2 : r3 * 18446744073709551616 + a 2 = t * q2 + r2 := by rw [hq2, hr2]; exact (Nat.div_add_mod _ _).symm
 have w2 : q2 < 18446744073709551616 := by rw [hq2]; exact (Nat.div_lt_iff_lt_mul ht).2 (by have h1 := haW 2; have h2 : r3 < t := lt3; rw [Nat.mul_comm 18446744073709551616 t]; exact low_w h1 h2)
 obtain ⟨q1, hq1⟩ : ∃ q, q = (r2 * 18446744073709551616 + a 1) / t := ⟨_, rfl⟩
 obtain ⟨r1, hr1⟩ : ∃ r, r = (r2 * 18446744073709551616 + a 1) % t := ⟨_, rfl⟩
 have lt1 : r1 < t := by rw [hr1]; exact Nat.mod_lt _ ht
 have c1 := div64S r2 (a 1) t q1 r1 (haW 1) lt2 htW hq1 hr1
 have e1 : r2 * 18446744073709551616 + a 1 = t * q1 + r1 := by rw [hq1, hr1]; exact (Nat.div_add_mod _ _).symm
 have w1 : q1 < 18446744073709551616 := by rw [hq1]; exact (Nat.div_lt_iff_lt_mul ht).2 (by have h1 := haW 1; have h2 : r2 < t := lt2; rw [Nat.mul_comm 18446744073709551616 t]; exact low_w h1 h2)
 obtain ⟨q0, hq0⟩ : ∃ q, q = (r1 * 18446744073709551616 + a 0) / t := ⟨_, rfl⟩
 obtain ⟨r0, hr0⟩ : ∃ r, r = (r1 * 18446744073709551616 + a 0) % t := ⟨_, rfl⟩
 have lt0 : r0 < t := by rw [hr0]; exact Nat.mod_lt _ ht
 have c0 := div64S r1 (a 0) t q0 r0 (haW 0) lt1 htW hq0 hr0
 have e0 : r1 * 18446744073709551616 + a 0 = t * q0 + r0 := by rw [hq0, hr0]; exact (Nat.div_add_mod _ _).symm
 have w0 : q0 < 18446744073709551616 := by rw [hq0]; exact (Nat.div_lt_iff_lt_mul ht).2 (by have h1 := haW 0; have h2 : r1 < t := lt1; rw [Nat.mul_comm 18446744073709551616 t]; exact low_w h1 h2)
 obtain ⟨Q, hQ⟩ : ∃ Q, Q = P / t := ⟨_, rfl⟩
 obtain ⟨qq, hqq⟩ : ∃ qq : Nat → Nat, qq = fun j => match j with | 0 => q0 | 1 => q1 | 2 => q2 | 3 => q3 | 4 => q4 | _ => 0 := ⟨_, rfl⟩
 have hqW : ∀ j, qq j < 18446744073709551616 := fun j => by rw [hqq]; dsimp only; split <;> first | assumption | decide
 have hqv : V 18446744073709551616 qq 5 = Q := by
   have h5 : V 18446744073709551616 qq 5 = q0 + q1 * 18446744073709551616 + q2 * 18446744073709551616 ^ 2 + q3 * 18446744073709551616 ^ 3 + q4 * 18446744073709551616 ^ 4 := by
     rw [hqq]
     simp only [V, Nat.pow_zero, Nat.mul_one, Nat.zero_add, Nat.pow_one]
   have ha5 : P = a 0 + a 1 * 18446744073709551616 + a 2 * 18446744073709551616 ^ 2 + a 3 * 18446744073709551616 ^ 3 + a 4 * 18446744073709551616 ^ 4 := by
     rw [← hv5]
     simp only [V, Nat.pow_zero, Nat.mul_one, Nat.zero_add, Nat.pow_one]
   have k := short_num5 ht e0 e1 e2 e3 e4 lt0
   rw [h5, hQ, ha5]
   exact (Nat.div_eq_of_lt_le k.1 k.2).symm
 have hqd : ∀ j, j < 5 → qq j = wd Q j := fun j hj => by
   rw [wd_dg]; exact V_of (B := 18446744073709551616) (n := 5) (by decide) hqv (fun j _ => hqW j) hj
 rw [← hQ]
 have ex : ∀ (A : Ar) (hA : A = Ar.real), A.bin .or .u64 (A.bin .shr .u64 ((q0 : Nat) : Int) 3) (A.bin .shl .u64 ((q1 : Nat) : Int) 61) = ((q0 / 8 + q1 % 8 * 2 ^ 61 : Nat) : Int) ∧ A.bin .or .u64 (A.bin .shr .u64 ((q1 : Nat) : Int) 3) (A.bin .shl .u64 ((q2 : Nat) : Int) 61) = ((q1 / 8 + q2 % 8 * 2 ^ 61 : Nat) : Int) ∧ A.bin .or .u64 (A.bin .shr .u64 ((q2 : Nat) : Int) 3) (A.bin .shl .u64 ((q3 : Nat) : Int) 61) = ((q2 / 8 + q3 % 8 * 2 ^ 61 : Nat) : Int) ∧ A.bin .or .u64 (A.bin .shr .u64 ((q3 : Nat) : Int) 3) (A.bin .shl .u64 ((q4 : Nat) : Int) 61) = ((q3 / 8 + q4 % 8 * 2 ^ 61 : Nat) : Int) := fun A hA => ⟨eighth_bin hA q0 q1 w0 w1, eighth_bin hA q1 q2 w1 w2, eighth_bin hA q2 q3 w2 w3, eighth_bin hA q3 q4 w3 w4⟩
 have z4 : ∀ i, 4 ≤ i → True := fun _ _ => trivial
 obtain ⟨w, hw⟩ : ∃ w, w = Q / 8 % 2 ^ 256 := ⟨_, rfl⟩
 rw [← hw]
 have lw : ∀ i, i < 4 → ((qq i / 8 + qq (i + 1) % 8 * 2 ^ 61 : Nat) : Int) = lim w i := fun i hi => by
   rw [lim_w hl, hw, show (256 : Nat) = 64 * 4 from rfl, wd_mod _ i 4 hi, eighth, hqd i (by omega), hqd (i + 1) (by omega)]
 have l0 : ((q0 / 8 + q1 % 8 * 2 ^ 61 : Nat) : Int) = lim w 0 := by have := lw 0 (by decide); rw [hqq] at this; exact this
 have l1 : ((q1 / 8 + q2 % 8 * 2 ^ 61 : Nat) : Int) = lim w 1 := by have := lw 1 (by decide); rw [hqq] at this; exact this
 have l2 : ((q2 / 8 + q3 % 8 * 2 ^ 61 : Nat) : Int) = lim w 2 := by have := lw 2 (by decide); rw [hqq] at this; exact this
 have l3 : ((q3 / 8 + q4 % 8 * 2 ^ 61 : Nat) : Int) = lim w 3 := by have := lw 3 (by decide); rw [hqq] at this; exact this
 clear lw hw hqd hqv hqW hqq hQ z4 e0 w0 hq0 hr0 lt0 e1 w1 hq1 hr1 lt1 e2 w2 hq2 hr2 lt2 e3 w3 hq3 hr3 lt3 e4 w4 hq4 hr4 lt4 hv5 P320 hP haW ha
 refine mk Try.func29 rfl rfl L0 R1 (by decide +kernel) fun A S hA hS => ?_
 obtain ⟨x0, x1, x2, x3⟩ := ex A hA
 have y0 := x0.trans l0
 have y1 := x1.trans l1
 have y2 := x2.trans l2
 have y3 := x3.trans l3
 clear x0 x1 x2 x3 l0 l1 l2 l3 ex
 unfold bodyOf Try.f29
 cbv
 refine aF hS co ?_
 cbv
 refine aF hS cw ?_
 cbv
 refine aG hS c4 ?_ ?_
 . cbv
   repeat' (first | exact rfl | exact trivial | constructor)
 cbv
 refine aF hS c3 ?_
 cbv
 refine aF hS c2 ?_
 cbv
 refine aF hS c1 ?_
 cbv
 refine aF hS c0 ?_
 cbv
 repeat' (first | exact y0 | exact y1 | exact y2 | exact y3 | exact rfl | exact trivial | constructor)
theorem not_tt {A : Ar} (hA : A = Ar.real) : A.not true = false := by rw [hA]; rfl
theorem not_ff {A : Ar} (hA : A = Ar.real) : A.not false = true := by rw [hA]; rfl
def aS (e : Nat) : Nat → Nat
 | 0 => 3338477
 | n + 1 => aS e n * e / (3338477 * (n + 1))
def sS (e : Nat) : Nat → Nat
 | 0 => 0
 | n + 1 => sS e n + aS e n
theorem aS_mono {d e : Nat} (h : d ≤ e) : ∀ n, aS d n ≤ aS e n
 | 0 => Nat.le_refl _
 | n + 1 => Nat.div_le_div_right (Nat.mul_le_mul (aS_mono h n) h)
theorem sS_mono {d e : Nat} (h : d ≤ e) : ∀ n, sS d n ≤ sS e n
 | 0 => Nat.le_refl _
 | n + 1 => Nat.add_le_add (sS_mono h n) (aS_mono h n)
def aL : Nat → Nat → Nat → List Nat
 | 0, _, a => [a]
 | f + 1, n, a => a :: aL f (n + 1) (a * 134217728 / (3338477 * (n + 1)))
theorem aL_ok (P : Nat → Bool) : ∀ f n, (aL f n (aS 134217728 n)).all P = true → ∀ k, k ≤ f → P (aS 134217728 (n + k)) = true
 | 0, n, h, k, hk => by
   obtain rfl : k = 0 := by omega
   simpa [aL] using h
 | f + 1, n, h, k, hk => by
   rw [aL, List.all_cons, Bool.and_eq_true] at h
   rcases Nat.eq_zero_or_pos k with rfl | h0
   . exact h.1
   . have := aL_ok P f (n + 1) h.2 (k - 1) (by omega)
     rw [show n + 1 + (k - 1) = n + k by omega] at this
     exact this
theorem aS_lt {e : Nat} (he : e ≤ 134217728) (n : Nat) (hn : n ≤ 160) : aS e n < 2 ^ 120 := by
 have h : (aL 160 0 3338477).all (fun a => decide (a < 2 ^ 120)) = true := by decide +kernel
 have := aL_ok (fun a => decide (a < 2 ^ 120)) 160 0 h n hn
 rw [Nat.zero_add] at this
 exact Nat.lt_of_le_of_lt (aS_mono he n) (of_decide_eq_true this)
theorem aS_end {e : Nat} (he : e ≤ 134217728) : aS e 160 = 0 := by
 have h : aS 134217728 160 = 0 := by
   have key : ∀ f n, (aL f n (aS 134217728 n)).getLast? = some (aS 134217728 (n + f)) := by
     intro f
     induction f with
     | zero => intro n; rfl
     | succ f ih =>
       intro n
       have e := ih (n + 1)
       rw [aL]
       have e2 : aS 134217728 n * 134217728 / (3338477 * (n + 1)) = aS 134217728 (n + 1) := rfl
       rw [e2, show n + (f + 1) = n + 1 + f by omega, ← e]
       cases hc : aL f (n + 1) (aS 134217728 (n + 1)) with
       | nil => rw [hc] at e; cases e
       | cons x l => rfl
   have k := key 160 0
   rw [Nat.zero_add] at k
   have c : (aL 160 0 3338477).getLast? = some 0 := by decide +kernel
   exact Option.some.inj (k.symm.trans c)
 have := aS_mono he 160
 omega
theorem aS_zero {e n : Nat} (h : aS e n = 0) : ∀ k, aS e (n + k) = 0
 | 0 => h
 | k + 1 => by
   show aS e (n + k) * e / _ = 0
   rw [aS_zero h k, Nat.zero_mul, Nat.zero_div]
theorem sS_stop {e n : Nat} (h : aS e n = 0) : ∀ k, sS e (n + k) = sS e n
 | 0 => rfl
 | k + 1 => by
   show sS e (n + k) + aS e (n + k) = _
   rw [sS_stop h k, aS_zero h k, Nat.add_zero]
def bprice (e : Nat) : Nat := sS e 160 / 3338477
theorem sS_lt {e : Nat} (he : e ≤ 134217728) : ∀ n, n ≤ 160 → sS e n ≤ n * 2 ^ 120
 | 0, _ => Nat.zero_le _
 | n + 1, h => by
   have h1 := sS_lt he n (by omega)
   have h2 := aS_lt he n (by omega)
   show sS e n + aS e n ≤ _
   rw [Nat.succ_mul]; omega
theorem sS_256 {e : Nat} (he : e ≤ 134217728) (n : Nat) (hn : n ≤ 160) : sS e n < 2 ^ 256 := by
 have h := sS_lt he n hn
 have : n * 2 ^ 120 ≤ 160 * 2 ^ 120 := Nat.mul_le_mul_right _ hn
 exact Nat.lt_of_le_of_lt (Nat.le_trans h this) (by decide)
theorem bprice_mono {d e : Nat} (h : d ≤ e) : bprice d ≤ bprice e := Nat.div_le_div_right (sS_mono h 160)
theorem bprice_pos (e : Nat) : 0 < bprice e := by
 have h : 3338477 ≤ sS e 160 := by
   have k : ∀ n, 3338477 ≤ sS e (n + 1) := by
     intro n
     induction n with
     | zero => show 3338477 ≤ 0 + 3338477; omega
     | succ n ih => exact Nat.le_trans ih (Nat.le_add_right _ _)
   exact k 159
 exact Nat.div_pos h (by decide)
theorem bprice_256 {e : Nat} (he : e ≤ 134217728) : bprice e < 2 ^ 256 := Nat.lt_of_le_of_lt (Nat.div_le_self _ _) (sS_256 he 160 (Nat.le_refl _))
theorem bpriceS {lim : Lim} (hl : lim = limR) (e : Nat) (he : e ≤ 134217728) : Sp 7 [.s .u64 (e : Int)] (.tup [u4 lim (bprice e), .i .i64 0]) := by
 have hzend := aS_end he
 obtain ⟨a, ha⟩ : ∃ a : Nat → Nat, a = aS e := ⟨_, rfl⟩
 obtain ⟨s, hs⟩ : ∃ s : Nat → Nat, s = sS e := ⟨_, rfl⟩
 have a120 : ∀ n, n ≤ 160 → a n < 2 ^ 120 := fun n hn => by rw [ha]; exact aS_lt he n hn
 have a256 : ∀ n, n ≤ 160 → a n < 2 ^ 256 := fun n hn => Nat.lt_trans (a120 n hn) (by decide)
 have s256 : ∀ n, n ≤ 160 → s n < 2 ^ 256 := fun n hn => by rw [hs]; exact sS_256 he n hn
 have hstop : ∀ n, n ≤ 160 → a n = 0 → s n / 3338477 = bprice e := fun n hn h => by
   rw [ha] at h
   have := sS_stop h (160 - n)
   rw [show n + (160 - n) = 160 by omega] at this
   unfold bprice
   rw [hs, ← this]
 have cadd : ∀ n, n < 160 → Sp 23 [u4 lim (s n), u4 lim (a n)] (u4 lim (s (n + 1))) := fun n hn => by
   have c := wAddS hl (s n) (a n) (s256 n (by omega)) (a256 n (by omega))
   have e1 : s n + a n = s (n + 1) := by rw [hs, ha]; rfl
   rw [e1, Nat.mod_eq_of_lt (s256 (n + 1) (by omega))] at c
   exact c
 have cmul : ∀ n, n < 160 → Sp 25 [u4 lim (a n), u4 lim e] (u4 lim (a n * e)) := fun n hn => by
   have c := wMulS hl (a n) e (a256 n (by omega)) (Nat.lt_of_le_of_lt he (by decide))
   have h1 : a n * e < 2 ^ 256 := by
     have := Nat.mul_lt_mul_of_lt_of_le (a120 n (by omega)) he (by decide)
     exact Nat.lt_trans this (by decide)
   rw [Nat.mod_eq_of_lt h1] at c
   exact c
 have cdiv : ∀ n, n < 160 → Sp 24 [u4 lim (a n * e), u4 lim (3338477 * (n + 1))] (u4 lim (a (n + 1))) := fun n hn => by
   have h1 : a n * e < 2 ^ 256 := by
     have := Nat.mul_lt_mul_of_lt_of_le (a120 n (by omega)) he (by decide)
     exact Nat.lt_trans this (by decide)
   have c := wDivS hl (a n * e) (3338477 * (n + 1)) h1 (by omega) (by omega)
   have e1 : a n * e / (3338477 * (n + 1)) = a (n + 1) := by rw [ha]; rfl
   rw [e1] at c; exact c
 have cR := ofS hl 3338477 (by decide)
 have ce := ofS hl e (Nat.lt_of_le_of_lt he (by decide))
 have cof : ∀ n, n < 160 → Sp 22 [.s .u64 ((3338477 * (n + 1) : Nat) : Int)] (u4 lim (3338477 * (n + 1))) := fun n hn => ofS hl _ (by omega)
 have clast : ∀ n, n ≤ 160 → a n = 0 → Sp 24 [u4 lim (s n), u4 lim 3338477] (u4 lim (bprice e)) := fun n hn h => by
   have c := wDivS hl (s n) 3338477 (s256 n hn) (by decide) (by decide)
   rw [hstop n hn h] at c; exact c
 have z160 : a 160 = 0 := by rw [ha]; exact hzend
 have a0 : ∀ i, lim (a 0) i = lim 3338477 i := fun i => by rw [ha]; rfl
 have s0 : ∀ i, (0 : Int) = lim (s 0) i := fun i => by
   rw [hs, hl]; show (0 : Int) = ((0 / 2 ^ (64 * i) % 2 ^ 64 : Nat) : Int); rw [Nat.zero_div]; rfl
 have a00 := (a0 0).symm
 have a01 := (a0 1).symm
 have a02 := (a0 2).symm
 have a03 := (a0 3).symm
 have s00 := s0 0
 have s01 := s0 1
 have s02 := s0 2
 have s03 := s0 3
 generalize bprice e = bp at *
 clear hstop hzend ha hs s256 a120 a0 s0
 refine mk Try.func7 rfl rfl L00 R1 (by decide +kernel) fun A S hA hS => ?_
 have g1 : A.cmp .gtr (e : Int) 134217728 = false := (b_gt hA e 134217728).trans (decide_eq_false (by omega))
 unfold bodyOf Try.f7
 cbv
 refine ABr.f g1 ?_
 cbv
 refine aG hS cR ?_ ?_
 . cbv
 cbv
 refine .inv (α := Nat × Nat) (fun p => ⟨[.s .u64 (e : Int), .any, .own 0 0, .any, .own 1 0, .own 2 0, .s .u64 ((p.2 : Nat) : Int), .any, .any, .any, .any, .any, .any, .any, .any, .any, .any, .any, .any, .any, .any, .any, .any, .any, .any, .any, .any, .any, .any, .any], [⟨true, true, [.i .u64 0, .i .u64 0, .i .u64 0, .i .u64 0]⟩, ⟨true, true, [.s .u64 (lim (s p.1) 0), .s .u64 (lim (s p.1) 1), .s .u64 (lim (s p.1) 2), .s .u64 (lim (s p.1) 3)]⟩, ⟨true, true, [.s .u64 (lim (a p.1) 0), .s .u64 (lim (a p.1) 1), .s .u64 (lim (a p.1) 2), .s .u64 (lim (a p.1) 3)]⟩]⟩) (fun p => p.1 ≤ 160 ∧ p.2 = p.1 + 1) (fun p => 160 - p.1) (0, 1) ?_ ⟨Nat.zero_le _, rfl⟩ ?_
 . clear cadd cmul cdiv cof clast z160 a256
   cbv
   repeat' (first | exact a00 | exact a01 | exact a02 | exact a03 | exact s00 | exact s01 | exact s02 | exact s03 | exact rfl | exact trivial | constructor)
 clear a00 a01 a02 a03 s00 s01 s02 s03
 rintro ⟨n, m⟩ ⟨hn, hm⟩
 dsimp only at hn hm ⊢
 by_cases hz : a n = 0
 . have c1 := clast n hn hz
   have e1 := congrArg A.not ((zeq4 hA hl (x := a n) (a256 n hn)).trans (decide_eq_true hz))
   rw [not_tt hA] at e1
   clear cadd cmul cdiv cof clast z160 a256
   generalize a n = an at *
   generalize s n = sn at *
   clear hm
   cbv
   refine ABr.f e1 ?_
   cbv
   refine aG hS cR ?_ ?_
   . cbv
   cbv
   refine aF hS c1 ?_
   cbv
 . have hlt : n < 160 := by
     rcases Nat.lt_or_ge n 160 with h | h
     . exact h
     . exfalso; have : n = 160 := by omega
       subst this; exact hz z160
   have c1 := cadd n hlt
   have c2 := cmul n hlt
   have c3 := cdiv n hlt
   have c4 := cof n hlt
   have e1 := congrArg A.not ((zeq4 hA hl (x := a n) (a256 n hn)).trans (decide_eq_false hz))
   rw [not_ff hA] at e1
   have e2 : A.bin .mul .u64 3338477 ((m : Nat) : Int) = ((3338477 * (n + 1) : Nat) : Int) := by rw [hm]; exact b_mul hA 3338477 (n + 1) (by omega)
   obtain ⟨m2, hm2⟩ : ∃ m2, m2 = n + 1 + 1 := ⟨_, rfl⟩
   have e3 : A.bin .add .u64 ((m : Nat) : Int) 1 = ((m2 : Nat) : Int) := by rw [hm, hm2]; exact b_add hA (n + 1) 1 (by omega)
   have p1 : n + 1 ≤ 160 := hlt
   have p2 : 160 - (n + 1) < 160 - n := by omega
   clear cadd cmul cdiv cof clast z160 a256 hm
   generalize a n * e = ae at *
   generalize 3338477 * (n + 1) = rn at *
   obtain ⟨an1, han1⟩ : ∃ x, a (n + 1) = x := ⟨_, rfl⟩
   obtain ⟨sn1, hsn1⟩ : ∃ x, s (n + 1) = x := ⟨_, rfl⟩
   rw [han1] at c3
   rw [hsn1] at c1
   generalize a n = an at *
   generalize s n = sn at *
   generalize hn1 : n + 1 = n1 at *
   cbv
   refine ABr.t e1 ?_
   cbv
   refine aF hS c1 ?_
   cbv
   refine aF hS ce ?_
   cbv
   refine aF hS c2 ?_
   cbv
   refine aG hS c4 ?_ ?_
   . cbv
     exact e2
   cbv
   refine aF hS c3 ?_
   cbv
   refine ⟨(n1, m2), ?_, ⟨p1, hm2⟩, p2⟩
   subst han1 hsn1
   cbv
   repeat' (first | exact e3 | exact rfl | exact trivial | constructor)
end Go.Proofs.Ytkhipnhdbaahcaa
end
