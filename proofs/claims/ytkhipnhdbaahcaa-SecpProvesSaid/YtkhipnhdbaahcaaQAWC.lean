import Derived.Test.YtkhipnhdbaahcaaQASC
import Derived.Test.YtkhipnhdbaahcaaQAH
import Derived.Test.YtkhipnhdbaahcaaQAGA
set_option linter.unusedVariables false
set_option linter.unusedSimpArgs false
set_option linter.unusedSectionVars false
set_option maxRecDepth 100000
set_option exponentiation.threshold 2000
set_option maxHeartbeats 4000000
section
namespace Go.Proofs.Ytkhipnhdbaahcaa
open Go Eng
variable {p : Nat} [NeZero p]
def Pf (k : Kf p) : Cv.Pt (Fin p) → AVal
 | none => .agg [.i .u64 0, .i .u64 0, .i .u64 0, .i .u64 0, .i .u64 0, .i .u64 0, .i .u64 0, .i .u64 0, .b true]
 | some (x, y) => .agg [.s .u64 (k.v x 0), .s .u64 (k.v x 1), .s .u64 (k.v x 2), .s .u64 (k.v x 3), .s .u64 (k.v y 0), .s .u64 (k.v y 1), .s .u64 (k.v y 2), .s .u64 (k.v y 3), .b false]
theorem infS {k : Kf p} : Sp 99 [] (Pf k none) := by
 refine mk Try.func99 rfl rfl L0 R1 (by decide +kernel) fun A S hA hS => ?_
 unfold bodyOf Try.f99
 cbv
theorem jacS {k : Kf p} {r : List AVal} (hK : OkF k r) (P : Cv.Pt (Fin p)) : Sp 82 [.ref r 0, Pf k P] (Jf k (Cv.up k.O P)) := by
 rcases P with _ | ⟨x, y⟩
 . have z := hK.zero
   refine mk Try.func82 rfl rfl L0 R1 (by decide +kernel) fun A S hA hS => ?_
   unfold bodyOf Try.f82
   cbv
   repeat' (first | exact (z _ (by decide)).symm | constructor)
 . have cx := hK.inn x
   have cy := hK.inn y
   have co := hK.inn k.O.one
   have e0 := hK.one.1
   have es := hK.one.2
   unfold Cv.up
   generalize k.O.one = o at *
   refine mk Try.func82 rfl rfl L0 R1 (by decide +kernel) fun A S hA hS => ?_
   unfold bodyOf Try.f82
   cbv
   refine aF hS cx ?_
   cbv
   refine aF hS cy ?_
   cbv
   refine aG hS co ?_ ?_
   . cbv
     repeat' (first | exact e0.symm | exact (es _ (by decide)).symm | (have h := hK.sim 10; unfold simL at h; exact h) | exact trivial | constructor)
   cbv
theorem affS {k : Kf p} {r : List AVal} (hK : OkF k r) (L : Cv.Laws k.O) (j : Cv.Jac (Fin p)) : Sp 84 [Jf k j, .ref r 0] (Pf k (Cv.down k.O j)) := by
 have ci := infS (k := k)
 obtain ⟨px, py, pz⟩ := j
 have co := hK.out pz
 unfold Cv.down
 dsimp only
 by_cases h : pz = k.O.zero
 . rw [if_pos h]
   refine mk Try.func84 rfl rfl L0 R1 (by decide +kernel) fun A S hA hS => ?_
   have e1 := (words_eqz hK.inj hK.zero hA pz).trans (decide_eq_true h)
   unfold bodyOf Try.f84
   cbv
   repeat ((first | refine ABr.t (by first | assumption | rfl) ?_ | refine ABr.f (by first | assumption | rfl) ?_ | refine aF hS ci ?_); cbv)
 . rw [if_neg h, L.assoc py]
   obtain ⟨i_, hi_⟩ : ∃ q_, q_ = k.O.inv pz := ⟨_, rfl⟩
   have ci_ := hK.inv pz
   rw [← hi_] at ci_ ⊢
   obtain ⟨i2, hi2⟩ : ∃ q_, q_ = k.O.mul i_ i_ := ⟨_, rfl⟩
   have ci2 := hK.mul i_ i_
   rw [← hi2] at ci2 ⊢
   obtain ⟨x, hx⟩ : ∃ q_, q_ = k.O.mul px i2 := ⟨_, rfl⟩
   have cx := hK.mul px i2
   rw [← hx] at cx ⊢
   obtain ⟨i3, hi3⟩ : ∃ q_, q_ = k.O.mul i2 i_ := ⟨_, rfl⟩
   have ci3 := hK.mul i2 i_
   rw [← hi3] at ci3 ⊢
   obtain ⟨y, hy⟩ : ∃ q_, q_ = k.O.mul py i3 := ⟨_, rfl⟩
   have cy := hK.mul py i3
   rw [← hy] at cy ⊢
   have cox := hK.out x
   have coy := hK.out y
   refine mk Try.func84 rfl rfl L0 R1 (by decide +kernel) fun A S hA hS => ?_
   have e1 := (words_eqz hK.inj hK.zero hA pz).trans (decide_eq_false h)
   have e2 := (words_eqz hK.injv hK.zerov hA pz).trans (decide_eq_false h)
   unfold bodyOf Try.f84
   cbv
   repeat ((first | refine ABr.t (by first | assumption | rfl) ?_ | refine ABr.f (by first | assumption | rfl) ?_ | refine aF hS co ?_ | refine aF hS ci_ ?_ | refine aF hS ci2 ?_ | refine aF hS cx ?_ | refine aF hS cox ?_ | refine aF hS ci3 ?_ | refine aF hS cy ?_ | refine aF hS coy ?_); cbv)
end Go.Proofs.Ytkhipnhdbaahcaa
end
section
namespace Go.Proofs.Ytkhipnhdbaahcaa
open Go Eng
theorem isNaNS (x : Int) : Sp 96 [.s .u64 x] (.b false) := by
 refine mk Try.func96 rfl rfl L0 R1 (by decide +kernel) fun A S hA hS => ?_
 have h : A.cmp .neq x x = false := by
   rw [hA]; show (x != x) = false; simp
 unfold bodyOf Try.f96
 cbv
 exact h
def sgn (x y : Int) : Int := if x < y then -1 else if y < x then 1 else 0
theorem compareS (x y r : Int) (hr : r = sgn x y) : Sp 63 [.s .u64 x, .s .u64 y] (.s .i64 r) := by
 have nx := isNaNS x
 have ny := isNaNS y
 unfold sgn at hr
 by_cases h1 : x < y
 . rw [if_pos h1] at hr
   subst hr
   refine mk Try.func63 rfl rfl L0 R1 (by decide +kernel) fun A S hA hS => ?_
   have e1 : A.cmp .lss x y = true := (i_lt hA).trans (decide_eq_true h1)
   unfold bodyOf Try.f63
   cbv
   refine aF hS nx ?_
   cbv
   refine aF hS ny ?_
   cbv
   refine ABr.t e1 ?_
   cbv
 rw [if_neg h1] at hr
 by_cases h2 : y < x
 . rw [if_pos h2] at hr
   subst hr
   refine mk Try.func63 rfl rfl L0 R1 (by decide +kernel) fun A S hA hS => ?_
   have e1 : A.cmp .lss x y = false := (i_lt hA).trans (decide_eq_false h1)
   have e2 : A.cmp .gtr x y = true := by rw [hA]; exact decide_eq_true h2
   unfold bodyOf Try.f63
   cbv
   refine aF hS nx ?_
   cbv
   refine aF hS ny ?_
   cbv
   refine ABr.f e1 ?_
   cbv
   refine ABr.t e2 ?_
   cbv
 . rw [if_neg h2] at hr
   subst hr
   refine mk Try.func63 rfl rfl L0 R1 (by decide +kernel) fun A S hA hS => ?_
   have e1 : A.cmp .lss x y = false := (i_lt hA).trans (decide_eq_false h1)
   have e2 : A.cmp .gtr x y = false := by rw [hA]; exact decide_eq_false h2
   unfold bodyOf Try.f63
   cbv
   refine aF hS nx ?_
   cbv
   refine aF hS ny ?_
   cbv
   refine ABr.f e1 ?_
   cbv
   refine ABr.f e2 ?_
   cbv
theorem orS (a b c d r : Int) (hr : r = if a ≠ 0 then a else if b ≠ 0 then b else if c ≠ 0 then c else d) : Sp 62 [.lst false 4 [.s .i64 a, .s .i64 b, .s .i64 c, .s .i64 d]] (.s .i64 r) := by
 by_cases ha : a ≠ 0
 . rw [if_pos ha] at hr
   rw [hr]
   refine mk Try.func62 rfl rfl L0 R1 (by decide +kernel) fun A S hA hS => ?_
   have ea : A.cmp .neq a 0 = true := by rw [hA]; exact bne_iff_ne.2 ha
   unfold bodyOf Try.f62
   cbv
   refine ABr.t ea ?_
   cbv
 rw [if_neg ha] at hr
 by_cases hb : b ≠ 0
 . rw [if_pos hb] at hr
   rw [hr]
   refine mk Try.func62 rfl rfl L0 R1 (by decide +kernel) fun A S hA hS => ?_
   have ea : A.cmp .neq a 0 = false := by rw [hA]; exact bne_eq_false_iff_eq.2 (Decidable.not_not.1 ha)
   have eb : A.cmp .neq b 0 = true := by rw [hA]; exact bne_iff_ne.2 hb
   unfold bodyOf Try.f62
   cbv
   refine ABr.f ea ?_
   cbv
   refine ABr.t eb ?_
   cbv
 rw [if_neg hb] at hr
 by_cases hc : c ≠ 0
 . rw [if_pos hc] at hr
   rw [hr]
   refine mk Try.func62 rfl rfl L0 R1 (by decide +kernel) fun A S hA hS => ?_
   have ea : A.cmp .neq a 0 = false := by rw [hA]; exact bne_eq_false_iff_eq.2 (Decidable.not_not.1 ha)
   have eb : A.cmp .neq b 0 = false := by rw [hA]; exact bne_eq_false_iff_eq.2 (Decidable.not_not.1 hb)
   have ec : A.cmp .neq c 0 = true := by rw [hA]; exact bne_iff_ne.2 hc
   unfold bodyOf Try.f62
   cbv
   refine ABr.f ea ?_
   cbv
   refine ABr.f eb ?_
   cbv
   refine ABr.t ec ?_
   cbv
 rw [if_neg hc] at hr
 by_cases hd : d ≠ 0
 . have hr : r = d := hr
   rw [hr]
   refine mk Try.func62 rfl rfl L0 R1 (by decide +kernel) fun A S hA hS => ?_
   have ea : A.cmp .neq a 0 = false := by rw [hA]; exact bne_eq_false_iff_eq.2 (Decidable.not_not.1 ha)
   have eb : A.cmp .neq b 0 = false := by rw [hA]; exact bne_eq_false_iff_eq.2 (Decidable.not_not.1 hb)
   have ec : A.cmp .neq c 0 = false := by rw [hA]; exact bne_eq_false_iff_eq.2 (Decidable.not_not.1 hc)
   have ed : A.cmp .neq d 0 = true := by rw [hA]; exact bne_iff_ne.2 hd
   unfold bodyOf Try.f62
   cbv
   refine ABr.f ea ?_
   cbv
   refine ABr.f eb ?_
   cbv
   refine ABr.f ec ?_
   cbv
   refine ABr.t ed ?_
   cbv
 have hr : r = d := hr
 rw [hr]
 refine mk Try.func62 rfl rfl L0 R1 (by decide +kernel) fun A S hA hS => ?_
 have ea : A.cmp .neq a 0 = false := by rw [hA]; exact bne_eq_false_iff_eq.2 (Decidable.not_not.1 ha)
 have eb : A.cmp .neq b 0 = false := by rw [hA]; exact bne_eq_false_iff_eq.2 (Decidable.not_not.1 hb)
 have ec : A.cmp .neq c 0 = false := by rw [hA]; exact bne_eq_false_iff_eq.2 (Decidable.not_not.1 hc)
 have ed : A.cmp .neq d 0 = false := by rw [hA]; exact bne_eq_false_iff_eq.2 (Decidable.not_not.1 hd)
 unfold bodyOf Try.f62
 cbv
 refine ABr.f ea ?_
 cbv
 refine ABr.f eb ?_
 cbv
 refine ABr.f ec ?_
 cbv
 refine ABr.f ed ?_
 cbv
 exact (Decidable.not_not.1 hd).symm
def cmpZ (x y : Nat) : Int := if x < y then -1 else if y < x then 1 else 0
theorem lexi {x0 x1 x2 x3 y0 y1 y2 y3 : Int} (hx0 : 0 ≤ x0 ∧ x0 < 18446744073709551616) (hx1 : 0 ≤ x1 ∧ x1 < 18446744073709551616) (hx2 : 0 ≤ x2 ∧ x2 < 18446744073709551616) (hx3 : 0 ≤ x3 ∧ x3 < 18446744073709551616) (hy0 : 0 ≤ y0 ∧ y0 < 18446744073709551616) (hy1 : 0 ≤ y1 ∧ y1 < 18446744073709551616) (hy2 : 0 ≤ y2 ∧ y2 < 18446744073709551616) (hy3 : 0 ≤ y3 ∧ y3 < 18446744073709551616)
   {x y : Nat} (hx : (x : Int) = x0 + 18446744073709551616 * (x1 + 18446744073709551616 * (x2 + 18446744073709551616 * x3))) (hy : (y : Int) = y0 + 18446744073709551616 * (y1 + 18446744073709551616 * (y2 + 18446744073709551616 * y3))) :
   cmpZ x y = if sgn x3 y3 ≠ 0 then sgn x3 y3 else if sgn x2 y2 ≠ 0 then sgn x2 y2 else if sgn x1 y1 ≠ 0 then sgn x1 y1 else sgn x0 y0 := by
 have key : ∀ u v : Int, (sgn u v = -1 ∧ u < v) ∨ (sgn u v = 1 ∧ v < u) ∨ (sgn u v = 0 ∧ u = v) := by
   intro u v
   unfold sgn
   by_cases h1 : u < v
   . rw [if_pos h1]; exact .inl ⟨rfl, h1⟩
   . rw [if_neg h1]
     by_cases h2 : v < u
     . rw [if_pos h2]; exact .inr (.inl ⟨rfl, h2⟩)
     . rw [if_neg h2]; exact .inr (.inr ⟨rfl, by omega⟩)
 have k3 := key x3 y3
 have k2 := key x2 y2
 have k1 := key x1 y1
 have k0 := key x0 y0
 generalize sgn x3 y3 = s3 at *
 generalize sgn x2 y2 = s2 at *
 generalize sgn x1 y1 = s1 at *
 generalize sgn x0 y0 = s0 at *
 unfold cmpZ
 have n1 : (-1 : Int) ≠ 0 := by decide
 have n2 : (1 : Int) ≠ 0 := by decide
 have nz : ¬ ((0 : Int) ≠ 0) := fun h => h rfl
 rcases k3 with ⟨rfl, h3⟩ | ⟨rfl, h3⟩ | ⟨rfl, h3⟩
 . rw [if_pos (by omega), if_pos n1]
 . rw [if_neg (by omega), if_pos (by omega), if_pos n2]
 rw [if_neg nz]
 rcases k2 with ⟨rfl, h2⟩ | ⟨rfl, h2⟩ | ⟨rfl, h2⟩
 . rw [if_pos (by omega), if_pos n1]
 . rw [if_neg (by omega), if_pos (by omega), if_pos n2]
 rw [if_neg nz]
 rcases k1 with ⟨rfl, h1⟩ | ⟨rfl, h1⟩ | ⟨rfl, h1⟩
 . rw [if_pos (by omega), if_pos n1]
 . rw [if_neg (by omega), if_pos (by omega), if_pos n2]
 rw [if_neg nz]
 rcases k0 with ⟨rfl, h0⟩ | ⟨rfl, h0⟩ | ⟨rfl, h0⟩
 . rw [if_pos (by omega)]
 . rw [if_neg (by omega), if_pos (by omega)]
 . rw [if_neg (by omega), if_neg (by omega)]
theorem cmpS {lim : Lim} (hl : lim = limR) (x y : Nat) (hx : x < 2 ^ 256) (hy : y < 2 ^ 256) : Sp 30 [u4 lim x, u4 lim y] (.s .i64 (cmpZ x y)) := by
 have rx := fun i => lim_range hl x i
 have ry := fun i => lim_range hl y i
 have hz := lexi (rx 0) (rx 1) (rx 2) (rx 3) (ry 0) (ry 1) (ry 2) (ry 3) (split4 hl x hx) (split4 hl y hy)
 generalize cmpZ x y = z at *
 obtain ⟨s, hs⟩ : ∃ s : Nat → Int, s = fun i => sgn (lim x i) (lim y i) := ⟨_, rfl⟩
 have c := fun i => compareS (lim x i) (lim y i) (s i) (by rw [hs])
 have c0 := c 0
 have c1 := c 1
 have c2 := c 2
 have c3 := c 3
 have co := orS (s 3) (s 2) (s 1) (s 0) z (by rw [hs]; exact hz)
 clear hs hz c
 refine mk Try.func30 rfl rfl L0 R2 (by decide +kernel) fun A S hA hS => ?_
 unfold bodyOf Try.f30
 cbv
 refine aF hS c3 ?_
 cbv
 refine aF hS c2 ?_
 cbv
 refine aF hS c1 ?_
 cbv
 refine aF hS c0 ?_
 cbv
 refine aF hS co ?_
 cbv
theorem borrowS {lim : Lim} (hl : lim = limR) (a b o k : Nat) (ha : a < 2 ^ 256) (hb : b < 2 ^ 256) (h : o + b = a + 2 ^ 256 * k) (ho : o < 2 ^ 256) (t : Bool) (ht : t = decide ((k : Int) ≠ 0)) :
   Sp 64 [u4 lim a, u4 lim b] (.tup [u4 lim o, .sb t]) := by
 have la := fun i => lim_range hl a i
 have lb := fun i => lim_range hl b i
 obtain ⟨o0, k1, e0, r0, q1⟩ := borrow (la 0) (lb 0) (z := 0) (by omega)
 obtain ⟨o1, k2, e1, r1, q2⟩ := borrow (la 1) (lb 1) q1
 obtain ⟨o2, k3, e2, r2, q3⟩ := borrow (la 2) (lb 2) q2
 obtain ⟨o3, k4, e3, r3, q4⟩ := borrow (la 3) (lb 3) q3
 have hs := dif4 (split4 hl a ha) (split4 hl b hb) h ho e0 e1 e2 e3 r0 r1 r2 r3
 have hf := lim_of4 hl ho r0 r1 r2 hs.1
 obtain ⟨f0, f1, f2, f3⟩ := hf
 have hk : decide (k4 ≠ 0) = t := by rw [ht, hs.2]
 refine mk Try.func64 rfl rfl L0 R0 (by decide +kernel) fun A S hA hS => ?_
 have hne : A.cmp .neq k4 0 = t := by
   rw [← hk, hA]
   show (k4 != 0) = _
   by_cases h : k4 = 0
   . subst h; rfl
   . rw [decide_eq_true h]; exact bne_iff_ne.2 h
 unfold bodyOf Try.f64
 cbv
 refine ACall.mk (.tup [.s .u64 o0, .s .u64 k1]) (cf hS (sub64S (.s _) (.s _) (.i _) (la 0) (lb 0) (by omega) _ _ e0 r0)) ?_
 cbv
 refine ACall.mk (.tup [.s .u64 o1, .s .u64 k2]) (cf hS (sub64S (.s _) (.s _) (.s _) (la 1) (lb 1) q1 _ _ e1 r1)) ?_
 cbv
 refine ACall.mk (.tup [.s .u64 o2, .s .u64 k3]) (cf hS (sub64S (.s _) (.s _) (.s _) (la 2) (lb 2) q2 _ _ e2 r2)) ?_
 cbv
 refine ACall.mk (.tup [.s .u64 o3, .s .u64 k4]) (cf hS (sub64S (.s _) (.s _) (.s _) (la 3) (lb 3) q3 _ _ e3 r3)) ?_
 cbv
 exact ⟨⟨f0.symm, f1.symm, f2.symm, f3.symm⟩, hne⟩
theorem subS {lim : Lim} (hl : lim = limR) (a b : Nat) (ha : a < 2 ^ 256) (hb : b ≤ a) : Sp 31 [u4 lim a, u4 lim b] (u4 lim (a - b)) := by
 have c := borrowS hl a b (a - b) 0 ha (by omega) (by omega) (by omega) false rfl
 generalize a - b = o at *
 refine mk Try.func31 rfl rfl L0 R0 (by decide +kernel) fun A S hA hS => ?_
 unfold bodyOf Try.f31
 cbv
 refine aF hS c ?_
 cbv
def IsLen (x n : Nat) : Prop := x < 2 ^ n ∧ (0 < n → 2 ^ (n - 1) ≤ x)
instance (x n : Nat) : Decidable (IsLen x n) := inferInstanceAs (Decidable (_ ∧ _))
theorem IsLen.le {x n k : Nat} (h : IsLen x n) (hx : 2 ^ k ≤ x) : k < n := by
 rcases Nat.lt_or_ge k n with h1 | h1
 . exact h1
 . have := Nat.pow_le_pow_right (n := 2) (by decide) h1
   have := h.1
   omega
theorem IsLen.ge {x n k : Nat} (h : IsLen x n) (hx : x < 2 ^ k) : n ≤ k := by
 rcases Nat.lt_or_ge k n with h1 | h1
 . have h2 := h.2 (by omega)
   have := Nat.pow_le_pow_right (n := 2) (by decide) (show k ≤ n - 1 by omega)
   omega
 . exact h1
theorem IsLen.div {x n k : Nat} (h : IsLen x n) (hx : 2 ^ k ≤ x) : IsLen (x / 2 ^ k) (n - k) := by
 have hk := h.le hx
 refine ⟨Nat.div_lt_of_lt_mul ?_, fun h0 => (Nat.le_div_iff_mul_le (Nat.two_pow_pos k)).2 ?_⟩
 . rw [← Nat.pow_add, show k + (n - k) = n by omega]; exact h.1
 . rw [← Nat.pow_add, show n - k - 1 + k = n - 1 by omega]; exact h.2 (by omega)
theorem isLen_ex (x : Nat) : ∃ n, IsLen x n := by
 by_cases h : x = 0
 . subst h; exact ⟨0, by decide⟩
 . refine ⟨Nat.log2 x + 1, Nat.lt_log2_self, fun _ => ?_⟩
   exact Nat.log2_self_le h
theorem IsLen.uniq {x n m : Nat} (h : IsLen x n) (k : IsLen x m) : n = m := Nat.le_antisymm (h.ge k.1) (k.ge h.1)
def lenTab : ByteArray := ⟨#[0, 1, 2, 2, 3, 3, 3, 3, 4, 4, 4, 4, 4, 4, 4, 4, 5, 5, 5, 5, 5, 5, 5, 5, 5, 5, 5, 5, 5, 5, 5, 5, 6, 6, 6, 6, 6, 6, 6, 6, 6, 6, 6, 6, 6, 6, 6, 6, 6, 6, 6, 6, 6, 6, 6, 6, 6, 6, 6, 6, 6, 6, 6, 6, 7, 7, 7, 7, 7, 7, 7, 7, 7, 7, 7, 7, 7, 7, 7, 7, 7, 7, 7, 7, 7, 7, 7, 7, 7, 7, 7, 7, 7, 7, 7, 7, 7, 7, 7, 7, 7, 7, 7, 7, 7, 7, 7, 7, 7, 7, 7, 7, 7, 7, 7, 7, 7, 7, 7, 7, 7, 7, 7, 7, 7, 7, 7, 7, 8, 8, 8, 8, 8, 8, 8, 8, 8, 8, 8, 8, 8, 8, 8, 8, 8, 8, 8, 8, 8, 8, 8, 8, 8, 8, 8, 8, 8, 8, 8, 8, 8, 8, 8, 8, 8, 8, 8, 8, 8, 8, 8, 8, 8, 8, 8, 8, 8, 8, 8, 8, 8, 8, 8, 8, 8, 8, 8, 8, 8, 8, 8, 8, 8, 8, 8, 8, 8, 8, 8, 8, 8, 8, 8, 8, 8, 8, 8, 8, 8, 8, 8, 8, 8, 8, 8, 8, 8, 8, 8, 8, 8, 8, 8, 8, 8, 8, 8, 8, 8, 8, 8, 8, 8, 8, 8, 8, 8, 8, 8, 8, 8, 8, 8, 8, 8, 8, 8, 8, 8, 8, 8, 8, 8, 8, 8, 8]⟩
theorem lenTab_ok : ∀ i, i < 256 → ∀ n, n < 9 → IsLen i n → Ar.real.byte lenTab i = (n : Int) := by decide +kernel
theorem u_ge {A : Ar} (hA : A = Ar.real) {x y : Int} : A.cmp .geq x y = decide (x ≥ y) := by rw [hA]; rfl
theorem len64S (x n : Nat) (hx : x < 18446744073709551616) (hn : IsLen x n) : Sp 116 [.s .u64 (x : Int)] (.s .i64 (n : Int)) := by
 have hn64 : n ≤ 64 := hn.ge (k := 64) (by simpa using hx)
 obtain ⟨xi, hxi⟩ : ∃ z : Int, z = (x : Int) := ⟨_, rfl⟩
 obtain ⟨ni, hni⟩ : ∃ z : Int, z = (n : Int) := ⟨_, rfl⟩
 rw [← hxi, ← hni]
 have shr : ∀ (y k : Nat), k ≤ 64 → rbin .shr .u64 (y : Int) (k : Int) = ((y / 2 ^ k : Nat) : Int) := fun y k hk => u_shr y k hk
 by_cases h1 : 2 ^ 32 ≤ x
 . obtain ⟨y1, e1⟩ : ∃ z, z = x / 2 ^ 32 := ⟨_, rfl⟩
   have q1 := hn.div h1
   rw [← e1] at q1
   have w1 := hn.le h1
   have b1 : y1 < 2 ^ 32 := by omega
   by_cases h2 : 2 ^ 16 ≤ y1
   . obtain ⟨y2, e2⟩ : ∃ z, z = y1 / 2 ^ 16 := ⟨_, rfl⟩
     have q2 := q1.div h2
     rw [← e2] at q2
     have w2 := q1.le h2
     have b2 : y2 < 2 ^ 16 := by omega
     by_cases h3 : 2 ^ 8 ≤ y2
     . obtain ⟨y3, e3⟩ : ∃ z, z = y2 / 2 ^ 8 := ⟨_, rfl⟩
       have q3 := q2.div h3
       rw [← e3] at q3
       have w3 := q2.le h3
       have b3 : y3 < 2 ^ 8 := by omega
       have f3 : ∀ A : Ar, A = Ar.real → A.cmp .geq xi 4294967296 = true ∧ A.cmp .geq (A.bin .shr .u64 xi 32) 65536 = true ∧ A.cmp .geq (A.bin .shr .u64 (A.bin .shr .u64 xi 32) 16) 256 = true ∧ A.wrap .u8 (A.bin .shr .u64 (A.bin .shr .u64 (A.bin .shr .u64 xi 32) 16) 8) = (y3 : Int) := by
         intro A hA
         subst hA
         rw [u_ge rfl, u_ge rfl, u_ge rfl]
         show decide (xi ≥ 4294967296) = _ ∧ decide (rbin .shr .u64 xi 32 ≥ 65536) = _ ∧ decide (rbin .shr .u64 (rbin .shr .u64 xi 32) 16 ≥ 256) = _ ∧ IntKind.u8.wrap (rbin .shr .u64 (rbin .shr .u64 (rbin .shr .u64 xi 32) 16) 8) = _
         rw [hxi]
         have g1 := shr x 32 (by decide)
         have g1 : rbin .shr .u64 (x : Int) 32 = (y1 : Int) := by rw [e1]; exact g1
         rw [g1]
         have g2 : rbin .shr .u64 (y1 : Int) 16 = (y2 : Int) := by rw [e2]; exact shr y1 16 (by decide)
         rw [g2]
         have g3 : rbin .shr .u64 (y2 : Int) 8 = (y3 : Int) := by rw [e3]; exact shr y2 8 (by decide)
         rw [g3]
         refine ⟨decide_eq_true (by omega), decide_eq_true (by omega), decide_eq_true (by omega), ?_⟩
         rw [wrap_u8]
         omega
       have hfin : rbin .add .i64 56 (IntKind.i64.wrap (Ar.real.byte lenTab y3)) = ni := by
         rw [lenTab_ok y3 (by omega) (n - 56) (by omega) q3, hni]
         rw [wrap_i64 _ (by omega)]
         show IntKind.i64.wrap (56 + ((n - 56 : Nat) : Int)) = _
         rw [wrap_i64 _ (by omega)]
         omega
       have hy3 : y3 < 256 := by omega
       clear shr
       refine mk Try.func116 rfl rfl L0 R1 (by decide +kernel) fun A S hA hS => ?_
       obtain ⟨t1, t2, t3, t4⟩ := f3 A hA
       clear f3
       unfold bodyOf Try.f116
       cbv
       refine ABr.t t1 ?_
       cbv
       refine ABr.t t2 ?_
       cbv
       refine ABr.t t3 ?_
       cbv
       refine .mk y3 t4 (by subst hA; exact hy3) ?_
       cbv
       subst hA
       exact hfin
     . obtain ⟨y3, e3⟩ : ∃ z, z = y2 := ⟨_, rfl⟩
       have q3 := q2
       rw [← e3] at q3
       have w3 := q2.ge (Nat.lt_of_not_le h3)
       have b3 : y3 < 2 ^ 8 := by omega
       have f3 : ∀ A : Ar, A = Ar.real → A.cmp .geq xi 4294967296 = true ∧ A.cmp .geq (A.bin .shr .u64 xi 32) 65536 = true ∧ A.cmp .geq (A.bin .shr .u64 (A.bin .shr .u64 xi 32) 16) 256 = false ∧ A.wrap .u8 (A.bin .shr .u64 (A.bin .shr .u64 xi 32) 16) = (y3 : Int) := by
         intro A hA
         subst hA
         rw [u_ge rfl, u_ge rfl, u_ge rfl]
         show decide (xi ≥ 4294967296) = _ ∧ decide (rbin .shr .u64 xi 32 ≥ 65536) = _ ∧ decide (rbin .shr .u64 (rbin .shr .u64 xi 32) 16 ≥ 256) = _ ∧ IntKind.u8.wrap (rbin .shr .u64 (rbin .shr .u64 xi 32) 16) = _
         rw [hxi]
         have g1 := shr x 32 (by decide)
         have g1 : rbin .shr .u64 (x : Int) 32 = (y1 : Int) := by rw [e1]; exact g1
         rw [g1]
         have g2 : rbin .shr .u64 (y1 : Int) 16 = (y2 : Int) := by rw [e2]; exact shr y1 16 (by decide)
         rw [g2]
         refine ⟨decide_eq_true (by omega), decide_eq_true (by omega), decide_eq_false (by omega), ?_⟩
         rw [wrap_u8]
         omega
       have hfin : rbin .add .i64 48 (IntKind.i64.wrap (Ar.real.byte lenTab y3)) = ni := by
         rw [lenTab_ok y3 (by omega) (n - 48) (by omega) q3, hni]
         rw [wrap_i64 _ (by omega)]
         show IntKind.i64.wrap (48 + ((n - 48 : Nat) : Int)) = _
         rw [wrap_i64 _ (by omega)]
         omega
       have hy3 : y3 < 256 := by omega
       clear shr
       refine mk Try.func116 rfl rfl L0 R1 (by decide +kernel) fun A S hA hS => ?_
       obtain ⟨t1, t2, t3, t4⟩ := f3 A hA
       clear f3
       unfold bodyOf Try.f116
       cbv
       refine ABr.t t1 ?_
       cbv
       refine ABr.t t2 ?_
       cbv
       refine ABr.f t3 ?_
       cbv
       refine .mk y3 t4 (by subst hA; exact hy3) ?_
       cbv
       subst hA
       exact hfin
   . obtain ⟨y2, e2⟩ : ∃ z, z = y1 := ⟨_, rfl⟩
     have q2 := q1
     rw [← e2] at q2
     have w2 := q1.ge (Nat.lt_of_not_le h2)
     have b2 : y2 < 2 ^ 16 := by omega
     by_cases h3 : 2 ^ 8 ≤ y2
     . obtain ⟨y3, e3⟩ : ∃ z, z = y2 / 2 ^ 8 := ⟨_, rfl⟩
       have q3 := q2.div h3
       rw [← e3] at q3
       have w3 := q2.le h3
       have b3 : y3 < 2 ^ 8 := by omega
       have f3 : ∀ A : Ar, A = Ar.real → A.cmp .geq xi 4294967296 = true ∧ A.cmp .geq (A.bin .shr .u64 xi 32) 65536 = false ∧ A.cmp .geq (A.bin .shr .u64 xi 32) 256 = true ∧ A.wrap .u8 (A.bin .shr .u64 (A.bin .shr .u64 xi 32) 8) = (y3 : Int) := by
         intro A hA
         subst hA
         rw [u_ge rfl, u_ge rfl, u_ge rfl]
         show decide (xi ≥ 4294967296) = _ ∧ decide (rbin .shr .u64 xi 32 ≥ 65536) = _ ∧ decide (rbin .shr .u64 xi 32 ≥ 256) = _ ∧ IntKind.u8.wrap (rbin .shr .u64 (rbin .shr .u64 xi 32) 8) = _
         rw [hxi]
         have g1 := shr x 32 (by decide)
         have g1 : rbin .shr .u64 (x : Int) 32 = (y1 : Int) := by rw [e1]; exact g1
         rw [g1]
         have g3 : rbin .shr .u64 (y2 : Int) 8 = (y3 : Int) := by rw [e3]; exact shr y2 8 (by decide)
         rw [← e2]
         rw [g3]
         refine ⟨decide_eq_true (by omega), decide_eq_false (by omega), decide_eq_true (by omega), ?_⟩
         rw [wrap_u8]
         omega
       have hfin : rbin .add .i64 40 (IntKind.i64.wrap (Ar.real.byte lenTab y3)) = ni := by
         rw [lenTab_ok y3 (by omega) (n - 40) (by omega) q3, hni]
         rw [wrap_i64 _ (by omega)]
         show IntKind.i64.wrap (40 + ((n - 40 : Nat) : Int)) = _
         rw [wrap_i64 _ (by omega)]
         omega
       have hy3 : y3 < 256 := by omega
       clear shr
       refine mk Try.func116 rfl rfl L0 R1 (by decide +kernel) fun A S hA hS => ?_
       obtain ⟨t1, t2, t3, t4⟩ := f3 A hA
       clear f3
       unfold bodyOf Try.f116
       cbv
       refine ABr.t t1 ?_
       cbv
       refine ABr.f t2 ?_
       cbv
       refine ABr.t t3 ?_
       cbv
       refine .mk y3 t4 (by subst hA; exact hy3) ?_
       cbv
       subst hA
       exact hfin
     . obtain ⟨y3, e3⟩ : ∃ z, z = y2 := ⟨_, rfl⟩
       have q3 := q2
       rw [← e3] at q3
       have w3 := q2.ge (Nat.lt_of_not_le h3)
       have b3 : y3 < 2 ^ 8 := by omega
       have f3 : ∀ A : Ar, A = Ar.real → A.cmp .geq xi 4294967296 = true ∧ A.cmp .geq (A.bin .shr .u64 xi 32) 65536 = false ∧ A.cmp .geq (A.bin .shr .u64 xi 32) 256 = false ∧ A.wrap .u8 (A.bin .shr .u64 xi 32) = (y3 : Int) := by
         intro A hA
         subst hA
         rw [u_ge rfl, u_ge rfl, u_ge rfl]
         show decide (xi ≥ 4294967296) = _ ∧ decide (rbin .shr .u64 xi 32 ≥ 65536) = _ ∧ decide (rbin .shr .u64 xi 32 ≥ 256) = _ ∧ IntKind.u8.wrap (rbin .shr .u64 xi 32) = _
         rw [hxi]
         have g1 := shr x 32 (by decide)
         have g1 : rbin .shr .u64 (x : Int) 32 = (y1 : Int) := by rw [e1]; exact g1
         rw [g1]
         refine ⟨decide_eq_true (by omega), decide_eq_false (by omega), decide_eq_false (by omega), ?_⟩
         rw [wrap_u8]
         omega
       have hfin : rbin .add .i64 32 (IntKind.i64.wrap (Ar.real.byte lenTab y3)) = ni := by
         rw [lenTab_ok y3 (by omega) (n - 32) (by omega) q3, hni]
         rw [wrap_i64 _ (by omega)]
         show IntKind.i64.wrap (32 + ((n - 32 : Nat) : Int)) = _
         rw [wrap_i64 _ (by omega)]
         omega
       have hy3 : y3 < 256 := by omega
       clear shr
       refine mk Try.func116 rfl rfl L0 R1 (by decide +kernel) fun A S hA hS => ?_
       obtain ⟨t1, t2, t3, t4⟩ := f3 A hA
       clear f3
       unfold bodyOf Try.f116
       cbv
       refine ABr.t t1 ?_
       cbv
       refine ABr.f t2 ?_
       cbv
       refine ABr.f t3 ?_
       cbv
       refine .mk y3 t4 (by subst hA; exact hy3) ?_
       cbv
       subst hA
       exact hfin
 . obtain ⟨y1, e1⟩ : ∃ z, z = x := ⟨_, rfl⟩
   have q1 := hn
   rw [← e1] at q1
   have w1 := hn.ge (Nat.lt_of_not_le h1)
   have b1 : y1 < 2 ^ 32 := by omega
   by_cases h2 : 2 ^ 16 ≤ y1
   . obtain ⟨y2, e2⟩ : ∃ z, z = y1 / 2 ^ 16 := ⟨_, rfl⟩
     have q2 := q1.div h2
     rw [← e2] at q2
     have w2 := q1.le h2
     have b2 : y2 < 2 ^ 16 := by omega
     by_cases h3 : 2 ^ 8 ≤ y2
     . obtain ⟨y3, e3⟩ : ∃ z, z = y2 / 2 ^ 8 := ⟨_, rfl⟩
       have q3 := q2.div h3
       rw [← e3] at q3
       have w3 := q2.le h3
       have b3 : y3 < 2 ^ 8 := by omega
       have f3 : ∀ A : Ar, A = Ar.real → A.cmp .geq xi 4294967296 = false ∧ A.cmp .geq (xi) 65536 = true ∧ A.cmp .geq (A.bin .shr .u64 (xi) 16) 256 = true ∧ A.wrap .u8 (A.bin .shr .u64 (A.bin .shr .u64 (xi) 16) 8) = (y3 : Int) := by
         intro A hA
         subst hA
         rw [u_ge rfl, u_ge rfl, u_ge rfl]
         show decide (xi ≥ 4294967296) = _ ∧ decide (xi ≥ 65536) = _ ∧ decide (rbin .shr .u64 (xi) 16 ≥ 256) = _ ∧ IntKind.u8.wrap (rbin .shr .u64 (rbin .shr .u64 (xi) 16) 8) = _
         rw [hxi]
         have g2 : rbin .shr .u64 (y1 : Int) 16 = (y2 : Int) := by rw [e2]; exact shr y1 16 (by decide)
         rw [← e1]
         rw [g2]
         have g3 : rbin .shr .u64 (y2 : Int) 8 = (y3 : Int) := by rw [e3]; exact shr y2 8 (by decide)
         rw [g3]
         refine ⟨decide_eq_false (by omega), decide_eq_true (by omega), decide_eq_true (by omega), ?_⟩
         rw [wrap_u8]
         omega
       have hfin : rbin .add .i64 24 (IntKind.i64.wrap (Ar.real.byte lenTab y3)) = ni := by
         rw [lenTab_ok y3 (by omega) (n - 24) (by omega) q3, hni]
         rw [wrap_i64 _ (by omega)]
         show IntKind.i64.wrap (24 + ((n - 24 : Nat) : Int)) = _
         rw [wrap_i64 _ (by omega)]
         omega
       have hy3 : y3 < 256 := by omega
       clear shr
       refine mk Try.func116 rfl rfl L0 R1 (by decide +kernel) fun A S hA hS => ?_
       obtain ⟨t1, t2, t3, t4⟩ := f3 A hA
       clear f3
       unfold bodyOf Try.f116
       cbv
       refine ABr.f t1 ?_
       cbv
       refine ABr.t t2 ?_
       cbv
       refine ABr.t t3 ?_
       cbv
       refine .mk y3 t4 (by subst hA; exact hy3) ?_
       cbv
       subst hA
       exact hfin
     . obtain ⟨y3, e3⟩ : ∃ z, z = y2 := ⟨_, rfl⟩
       have q3 := q2
       rw [← e3] at q3
       have w3 := q2.ge (Nat.lt_of_not_le h3)
       have b3 : y3 < 2 ^ 8 := by omega
       have f3 : ∀ A : Ar, A = Ar.real → A.cmp .geq xi 4294967296 = false ∧ A.cmp .geq (xi) 65536 = true ∧ A.cmp .geq (A.bin .shr .u64 (xi) 16) 256 = false ∧ A.wrap .u8 (A.bin .shr .u64 (xi) 16) = (y3 : Int) := by
         intro A hA
         subst hA
         rw [u_ge rfl, u_ge rfl, u_ge rfl]
         show decide (xi ≥ 4294967296) = _ ∧ decide (xi ≥ 65536) = _ ∧ decide (rbin .shr .u64 (xi) 16 ≥ 256) = _ ∧ IntKind.u8.wrap (rbin .shr .u64 (xi) 16) = _
         rw [hxi]
         have g2 : rbin .shr .u64 (y1 : Int) 16 = (y2 : Int) := by rw [e2]; exact shr y1 16 (by decide)
         rw [← e1]
         rw [g2]
         refine ⟨decide_eq_false (by omega), decide_eq_true (by omega), decide_eq_false (by omega), ?_⟩
         rw [wrap_u8]
         omega
       have hfin : rbin .add .i64 16 (IntKind.i64.wrap (Ar.real.byte lenTab y3)) = ni := by
         rw [lenTab_ok y3 (by omega) (n - 16) (by omega) q3, hni]
         rw [wrap_i64 _ (by omega)]
         show IntKind.i64.wrap (16 + ((n - 16 : Nat) : Int)) = _
         rw [wrap_i64 _ (by omega)]
         omega
       have hy3 : y3 < 256 := by omega
       clear shr
       refine mk Try.func116 rfl rfl L0 R1 (by decide +kernel) fun A S hA hS => ?_
       obtain ⟨t1, t2, t3, t4⟩ := f3 A hA
       clear f3
       unfold bodyOf Try.f116
       cbv
       refine ABr.f t1 ?_
       cbv
       refine ABr.t t2 ?_
       cbv
       refine ABr.f t3 ?_
       cbv
       refine .mk y3 t4 (by subst hA; exact hy3) ?_
       cbv
       subst hA
       exact hfin
   . obtain ⟨y2, e2⟩ : ∃ z, z = y1 := ⟨_, rfl⟩
     have q2 := q1
     rw [← e2] at q2
     have w2 := q1.ge (Nat.lt_of_not_le h2)
     have b2 : y2 < 2 ^ 16 := by omega
     by_cases h3 : 2 ^ 8 ≤ y2
     . obtain ⟨y3, e3⟩ : ∃ z, z = y2 / 2 ^ 8 := ⟨_, rfl⟩
       have q3 := q2.div h3
       rw [← e3] at q3
       have w3 := q2.le h3
       have b3 : y3 < 2 ^ 8 := by omega
       have f3 : ∀ A : Ar, A = Ar.real → A.cmp .geq xi 4294967296 = false ∧ A.cmp .geq (xi) 65536 = false ∧ A.cmp .geq (xi) 256 = true ∧ A.wrap .u8 (A.bin .shr .u64 (xi) 8) = (y3 : Int) := by
         intro A hA
         subst hA
         rw [u_ge rfl, u_ge rfl, u_ge rfl]
         show decide (xi ≥ 4294967296) = _ ∧ decide (xi ≥ 65536) = _ ∧ decide (xi ≥ 256) = _ ∧ IntKind.u8.wrap (rbin .shr .u64 (xi) 8) = _
         rw [hxi]
         have g3 : rbin .shr .u64 (y2 : Int) 8 = (y3 : Int) := by rw [e3]; exact shr y2 8 (by decide)
         rw [← e1, ← e2]
         rw [g3]
         refine ⟨decide_eq_false (by omega), decide_eq_false (by omega), decide_eq_true (by omega), ?_⟩
         rw [wrap_u8]
         omega
       have hfin : rbin .add .i64 8 (IntKind.i64.wrap (Ar.real.byte lenTab y3)) = ni := by
         rw [lenTab_ok y3 (by omega) (n - 8) (by omega) q3, hni]
         rw [wrap_i64 _ (by omega)]
         show IntKind.i64.wrap (8 + ((n - 8 : Nat) : Int)) = _
         rw [wrap_i64 _ (by omega)]
         omega
       have hy3 : y3 < 256 := by omega
       clear shr
       refine mk Try.func116 rfl rfl L0 R1 (by decide +kernel) fun A S hA hS => ?_
       obtain ⟨t1, t2, t3, t4⟩ := f3 A hA
       clear f3
       unfold bodyOf Try.f116
       cbv
       refine ABr.f t1 ?_
       cbv
       refine ABr.f t2 ?_
       cbv
       refine ABr.t t3 ?_
       cbv
       refine .mk y3 t4 (by subst hA; exact hy3) ?_
       cbv
       subst hA
       exact hfin
     . obtain ⟨y3, e3⟩ : ∃ z, z = y2 := ⟨_, rfl⟩
       have q3 := q2
       rw [← e3] at q3
       have w3 := q2.ge (Nat.lt_of_not_le h3)
       have b3 : y3 < 2 ^ 8 := by omega
       have f3 : ∀ A : Ar, A = Ar.real → A.cmp .geq xi 4294967296 = false ∧ A.cmp .geq (xi) 65536 = false ∧ A.cmp .geq (xi) 256 = false ∧ A.wrap .u8 (xi) = (y3 : Int) := by
         intro A hA
         subst hA
         rw [u_ge rfl, u_ge rfl, u_ge rfl]
         show decide (xi ≥ 4294967296) = _ ∧ decide (xi ≥ 65536) = _ ∧ decide (xi ≥ 256) = _ ∧ IntKind.u8.wrap (xi) = _
         rw [hxi]
         refine ⟨decide_eq_false (by omega), decide_eq_false (by omega), decide_eq_false (by omega), ?_⟩
         rw [wrap_u8]
         omega
       have hfin : rbin .add .i64 0 (IntKind.i64.wrap (Ar.real.byte lenTab y3)) = ni := by
         rw [lenTab_ok y3 (by omega) (n - 0) (by omega) q3, hni]
         rw [wrap_i64 _ (by omega)]
         show IntKind.i64.wrap (0 + ((n - 0 : Nat) : Int)) = _
         rw [wrap_i64 _ (by omega)]
         omega
       have hy3 : y3 < 256 := by omega
       clear shr
       refine mk Try.func116 rfl rfl L0 R1 (by decide +kernel) fun A S hA hS => ?_
       obtain ⟨t1, t2, t3, t4⟩ := f3 A hA
       clear f3
       unfold bodyOf Try.f116
       cbv
       refine ABr.f t1 ?_
       cbv
       refine ABr.f t2 ?_
       cbv
       refine ABr.f t3 ?_
       cbv
       refine .mk y3 t4 (by subst hA; exact hy3) ?_
       cbv
       subst hA
       exact hfin
def TopW (x k : Nat) : Prop := x < 2 ^ (64 * k) ∧ (0 < k → 2 ^ (64 * (k - 1)) ≤ x)
theorem topW_ex {x : Nat} (hx : x < 2 ^ 256) : ∃ k, k ≤ 4 ∧ TopW x k := by
 by_cases h3 : 2 ^ 192 ≤ x
 . exact ⟨4, by decide, hx, fun _ => h3⟩
 by_cases h2 : 2 ^ 128 ≤ x
 . exact ⟨3, by decide, Nat.lt_of_not_le h3, fun _ => h2⟩
 by_cases h1 : 2 ^ 64 ≤ x
 . exact ⟨2, by decide, Nat.lt_of_not_le h2, fun _ => h1⟩
 by_cases h0 : 2 ^ 0 ≤ x
 . exact ⟨1, by decide, Nat.lt_of_not_le h1, fun _ => h0⟩
 . exact ⟨0, by decide, Nat.lt_of_not_le h0, fun h => absurd h (by decide)⟩
theorem TopW.zero {x k : Nat} (h : TopW x k) {lim : Lim} (hl : lim = limR) {j : Nat} (hj : k ≤ j) : lim x j = 0 := by
 subst hl
 show ((x / 2 ^ (64 * j) % 2 ^ 64 : Nat) : Int) = 0
 rw [Nat.div_eq_of_lt (Nat.lt_of_lt_of_le h.1 (Nat.pow_le_pow_right (n := 2) (by decide) (by omega)))]; rfl
theorem TopW.top {x k : Nat} (h : TopW x (k + 1)) {lim : Lim} (hl : lim = limR) : lim x k = ((x / 2 ^ (64 * k) : Nat) : Int) ∧ x / 2 ^ (64 * k) < 18446744073709551616 ∧ lim x k ≠ 0 := by
 subst hl
 have h1 : x / 2 ^ (64 * k) < 2 ^ 64 := Nat.div_lt_of_lt_mul (by rw [← Nat.pow_add]; have := h.1; rwa [show 64 * k + 64 = 64 * (k + 1) by omega])
 have h2 : limR x k = ((x / 2 ^ (64 * k) : Nat) : Int) := by
   unfold limR; rw [Nat.mod_eq_of_lt h1]
 have h3 : 0 < x / 2 ^ (64 * k) := Nat.div_pos (h.2 (by omega)) (Nat.two_pow_pos _)
 exact ⟨h2, by simpa using h1, by rw [h2]; omega⟩
theorem ne0_t {A : Ar} (hA : A = Ar.real) {x : Int} (h : x ≠ 0) : A.cmp .neq x 0 = true := by rw [hA]; exact bne_iff_ne.2 h
theorem ne0_f {A : Ar} (hA : A = Ar.real) {x : Int} (h : x = 0) : A.cmp .neq x 0 = false := by rw [hA]; exact bne_eq_false_iff_eq.2 h
theorem eq0_t {A : Ar} (hA : A = Ar.real) {x : Int} (h : x = 0) : A.cmp .eql x 0 = true := by rw [hA]; exact beq_iff_eq.2 h
theorem eq0_f {A : Ar} (hA : A = Ar.real) {x : Int} (h : x ≠ 0) : A.cmp .eql x 0 = false := by rw [hA]; exact beq_eq_false_iff_ne.2 h
theorem bitsS {lim : Lim} (hl : lim = limR) (x n : Nat) (hx : x < 2 ^ 256) (hn : IsLen x n) : Sp 125 [u4 lim x] (.s .i64 (n : Int)) := by
 have hn256 := hn.ge hx
 obtain ⟨k, hk, ht⟩ := topW_ex hx
 rcases (by omega : k = 0 ∨ k = 1 ∨ k = 2 ∨ k = 3 ∨ k = 4) with rfl | rfl | rfl | rfl | rfl
 . have z0 := ht.zero hl (j := 0) (by decide)
   have z1 := ht.zero hl (j := 1) (by decide)
   have z2 := ht.zero hl (j := 2) (by decide)
   have z3 := ht.zero hl (j := 3) (by decide)
   have hn0 : n = 0 := by have := hn.ge (k := 0) ht.1; omega
   obtain ⟨ni, hni⟩ : ∃ z : Int, z = (n : Int) := ⟨_, rfl⟩
   rw [← hni]
   refine mk Try.func125 rfl rfl L0 R1 (by decide +kernel) fun A S hA hS => ?_
   have z0 := ne0_f hA z0
   have z1 := ne0_f hA z1
   have z2 := ne0_f hA z2
   have z3 := ne0_f hA z3
   have hfin : (0 : Int) = ni := by omega
   unfold bodyOf Try.f125
   cbv
   refine ABr.f z3 ?_
   cbv
   refine ABr.f z2 ?_
   cbv
   refine ABr.f z1 ?_
   cbv
   refine ABr.f z0 ?_
   cbv
   exact hfin
 . have z1 := ht.zero hl (j := 1) (by decide)
   have z2 := ht.zero hl (j := 2) (by decide)
   have z3 := ht.zero hl (j := 3) (by decide)
   obtain ⟨e, el, ez⟩ := ht.top (k := 0) hl
   have hle : 2 ^ 0 ≤ x := ht.2 (by decide)
   have hd : IsLen (x / 2 ^ (64 * 0)) (n - 0) := by rw [Nat.mul_zero, Nat.pow_zero, Nat.div_one]; exact hn
   have cl := len64S _ _ el hd
   rw [← e] at cl
   obtain ⟨ni, hni⟩ : ∃ z : Int, z = (n : Int) := ⟨_, rfl⟩
   rw [Nat.sub_zero, ← hni] at cl
   rw [← hni]
   refine mk Try.func125 rfl rfl L0 R1 (by decide +kernel) fun A S hA hS => ?_
   have z1 := ne0_f hA z1
   have z2 := ne0_f hA z2
   have z3 := ne0_f hA z3
   have ez := ne0_t hA ez
   have hfin : A.bin .add .i64 0 ni = ni := by rw [hA]; show IntKind.i64.wrap (0 + ni) = ni; rw [wrap_i64 _ (by omega)]; omega
   unfold bodyOf Try.f125
   cbv
   refine ABr.f z3 ?_
   cbv
   refine ABr.f z2 ?_
   cbv
   refine ABr.f z1 ?_
   cbv
   refine ABr.t ez ?_
   cbv
   refine aF hS cl ?_
   cbv
   exact hfin
 . have z2 := ht.zero hl (j := 2) (by decide)
   have z3 := ht.zero hl (j := 3) (by decide)
   obtain ⟨e, el, ez⟩ := ht.top (k := 1) hl
   have hle : 2 ^ 64 ≤ x := ht.2 (by decide)
   have hd := hn.div hle
   have hlt := hn.le hle
   have cl := len64S _ _ el hd
   rw [← e] at cl
   obtain ⟨ni, hni⟩ : ∃ z : Int, z = (n : Int) := ⟨_, rfl⟩
   obtain ⟨mi, hmi⟩ : ∃ z : Int, z = ((n - 64 : Nat) : Int) := ⟨_, rfl⟩
   rw [← hmi] at cl
   rw [← hni]
   refine mk Try.func125 rfl rfl L0 R1 (by decide +kernel) fun A S hA hS => ?_
   have z2 := ne0_f hA z2
   have z3 := ne0_f hA z3
   have ez := ne0_t hA ez
   have hfin : A.bin .add .i64 64 mi = ni := by rw [hA]; show IntKind.i64.wrap (64 + mi) = ni; rw [wrap_i64 _ (by omega)]; omega
   unfold bodyOf Try.f125
   cbv
   refine ABr.f z3 ?_
   cbv
   refine ABr.f z2 ?_
   cbv
   refine ABr.t ez ?_
   cbv
   refine aF hS cl ?_
   cbv
   exact hfin
 . have z3 := ht.zero hl (j := 3) (by decide)
   obtain ⟨e, el, ez⟩ := ht.top (k := 2) hl
   have hle : 2 ^ 128 ≤ x := ht.2 (by decide)
   have hd := hn.div hle
   have hlt := hn.le hle
   have cl := len64S _ _ el hd
   rw [← e] at cl
   obtain ⟨ni, hni⟩ : ∃ z : Int, z = (n : Int) := ⟨_, rfl⟩
   obtain ⟨mi, hmi⟩ : ∃ z : Int, z = ((n - 128 : Nat) : Int) := ⟨_, rfl⟩
   rw [← hmi] at cl
   rw [← hni]
   refine mk Try.func125 rfl rfl L0 R1 (by decide +kernel) fun A S hA hS => ?_
   have z3 := ne0_f hA z3
   have ez := ne0_t hA ez
   have hfin : A.bin .add .i64 128 mi = ni := by rw [hA]; show IntKind.i64.wrap (128 + mi) = ni; rw [wrap_i64 _ (by omega)]; omega
   unfold bodyOf Try.f125
   cbv
   refine ABr.f z3 ?_
   cbv
   refine ABr.t ez ?_
   cbv
   refine aF hS cl ?_
   cbv
   exact hfin
 . obtain ⟨e, el, ez⟩ := ht.top (k := 3) hl
   have hle : 2 ^ 192 ≤ x := ht.2 (by decide)
   have hd := hn.div hle
   have hlt := hn.le hle
   have cl := len64S _ _ el hd
   rw [← e] at cl
   obtain ⟨ni, hni⟩ : ∃ z : Int, z = (n : Int) := ⟨_, rfl⟩
   obtain ⟨mi, hmi⟩ : ∃ z : Int, z = ((n - 192 : Nat) : Int) := ⟨_, rfl⟩
   rw [← hmi] at cl
   rw [← hni]
   refine mk Try.func125 rfl rfl L0 R1 (by decide +kernel) fun A S hA hS => ?_
   have ez := ne0_t hA ez
   have hfin : A.bin .add .i64 192 mi = ni := by rw [hA]; show IntKind.i64.wrap (192 + mi) = ni; rw [wrap_i64 _ (by omega)]; omega
   unfold bodyOf Try.f125
   cbv
   refine ABr.t ez ?_
   cbv
   refine aF hS cl ?_
   cbv
   exact hfin
theorem trim0S {lim : Lim} (hl : lim = limR) (x : Nat) (ht : TopW x 0) : Sp 112 [.lst false 4 [.s .u64 (lim x 0), .s .u64 (lim x 1), .s .u64 (lim x 2), .s .u64 (lim x 3)]] (.lst false 0 []) := by
 have z0 := ht.zero hl (j := 0) (by decide)
 have z1 := ht.zero hl (j := 1) (by decide)
 have z2 := ht.zero hl (j := 2) (by decide)
 have z3 := ht.zero hl (j := 3) (by decide)
 refine mk Try.func112 rfl rfl L0 R1 (by decide +kernel) fun A S hA hS => ?_
 have z0 := eq0_t hA z0
 have z1 := eq0_t hA z1
 have z2 := eq0_t hA z2
 have z3 := eq0_t hA z3
 unfold bodyOf Try.f112
 cbv
 refine ABr.t z3 ?_
 cbv
 refine ABr.t z2 ?_
 cbv
 refine ABr.t z1 ?_
 cbv
 refine ABr.t z0 ?_
 cbv
theorem trim1S {lim : Lim} (hl : lim = limR) (x : Nat) (ht : TopW x 1) : Sp 112 [.lst false 4 [.s .u64 (lim x 0), .s .u64 (lim x 1), .s .u64 (lim x 2), .s .u64 (lim x 3)]] (.lst false 1 [.s .u64 (lim x 0)]) := by
 have z1 := ht.zero hl (j := 1) (by decide)
 have z2 := ht.zero hl (j := 2) (by decide)
 have z3 := ht.zero hl (j := 3) (by decide)
 obtain ⟨_, _, ez⟩ := ht.top (k := 0) hl
 refine mk Try.func112 rfl rfl L0 R1 (by decide +kernel) fun A S hA hS => ?_
 have z1 := eq0_t hA z1
 have z2 := eq0_t hA z2
 have z3 := eq0_t hA z3
 have ez := eq0_f hA ez
 unfold bodyOf Try.f112
 cbv
 refine ABr.t z3 ?_
 cbv
 refine ABr.t z2 ?_
 cbv
 refine ABr.t z1 ?_
 cbv
 refine ABr.f ez ?_
 cbv
theorem trim2S {lim : Lim} (hl : lim = limR) (x : Nat) (ht : TopW x 2) : Sp 112 [.lst false 4 [.s .u64 (lim x 0), .s .u64 (lim x 1), .s .u64 (lim x 2), .s .u64 (lim x 3)]] (.lst false 2 [.s .u64 (lim x 0), .s .u64 (lim x 1)]) := by
 have z2 := ht.zero hl (j := 2) (by decide)
 have z3 := ht.zero hl (j := 3) (by decide)
 obtain ⟨_, _, ez⟩ := ht.top (k := 1) hl
 refine mk Try.func112 rfl rfl L0 R1 (by decide +kernel) fun A S hA hS => ?_
 have z2 := eq0_t hA z2
 have z3 := eq0_t hA z3
 have ez := eq0_f hA ez
 unfold bodyOf Try.f112
 cbv
 refine ABr.t z3 ?_
 cbv
 refine ABr.t z2 ?_
 cbv
 refine ABr.f ez ?_
 cbv
theorem trim3S {lim : Lim} (hl : lim = limR) (x : Nat) (ht : TopW x 3) : Sp 112 [.lst false 4 [.s .u64 (lim x 0), .s .u64 (lim x 1), .s .u64 (lim x 2), .s .u64 (lim x 3)]] (.lst false 3 [.s .u64 (lim x 0), .s .u64 (lim x 1), .s .u64 (lim x 2)]) := by
 have z3 := ht.zero hl (j := 3) (by decide)
 obtain ⟨_, _, ez⟩ := ht.top (k := 2) hl
 refine mk Try.func112 rfl rfl L0 R1 (by decide +kernel) fun A S hA hS => ?_
 have z3 := eq0_t hA z3
 have ez := eq0_f hA ez
 unfold bodyOf Try.f112
 cbv
 refine ABr.t z3 ?_
 cbv
 refine ABr.f ez ?_
 cbv
theorem trim4S {lim : Lim} (hl : lim = limR) (x : Nat) (ht : TopW x 4) : Sp 112 [.lst false 4 [.s .u64 (lim x 0), .s .u64 (lim x 1), .s .u64 (lim x 2), .s .u64 (lim x 3)]] (.lst false 4 [.s .u64 (lim x 0), .s .u64 (lim x 1), .s .u64 (lim x 2), .s .u64 (lim x 3)]) := by
 obtain ⟨_, _, ez⟩ := ht.top (k := 3) hl
 refine mk Try.func112 rfl rfl L0 R1 (by decide +kernel) fun A S hA hS => ?_
 have ez := eq0_f hA ez
 unfold bodyOf Try.f112
 cbv
 refine ABr.f ez ?_
 cbv
theorem word0S {lim : Lim} (hl : lim = limR) (x : Nat) (ht : TopW x 0) : Sp 59 [.lst false 0 []] (u4 lim x) := by
 have z0 := ht.zero hl (j := 0) (by decide)
 have z1 := ht.zero hl (j := 1) (by decide)
 have z2 := ht.zero hl (j := 2) (by decide)
 have z3 := ht.zero hl (j := 3) (by decide)
 refine mk Try.func59 rfl rfl L0 R0 (by decide +kernel) fun A S hA hS => ?_
 unfold bodyOf Try.f59
 cbv
 repeat' (first | exact z0.symm | exact z1.symm | exact z2.symm | exact z3.symm | exact trivial | exact rfl | constructor)
theorem word1S {lim : Lim} (hl : lim = limR) (x : Nat) (ht : TopW x 1) : Sp 59 [.lst false 1 [.s .u64 (lim x 0)]] (u4 lim x) := by
 have z1 := ht.zero hl (j := 1) (by decide)
 have z2 := ht.zero hl (j := 2) (by decide)
 have z3 := ht.zero hl (j := 3) (by decide)
 refine mk Try.func59 rfl rfl L0 R0 (by decide +kernel) fun A S hA hS => ?_
 unfold bodyOf Try.f59
 cbv
 repeat' (first | exact z1.symm | exact z2.symm | exact z3.symm | exact trivial | exact rfl | constructor)
theorem word2S {lim : Lim} (hl : lim = limR) (x : Nat) (ht : TopW x 2) : Sp 59 [.lst false 2 [.s .u64 (lim x 0), .s .u64 (lim x 1)]] (u4 lim x) := by
 have z2 := ht.zero hl (j := 2) (by decide)
 have z3 := ht.zero hl (j := 3) (by decide)
 refine mk Try.func59 rfl rfl L0 R0 (by decide +kernel) fun A S hA hS => ?_
 unfold bodyOf Try.f59
 cbv
 repeat' (first | exact z2.symm | exact z3.symm | exact trivial | exact rfl | constructor)
theorem word3S {lim : Lim} (hl : lim = limR) (x : Nat) (ht : TopW x 3) : Sp 59 [.lst false 3 [.s .u64 (lim x 0), .s .u64 (lim x 1), .s .u64 (lim x 2)]] (u4 lim x) := by
 have z3 := ht.zero hl (j := 3) (by decide)
 refine mk Try.func59 rfl rfl L0 R0 (by decide +kernel) fun A S hA hS => ?_
 unfold bodyOf Try.f59
 cbv
 repeat' (first | exact z3.symm | exact trivial | exact rfl | constructor)
theorem word4S {lim : Lim} (x : Nat) : Sp 59 [.lst false 4 [.s .u64 (lim x 0), .s .u64 (lim x 1), .s .u64 (lim x 2), .s .u64 (lim x 3)]] (u4 lim x) := by
 refine mk Try.func59 rfl rfl L0 R0 (by decide +kernel) fun A S hA hS => ?_
 unfold bodyOf Try.f59
 cbv
 repeat' (first | exact rfl | exact trivial | exact rfl | constructor)
theorem shr0 {x : Int} (hx : 0 ≤ x) : rbin .shr .u64 x 0 = x := by
 obtain ⟨x, rfl⟩ : ∃ n : Nat, x = n := ⟨x.toNat, by omega⟩
 exact (u_shr x 0 (by decide)).trans (congrArg Int.ofNat (by rw [Nat.pow_zero, Nat.div_one]))
theorem shl0 {x : Int} (hx : 0 ≤ x ∧ x < 18446744073709551616) : rbin .or .u64 0 (rbin .shl .u64 x 0) = x := by
 obtain ⟨x, rfl⟩ : ∃ n : Nat, x = n := ⟨x.toNat, by omega⟩
 have e : rbin .shl .u64 (x : Int) 0 = (x : Int) := (u_shl x 0 (by decide)).trans (congrArg Int.ofNat (by rw [Nat.pow_zero, Nat.mul_one]; exact Nat.mod_eq_of_lt (by omega)))
 rw [e]
 exact (u_or 0 x (by decide) (by omega)).trans (congrArg Int.ofNat (Nat.zero_or x))
theorem shiftedS (w : Nat → Int) (hw : ∀ i, i < 4 → 0 ≤ w i ∧ w i < 18446744073709551616) : Sp 114 [.lst false 4 [.s .u64 (w 0), .s .u64 (w 1), .s .u64 (w 2), .s .u64 (w 3)], .i .u64 0] (.new false 5 1 [.s .u64 (w 0), .s .u64 (w 1), .s .u64 (w 2), .s .u64 (w 3), .i .u64 0]) := by
 have h := fun i hi => shl0 (hw i hi)
 refine mk Try.func114 rfl rfl L0 R0 (by decide +kernel) fun A S hA hS => ?_
 have h : ∀ i, i < 4 → A.bin .or .u64 0 (A.bin .shl .u64 (w i) 0) = w i := by subst hA; exact h
 have h0 := h 0 (by decide)
 have h1 := h 1 (by decide)
 have h2 := h 2 (by decide)
 have h3 := h 3 (by decide)
 clear h
 unfold bodyOf Try.f114
 cbv
 repeat' (first | exact h0 | exact h1 | exact h2 | exact h3 | exact trivial | exact rfl | constructor)
end Go.Proofs.Ytkhipnhdbaahcaa
end
