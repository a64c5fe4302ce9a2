import Derived.Test.YtmholgclgamnnaaGreatQXDW
import Derived.Test.YtmholgclgamnnaaGreatQXDR
set_option linter.unusedVariables false
set_option linter.unusedSimpArgs false
set_option linter.unusedSectionVars false
set_option maxRecDepth 100000
set_option exponentiation.threshold 2000
set_option maxHeartbeats 4000000
section
namespace Go.Proofs.YtmholgclgamnnaaGreat
open Go Eng
theorem rdP6_0 {H : H5} (hH : H = H5.real) {c : Cu blsP} (hc : c = blsC) {bs : Nat → Nat} (hb : ∀ i, bs i < 256) (hf : bs 0 / 32 = 4) (hx : numB (bareB bs) 48 < blsP) (hrt : rtF (rhsB (numB (bareB bs) 48)) * rtF (rhsB (numB (bareB bs) 48)) ≠ rhsB (numB (bareB bs) 48)) : Sp 66 [.lst false 48 (q0x48 bs)] (.tup [P1_6 H ⟨0, 0, false⟩, .s .i64 71]) := by
 have l0 := lim06 hH
 have kcl := cloneS bs
 have k := BlsS hH hc
 have kp := BlsPS hH
 have h1c : c.one = fo blsP 1 := by rw [hc]; rfl
 have hr : c.r < 2 ^ 256 := by rw [hc]; decide
 have hx384 : numB (bareB bs) 48 < 2 ^ 384 := Vb_lt 48 fun j _ => bare_lt hb _
 have ls := LessS6 hH (numB (bareB bs) 48) blsP hx384 (by decide)
 rw [show H.lt (numB (bareB bs) 48) blsP = true by rw [hH]; exact decide_eq_true hx] at ls
 have hno := bareNo hb
 have hbig := bareBig hH hb
 clear hno
 generalize numB (bareB bs) 48 = x at *
 have ki := inF6 hH blsPr (a := x) hx384
 have m1 := MulF6 hH blsPr (fo blsP x) (fo blsP x)
 have m2 := MulF6 hH blsPr (fo blsP x * fo blsP x) (fo blsP x)
 have ad := AddF6 hH blsPr (fo blsP x * fo blsP x * fo blsP x) c.b1
 have ea : fo blsP x * fo blsP x * fo blsP x + c.b1 = rhsB x := by rw [hc]; rfl
 rw [ea] at ad
 have rt := rootN hH blsPr hrt
 generalize rhsB x = a at *
 have b8 := fun A hA => bits8 (A := A) hA (hb 0)
 generalize fo blsP x * fo blsP x * fo blsP x = X3 at *
 generalize fo blsP x * fo blsP x = X2 at *
 generalize fo blsP x = X1 at *
 clear hrt ea hx hx384
 obtain ⟨q, hq⟩ : ∃ q, q = blsP := ⟨_, rfl⟩
 rw [← hq] at ls kp
 clear hq
 refine mk Tryz.func66 rfl rfl L0 RRb (by decide +kernel) fun A S hA hS => ?_
 obtain ⟨t7, t6, t5, h31⟩ := b8 A hA
 have nf : A.not false = true := i_not hA rfl
 have nt : A.not true = false := i_not hA rfl
 rw [← h31] at hbig
 rw [show decide (bs 0 / 32 < 4) = false from decide_eq_false (by omega)] at t7
 rw [show decide (bs 0 / 32 % 4 ≥ 2) = false from decide_eq_false (by omega)] at t6
 rw [show decide (bs 0 / 32 % 2 = 1) = false from decide_eq_false (by omega)] at t5
 unfold bodyOf Tryz.f66
 cbv
 repeat ((first | refine ABr.t (by first | assumption | rfl) ?_ | refine ABr.f (by first | assumption | rfl) ?_ | refine aF hS kcl ?_ | (refine aG hS hbig ?_ ?_; focus (cbv; done)) | refine aF hS k ?_ | refine aF hS kp ?_ | refine aF hS ls ?_ | refine aF hS ki ?_ | refine aF hS m1 ?_ | refine aF hS m2 ?_ | refine aF hS ad ?_ | refine aF hS rt ?_); cbv)
 repeat' (first | exact (l0 _).symm | exact rfl | exact trivial | constructor)
theorem rdP7_000 {H : H5} (hH : H = H5.real) {c : Cu blsP} (hc : c = blsC) {bs : Nat → Nat} (hb : ∀ i, bs i < 256) (hf : bs 0 / 32 = 4) (hx : numB (bareB bs) 48 < blsP) (hrt : rtF (rhsB (numB (bareB bs) 48)) * rtF (rhsB (numB (bareB bs) 48)) = rhsB (numB (bareB bs) 48)) (hu : decide (blsP / 2 < (rtF (rhsB (numB (bareB bs) 48))).val) = false) (hg : grpP blsC.b1 ⟨numB (bareB bs) 48, (rtF (rhsB (numB (bareB bs) 48))).val, false⟩ blsR = 0) : Sp 66 [.lst false 48 (q0x48 bs)] (.tup [P1_6 H ⟨numB (bareB bs) 48, (rtF (rhsB (numB (bareB bs) 48))).val, false⟩, .s .i64 0]) := by
 have l0 := lim06 hH
 have kcl := cloneS bs
 have k := BlsS hH hc
 have kp := BlsPS hH
 have h1c : c.one = fo blsP 1 := by rw [hc]; rfl
 have hr : c.r < 2 ^ 256 := by rw [hc]; decide
 have hx384 : numB (bareB bs) 48 < 2 ^ 384 := Vb_lt 48 fun j _ => bare_lt hb _
 have ls := LessS6 hH (numB (bareB bs) 48) blsP hx384 (by decide)
 rw [show H.lt (numB (bareB bs) 48) blsP = true by rw [hH]; exact decide_eq_true hx] at ls
 have hno := bareNo hb
 have hbig := bareBig hH hb
 clear hno
 generalize numB (bareB bs) 48 = x at *
 have ki := inF6 hH blsPr (a := x) hx384
 have m1 := MulF6 hH blsPr (fo blsP x) (fo blsP x)
 have m2 := MulF6 hH blsPr (fo blsP x * fo blsP x) (fo blsP x)
 have ad := AddF6 hH blsPr (fo blsP x * fo blsP x * fo blsP x) c.b1
 have ea : fo blsP x * fo blsP x * fo blsP x + c.b1 = rhsB x := by rw [hc]; rfl
 rw [ea] at ad
 have rt := rootT hH blsPr hrt
 have ko := outF6 hH blsPr (rtF (rhsB x))
 have hrl : (rtF (rhsB x)).val < 2 ^ 384 := Nat.lt_trans (Fin.isLt _) (by decide)
 have ab := aboveS hH (rtF (rhsB x)).val hrl
 rw [show H.lt (blsP / 2) (rtF (rhsB x)).val = false by rw [hH]; exact hu] at ab
 have hyl : (rtF (rhsB x)).val < 2 ^ 384 := Nat.lt_trans (Fin.isLt _) (by decide)
 have gr := grpS1_6 hH blsPr (c := c) h1c hr ⟨x, (rtF (rhsB x)).val, false⟩ hx384 hyl
 have eg : grpP c.b1 ⟨x, (rtF (rhsB x)).val, false⟩ c.r = grpP blsC.b1 ⟨x, (rtF (rhsB x)).val, false⟩ blsR := by rw [hc]; rfl
 rw [eg, hg] at gr
 have b8 := fun A hA => bits8 (A := A) hA (hb 0)
 clear hrt hu hg eg hrl hyl hx hx384 ea h1c hr
 generalize rtF (rhsB x) = r at *
 generalize rhsB x = a at *
 generalize fo blsP x * fo blsP x * fo blsP x = X3 at *
 generalize fo blsP x * fo blsP x = X2 at *
 generalize fo blsP x = X1 at *
 obtain ⟨q, hq⟩ : ∃ q, q = blsP := ⟨_, rfl⟩
 rw [← hq] at ls kp
 clear hq
 refine mk Tryz.func66 rfl rfl L0 RRb (by decide +kernel) fun A S hA hS => ?_
 obtain ⟨t7, t6, t5, h31⟩ := b8 A hA
 have nf : A.not false = true := i_not hA rfl
 have nt : A.not true = false := i_not hA rfl
 rw [← h31] at hbig
 rw [show decide (bs 0 / 32 < 4) = false from decide_eq_false (by omega)] at t7
 rw [show decide (bs 0 / 32 % 4 ≥ 2) = false from decide_eq_false (by omega)] at t6
 rw [show decide (bs 0 / 32 % 2 = 1) = false from decide_eq_false (by omega)] at t5
 have e0 : A.cmp .neq ((0 : Nat) : Int) 0 = false := i_ne hA
 have hbn : A.not (A.eqs [(.sb false, .sb (A.cmp .neq (A.bin .and .u8 (bs 0 : Int) 32) 0))]) = false := by rw [t5, hA]; rfl
 unfold bodyOf Tryz.f66
 cbv
 repeat ((first | refine ABr.t (by first | assumption | rfl) ?_ | refine ABr.f (by first | assumption | rfl) ?_ | refine aF hS kcl ?_ | (refine aG hS hbig ?_ ?_; focus (cbv; done)) | refine aF hS k ?_ | refine aF hS kp ?_ | refine aF hS ls ?_ | refine aF hS ki ?_ | refine aF hS m1 ?_ | refine aF hS m2 ?_ | refine aF hS ad ?_ | refine aF hS rt ?_ | refine aF hS ko ?_ | refine aF hS ab ?_ | (refine aG hS gr ?_ ?_; focus (cbv; done))); cbv)
 repeat' (first | exact (l0 _).symm | exact rfl | exact trivial | constructor)
theorem rdP7_001 {H : H5} (hH : H = H5.real) {c : Cu blsP} (hc : c = blsC) {bs : Nat → Nat} (hb : ∀ i, bs i < 256) (hf : bs 0 / 32 = 4) (hx : numB (bareB bs) 48 < blsP) (hrt : rtF (rhsB (numB (bareB bs) 48)) * rtF (rhsB (numB (bareB bs) 48)) = rhsB (numB (bareB bs) 48)) (hu : decide (blsP / 2 < (rtF (rhsB (numB (bareB bs) 48))).val) = false) {e : Nat} (hg : grpP blsC.b1 ⟨numB (bareB bs) 48, (rtF (rhsB (numB (bareB bs) 48))).val, false⟩ blsR = e + 1) : Sp 66 [.lst false 48 (q0x48 bs)] (.tup [P1_6 H ⟨0, 0, false⟩, .s .i64 ((e + 1 : Nat) : Int)]) := by
 have l0 := lim06 hH
 have kcl := cloneS bs
 have k := BlsS hH hc
 have kp := BlsPS hH
 have h1c : c.one = fo blsP 1 := by rw [hc]; rfl
 have hr : c.r < 2 ^ 256 := by rw [hc]; decide
 have hx384 : numB (bareB bs) 48 < 2 ^ 384 := Vb_lt 48 fun j _ => bare_lt hb _
 have ls := LessS6 hH (numB (bareB bs) 48) blsP hx384 (by decide)
 rw [show H.lt (numB (bareB bs) 48) blsP = true by rw [hH]; exact decide_eq_true hx] at ls
 have hno := bareNo hb
 have hbig := bareBig hH hb
 clear hno
 generalize numB (bareB bs) 48 = x at *
 have ki := inF6 hH blsPr (a := x) hx384
 have m1 := MulF6 hH blsPr (fo blsP x) (fo blsP x)
 have m2 := MulF6 hH blsPr (fo blsP x * fo blsP x) (fo blsP x)
 have ad := AddF6 hH blsPr (fo blsP x * fo blsP x * fo blsP x) c.b1
 have ea : fo blsP x * fo blsP x * fo blsP x + c.b1 = rhsB x := by rw [hc]; rfl
 rw [ea] at ad
 have rt := rootT hH blsPr hrt
 have ko := outF6 hH blsPr (rtF (rhsB x))
 have hrl : (rtF (rhsB x)).val < 2 ^ 384 := Nat.lt_trans (Fin.isLt _) (by decide)
 have ab := aboveS hH (rtF (rhsB x)).val hrl
 rw [show H.lt (blsP / 2) (rtF (rhsB x)).val = false by rw [hH]; exact hu] at ab
 have hyl : (rtF (rhsB x)).val < 2 ^ 384 := Nat.lt_trans (Fin.isLt _) (by decide)
 have gr := grpS1_6 hH blsPr (c := c) h1c hr ⟨x, (rtF (rhsB x)).val, false⟩ hx384 hyl
 have eg : grpP c.b1 ⟨x, (rtF (rhsB x)).val, false⟩ c.r = grpP blsC.b1 ⟨x, (rtF (rhsB x)).val, false⟩ blsR := by rw [hc]; rfl
 rw [eg, hg] at gr
 have b8 := fun A hA => bits8 (A := A) hA (hb 0)
 clear hrt hu hg eg hrl hyl hx hx384 ea h1c hr
 generalize rtF (rhsB x) = r at *
 generalize rhsB x = a at *
 generalize fo blsP x * fo blsP x * fo blsP x = X3 at *
 generalize fo blsP x * fo blsP x = X2 at *
 generalize fo blsP x = X1 at *
 obtain ⟨q, hq⟩ : ∃ q, q = blsP := ⟨_, rfl⟩
 rw [← hq] at ls kp
 clear hq
 have he : ((e + 1 : Nat) : Int) ≠ 0 := by omega
 generalize ((e + 1 : Nat) : Int) = e at *
 refine mk Tryz.func66 rfl rfl L0 RRb (by decide +kernel) fun A S hA hS => ?_
 obtain ⟨t7, t6, t5, h31⟩ := b8 A hA
 have nf : A.not false = true := i_not hA rfl
 have nt : A.not true = false := i_not hA rfl
 rw [← h31] at hbig
 rw [show decide (bs 0 / 32 < 4) = false from decide_eq_false (by omega)] at t7
 rw [show decide (bs 0 / 32 % 4 ≥ 2) = false from decide_eq_false (by omega)] at t6
 rw [show decide (bs 0 / 32 % 2 = 1) = false from decide_eq_false (by omega)] at t5
 have e0 : A.cmp .neq e 0 = true := by rw [i_ne hA, decide_eq_false he]; rfl
 have hbn : A.not (A.eqs [(.sb false, .sb (A.cmp .neq (A.bin .and .u8 (bs 0 : Int) 32) 0))]) = false := by rw [t5, hA]; rfl
 unfold bodyOf Tryz.f66
 cbv
 repeat ((first | refine ABr.t (by first | assumption | rfl) ?_ | refine ABr.f (by first | assumption | rfl) ?_ | refine aF hS kcl ?_ | (refine aG hS hbig ?_ ?_; focus (cbv; done)) | refine aF hS k ?_ | refine aF hS kp ?_ | refine aF hS ls ?_ | refine aF hS ki ?_ | refine aF hS m1 ?_ | refine aF hS m2 ?_ | refine aF hS ad ?_ | refine aF hS rt ?_ | refine aF hS ko ?_ | refine aF hS ab ?_ | (refine aG hS gr ?_ ?_; focus (cbv; done))); cbv)
 repeat' (first | exact (l0 _).symm | exact rfl | exact trivial | constructor)
theorem rdP7_010 {H : H5} (hH : H = H5.real) {c : Cu blsP} (hc : c = blsC) {bs : Nat → Nat} (hb : ∀ i, bs i < 256) (hf : bs 0 / 32 = 4) (hx : numB (bareB bs) 48 < blsP) (hrt : rtF (rhsB (numB (bareB bs) 48)) * rtF (rhsB (numB (bareB bs) 48)) = rhsB (numB (bareB bs) 48)) (hu : decide (blsP / 2 < (rtF (rhsB (numB (bareB bs) 48))).val) = true) (hg : grpP blsC.b1 ⟨numB (bareB bs) 48, (0 - rtF (rhsB (numB (bareB bs) 48))).val, false⟩ blsR = 0) : Sp 66 [.lst false 48 (q0x48 bs)] (.tup [P1_6 H ⟨numB (bareB bs) 48, (0 - rtF (rhsB (numB (bareB bs) 48))).val, false⟩, .s .i64 0]) := by
 have l0 := lim06 hH
 have kcl := cloneS bs
 have k := BlsS hH hc
 have kp := BlsPS hH
 have h1c : c.one = fo blsP 1 := by rw [hc]; rfl
 have hr : c.r < 2 ^ 256 := by rw [hc]; decide
 have hx384 : numB (bareB bs) 48 < 2 ^ 384 := Vb_lt 48 fun j _ => bare_lt hb _
 have ls := LessS6 hH (numB (bareB bs) 48) blsP hx384 (by decide)
 rw [show H.lt (numB (bareB bs) 48) blsP = true by rw [hH]; exact decide_eq_true hx] at ls
 have hno := bareNo hb
 have hbig := bareBig hH hb
 clear hno
 generalize numB (bareB bs) 48 = x at *
 have ki := inF6 hH blsPr (a := x) hx384
 have m1 := MulF6 hH blsPr (fo blsP x) (fo blsP x)
 have m2 := MulF6 hH blsPr (fo blsP x * fo blsP x) (fo blsP x)
 have ad := AddF6 hH blsPr (fo blsP x * fo blsP x * fo blsP x) c.b1
 have ea : fo blsP x * fo blsP x * fo blsP x + c.b1 = rhsB x := by rw [hc]; rfl
 rw [ea] at ad
 have rt := rootT hH blsPr hrt
 have ko := outF6 hH blsPr (rtF (rhsB x))
 have hrl : (rtF (rhsB x)).val < 2 ^ 384 := Nat.lt_trans (Fin.isLt _) (by decide)
 have ab := aboveS hH (rtF (rhsB x)).val hrl
 rw [show H.lt (blsP / 2) (rtF (rhsB x)).val = true by rw [hH]; exact hu] at ab
 have l0S := less0S6 hH blsPr c hrl
 rw [fo_val] at l0S
 have hyl : (0 - rtF (rhsB x)).val < 2 ^ 384 := Nat.lt_trans (Fin.isLt _) (by decide)
 have gr := grpS1_6 hH blsPr (c := c) h1c hr ⟨x, (0 - rtF (rhsB x)).val, false⟩ hx384 hyl
 have eg : grpP c.b1 ⟨x, (0 - rtF (rhsB x)).val, false⟩ c.r = grpP blsC.b1 ⟨x, (0 - rtF (rhsB x)).val, false⟩ blsR := by rw [hc]; rfl
 rw [eg, hg] at gr
 have b8 := fun A hA => bits8 (A := A) hA (hb 0)
 clear hrt hu hg eg hrl hyl hx hx384 ea h1c hr
 generalize (0 - rtF (rhsB x)).val = yv at *
 generalize rtF (rhsB x) = r at *
 generalize rhsB x = a at *
 generalize fo blsP x * fo blsP x * fo blsP x = X3 at *
 generalize fo blsP x * fo blsP x = X2 at *
 generalize fo blsP x = X1 at *
 obtain ⟨q, hq⟩ : ∃ q, q = blsP := ⟨_, rfl⟩
 rw [← hq] at ls kp
 clear hq
 refine mk Tryz.func66 rfl rfl L0 RRb (by decide +kernel) fun A S hA hS => ?_
 obtain ⟨t7, t6, t5, h31⟩ := b8 A hA
 have nf : A.not false = true := i_not hA rfl
 have nt : A.not true = false := i_not hA rfl
 rw [← h31] at hbig
 rw [show decide (bs 0 / 32 < 4) = false from decide_eq_false (by omega)] at t7
 rw [show decide (bs 0 / 32 % 4 ≥ 2) = false from decide_eq_false (by omega)] at t6
 rw [show decide (bs 0 / 32 % 2 = 1) = false from decide_eq_false (by omega)] at t5
 have e0 : A.cmp .neq ((0 : Nat) : Int) 0 = false := i_ne hA
 have hbn : A.not (A.eqs [(.sb true, .sb (A.cmp .neq (A.bin .and .u8 (bs 0 : Int) 32) 0))]) = true := by rw [t5, hA]; rfl
 unfold bodyOf Tryz.f66
 cbv
 repeat ((first | refine ABr.t (by first | assumption | rfl) ?_ | refine ABr.f (by first | assumption | rfl) ?_ | refine aF hS kcl ?_ | (refine aG hS hbig ?_ ?_; focus (cbv; done)) | refine aF hS k ?_ | refine aF hS kp ?_ | refine aF hS ls ?_ | refine aF hS ki ?_ | refine aF hS m1 ?_ | refine aF hS m2 ?_ | refine aF hS ad ?_ | refine aF hS rt ?_ | refine aF hS ko ?_ | refine aF hS ab ?_ | refine aF hS l0S ?_ | (refine aG hS gr ?_ ?_; focus (cbv; done))); cbv)
 repeat' (first | exact (l0 _).symm | exact rfl | exact trivial | constructor)
theorem rdP7_011 {H : H5} (hH : H = H5.real) {c : Cu blsP} (hc : c = blsC) {bs : Nat → Nat} (hb : ∀ i, bs i < 256) (hf : bs 0 / 32 = 4) (hx : numB (bareB bs) 48 < blsP) (hrt : rtF (rhsB (numB (bareB bs) 48)) * rtF (rhsB (numB (bareB bs) 48)) = rhsB (numB (bareB bs) 48)) (hu : decide (blsP / 2 < (rtF (rhsB (numB (bareB bs) 48))).val) = true) {e : Nat} (hg : grpP blsC.b1 ⟨numB (bareB bs) 48, (0 - rtF (rhsB (numB (bareB bs) 48))).val, false⟩ blsR = e + 1) : Sp 66 [.lst false 48 (q0x48 bs)] (.tup [P1_6 H ⟨0, 0, false⟩, .s .i64 ((e + 1 : Nat) : Int)]) := by
 have l0 := lim06 hH
 have kcl := cloneS bs
 have k := BlsS hH hc
 have kp := BlsPS hH
 have h1c : c.one = fo blsP 1 := by rw [hc]; rfl
 have hr : c.r < 2 ^ 256 := by rw [hc]; decide
 have hx384 : numB (bareB bs) 48 < 2 ^ 384 := Vb_lt 48 fun j _ => bare_lt hb _
 have ls := LessS6 hH (numB (bareB bs) 48) blsP hx384 (by decide)
 rw [show H.lt (numB (bareB bs) 48) blsP = true by rw [hH]; exact decide_eq_true hx] at ls
 have hno := bareNo hb
 have hbig := bareBig hH hb
 clear hno
 generalize numB (bareB bs) 48 = x at *
 have ki := inF6 hH blsPr (a := x) hx384
 have m1 := MulF6 hH blsPr (fo blsP x) (fo blsP x)
 have m2 := MulF6 hH blsPr (fo blsP x * fo blsP x) (fo blsP x)
 have ad := AddF6 hH blsPr (fo blsP x * fo blsP x * fo blsP x) c.b1
 have ea : fo blsP x * fo blsP x * fo blsP x + c.b1 = rhsB x := by rw [hc]; rfl
 rw [ea] at ad
 have rt := rootT hH blsPr hrt
 have ko := outF6 hH blsPr (rtF (rhsB x))
 have hrl : (rtF (rhsB x)).val < 2 ^ 384 := Nat.lt_trans (Fin.isLt _) (by decide)
 have ab := aboveS hH (rtF (rhsB x)).val hrl
 rw [show H.lt (blsP / 2) (rtF (rhsB x)).val = true by rw [hH]; exact hu] at ab
 have l0S := less0S6 hH blsPr c hrl
 rw [fo_val] at l0S
 have hyl : (0 - rtF (rhsB x)).val < 2 ^ 384 := Nat.lt_trans (Fin.isLt _) (by decide)
 have gr := grpS1_6 hH blsPr (c := c) h1c hr ⟨x, (0 - rtF (rhsB x)).val, false⟩ hx384 hyl
 have eg : grpP c.b1 ⟨x, (0 - rtF (rhsB x)).val, false⟩ c.r = grpP blsC.b1 ⟨x, (0 - rtF (rhsB x)).val, false⟩ blsR := by rw [hc]; rfl
 rw [eg, hg] at gr
 have b8 := fun A hA => bits8 (A := A) hA (hb 0)
 clear hrt hu hg eg hrl hyl hx hx384 ea h1c hr
 generalize (0 - rtF (rhsB x)).val = yv at *
 generalize rtF (rhsB x) = r at *
 generalize rhsB x = a at *
 generalize fo blsP x * fo blsP x * fo blsP x = X3 at *
 generalize fo blsP x * fo blsP x = X2 at *
 generalize fo blsP x = X1 at *
 obtain ⟨q, hq⟩ : ∃ q, q = blsP := ⟨_, rfl⟩
 rw [← hq] at ls kp
 clear hq
 have he : ((e + 1 : Nat) : Int) ≠ 0 := by omega
 generalize ((e + 1 : Nat) : Int) = e at *
 refine mk Tryz.func66 rfl rfl L0 RRb (by decide +kernel) fun A S hA hS => ?_
 obtain ⟨t7, t6, t5, h31⟩ := b8 A hA
 have nf : A.not false = true := i_not hA rfl
 have nt : A.not true = false := i_not hA rfl
 rw [← h31] at hbig
 rw [show decide (bs 0 / 32 < 4) = false from decide_eq_false (by omega)] at t7
 rw [show decide (bs 0 / 32 % 4 ≥ 2) = false from decide_eq_false (by omega)] at t6
 rw [show decide (bs 0 / 32 % 2 = 1) = false from decide_eq_false (by omega)] at t5
 have e0 : A.cmp .neq e 0 = true := by rw [i_ne hA, decide_eq_false he]; rfl
 have hbn : A.not (A.eqs [(.sb true, .sb (A.cmp .neq (A.bin .and .u8 (bs 0 : Int) 32) 0))]) = true := by rw [t5, hA]; rfl
 unfold bodyOf Tryz.f66
 cbv
 repeat ((first | refine ABr.t (by first | assumption | rfl) ?_ | refine ABr.f (by first | assumption | rfl) ?_ | refine aF hS kcl ?_ | (refine aG hS hbig ?_ ?_; focus (cbv; done)) | refine aF hS k ?_ | refine aF hS kp ?_ | refine aF hS ls ?_ | refine aF hS ki ?_ | refine aF hS m1 ?_ | refine aF hS m2 ?_ | refine aF hS ad ?_ | refine aF hS rt ?_ | refine aF hS ko ?_ | refine aF hS ab ?_ | refine aF hS l0S ?_ | (refine aG hS gr ?_ ?_; focus (cbv; done))); cbv)
 repeat' (first | exact (l0 _).symm | exact rfl | exact trivial | constructor)
theorem rdP6_1 {H : H5} (hH : H = H5.real) {c : Cu blsP} (hc : c = blsC) {bs : Nat → Nat} (hb : ∀ i, bs i < 256) (hf : bs 0 / 32 = 5) (hx : numB (bareB bs) 48 < blsP) (hrt : rtF (rhsB (numB (bareB bs) 48)) * rtF (rhsB (numB (bareB bs) 48)) ≠ rhsB (numB (bareB bs) 48)) : Sp 66 [.lst false 48 (q0x48 bs)] (.tup [P1_6 H ⟨0, 0, false⟩, .s .i64 71]) := by
 have l0 := lim06 hH
 have kcl := cloneS bs
 have k := BlsS hH hc
 have kp := BlsPS hH
 have h1c : c.one = fo blsP 1 := by rw [hc]; rfl
 have hr : c.r < 2 ^ 256 := by rw [hc]; decide
 have hx384 : numB (bareB bs) 48 < 2 ^ 384 := Vb_lt 48 fun j _ => bare_lt hb _
 have ls := LessS6 hH (numB (bareB bs) 48) blsP hx384 (by decide)
 rw [show H.lt (numB (bareB bs) 48) blsP = true by rw [hH]; exact decide_eq_true hx] at ls
 have hno := bareNo hb
 have hbig := bareBig hH hb
 clear hno
 generalize numB (bareB bs) 48 = x at *
 have ki := inF6 hH blsPr (a := x) hx384
 have m1 := MulF6 hH blsPr (fo blsP x) (fo blsP x)
 have m2 := MulF6 hH blsPr (fo blsP x * fo blsP x) (fo blsP x)
 have ad := AddF6 hH blsPr (fo blsP x * fo blsP x * fo blsP x) c.b1
 have ea : fo blsP x * fo blsP x * fo blsP x + c.b1 = rhsB x := by rw [hc]; rfl
 rw [ea] at ad
 have rt := rootN hH blsPr hrt
 generalize rhsB x = a at *
 have b8 := fun A hA => bits8 (A := A) hA (hb 0)
 generalize fo blsP x * fo blsP x * fo blsP x = X3 at *
 generalize fo blsP x * fo blsP x = X2 at *
 generalize fo blsP x = X1 at *
 clear hrt ea hx hx384
 obtain ⟨q, hq⟩ : ∃ q, q = blsP := ⟨_, rfl⟩
 rw [← hq] at ls kp
 clear hq
 refine mk Tryz.func66 rfl rfl L0 RRb (by decide +kernel) fun A S hA hS => ?_
 obtain ⟨t7, t6, t5, h31⟩ := b8 A hA
 have nf : A.not false = true := i_not hA rfl
 have nt : A.not true = false := i_not hA rfl
 rw [← h31] at hbig
 rw [show decide (bs 0 / 32 < 4) = false from decide_eq_false (by omega)] at t7
 rw [show decide (bs 0 / 32 % 4 ≥ 2) = false from decide_eq_false (by omega)] at t6
 rw [show decide (bs 0 / 32 % 2 = 1) = true from decide_eq_true (by omega)] at t5
 unfold bodyOf Tryz.f66
 cbv
 repeat ((first | refine ABr.t (by first | assumption | rfl) ?_ | refine ABr.f (by first | assumption | rfl) ?_ | refine aF hS kcl ?_ | (refine aG hS hbig ?_ ?_; focus (cbv; done)) | refine aF hS k ?_ | refine aF hS kp ?_ | refine aF hS ls ?_ | refine aF hS ki ?_ | refine aF hS m1 ?_ | refine aF hS m2 ?_ | refine aF hS ad ?_ | refine aF hS rt ?_); cbv)
 repeat' (first | exact (l0 _).symm | exact rfl | exact trivial | constructor)
theorem rdP7_100 {H : H5} (hH : H = H5.real) {c : Cu blsP} (hc : c = blsC) {bs : Nat → Nat} (hb : ∀ i, bs i < 256) (hf : bs 0 / 32 = 5) (hx : numB (bareB bs) 48 < blsP) (hrt : rtF (rhsB (numB (bareB bs) 48)) * rtF (rhsB (numB (bareB bs) 48)) = rhsB (numB (bareB bs) 48)) (hu : decide (blsP / 2 < (rtF (rhsB (numB (bareB bs) 48))).val) = false) (hg : grpP blsC.b1 ⟨numB (bareB bs) 48, (0 - rtF (rhsB (numB (bareB bs) 48))).val, false⟩ blsR = 0) : Sp 66 [.lst false 48 (q0x48 bs)] (.tup [P1_6 H ⟨numB (bareB bs) 48, (0 - rtF (rhsB (numB (bareB bs) 48))).val, false⟩, .s .i64 0]) := by
 have l0 := lim06 hH
 have kcl := cloneS bs
 have k := BlsS hH hc
 have kp := BlsPS hH
 have h1c : c.one = fo blsP 1 := by rw [hc]; rfl
 have hr : c.r < 2 ^ 256 := by rw [hc]; decide
 have hx384 : numB (bareB bs) 48 < 2 ^ 384 := Vb_lt 48 fun j _ => bare_lt hb _
 have ls := LessS6 hH (numB (bareB bs) 48) blsP hx384 (by decide)
 rw [show H.lt (numB (bareB bs) 48) blsP = true by rw [hH]; exact decide_eq_true hx] at ls
 have hno := bareNo hb
 have hbig := bareBig hH hb
 clear hno
 generalize numB (bareB bs) 48 = x at *
 have ki := inF6 hH blsPr (a := x) hx384
 have m1 := MulF6 hH blsPr (fo blsP x) (fo blsP x)
 have m2 := MulF6 hH blsPr (fo blsP x * fo blsP x) (fo blsP x)
 have ad := AddF6 hH blsPr (fo blsP x * fo blsP x * fo blsP x) c.b1
 have ea : fo blsP x * fo blsP x * fo blsP x + c.b1 = rhsB x := by rw [hc]; rfl
 rw [ea] at ad
 have rt := rootT hH blsPr hrt
 have ko := outF6 hH blsPr (rtF (rhsB x))
 have hrl : (rtF (rhsB x)).val < 2 ^ 384 := Nat.lt_trans (Fin.isLt _) (by decide)
 have ab := aboveS hH (rtF (rhsB x)).val hrl
 rw [show H.lt (blsP / 2) (rtF (rhsB x)).val = false by rw [hH]; exact hu] at ab
 have l0S := less0S6 hH blsPr c hrl
 rw [fo_val] at l0S
 have hyl : (0 - rtF (rhsB x)).val < 2 ^ 384 := Nat.lt_trans (Fin.isLt _) (by decide)
 have gr := grpS1_6 hH blsPr (c := c) h1c hr ⟨x, (0 - rtF (rhsB x)).val, false⟩ hx384 hyl
 have eg : grpP c.b1 ⟨x, (0 - rtF (rhsB x)).val, false⟩ c.r = grpP blsC.b1 ⟨x, (0 - rtF (rhsB x)).val, false⟩ blsR := by rw [hc]; rfl
 rw [eg, hg] at gr
 have b8 := fun A hA => bits8 (A := A) hA (hb 0)
 clear hrt hu hg eg hrl hyl hx hx384 ea h1c hr
 generalize (0 - rtF (rhsB x)).val = yv at *
 generalize rtF (rhsB x) = r at *
 generalize rhsB x = a at *
 generalize fo blsP x * fo blsP x * fo blsP x = X3 at *
 generalize fo blsP x * fo blsP x = X2 at *
 generalize fo blsP x = X1 at *
 obtain ⟨q, hq⟩ : ∃ q, q = blsP := ⟨_, rfl⟩
 rw [← hq] at ls kp
 clear hq
 refine mk Tryz.func66 rfl rfl L0 RRb (by decide +kernel) fun A S hA hS => ?_
 obtain ⟨t7, t6, t5, h31⟩ := b8 A hA
 have nf : A.not false = true := i_not hA rfl
 have nt : A.not true = false := i_not hA rfl
 rw [← h31] at hbig
 rw [show decide (bs 0 / 32 < 4) = false from decide_eq_false (by omega)] at t7
 rw [show decide (bs 0 / 32 % 4 ≥ 2) = false from decide_eq_false (by omega)] at t6
 rw [show decide (bs 0 / 32 % 2 = 1) = true from decide_eq_true (by omega)] at t5
 have e0 : A.cmp .neq ((0 : Nat) : Int) 0 = false := i_ne hA
 have hbn : A.not (A.eqs [(.sb false, .sb (A.cmp .neq (A.bin .and .u8 (bs 0 : Int) 32) 0))]) = true := by rw [t5, hA]; rfl
 unfold bodyOf Tryz.f66
 cbv
 repeat ((first | refine ABr.t (by first | assumption | rfl) ?_ | refine ABr.f (by first | assumption | rfl) ?_ | refine aF hS kcl ?_ | (refine aG hS hbig ?_ ?_; focus (cbv; done)) | refine aF hS k ?_ | refine aF hS kp ?_ | refine aF hS ls ?_ | refine aF hS ki ?_ | refine aF hS m1 ?_ | refine aF hS m2 ?_ | refine aF hS ad ?_ | refine aF hS rt ?_ | refine aF hS ko ?_ | refine aF hS ab ?_ | refine aF hS l0S ?_ | (refine aG hS gr ?_ ?_; focus (cbv; done))); cbv)
 repeat' (first | exact (l0 _).symm | exact rfl | exact trivial | constructor)
theorem rdP7_101 {H : H5} (hH : H = H5.real) {c : Cu blsP} (hc : c = blsC) {bs : Nat → Nat} (hb : ∀ i, bs i < 256) (hf : bs 0 / 32 = 5) (hx : numB (bareB bs) 48 < blsP) (hrt : rtF (rhsB (numB (bareB bs) 48)) * rtF (rhsB (numB (bareB bs) 48)) = rhsB (numB (bareB bs) 48)) (hu : decide (blsP / 2 < (rtF (rhsB (numB (bareB bs) 48))).val) = false) {e : Nat} (hg : grpP blsC.b1 ⟨numB (bareB bs) 48, (0 - rtF (rhsB (numB (bareB bs) 48))).val, false⟩ blsR = e + 1) : Sp 66 [.lst false 48 (q0x48 bs)] (.tup [P1_6 H ⟨0, 0, false⟩, .s .i64 ((e + 1 : Nat) : Int)]) := by
 have l0 := lim06 hH
 have kcl := cloneS bs
 have k := BlsS hH hc
 have kp := BlsPS hH
 have h1c : c.one = fo blsP 1 := by rw [hc]; rfl
 have hr : c.r < 2 ^ 256 := by rw [hc]; decide
 have hx384 : numB (bareB bs) 48 < 2 ^ 384 := Vb_lt 48 fun j _ => bare_lt hb _
 have ls := LessS6 hH (numB (bareB bs) 48) blsP hx384 (by decide)
 rw [show H.lt (numB (bareB bs) 48) blsP = true by rw [hH]; exact decide_eq_true hx] at ls
 have hno := bareNo hb
 have hbig := bareBig hH hb
 clear hno
 generalize numB (bareB bs) 48 = x at *
 have ki := inF6 hH blsPr (a := x) hx384
 have m1 := MulF6 hH blsPr (fo blsP x) (fo blsP x)
 have m2 := MulF6 hH blsPr (fo blsP x * fo blsP x) (fo blsP x)
 have ad := AddF6 hH blsPr (fo blsP x * fo blsP x * fo blsP x) c.b1
 have ea : fo blsP x * fo blsP x * fo blsP x + c.b1 = rhsB x := by rw [hc]; rfl
 rw [ea] at ad
 have rt := rootT hH blsPr hrt
 have ko := outF6 hH blsPr (rtF (rhsB x))
 have hrl : (rtF (rhsB x)).val < 2 ^ 384 := Nat.lt_trans (Fin.isLt _) (by decide)
 have ab := aboveS hH (rtF (rhsB x)).val hrl
 rw [show H.lt (blsP / 2) (rtF (rhsB x)).val = false by rw [hH]; exact hu] at ab
 have l0S := less0S6 hH blsPr c hrl
 rw [fo_val] at l0S
 have hyl : (0 - rtF (rhsB x)).val < 2 ^ 384 := Nat.lt_trans (Fin.isLt _) (by decide)
 have gr := grpS1_6 hH blsPr (c := c) h1c hr ⟨x, (0 - rtF (rhsB x)).val, false⟩ hx384 hyl
 have eg : grpP c.b1 ⟨x, (0 - rtF (rhsB x)).val, false⟩ c.r = grpP blsC.b1 ⟨x, (0 - rtF (rhsB x)).val, false⟩ blsR := by rw [hc]; rfl
 rw [eg, hg] at gr
 have b8 := fun A hA => bits8 (A := A) hA (hb 0)
 clear hrt hu hg eg hrl hyl hx hx384 ea h1c hr
 generalize (0 - rtF (rhsB x)).val = yv at *
 generalize rtF (rhsB x) = r at *
 generalize rhsB x = a at *
 generalize fo blsP x * fo blsP x * fo blsP x = X3 at *
 generalize fo blsP x * fo blsP x = X2 at *
 generalize fo blsP x = X1 at *
 obtain ⟨q, hq⟩ : ∃ q, q = blsP := ⟨_, rfl⟩
 rw [← hq] at ls kp
 clear hq
 have he : ((e + 1 : Nat) : Int) ≠ 0 := by omega
 generalize ((e + 1 : Nat) : Int) = e at *
 refine mk Tryz.func66 rfl rfl L0 RRb (by decide +kernel) fun A S hA hS => ?_
 obtain ⟨t7, t6, t5, h31⟩ := b8 A hA
 have nf : A.not false = true := i_not hA rfl
 have nt : A.not true = false := i_not hA rfl
 rw [← h31] at hbig
 rw [show decide (bs 0 / 32 < 4) = false from decide_eq_false (by omega)] at t7
 rw [show decide (bs 0 / 32 % 4 ≥ 2) = false from decide_eq_false (by omega)] at t6
 rw [show decide (bs 0 / 32 % 2 = 1) = true from decide_eq_true (by omega)] at t5
 have e0 : A.cmp .neq e 0 = true := by rw [i_ne hA, decide_eq_false he]; rfl
 have hbn : A.not (A.eqs [(.sb false, .sb (A.cmp .neq (A.bin .and .u8 (bs 0 : Int) 32) 0))]) = true := by rw [t5, hA]; rfl
 unfold bodyOf Tryz.f66
 cbv
 repeat ((first | refine ABr.t (by first | assumption | rfl) ?_ | refine ABr.f (by first | assumption | rfl) ?_ | refine aF hS kcl ?_ | (refine aG hS hbig ?_ ?_; focus (cbv; done)) | refine aF hS k ?_ | refine aF hS kp ?_ | refine aF hS ls ?_ | refine aF hS ki ?_ | refine aF hS m1 ?_ | refine aF hS m2 ?_ | refine aF hS ad ?_ | refine aF hS rt ?_ | refine aF hS ko ?_ | refine aF hS ab ?_ | refine aF hS l0S ?_ | (refine aG hS gr ?_ ?_; focus (cbv; done))); cbv)
 repeat' (first | exact (l0 _).symm | exact rfl | exact trivial | constructor)
theorem rdP7_110 {H : H5} (hH : H = H5.real) {c : Cu blsP} (hc : c = blsC) {bs : Nat → Nat} (hb : ∀ i, bs i < 256) (hf : bs 0 / 32 = 5) (hx : numB (bareB bs) 48 < blsP) (hrt : rtF (rhsB (numB (bareB bs) 48)) * rtF (rhsB (numB (bareB bs) 48)) = rhsB (numB (bareB bs) 48)) (hu : decide (blsP / 2 < (rtF (rhsB (numB (bareB bs) 48))).val) = true) (hg : grpP blsC.b1 ⟨numB (bareB bs) 48, (rtF (rhsB (numB (bareB bs) 48))).val, false⟩ blsR = 0) : Sp 66 [.lst false 48 (q0x48 bs)] (.tup [P1_6 H ⟨numB (bareB bs) 48, (rtF (rhsB (numB (bareB bs) 48))).val, false⟩, .s .i64 0]) := by
 have l0 := lim06 hH
 have kcl := cloneS bs
 have k := BlsS hH hc
 have kp := BlsPS hH
 have h1c : c.one = fo blsP 1 := by rw [hc]; rfl
 have hr : c.r < 2 ^ 256 := by rw [hc]; decide
 have hx384 : numB (bareB bs) 48 < 2 ^ 384 := Vb_lt 48 fun j _ => bare_lt hb _
 have ls := LessS6 hH (numB (bareB bs) 48) blsP hx384 (by decide)
 rw [show H.lt (numB (bareB bs) 48) blsP = true by rw [hH]; exact decide_eq_true hx] at ls
 have hno := bareNo hb
 have hbig := bareBig hH hb
 clear hno
 generalize numB (bareB bs) 48 = x at *
 have ki := inF6 hH blsPr (a := x) hx384
 have m1 := MulF6 hH blsPr (fo blsP x) (fo blsP x)
 have m2 := MulF6 hH blsPr (fo blsP x * fo blsP x) (fo blsP x)
 have ad := AddF6 hH blsPr (fo blsP x * fo blsP x * fo blsP x) c.b1
 have ea : fo blsP x * fo blsP x * fo blsP x + c.b1 = rhsB x := by rw [hc]; rfl
 rw [ea] at ad
 have rt := rootT hH blsPr hrt
 have ko := outF6 hH blsPr (rtF (rhsB x))
 have hrl : (rtF (rhsB x)).val < 2 ^ 384 := Nat.lt_trans (Fin.isLt _) (by decide)
 have ab := aboveS hH (rtF (rhsB x)).val hrl
 rw [show H.lt (blsP / 2) (rtF (rhsB x)).val = true by rw [hH]; exact hu] at ab
 have hyl : (rtF (rhsB x)).val < 2 ^ 384 := Nat.lt_trans (Fin.isLt _) (by decide)
 have gr := grpS1_6 hH blsPr (c := c) h1c hr ⟨x, (rtF (rhsB x)).val, false⟩ hx384 hyl
 have eg : grpP c.b1 ⟨x, (rtF (rhsB x)).val, false⟩ c.r = grpP blsC.b1 ⟨x, (rtF (rhsB x)).val, false⟩ blsR := by rw [hc]; rfl
 rw [eg, hg] at gr
 have b8 := fun A hA => bits8 (A := A) hA (hb 0)
 clear hrt hu hg eg hrl hyl hx hx384 ea h1c hr
 generalize rtF (rhsB x) = r at *
 generalize rhsB x = a at *
 generalize fo blsP x * fo blsP x * fo blsP x = X3 at *
 generalize fo blsP x * fo blsP x = X2 at *
 generalize fo blsP x = X1 at *
 obtain ⟨q, hq⟩ : ∃ q, q = blsP := ⟨_, rfl⟩
 rw [← hq] at ls kp
 clear hq
 refine mk Tryz.func66 rfl rfl L0 RRb (by decide +kernel) fun A S hA hS => ?_
 obtain ⟨t7, t6, t5, h31⟩ := b8 A hA
 have nf : A.not false = true := i_not hA rfl
 have nt : A.not true = false := i_not hA rfl
 rw [← h31] at hbig
 rw [show decide (bs 0 / 32 < 4) = false from decide_eq_false (by omega)] at t7
 rw [show decide (bs 0 / 32 % 4 ≥ 2) = false from decide_eq_false (by omega)] at t6
 rw [show decide (bs 0 / 32 % 2 = 1) = true from decide_eq_true (by omega)] at t5
 have e0 : A.cmp .neq ((0 : Nat) : Int) 0 = false := i_ne hA
 have hbn : A.not (A.eqs [(.sb true, .sb (A.cmp .neq (A.bin .and .u8 (bs 0 : Int) 32) 0))]) = false := by rw [t5, hA]; rfl
 unfold bodyOf Tryz.f66
 cbv
 repeat ((first | refine ABr.t (by first | assumption | rfl) ?_ | refine ABr.f (by first | assumption | rfl) ?_ | refine aF hS kcl ?_ | (refine aG hS hbig ?_ ?_; focus (cbv; done)) | refine aF hS k ?_ | refine aF hS kp ?_ | refine aF hS ls ?_ | refine aF hS ki ?_ | refine aF hS m1 ?_ | refine aF hS m2 ?_ | refine aF hS ad ?_ | refine aF hS rt ?_ | refine aF hS ko ?_ | refine aF hS ab ?_ | (refine aG hS gr ?_ ?_; focus (cbv; done))); cbv)
 repeat' (first | exact (l0 _).symm | exact rfl | exact trivial | constructor)
theorem rdP7_111 {H : H5} (hH : H = H5.real) {c : Cu blsP} (hc : c = blsC) {bs : Nat → Nat} (hb : ∀ i, bs i < 256) (hf : bs 0 / 32 = 5) (hx : numB (bareB bs) 48 < blsP) (hrt : rtF (rhsB (numB (bareB bs) 48)) * rtF (rhsB (numB (bareB bs) 48)) = rhsB (numB (bareB bs) 48)) (hu : decide (blsP / 2 < (rtF (rhsB (numB (bareB bs) 48))).val) = true) {e : Nat} (hg : grpP blsC.b1 ⟨numB (bareB bs) 48, (rtF (rhsB (numB (bareB bs) 48))).val, false⟩ blsR = e + 1) : Sp 66 [.lst false 48 (q0x48 bs)] (.tup [P1_6 H ⟨0, 0, false⟩, .s .i64 ((e + 1 : Nat) : Int)]) := by
 have l0 := lim06 hH
 have kcl := cloneS bs
 have k := BlsS hH hc
 have kp := BlsPS hH
 have h1c : c.one = fo blsP 1 := by rw [hc]; rfl
 have hr : c.r < 2 ^ 256 := by rw [hc]; decide
 have hx384 : numB (bareB bs) 48 < 2 ^ 384 := Vb_lt 48 fun j _ => bare_lt hb _
 have ls := LessS6 hH (numB (bareB bs) 48) blsP hx384 (by decide)
 rw [show H.lt (numB (bareB bs) 48) blsP = true by rw [hH]; exact decide_eq_true hx] at ls
 have hno := bareNo hb
 have hbig := bareBig hH hb
 clear hno
 generalize numB (bareB bs) 48 = x at *
 have ki := inF6 hH blsPr (a := x) hx384
 have m1 := MulF6 hH blsPr (fo blsP x) (fo blsP x)
 have m2 := MulF6 hH blsPr (fo blsP x * fo blsP x) (fo blsP x)
 have ad := AddF6 hH blsPr (fo blsP x * fo blsP x * fo blsP x) c.b1
 have ea : fo blsP x * fo blsP x * fo blsP x + c.b1 = rhsB x := by rw [hc]; rfl
 rw [ea] at ad
 have rt := rootT hH blsPr hrt
 have ko := outF6 hH blsPr (rtF (rhsB x))
 have hrl : (rtF (rhsB x)).val < 2 ^ 384 := Nat.lt_trans (Fin.isLt _) (by decide)
 have ab := aboveS hH (rtF (rhsB x)).val hrl
 rw [show H.lt (blsP / 2) (rtF (rhsB x)).val = true by rw [hH]; exact hu] at ab
 have hyl : (rtF (rhsB x)).val < 2 ^ 384 := Nat.lt_trans (Fin.isLt _) (by decide)
 have gr := grpS1_6 hH blsPr (c := c) h1c hr ⟨x, (rtF (rhsB x)).val, false⟩ hx384 hyl
 have eg : grpP c.b1 ⟨x, (rtF (rhsB x)).val, false⟩ c.r = grpP blsC.b1 ⟨x, (rtF (rhsB x)).val, false⟩ blsR := by rw [hc]; rfl
 rw [eg, hg] at gr
 have b8 := fun A hA => bits8 (A := A) hA (hb 0)
 clear hrt hu hg eg hrl hyl hx hx384 ea h1c hr
 generalize rtF (rhsB x) = r at *
 generalize rhsB x = a at *
 generalize fo blsP x * fo blsP x * fo blsP x = X3 at *
 generalize fo blsP x * fo blsP x = X2 at *
 generalize fo blsP x = X1 at *
 obtain ⟨q, hq⟩ : ∃ q, q = blsP := ⟨_, rfl⟩
 rw [← hq] at ls kp
 clear hq
 have he : ((e + 1 : Nat) : Int) ≠ 0 := by omega
 generalize ((e + 1 : Nat) : Int) = e at *
 refine mk Tryz.func66 rfl rfl L0 RRb (by decide +kernel) fun A S hA hS => ?_
 obtain ⟨t7, t6, t5, h31⟩ := b8 A hA
 have nf : A.not false = true := i_not hA rfl
 have nt : A.not true = false := i_not hA rfl
 rw [← h31] at hbig
 rw [show decide (bs 0 / 32 < 4) = false from decide_eq_false (by omega)] at t7
 rw [show decide (bs 0 / 32 % 4 ≥ 2) = false from decide_eq_false (by omega)] at t6
 rw [show decide (bs 0 / 32 % 2 = 1) = true from decide_eq_true (by omega)] at t5
 have e0 : A.cmp .neq e 0 = true := by rw [i_ne hA, decide_eq_false he]; rfl
 have hbn : A.not (A.eqs [(.sb true, .sb (A.cmp .neq (A.bin .and .u8 (bs 0 : Int) 32) 0))]) = false := by rw [t5, hA]; rfl
 unfold bodyOf Tryz.f66
 cbv
 repeat ((first | refine ABr.t (by first | assumption | rfl) ?_ | refine ABr.f (by first | assumption | rfl) ?_ | refine aF hS kcl ?_ | (refine aG hS hbig ?_ ?_; focus (cbv; done)) | refine aF hS k ?_ | refine aF hS kp ?_ | refine aF hS ls ?_ | refine aF hS ki ?_ | refine aF hS m1 ?_ | refine aF hS m2 ?_ | refine aF hS ad ?_ | refine aF hS rt ?_ | refine aF hS ko ?_ | refine aF hS ab ?_ | (refine aG hS gr ?_ ?_; focus (cbv; done))); cbv)
 repeat' (first | exact (l0 _).symm | exact rfl | exact trivial | constructor)
theorem by6f_eq (x f : Nat) : by6f byteN x f = [.s .u8 (wbs x f 0 : Nat), .s .u8 (wbs x f 1 : Nat), .s .u8 (wbs x f 2 : Nat), .s .u8 (wbs x f 3 : Nat), .s .u8 (wbs x f 4 : Nat), .s .u8 (wbs x f 5 : Nat), .s .u8 (wbs x f 6 : Nat), .s .u8 (wbs x f 7 : Nat), .s .u8 (wbs x f 8 : Nat), .s .u8 (wbs x f 9 : Nat), .s .u8 (wbs x f 10 : Nat), .s .u8 (wbs x f 11 : Nat), .s .u8 (wbs x f 12 : Nat), .s .u8 (wbs x f 13 : Nat), .s .u8 (wbs x f 14 : Nat), .s .u8 (wbs x f 15 : Nat), .s .u8 (wbs x f 16 : Nat), .s .u8 (wbs x f 17 : Nat), .s .u8 (wbs x f 18 : Nat), .s .u8 (wbs x f 19 : Nat), .s .u8 (wbs x f 20 : Nat), .s .u8 (wbs x f 21 : Nat), .s .u8 (wbs x f 22 : Nat), .s .u8 (wbs x f 23 : Nat), .s .u8 (wbs x f 24 : Nat), .s .u8 (wbs x f 25 : Nat), .s .u8 (wbs x f 26 : Nat), .s .u8 (wbs x f 27 : Nat), .s .u8 (wbs x f 28 : Nat), .s .u8 (wbs x f 29 : Nat), .s .u8 (wbs x f 30 : Nat), .s .u8 (wbs x f 31 : Nat), .s .u8 (wbs x f 32 : Nat), .s .u8 (wbs x f 33 : Nat), .s .u8 (wbs x f 34 : Nat), .s .u8 (wbs x f 35 : Nat), .s .u8 (wbs x f 36 : Nat), .s .u8 (wbs x f 37 : Nat), .s .u8 (wbs x f 38 : Nat), .s .u8 (wbs x f 39 : Nat), .s .u8 (wbs x f 40 : Nat), .s .u8 (wbs x f 41 : Nat), .s .u8 (wbs x f 42 : Nat), .s .u8 (wbs x f 43 : Nat), .s .u8 (wbs x f 44 : Nat), .s .u8 (wbs x f 45 : Nat), .s .u8 (wbs x f 46 : Nat), .s .u8 (wbs x f 47 : Nat)] := by
 unfold by6f
 rw [show byteN x 47 + (f : Int) = ((wbs x f 0 : Nat) : Int) from rfl]
 rfl
theorem readBls1S {H : H5} (hH : H = H5.real) {c : Cu blsP} (hc : c = blsC) {bs : Nat → Nat} (hb : ∀ i, bs i < 256) : Sp 66 [.lst false 48 (q0x48 bs)] (.tup [P1_6 H (rdB (bs 0 / 32) (allz (bareB bs) 48) (numB (bareB bs) 48)).1, .s .i64 ((rdB (bs 0 / 32) (allz (bareB bs) 48) (numB (bareB bs) 48)).2 : Nat)]) := by
 have h8 : bs 0 / 32 < 8 := by have := hb 0; omega
 by_cases h4 : bs 0 / 32 < 4
 . have e : rdB (bs 0 / 32) (allz (bareB bs) 48) (numB (bareB bs) 48) = (⟨0, 0, false⟩, 73) := by unfold rdB; rw [if_pos h4]
   rw [e]; exact rdP2 hH hc hb h4
 by_cases h7 : bs 0 / 32 = 7
 . have e : rdB (bs 0 / 32) (allz (bareB bs) 48) (numB (bareB bs) 48) = (⟨0, 0, false⟩, 73) := by unfold rdB; rw [if_neg h4, if_pos (by omega), if_neg (fun h => by omega)]
   rw [e]; exact rdP3 hH hc hb h7
 by_cases h6 : bs 0 / 32 = 6
 . cases hz : allz (bareB bs) 48 with
   | false =>
     have e : rdB (bs 0 / 32) false (numB (bareB bs) 48) = (⟨0, 0, false⟩, 73) := by unfold rdB; rw [if_neg h4, if_pos (by omega), if_neg (fun h => Bool.false_ne_true h.2)]
     rw [e]; exact rdP3b hH hc hb h6 hz
   | true =>
     have e : rdB (bs 0 / 32) true (numB (bareB bs) 48) = (⟨0, 0, true⟩, 0) := by unfold rdB; rw [if_neg h4, if_pos (by omega), if_pos ⟨h6, rfl⟩]
     rw [e]; exact rdP4 hH hc hb h6 hz
 have h45 : bs 0 / 32 = 4 ∨ bs 0 / 32 = 5 := by omega
 have e0 : rdB (bs 0 / 32) (allz (bareB bs) 48) (numB (bareB bs) 48) = if ¬ numB (bareB bs) 48 < blsP then (⟨0, 0, false⟩, 70) else if rtF (rhsB (numB (bareB bs) 48)) * rtF (rhsB (numB (bareB bs) 48)) ≠ rhsB (numB (bareB bs) 48) then (⟨0, 0, false⟩, 71)
     else if grpP blsC.b1 (ptB (numB (bareB bs) 48) (decide (bs 0 / 32 = 5))) blsR ≠ 0 then (⟨0, 0, false⟩, grpP blsC.b1 (ptB (numB (bareB bs) 48) (decide (bs 0 / 32 = 5))) blsR) else (ptB (numB (bareB bs) 48) (decide (bs 0 / 32 = 5)), 0) := by
   unfold rdB; rw [if_neg h4, if_neg (by omega)]
 rw [e0]
 clear e0
 by_cases hx : numB (bareB bs) 48 < blsP
 . rw [if_neg (fun h => h hx)]
   by_cases hr : rtF (rhsB (numB (bareB bs) 48)) * rtF (rhsB (numB (bareB bs) 48)) = rhsB (numB (bareB bs) 48)
   . rw [if_neg (fun h => h hr)]
     rcases h45 with hf | hf
     . rw [show decide (bs 0 / 32 = 5) = false by rw [hf]; rfl]
       cases hu : decide (blsP / 2 < (rtF (rhsB (numB (bareB bs) 48))).val)
       . have ep : ptB (numB (bareB bs) 48) false = ⟨numB (bareB bs) 48, (rtF (rhsB (numB (bareB bs) 48))).val, false⟩ := by unfold ptB; rw [pickY_ff hu]
         rw [ep]
         cases hg : grpP blsC.b1 ⟨numB (bareB bs) 48, (rtF (rhsB (numB (bareB bs) 48))).val, false⟩ blsR with
         | zero => rw [if_neg (fun h => h rfl)]; exact rdP7_000 hH hc hb hf hx hr hu hg
         | succ e => rw [if_pos (Nat.succ_ne_zero e)]; exact rdP7_001 hH hc hb hf hx hr hu hg
       . have ep : ptB (numB (bareB bs) 48) false = ⟨numB (bareB bs) 48, (0 - rtF (rhsB (numB (bareB bs) 48))).val, false⟩ := by unfold ptB; rw [pickY_tf hu]
         rw [ep]
         cases hg : grpP blsC.b1 ⟨numB (bareB bs) 48, (0 - rtF (rhsB (numB (bareB bs) 48))).val, false⟩ blsR with
         | zero => rw [if_neg (fun h => h rfl)]; exact rdP7_010 hH hc hb hf hx hr hu hg
         | succ e => rw [if_pos (Nat.succ_ne_zero e)]; exact rdP7_011 hH hc hb hf hx hr hu hg
     . rw [show decide (bs 0 / 32 = 5) = true by rw [hf]; rfl]
       cases hu : decide (blsP / 2 < (rtF (rhsB (numB (bareB bs) 48))).val)
       . have ep : ptB (numB (bareB bs) 48) true = ⟨numB (bareB bs) 48, (0 - rtF (rhsB (numB (bareB bs) 48))).val, false⟩ := by unfold ptB; rw [pickY_ft hu]
         rw [ep]
         cases hg : grpP blsC.b1 ⟨numB (bareB bs) 48, (0 - rtF (rhsB (numB (bareB bs) 48))).val, false⟩ blsR with
         | zero => rw [if_neg (fun h => h rfl)]; exact rdP7_100 hH hc hb hf hx hr hu hg
         | succ e => rw [if_pos (Nat.succ_ne_zero e)]; exact rdP7_101 hH hc hb hf hx hr hu hg
       . have ep : ptB (numB (bareB bs) 48) true = ⟨numB (bareB bs) 48, (rtF (rhsB (numB (bareB bs) 48))).val, false⟩ := by unfold ptB; rw [pickY_tt hu]
         rw [ep]
         cases hg : grpP blsC.b1 ⟨numB (bareB bs) 48, (rtF (rhsB (numB (bareB bs) 48))).val, false⟩ blsR with
         | zero => rw [if_neg (fun h => h rfl)]; exact rdP7_110 hH hc hb hf hx hr hu hg
         | succ e => rw [if_pos (Nat.succ_ne_zero e)]; exact rdP7_111 hH hc hb hf hx hr hu hg
   . rw [if_pos hr]
     rcases h45 with hf | hf
     . exact rdP6_0 hH hc hb hf hx hr
     . exact rdP6_1 hH hc hb hf hx hr
 . rw [if_pos hx]
   rcases h45 with hf | hf
   . exact rdP5_0 hH hc hb hf hx
   . exact rdP5_1 hH hc hb hf hx
theorem flg_of2 {x y : Nat} {s : Bool} (h : decide (blsP / 2 < y) = s) : flg ⟨x, y, false⟩ = cond s 160 128 := by
 subst h
 unfold flg
 dsimp only
 generalize decide (blsP / 2 < y) = t
 cases t <;> rfl
theorem flg_num {f : Nat} (h : f = 4 ∨ f = 5) : cond (decide (f = 5)) 160 128 = 32 * f := by
 rcases h with rfl | rfl <;> rfl
theorem rhs_ne (x : Nat) {r : Fin blsP} (hr : r * r = rhsB x) : r ≠ 0 := fun e => by
 rw [e] at hr
 have hz : (0 : Fin blsP) * 0 = 0 := by grind
 rw [hz] at hr
 have hb : blsC.b1 = fo blsP 4 := rfl
 unfold rhsB at hr
 rw [hb] at hr
 generalize fo blsP x = u at *
 exact no2_bls u hr.symm
theorem fwd {f x : Nat} {z : Bool} {P : PtA} (hf : f < 8) (hz : z = decide (x = 0)) (h : rdB f z x = (P, 0)) : P.x = x ∧ flg P = 32 * f ∧ good1 blsC.b1 P = 0 ∧ x < blsP := by
 unfold rdB at h
 by_cases h4 : f < 4
 . rw [if_pos h4] at h; cases h
 rw [if_neg h4] at h
 by_cases h6 : 6 ≤ f
 . rw [if_pos h6] at h
   by_cases hz6 : f = 6 ∧ z = true
   . rw [if_pos hz6] at h
     obtain ⟨rfl, hz'⟩ := hz6
     cases h
     rw [hz] at hz'
     have := of_decide_eq_true hz'
     subst this
     exact ⟨rfl, rfl, by decide +kernel, by decide⟩
   . rw [if_neg hz6] at h; cases h
 rw [if_neg h6] at h
 by_cases hx : x < blsP
 . rw [if_neg (fun e => e hx)] at h
   have hn0 : ∀ r : Fin blsP, r * r = rhsB x → r ≠ 0 := fun r => rhs_ne x
   unfold ptB at h
   generalize rtF (rhsB x) = r at *
   have hn := hn0 r
   by_cases hr : r * r = rhsB x
   . rw [if_neg (fun e => e hr)] at h
     have hfl := pick_flag blsPr (hn hr) (decide (f = 5))
     generalize pickY r (decide (f = 5)) = w at *
     by_cases hg : grpP blsC.b1 ⟨x, w.val, false⟩ blsR = 0
     . rw [if_neg (fun e => e hg)] at h
       cases h
       refine ⟨rfl, ?_, grp_good hg, hx⟩
       have e45 : f = 4 ∨ f = 5 := by omega
       clear h4 h6 hx hn hn0 hr hg
       generalize w.val = v at *
       generalize hs : decide (f = 5) = s at *
       refine (flg_of2 hfl).trans ?_
       rw [← hs]
       exact flg_num e45
     . rw [if_pos hg] at h
       exact absurd (Prod.mk.inj h).2 hg
   . rw [if_pos hr] at h; cases h
 . rw [if_pos hx] at h; cases h
end Go.Proofs.YtmholgclgamnnaaGreat
end
