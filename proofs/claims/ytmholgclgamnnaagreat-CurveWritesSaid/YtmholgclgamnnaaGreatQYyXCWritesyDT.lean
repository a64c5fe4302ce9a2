import Derived.Test.YtmholgclgamnnaaGreatQYD
import Derived.Test.YtmholgclgamnnaaGreatQYGG
import Derived.Test.YtmholgclgamnnaaGreatQYyXCWritesyDS
set_option linter.unusedVariables false
set_option linter.unusedSectionVars false
set_option linter.unusedSimpArgs false
namespace Go.Proofs.YtmholgclgamnnaaGreat
open Go Eng
set_option maxRecDepth 100000
set_option exponentiation.threshold 2000
set_option maxHeartbeats 4000000
theorem rdP6_1 {H : H5} (hH : H = H5.real) {c : Cu blsP} (hc : c = blsC) {bs : Nat → Nat} (hb : ∀ i, bs i < 256) (hf : bs 0 / 32 = 5) (hx : numB (bareB bs) 48 < blsP) (hrt : rtF (rhsB (numB (bareB bs) 48)) * rtF (rhsB (numB (bareB bs) 48)) ≠ rhsB (numB (bareB bs) 48)) : Sp 66 [.lst false 48 [.s .u8 (bs 0 : Nat), .s .u8 (bs 1 : Nat), .s .u8 (bs 2 : Nat), .s .u8 (bs 3 : Nat), .s .u8 (bs 4 : Nat), .s .u8 (bs 5 : Nat), .s .u8 (bs 6 : Nat), .s .u8 (bs 7 : Nat), .s .u8 (bs 8 : Nat), .s .u8 (bs 9 : Nat), .s .u8 (bs 10 : Nat), .s .u8 (bs 11 : Nat), .s .u8 (bs 12 : Nat), .s .u8 (bs 13 : Nat), .s .u8 (bs 14 : Nat), .s .u8 (bs 15 : Nat), .s .u8 (bs 16 : Nat), .s .u8 (bs 17 : Nat), .s .u8 (bs 18 : Nat), .s .u8 (bs 19 : Nat), .s .u8 (bs 20 : Nat), .s .u8 (bs 21 : Nat), .s .u8 (bs 22 : Nat), .s .u8 (bs 23 : Nat), .s .u8 (bs 24 : Nat), .s .u8 (bs 25 : Nat), .s .u8 (bs 26 : Nat), .s .u8 (bs 27 : Nat), .s .u8 (bs 28 : Nat), .s .u8 (bs 29 : Nat), .s .u8 (bs 30 : Nat), .s .u8 (bs 31 : Nat), .s .u8 (bs 32 : Nat), .s .u8 (bs 33 : Nat), .s .u8 (bs 34 : Nat), .s .u8 (bs 35 : Nat), .s .u8 (bs 36 : Nat), .s .u8 (bs 37 : Nat), .s .u8 (bs 38 : Nat), .s .u8 (bs 39 : Nat), .s .u8 (bs 40 : Nat), .s .u8 (bs 41 : Nat), .s .u8 (bs 42 : Nat), .s .u8 (bs 43 : Nat), .s .u8 (bs 44 : Nat), .s .u8 (bs 45 : Nat), .s .u8 (bs 46 : Nat), .s .u8 (bs 47 : Nat)]] (.tup [P1_6 H ⟨0, 0, false⟩, .s .i64 71]) := by
  have l0 := lim06 hH
  have kcl := cloneS bs
  have k := BlsS hH hc
  have kp := BlsPS hH
  have h1c : c.one = fo blsP 1 := by rw [hc]; rfl
  have hr : c.r < 2 ^ 256 := by rw [hc]; decide
  have hx384 : numB (bareB bs) 48 < 2 ^ 384 := Vb_lt 48 fun j _ => bare_lt hb _
  have ls := LessS6 hH (numB (bareB bs) 48) blsP hx384 (by decide)
  rw [show H.lt (numB (bareB bs) 48) blsP = true by rw [hH]; exact decide_eq_true hx] at ls
  have hno := bareNo hb
  have hbig := bareBig hH hb
  clear hno
  generalize numB (bareB bs) 48 = x at *
  have ki := inF6 hH blsPr (a := x) hx384
  have m1 := MulF6 hH blsPr (fo blsP x) (fo blsP x)
  have m2 := MulF6 hH blsPr (fo blsP x * fo blsP x) (fo blsP x)
  have ad := AddF6 hH blsPr (fo blsP x * fo blsP x * fo blsP x) c.b1
  have ea : fo blsP x * fo blsP x * fo blsP x + c.b1 = rhsB x := by rw [hc]; rfl
  rw [ea] at ad
  have rt := rootN hH blsPr hrt
  generalize rhsB x = a at *
  have b8 := fun A hA => bits8 (A := A) hA (hb 0)
  generalize fo blsP x * fo blsP x * fo blsP x = X3 at *
  generalize fo blsP x * fo blsP x = X2 at *
  generalize fo blsP x = X1 at *
  clear hrt ea hx hx384
  obtain ⟨q, hq⟩ : ∃ q, q = blsP := ⟨_, rfl⟩
  rw [← hq] at ls kp
  clear hq
  refine mk Tryz.func66 rfl rfl L0 RRb (by decide +kernel) fun A S hA hS => ?_
  obtain ⟨t7, t6, t5, h31⟩ := b8 A hA
  have nf : A.not false = true := i_not hA rfl
  have nt : A.not true = false := i_not hA rfl
  rw [← h31] at hbig
  rw [show decide (bs 0 / 32 < 4) = false from decide_eq_false (by omega)] at t7
  rw [show decide (bs 0 / 32 % 4 ≥ 2) = false from decide_eq_false (by omega)] at t6
  rw [show decide (bs 0 / 32 % 2 = 1) = true from decide_eq_true (by omega)] at t5
  unfold bodyOf Tryz.f66
  cbv
  repeat (first
    | (refine ABr.t (by assumption) ?_; cbv)
    | (refine ABr.f (by assumption) ?_; cbv)
    | (refine ABr.t rfl ?_; cbv)
    | (refine ABr.f rfl ?_; cbv)
    | (refine ACall.mk _ (cf hS kcl) ?_; cbv)
    | (refine ACall.mk _ (cg hS hbig ?_) ?_; (focus (cbv; done)); cbv)
    | (refine ACall.mk _ (cf hS k) ?_; cbv)
    | (refine ACall.mk _ (cf hS kp) ?_; cbv)
    | (refine ACall.mk _ (cf hS ls) ?_; cbv)
    | (refine ACall.mk _ (cf hS ki) ?_; cbv)
    | (refine ACall.mk _ (cf hS m1) ?_; cbv)
    | (refine ACall.mk _ (cf hS m2) ?_; cbv)
    | (refine ACall.mk _ (cf hS ad) ?_; cbv)
    | (refine ACall.mk _ (cf hS rt) ?_; cbv))
  repeat' (first | exact (l0 _).symm | exact rfl | exact trivial | constructor)
theorem rdP7_100 {H : H5} (hH : H = H5.real) {c : Cu blsP} (hc : c = blsC) {bs : Nat → Nat} (hb : ∀ i, bs i < 256) (hf : bs 0 / 32 = 5) (hx : numB (bareB bs) 48 < blsP) (hrt : rtF (rhsB (numB (bareB bs) 48)) * rtF (rhsB (numB (bareB bs) 48)) = rhsB (numB (bareB bs) 48)) (hu : decide (blsP / 2 < (rtF (rhsB (numB (bareB bs) 48))).val) = false) (hg : grpP blsC.b1 ⟨numB (bareB bs) 48, (0 - rtF (rhsB (numB (bareB bs) 48))).val, false⟩ blsR = 0) : Sp 66 [.lst false 48 [.s .u8 (bs 0 : Nat), .s .u8 (bs 1 : Nat), .s .u8 (bs 2 : Nat), .s .u8 (bs 3 : Nat), .s .u8 (bs 4 : Nat), .s .u8 (bs 5 : Nat), .s .u8 (bs 6 : Nat), .s .u8 (bs 7 : Nat), .s .u8 (bs 8 : Nat), .s .u8 (bs 9 : Nat), .s .u8 (bs 10 : Nat), .s .u8 (bs 11 : Nat), .s .u8 (bs 12 : Nat), .s .u8 (bs 13 : Nat), .s .u8 (bs 14 : Nat), .s .u8 (bs 15 : Nat), .s .u8 (bs 16 : Nat), .s .u8 (bs 17 : Nat), .s .u8 (bs 18 : Nat), .s .u8 (bs 19 : Nat), .s .u8 (bs 20 : Nat), .s .u8 (bs 21 : Nat), .s .u8 (bs 22 : Nat), .s .u8 (bs 23 : Nat), .s .u8 (bs 24 : Nat), .s .u8 (bs 25 : Nat), .s .u8 (bs 26 : Nat), .s .u8 (bs 27 : Nat), .s .u8 (bs 28 : Nat), .s .u8 (bs 29 : Nat), .s .u8 (bs 30 : Nat), .s .u8 (bs 31 : Nat), .s .u8 (bs 32 : Nat), .s .u8 (bs 33 : Nat), .s .u8 (bs 34 : Nat), .s .u8 (bs 35 : Nat), .s .u8 (bs 36 : Nat), .s .u8 (bs 37 : Nat), .s .u8 (bs 38 : Nat), .s .u8 (bs 39 : Nat), .s .u8 (bs 40 : Nat), .s .u8 (bs 41 : Nat), .s .u8 (bs 42 : Nat), .s .u8 (bs 43 : Nat), .s .u8 (bs 44 : Nat), .s .u8 (bs 45 : Nat), .s .u8 (bs 46 : Nat), .s .u8 (bs 47 : Nat)]] (.tup [P1_6 H ⟨numB (bareB bs) 48, (0 - rtF (rhsB (numB (bareB bs) 48))).val, false⟩, .s .i64 0]) := by
  have l0 := lim06 hH
  have kcl := cloneS bs
  have k := BlsS hH hc
  have kp := BlsPS hH
  have h1c : c.one = fo blsP 1 := by rw [hc]; rfl
  have hr : c.r < 2 ^ 256 := by rw [hc]; decide
  have hx384 : numB (bareB bs) 48 < 2 ^ 384 := Vb_lt 48 fun j _ => bare_lt hb _
  have ls := LessS6 hH (numB (bareB bs) 48) blsP hx384 (by decide)
  rw [show H.lt (numB (bareB bs) 48) blsP = true by rw [hH]; exact decide_eq_true hx] at ls
  have hno := bareNo hb
  have hbig := bareBig hH hb
  clear hno
  generalize numB (bareB bs) 48 = x at *
  have ki := inF6 hH blsPr (a := x) hx384
  have m1 := MulF6 hH blsPr (fo blsP x) (fo blsP x)
  have m2 := MulF6 hH blsPr (fo blsP x * fo blsP x) (fo blsP x)
  have ad := AddF6 hH blsPr (fo blsP x * fo blsP x * fo blsP x) c.b1
  have ea : fo blsP x * fo blsP x * fo blsP x + c.b1 = rhsB x := by rw [hc]; rfl
  rw [ea] at ad
  have rt := rootT hH blsPr hrt
  have ko := outF6 hH blsPr (rtF (rhsB x))
  have hrl : (rtF (rhsB x)).val < 2 ^ 384 := Nat.lt_trans (Fin.isLt _) (by decide)
  have ab := aboveS hH (rtF (rhsB x)).val hrl
  rw [show H.lt (blsP / 2) (rtF (rhsB x)).val = false by rw [hH]; exact hu] at ab
  have l0S := less0S6 hH blsPr c hrl
  rw [fo_val] at l0S
  have hyl : (0 - rtF (rhsB x)).val < 2 ^ 384 := Nat.lt_trans (Fin.isLt _) (by decide)
  have gr := grpS1_6 hH blsPr (c := c) h1c hr ⟨x, (0 - rtF (rhsB x)).val, false⟩ hx384 hyl
  have eg : grpP c.b1 ⟨x, (0 - rtF (rhsB x)).val, false⟩ c.r = grpP blsC.b1 ⟨x, (0 - rtF (rhsB x)).val, false⟩ blsR := by rw [hc]; rfl
  rw [eg, hg] at gr
  have b8 := fun A hA => bits8 (A := A) hA (hb 0)
  clear hrt hu hg eg hrl hyl hx hx384 ea h1c hr
  generalize (0 - rtF (rhsB x)).val = yv at *
  generalize rtF (rhsB x) = r at *
  generalize rhsB x = a at *
  generalize fo blsP x * fo blsP x * fo blsP x = X3 at *
  generalize fo blsP x * fo blsP x = X2 at *
  generalize fo blsP x = X1 at *
  obtain ⟨q, hq⟩ : ∃ q, q = blsP := ⟨_, rfl⟩
  rw [← hq] at ls kp
  clear hq
  refine mk Tryz.func66 rfl rfl L0 RRb (by decide +kernel) fun A S hA hS => ?_
  obtain ⟨t7, t6, t5, h31⟩ := b8 A hA
  have nf : A.not false = true := i_not hA rfl
  have nt : A.not true = false := i_not hA rfl
  rw [← h31] at hbig
  rw [show decide (bs 0 / 32 < 4) = false from decide_eq_false (by omega)] at t7
  rw [show decide (bs 0 / 32 % 4 ≥ 2) = false from decide_eq_false (by omega)] at t6
  rw [show decide (bs 0 / 32 % 2 = 1) = true from decide_eq_true (by omega)] at t5
  have e0 : A.cmp .neq ((0 : Nat) : Int) 0 = false := i_ne hA
  have hbn : A.not (A.eqs [(.sb false, .sb (A.cmp .neq (A.bin .and .u8 (bs 0 : Int) 32) 0))]) = true := by rw [t5, hA]; rfl
  unfold bodyOf Tryz.f66
  cbv
  repeat (first
    | (refine ABr.t (by assumption) ?_; cbv)
    | (refine ABr.f (by assumption) ?_; cbv)
    | (refine ABr.t rfl ?_; cbv)
    | (refine ABr.f rfl ?_; cbv)
    | (refine ACall.mk _ (cf hS kcl) ?_; cbv)
    | (refine ACall.mk _ (cg hS hbig ?_) ?_; (focus (cbv; done)); cbv)
    | (refine ACall.mk _ (cf hS k) ?_; cbv)
    | (refine ACall.mk _ (cf hS kp) ?_; cbv)
    | (refine ACall.mk _ (cf hS ls) ?_; cbv)
    | (refine ACall.mk _ (cf hS ki) ?_; cbv)
    | (refine ACall.mk _ (cf hS m1) ?_; cbv)
    | (refine ACall.mk _ (cf hS m2) ?_; cbv)
    | (refine ACall.mk _ (cf hS ad) ?_; cbv)
    | (refine ACall.mk _ (cf hS rt) ?_; cbv)
    | (refine ACall.mk _ (cf hS ko) ?_; cbv)
    | (refine ACall.mk _ (cf hS ab) ?_; cbv)
    | (refine ACall.mk _ (cf hS l0S) ?_; cbv)
    | (refine ACall.mk _ (cg hS gr ?_) ?_; (focus (cbv; done)); cbv))
  repeat' (first | exact (l0 _).symm | exact rfl | exact trivial | constructor)
theorem rdP7_101 {H : H5} (hH : H = H5.real) {c : Cu blsP} (hc : c = blsC) {bs : Nat → Nat} (hb : ∀ i, bs i < 256) (hf : bs 0 / 32 = 5) (hx : numB (bareB bs) 48 < blsP) (hrt : rtF (rhsB (numB (bareB bs) 48)) * rtF (rhsB (numB (bareB bs) 48)) = rhsB (numB (bareB bs) 48)) (hu : decide (blsP / 2 < (rtF (rhsB (numB (bareB bs) 48))).val) = false) {e : Nat} (hg : grpP blsC.b1 ⟨numB (bareB bs) 48, (0 - rtF (rhsB (numB (bareB bs) 48))).val, false⟩ blsR = e + 1) : Sp 66 [.lst false 48 [.s .u8 (bs 0 : Nat), .s .u8 (bs 1 : Nat), .s .u8 (bs 2 : Nat), .s .u8 (bs 3 : Nat), .s .u8 (bs 4 : Nat), .s .u8 (bs 5 : Nat), .s .u8 (bs 6 : Nat), .s .u8 (bs 7 : Nat), .s .u8 (bs 8 : Nat), .s .u8 (bs 9 : Nat), .s .u8 (bs 10 : Nat), .s .u8 (bs 11 : Nat), .s .u8 (bs 12 : Nat), .s .u8 (bs 13 : Nat), .s .u8 (bs 14 : Nat), .s .u8 (bs 15 : Nat), .s .u8 (bs 16 : Nat), .s .u8 (bs 17 : Nat), .s .u8 (bs 18 : Nat), .s .u8 (bs 19 : Nat), .s .u8 (bs 20 : Nat), .s .u8 (bs 21 : Nat), .s .u8 (bs 22 : Nat), .s .u8 (bs 23 : Nat), .s .u8 (bs 24 : Nat), .s .u8 (bs 25 : Nat), .s .u8 (bs 26 : Nat), .s .u8 (bs 27 : Nat), .s .u8 (bs 28 : Nat), .s .u8 (bs 29 : Nat), .s .u8 (bs 30 : Nat), .s .u8 (bs 31 : Nat), .s .u8 (bs 32 : Nat), .s .u8 (bs 33 : Nat), .s .u8 (bs 34 : Nat), .s .u8 (bs 35 : Nat), .s .u8 (bs 36 : Nat), .s .u8 (bs 37 : Nat), .s .u8 (bs 38 : Nat), .s .u8 (bs 39 : Nat), .s .u8 (bs 40 : Nat), .s .u8 (bs 41 : Nat), .s .u8 (bs 42 : Nat), .s .u8 (bs 43 : Nat), .s .u8 (bs 44 : Nat), .s .u8 (bs 45 : Nat), .s .u8 (bs 46 : Nat), .s .u8 (bs 47 : Nat)]] (.tup [P1_6 H ⟨0, 0, false⟩, .s .i64 ((e + 1 : Nat) : Int)]) := by
  have l0 := lim06 hH
  have kcl := cloneS bs
  have k := BlsS hH hc
  have kp := BlsPS hH
  have h1c : c.one = fo blsP 1 := by rw [hc]; rfl
  have hr : c.r < 2 ^ 256 := by rw [hc]; decide
  have hx384 : numB (bareB bs) 48 < 2 ^ 384 := Vb_lt 48 fun j _ => bare_lt hb _
  have ls := LessS6 hH (numB (bareB bs) 48) blsP hx384 (by decide)
  rw [show H.lt (numB (bareB bs) 48) blsP = true by rw [hH]; exact decide_eq_true hx] at ls
  have hno := bareNo hb
  have hbig := bareBig hH hb
  clear hno
  generalize numB (bareB bs) 48 = x at *
  have ki := inF6 hH blsPr (a := x) hx384
  have m1 := MulF6 hH blsPr (fo blsP x) (fo blsP x)
  have m2 := MulF6 hH blsPr (fo blsP x * fo blsP x) (fo blsP x)
  have ad := AddF6 hH blsPr (fo blsP x * fo blsP x * fo blsP x) c.b1
  have ea : fo blsP x * fo blsP x * fo blsP x + c.b1 = rhsB x := by rw [hc]; rfl
  rw [ea] at ad
  have rt := rootT hH blsPr hrt
  have ko := outF6 hH blsPr (rtF (rhsB x))
  have hrl : (rtF (rhsB x)).val < 2 ^ 384 := Nat.lt_trans (Fin.isLt _) (by decide)
  have ab := aboveS hH (rtF (rhsB x)).val hrl
  rw [show H.lt (blsP / 2) (rtF (rhsB x)).val = false by rw [hH]; exact hu] at ab
  have l0S := less0S6 hH blsPr c hrl
  rw [fo_val] at l0S
  have hyl : (0 - rtF (rhsB x)).val < 2 ^ 384 := Nat.lt_trans (Fin.isLt _) (by decide)
  have gr := grpS1_6 hH blsPr (c := c) h1c hr ⟨x, (0 - rtF (rhsB x)).val, false⟩ hx384 hyl
  have eg : grpP c.b1 ⟨x, (0 - rtF (rhsB x)).val, false⟩ c.r = grpP blsC.b1 ⟨x, (0 - rtF (rhsB x)).val, false⟩ blsR := by rw [hc]; rfl
  rw [eg, hg] at gr
  have b8 := fun A hA => bits8 (A := A) hA (hb 0)
  clear hrt hu hg eg hrl hyl hx hx384 ea h1c hr
  generalize (0 - rtF (rhsB x)).val = yv at *
  generalize rtF (rhsB x) = r at *
  generalize rhsB x = a at *
  generalize fo blsP x * fo blsP x * fo blsP x = X3 at *
  generalize fo blsP x * fo blsP x = X2 at *
  generalize fo blsP x = X1 at *
  obtain ⟨q, hq⟩ : ∃ q, q = blsP := ⟨_, rfl⟩
  rw [← hq] at ls kp
  clear hq
  have he : ((e + 1 : Nat) : Int) ≠ 0 := by omega
  generalize ((e + 1 : Nat) : Int) = e at *
  refine mk Tryz.func66 rfl rfl L0 RRb (by decide +kernel) fun A S hA hS => ?_
  obtain ⟨t7, t6, t5, h31⟩ := b8 A hA
  have nf : A.not false = true := i_not hA rfl
  have nt : A.not true = false := i_not hA rfl
  rw [← h31] at hbig
  rw [show decide (bs 0 / 32 < 4) = false from decide_eq_false (by omega)] at t7
  rw [show decide (bs 0 / 32 % 4 ≥ 2) = false from decide_eq_false (by omega)] at t6
  rw [show decide (bs 0 / 32 % 2 = 1) = true from decide_eq_true (by omega)] at t5
  have e0 : A.cmp .neq e 0 = true := by rw [i_ne hA, decide_eq_false he]; rfl
  have hbn : A.not (A.eqs [(.sb false, .sb (A.cmp .neq (A.bin .and .u8 (bs 0 : Int) 32) 0))]) = true := by rw [t5, hA]; rfl
  unfold bodyOf Tryz.f66
  cbv
  repeat (first
    | (refine ABr.t (by assumption) ?_; cbv)
    | (refine ABr.f (by assumption) ?_; cbv)
    | (refine ABr.t rfl ?_; cbv)
    | (refine ABr.f rfl ?_; cbv)
    | (refine ACall.mk _ (cf hS kcl) ?_; cbv)
    | (refine ACall.mk _ (cg hS hbig ?_) ?_; (focus (cbv; done)); cbv)
    | (refine ACall.mk _ (cf hS k) ?_; cbv)
    | (refine ACall.mk _ (cf hS kp) ?_; cbv)
    | (refine ACall.mk _ (cf hS ls) ?_; cbv)
    | (refine ACall.mk _ (cf hS ki) ?_; cbv)
    | (refine ACall.mk _ (cf hS m1) ?_; cbv)
    | (refine ACall.mk _ (cf hS m2) ?_; cbv)
    | (refine ACall.mk _ (cf hS ad) ?_; cbv)
    | (refine ACall.mk _ (cf hS rt) ?_; cbv)
    | (refine ACall.mk _ (cf hS ko) ?_; cbv)
    | (refine ACall.mk _ (cf hS ab) ?_; cbv)
    | (refine ACall.mk _ (cf hS l0S) ?_; cbv)
    | (refine ACall.mk _ (cg hS gr ?_) ?_; (focus (cbv; done)); cbv))
  repeat' (first | exact (l0 _).symm | exact rfl | exact trivial | constructor)
theorem rdP7_110 {H : H5} (hH : H = H5.real) {c : Cu blsP} (hc : c = blsC) {bs : Nat → Nat} (hb : ∀ i, bs i < 256) (hf : bs 0 / 32 = 5) (hx : numB (bareB bs) 48 < blsP) (hrt : rtF (rhsB (numB (bareB bs) 48)) * rtF (rhsB (numB (bareB bs) 48)) = rhsB (numB (bareB bs) 48)) (hu : decide (blsP / 2 < (rtF (rhsB (numB (bareB bs) 48))).val) = true) (hg : grpP blsC.b1 ⟨numB (bareB bs) 48, (rtF (rhsB (numB (bareB bs) 48))).val, false⟩ blsR = 0) : Sp 66 [.lst false 48 [.s .u8 (bs 0 : Nat), .s .u8 (bs 1 : Nat), .s .u8 (bs 2 : Nat), .s .u8 (bs 3 : Nat), .s .u8 (bs 4 : Nat), .s .u8 (bs 5 : Nat), .s .u8 (bs 6 : Nat), .s .u8 (bs 7 : Nat), .s .u8 (bs 8 : Nat), .s .u8 (bs 9 : Nat), .s .u8 (bs 10 : Nat), .s .u8 (bs 11 : Nat), .s .u8 (bs 12 : Nat), .s .u8 (bs 13 : Nat), .s .u8 (bs 14 : Nat), .s .u8 (bs 15 : Nat), .s .u8 (bs 16 : Nat), .s .u8 (bs 17 : Nat), .s .u8 (bs 18 : Nat), .s .u8 (bs 19 : Nat), .s .u8 (bs 20 : Nat), .s .u8 (bs 21 : Nat), .s .u8 (bs 22 : Nat), .s .u8 (bs 23 : Nat), .s .u8 (bs 24 : Nat), .s .u8 (bs 25 : Nat), .s .u8 (bs 26 : Nat), .s .u8 (bs 27 : Nat), .s .u8 (bs 28 : Nat), .s .u8 (bs 29 : Nat), .s .u8 (bs 30 : Nat), .s .u8 (bs 31 : Nat), .s .u8 (bs 32 : Nat), .s .u8 (bs 33 : Nat), .s .u8 (bs 34 : Nat), .s .u8 (bs 35 : Nat), .s .u8 (bs 36 : Nat), .s .u8 (bs 37 : Nat), .s .u8 (bs 38 : Nat), .s .u8 (bs 39 : Nat), .s .u8 (bs 40 : Nat), .s .u8 (bs 41 : Nat), .s .u8 (bs 42 : Nat), .s .u8 (bs 43 : Nat), .s .u8 (bs 44 : Nat), .s .u8 (bs 45 : Nat), .s .u8 (bs 46 : Nat), .s .u8 (bs 47 : Nat)]] (.tup [P1_6 H ⟨numB (bareB bs) 48, (rtF (rhsB (numB (bareB bs) 48))).val, false⟩, .s .i64 0]) := by
  have l0 := lim06 hH
  have kcl := cloneS bs
  have k := BlsS hH hc
  have kp := BlsPS hH
  have h1c : c.one = fo blsP 1 := by rw [hc]; rfl
  have hr : c.r < 2 ^ 256 := by rw [hc]; decide
  have hx384 : numB (bareB bs) 48 < 2 ^ 384 := Vb_lt 48 fun j _ => bare_lt hb _
  have ls := LessS6 hH (numB (bareB bs) 48) blsP hx384 (by decide)
  rw [show H.lt (numB (bareB bs) 48) blsP = true by rw [hH]; exact decide_eq_true hx] at ls
  have hno := bareNo hb
  have hbig := bareBig hH hb
  clear hno
  generalize numB (bareB bs) 48 = x at *
  have ki := inF6 hH blsPr (a := x) hx384
  have m1 := MulF6 hH blsPr (fo blsP x) (fo blsP x)
  have m2 := MulF6 hH blsPr (fo blsP x * fo blsP x) (fo blsP x)
  have ad := AddF6 hH blsPr (fo blsP x * fo blsP x * fo blsP x) c.b1
  have ea : fo blsP x * fo blsP x * fo blsP x + c.b1 = rhsB x := by rw [hc]; rfl
  rw [ea] at ad
  have rt := rootT hH blsPr hrt
  have ko := outF6 hH blsPr (rtF (rhsB x))
  have hrl : (rtF (rhsB x)).val < 2 ^ 384 := Nat.lt_trans (Fin.isLt _) (by decide)
  have ab := aboveS hH (rtF (rhsB x)).val hrl
  rw [show H.lt (blsP / 2) (rtF (rhsB x)).val = true by rw [hH]; exact hu] at ab
  have hyl : (rtF (rhsB x)).val < 2 ^ 384 := Nat.lt_trans (Fin.isLt _) (by decide)
  have gr := grpS1_6 hH blsPr (c := c) h1c hr ⟨x, (rtF (rhsB x)).val, false⟩ hx384 hyl
  have eg : grpP c.b1 ⟨x, (rtF (rhsB x)).val, false⟩ c.r = grpP blsC.b1 ⟨x, (rtF (rhsB x)).val, false⟩ blsR := by rw [hc]; rfl
  rw [eg, hg] at gr
  have b8 := fun A hA => bits8 (A := A) hA (hb 0)
  clear hrt hu hg eg hrl hyl hx hx384 ea h1c hr
  generalize rtF (rhsB x) = r at *
  generalize rhsB x = a at *
  generalize fo blsP x * fo blsP x * fo blsP x = X3 at *
  generalize fo blsP x * fo blsP x = X2 at *
  generalize fo blsP x = X1 at *
  obtain ⟨q, hq⟩ : ∃ q, q = blsP := ⟨_, rfl⟩
  rw [← hq] at ls kp
  clear hq
  refine mk Tryz.func66 rfl rfl L0 RRb (by decide +kernel) fun A S hA hS => ?_
  obtain ⟨t7, t6, t5, h31⟩ := b8 A hA
  have nf : A.not false = true := i_not hA rfl
  have nt : A.not true = false := i_not hA rfl
  rw [← h31] at hbig
  rw [show decide (bs 0 / 32 < 4) = false from decide_eq_false (by omega)] at t7
  rw [show decide (bs 0 / 32 % 4 ≥ 2) = false from decide_eq_false (by omega)] at t6
  rw [show decide (bs 0 / 32 % 2 = 1) = true from decide_eq_true (by omega)] at t5
  have e0 : A.cmp .neq ((0 : Nat) : Int) 0 = false := i_ne hA
  have hbn : A.not (A.eqs [(.sb true, .sb (A.cmp .neq (A.bin .and .u8 (bs 0 : Int) 32) 0))]) = false := by rw [t5, hA]; rfl
  unfold bodyOf Tryz.f66
  cbv
  repeat (first
    | (refine ABr.t (by assumption) ?_; cbv)
    | (refine ABr.f (by assumption) ?_; cbv)
    | (refine ABr.t rfl ?_; cbv)
    | (refine ABr.f rfl ?_; cbv)
    | (refine ACall.mk _ (cf hS kcl) ?_; cbv)
    | (refine ACall.mk _ (cg hS hbig ?_) ?_; (focus (cbv; done)); cbv)
    | (refine ACall.mk _ (cf hS k) ?_; cbv)
    | (refine ACall.mk _ (cf hS kp) ?_; cbv)
    | (refine ACall.mk _ (cf hS ls) ?_; cbv)
    | (refine ACall.mk _ (cf hS ki) ?_; cbv)
    | (refine ACall.mk _ (cf hS m1) ?_; cbv)
    | (refine ACall.mk _ (cf hS m2) ?_; cbv)
    | (refine ACall.mk _ (cf hS ad) ?_; cbv)
    | (refine ACall.mk _ (cf hS rt) ?_; cbv)
    | (refine ACall.mk _ (cf hS ko) ?_; cbv)
    | (refine ACall.mk _ (cf hS ab) ?_; cbv)
    | (refine ACall.mk _ (cg hS gr ?_) ?_; (focus (cbv; done)); cbv))
  repeat' (first | exact (l0 _).symm | exact rfl | exact trivial | constructor)
theorem rdP7_111 {H : H5} (hH : H = H5.real) {c : Cu blsP} (hc : c = blsC) {bs : Nat → Nat} (hb : ∀ i, bs i < 256) (hf : bs 0 / 32 = 5) (hx : numB (bareB bs) 48 < blsP) (hrt : rtF (rhsB (numB (bareB bs) 48)) * rtF (rhsB (numB (bareB bs) 48)) = rhsB (numB (bareB bs) 48)) (hu : decide (blsP / 2 < (rtF (rhsB (numB (bareB bs) 48))).val) = true) {e : Nat} (hg : grpP blsC.b1 ⟨numB (bareB bs) 48, (rtF (rhsB (numB (bareB bs) 48))).val, false⟩ blsR = e + 1) : Sp 66 [.lst false 48 [.s .u8 (bs 0 : Nat), .s .u8 (bs 1 : Nat), .s .u8 (bs 2 : Nat), .s .u8 (bs 3 : Nat), .s .u8 (bs 4 : Nat), .s .u8 (bs 5 : Nat), .s .u8 (bs 6 : Nat), .s .u8 (bs 7 : Nat), .s .u8 (bs 8 : Nat), .s .u8 (bs 9 : Nat), .s .u8 (bs 10 : Nat), .s .u8 (bs 11 : Nat), .s .u8 (bs 12 : Nat), .s .u8 (bs 13 : Nat), .s .u8 (bs 14 : Nat), .s .u8 (bs 15 : Nat), .s .u8 (bs 16 : Nat), .s .u8 (bs 17 : Nat), .s .u8 (bs 18 : Nat), .s .u8 (bs 19 : Nat), .s .u8 (bs 20 : Nat), .s .u8 (bs 21 : Nat), .s .u8 (bs 22 : Nat), .s .u8 (bs 23 : Nat), .s .u8 (bs 24 : Nat), .s .u8 (bs 25 : Nat), .s .u8 (bs 26 : Nat), .s .u8 (bs 27 : Nat), .s .u8 (bs 28 : Nat), .s .u8 (bs 29 : Nat), .s .u8 (bs 30 : Nat), .s .u8 (bs 31 : Nat), .s .u8 (bs 32 : Nat), .s .u8 (bs 33 : Nat), .s .u8 (bs 34 : Nat), .s .u8 (bs 35 : Nat), .s .u8 (bs 36 : Nat), .s .u8 (bs 37 : Nat), .s .u8 (bs 38 : Nat), .s .u8 (bs 39 : Nat), .s .u8 (bs 40 : Nat), .s .u8 (bs 41 : Nat), .s .u8 (bs 42 : Nat), .s .u8 (bs 43 : Nat), .s .u8 (bs 44 : Nat), .s .u8 (bs 45 : Nat), .s .u8 (bs 46 : Nat), .s .u8 (bs 47 : Nat)]] (.tup [P1_6 H ⟨0, 0, false⟩, .s .i64 ((e + 1 : Nat) : Int)]) := by
  have l0 := lim06 hH
  have kcl := cloneS bs
  have k := BlsS hH hc
  have kp := BlsPS hH
  have h1c : c.one = fo blsP 1 := by rw [hc]; rfl
  have hr : c.r < 2 ^ 256 := by rw [hc]; decide
  have hx384 : numB (bareB bs) 48 < 2 ^ 384 := Vb_lt 48 fun j _ => bare_lt hb _
  have ls := LessS6 hH (numB (bareB bs) 48) blsP hx384 (by decide)
  rw [show H.lt (numB (bareB bs) 48) blsP = true by rw [hH]; exact decide_eq_true hx] at ls
  have hno := bareNo hb
  have hbig := bareBig hH hb
  clear hno
  generalize numB (bareB bs) 48 = x at *
  have ki := inF6 hH blsPr (a := x) hx384
  have m1 := MulF6 hH blsPr (fo blsP x) (fo blsP x)
  have m2 := MulF6 hH blsPr (fo blsP x * fo blsP x) (fo blsP x)
  have ad := AddF6 hH blsPr (fo blsP x * fo blsP x * fo blsP x) c.b1
  have ea : fo blsP x * fo blsP x * fo blsP x + c.b1 = rhsB x := by rw [hc]; rfl
  rw [ea] at ad
  have rt := rootT hH blsPr hrt
  have ko := outF6 hH blsPr (rtF (rhsB x))
  have hrl : (rtF (rhsB x)).val < 2 ^ 384 := Nat.lt_trans (Fin.isLt _) (by decide)
  have ab := aboveS hH (rtF (rhsB x)).val hrl
  rw [show H.lt (blsP / 2) (rtF (rhsB x)).val = true by rw [hH]; exact hu] at ab
  have hyl : (rtF (rhsB x)).val < 2 ^ 384 := Nat.lt_trans (Fin.isLt _) (by decide)
  have gr := grpS1_6 hH blsPr (c := c) h1c hr ⟨x, (rtF (rhsB x)).val, false⟩ hx384 hyl
  have eg : grpP c.b1 ⟨x, (rtF (rhsB x)).val, false⟩ c.r = grpP blsC.b1 ⟨x, (rtF (rhsB x)).val, false⟩ blsR := by rw [hc]; rfl
  rw [eg, hg] at gr
  have b8 := fun A hA => bits8 (A := A) hA (hb 0)
  clear hrt hu hg eg hrl hyl hx hx384 ea h1c hr
  generalize rtF (rhsB x) = r at *
  generalize rhsB x = a at *
  generalize fo blsP x * fo blsP x * fo blsP x = X3 at *
  generalize fo blsP x * fo blsP x = X2 at *
  generalize fo blsP x = X1 at *
  obtain ⟨q, hq⟩ : ∃ q, q = blsP := ⟨_, rfl⟩
  rw [← hq] at ls kp
  clear hq
  have he : ((e + 1 : Nat) : Int) ≠ 0 := by omega
  generalize ((e + 1 : Nat) : Int) = e at *
  refine mk Tryz.func66 rfl rfl L0 RRb (by decide +kernel) fun A S hA hS => ?_
  obtain ⟨t7, t6, t5, h31⟩ := b8 A hA
  have nf : A.not false = true := i_not hA rfl
  have nt : A.not true = false := i_not hA rfl
  rw [← h31] at hbig
  rw [show decide (bs 0 / 32 < 4) = false from decide_eq_false (by omega)] at t7
  rw [show decide (bs 0 / 32 % 4 ≥ 2) = false from decide_eq_false (by omega)] at t6
  rw [show decide (bs 0 / 32 % 2 = 1) = true from decide_eq_true (by omega)] at t5
  have e0 : A.cmp .neq e 0 = true := by rw [i_ne hA, decide_eq_false he]; rfl
  have hbn : A.not (A.eqs [(.sb true, .sb (A.cmp .neq (A.bin .and .u8 (bs 0 : Int) 32) 0))]) = false := by rw [t5, hA]; rfl
  unfold bodyOf Tryz.f66
  cbv
  repeat (first
    | (refine ABr.t (by assumption) ?_; cbv)
    | (refine ABr.f (by assumption) ?_; cbv)
    | (refine ABr.t rfl ?_; cbv)
    | (refine ABr.f rfl ?_; cbv)
    | (refine ACall.mk _ (cf hS kcl) ?_; cbv)
    | (refine ACall.mk _ (cg hS hbig ?_) ?_; (focus (cbv; done)); cbv)
    | (refine ACall.mk _ (cf hS k) ?_; cbv)
    | (refine ACall.mk _ (cf hS kp) ?_; cbv)
    | (refine ACall.mk _ (cf hS ls) ?_; cbv)
    | (refine ACall.mk _ (cf hS ki) ?_; cbv)
    | (refine ACall.mk _ (cf hS m1) ?_; cbv)
    | (refine ACall.mk _ (cf hS m2) ?_; cbv)
    | (refine ACall.mk _ (cf hS ad) ?_; cbv)
    | (refine ACall.mk _ (cf hS rt) ?_; cbv)
    | (refine ACall.mk _ (cf hS ko) ?_; cbv)
    | (refine ACall.mk _ (cf hS ab) ?_; cbv)
    | (refine ACall.mk _ (cg hS gr ?_) ?_; (focus (cbv; done)); cbv))
  repeat' (first | exact (l0 _).symm | exact rfl | exact trivial | constructor)
end Go.Proofs.YtmholgclgamnnaaGreat
