import Derived.Test.YtmholgclgamnnaaGreatQXDW
import Derived.Test.YtmholgclgamnnaaGreatQXDU
set_option linter.unusedVariables false
set_option linter.unusedSimpArgs false
set_option linter.unusedSectionVars false
set_option maxRecDepth 100000
set_option exponentiation.threshold 2000
set_option maxHeartbeats 4000000
section
namespace Go.Proofs.YtmholgclgamnnaaGreat
open Go Eng
theorem rrP6_0 {H : H5} (hH : H = H5.real) {c : Cu blsP} (hc : c = blsC) {bs : Nat → Nat} (hb : ∀ i, bs i < 256) (hf : bs 0 / 32 = 4) (hx : numB (bareB bs) 48 < blsP) (hrt : rtF (rhsB (numB (bareB bs) 48)) * rtF (rhsB (numB (bareB bs) 48)) ≠ rhsB (numB (bareB bs) 48)) : Sp 70 [.lst false 48 (q0x48 bs)] (.tup [NoPt, .s .i64 71]) := by
 have k := rBls1S hH hc
 have b5 := fun A hA => bits5 (A := A) hA (hb 0)
 have hbig := rbareBig hH hb
 have hx384 : numB (bareB bs) 48 < 2 ^ 384 := Vb_lt 48 fun j _ => bare_lt hb _
 have h1c : c.one = fo blsP 1 := by rw [hc]; rfl
 have ls := rLess6 (H5.hlim hH) _ blsP hx384 (by decide) true (decide_eq_true hx).symm
 generalize numB (bareB bs) 48 = x at *
 obtain ⟨X, rfl⟩ : ∃ X : Fin blsP, x = X.val := ⟨⟨x, hx⟩, rfl⟩
 have m1 := mulR6_1 hH blsPr c X X
 have m2 := mulR6_1 hH blsPr c (X * X) X
 have ad := addR6_1 hH blsPr c (X * X * X) c.b1
 have ea : X * X * X + c.b1 = rhsB X.val := by unfold rhsB; rw [fo_val, hc]
 rw [ea] at ad
 have rt := (rRoot6 hH blsPr.toMod (rhsB X.val).isLt (rtF (rhsB X.val)).val (by rw [hH]; rfl)).2 (fun e => hrt (Fin.ext ((Fin.val_mul _ _).trans (by rw [hH] at e; exact e))))
 clear hrt ea
 generalize rhsB X.val = a at *
 generalize X * X * X = X3 at *
 generalize X * X = X2 at *
 refine mk Tryz.func70 rfl rfl L0 RRl (by decide +kernel) fun A S hA hS => ?_
 obtain ⟨lt4, ge6, eq7, eq6, eq5, h31⟩ := b5 A hA
 have nf : A.not false = true := i_not hA rfl
 have nt : A.not true = false := i_not hA rfl
 rw [← h31] at hbig
 rw [show decide (bs 0 / 32 < 4) = false from decide_eq_false (by omega)] at lt4
 rw [show decide (bs 0 / 32 ≥ 6) = false from decide_eq_false (by omega)] at ge6
 rw [show decide (bs 0 / 32 = 7) = false from decide_eq_false (by omega)] at eq7
 rw [show decide (bs 0 / 32 = 6) = false from decide_eq_false (by omega)] at eq6
 rw [show decide (bs 0 / 32 = 5) = false from decide_eq_false (by omega)] at eq5
 unfold bodyOf Tryz.f70
 cbv
 repeat ((first | refine ABr.t (by first | assumption | rfl) ?_ | refine ABr.f (by first | assumption | rfl) ?_ | (refine aG hS k ?_ ?_; focus (cbv; done)) | (refine aG hS hbig ?_ ?_; focus (cbv; done)) | (refine aG hS ls ?_ ?_; focus (cbv; done)) | (refine aG hS m1 ?_ ?_; focus (cbv; done)) | (refine aG hS m2 ?_ ?_; focus (cbv; done)) | (refine aG hS ad ?_ ?_; focus (cbv; done)) | (refine aG hS rt ?_ ?_; focus (cbv; done))); cbv)
theorem rrP7_000 {H : H5} (hH : H = H5.real) {c : Cu blsP} (hc : c = blsC) {bs : Nat → Nat} (hb : ∀ i, bs i < 256) (hf : bs 0 / 32 = 4) (hx : numB (bareB bs) 48 < blsP) (hrt : rtF (rhsB (numB (bareB bs) 48)) * rtF (rhsB (numB (bareB bs) 48)) = rhsB (numB (bareB bs) 48)) (hu : decide (blsP / 2 < (rtF (rhsB (numB (bareB bs) 48))).val) = false) (hg : grpP blsC.b1 ⟨numB (bareB bs) 48, (rtF (rhsB (numB (bareB bs) 48))).val, false⟩ blsR = 0) : Sp 70 [.lst false 48 (q0x48 bs)] (.tup [PR6_1 H ⟨numB (bareB bs) 48, (rtF (rhsB (numB (bareB bs) 48))).val, false⟩, .s .i64 ((0 : Nat) : Int)]) := by
 have k := rBls1S hH hc
 have b5 := fun A hA => bits5 (A := A) hA (hb 0)
 have hbig := rbareBig hH hb
 have hx384 : numB (bareB bs) 48 < 2 ^ 384 := Vb_lt 48 fun j _ => bare_lt hb _
 have h1c : c.one = fo blsP 1 := by rw [hc]; rfl
 have ls := rLess6 (H5.hlim hH) _ blsP hx384 (by decide) true (decide_eq_true hx).symm
 generalize numB (bareB bs) 48 = x at *
 obtain ⟨X, rfl⟩ : ∃ X : Fin blsP, x = X.val := ⟨⟨x, hx⟩, rfl⟩
 have m1 := mulR6_1 hH blsPr c X X
 have m2 := mulR6_1 hH blsPr c (X * X) X
 have ad := addR6_1 hH blsPr c (X * X * X) c.b1
 have ea : X * X * X + c.b1 = rhsB X.val := by unfold rhsB; rw [fo_val, hc]
 rw [ea] at ad
 have rt := (rRoot6 hH blsPr.toMod (rhsB X.val).isLt (rtF (rhsB X.val)).val (by rw [hH]; rfl)).1 (by rw [hH]; exact (Fin.val_mul _ _).symm.trans (congrArg Fin.val hrt))
 have ab := greaterS hH blsPr c (rtF (rhsB X.val))
 rw [← above_law blsPr, hu] at ab
 have hyl : (rtF (rhsB X.val)).val < 2 ^ 384 := Nat.lt_trans (Fin.isLt _) (by decide)
 have gr := rGrp6_1 hH blsPr h1c ⟨X.val, (rtF (rhsB X.val)).val, false⟩ hx384 hyl
 rw [← grpP_eq blsPr] at gr
 have eg : grpP c.b1 ⟨X.val, (rtF (rhsB X.val)).val, false⟩ c.r = grpP blsC.b1 ⟨X.val, (rtF (rhsB X.val)).val, false⟩ blsR := by rw [hc]; rfl
 rw [eg, hg] at gr
 clear hrt hu hg eg hyl ea h1c
 generalize rtF (rhsB X.val) = r at *
 generalize rhsB X.val = a at *
 generalize X * X * X = X3 at *
 generalize X * X = X2 at *
 refine mk Tryz.func70 rfl rfl L0 RRl (by decide +kernel) fun A S hA hS => ?_
 obtain ⟨lt4, ge6, eq7, eq6, eq5, h31⟩ := b5 A hA
 have nf : A.not false = true := i_not hA rfl
 have nt : A.not true = false := i_not hA rfl
 rw [← h31] at hbig
 rw [show decide (bs 0 / 32 < 4) = false from decide_eq_false (by omega)] at lt4
 rw [show decide (bs 0 / 32 ≥ 6) = false from decide_eq_false (by omega)] at ge6
 rw [show decide (bs 0 / 32 = 7) = false from decide_eq_false (by omega)] at eq7
 rw [show decide (bs 0 / 32 = 6) = false from decide_eq_false (by omega)] at eq6
 rw [show decide (bs 0 / 32 = 5) = false from decide_eq_false (by omega)] at eq5
 have e0 : A.cmp .neq ((0 : Nat) : Int) 0 = false := i_ne hA
 have hbn : A.not (A.eqs [(.sb false, .sb (A.cmp .eql (A.bin .shr .u8 (bs 0 : Int) 5) 5))]) = false := by rw [eq5, hA]; rfl
 unfold bodyOf Tryz.f70
 cbv
 repeat ((first | refine ABr.t (by first | assumption | rfl) ?_ | refine ABr.f (by first | assumption | rfl) ?_ | (refine aG hS k ?_ ?_; focus (cbv; done)) | (refine aG hS hbig ?_ ?_; focus (cbv; done)) | (refine aG hS ls ?_ ?_; focus (cbv; done)) | (refine aG hS m1 ?_ ?_; focus (cbv; done)) | (refine aG hS m2 ?_ ?_; focus (cbv; done)) | (refine aG hS ad ?_ ?_; focus (cbv; done)) | (refine aG hS rt ?_ ?_; focus (cbv; done)) | (refine aG hS ab ?_ ?_; focus (cbv; done)) | (refine aG hS gr ?_ ?_; focus (cbv; done))); cbv)
theorem rrP7_001 {H : H5} (hH : H = H5.real) {c : Cu blsP} (hc : c = blsC) {bs : Nat → Nat} (hb : ∀ i, bs i < 256) (hf : bs 0 / 32 = 4) (hx : numB (bareB bs) 48 < blsP) (hrt : rtF (rhsB (numB (bareB bs) 48)) * rtF (rhsB (numB (bareB bs) 48)) = rhsB (numB (bareB bs) 48)) (hu : decide (blsP / 2 < (rtF (rhsB (numB (bareB bs) 48))).val) = false) {e : Nat} (hg : grpP blsC.b1 ⟨numB (bareB bs) 48, (rtF (rhsB (numB (bareB bs) 48))).val, false⟩ blsR = e + 1) : Sp 70 [.lst false 48 (q0x48 bs)] (.tup [NoPt, .s .i64 ((e + 1 : Nat) : Int)]) := by
 have k := rBls1S hH hc
 have b5 := fun A hA => bits5 (A := A) hA (hb 0)
 have hbig := rbareBig hH hb
 have hx384 : numB (bareB bs) 48 < 2 ^ 384 := Vb_lt 48 fun j _ => bare_lt hb _
 have h1c : c.one = fo blsP 1 := by rw [hc]; rfl
 have ls := rLess6 (H5.hlim hH) _ blsP hx384 (by decide) true (decide_eq_true hx).symm
 generalize numB (bareB bs) 48 = x at *
 obtain ⟨X, rfl⟩ : ∃ X : Fin blsP, x = X.val := ⟨⟨x, hx⟩, rfl⟩
 have m1 := mulR6_1 hH blsPr c X X
 have m2 := mulR6_1 hH blsPr c (X * X) X
 have ad := addR6_1 hH blsPr c (X * X * X) c.b1
 have ea : X * X * X + c.b1 = rhsB X.val := by unfold rhsB; rw [fo_val, hc]
 rw [ea] at ad
 have rt := (rRoot6 hH blsPr.toMod (rhsB X.val).isLt (rtF (rhsB X.val)).val (by rw [hH]; rfl)).1 (by rw [hH]; exact (Fin.val_mul _ _).symm.trans (congrArg Fin.val hrt))
 have ab := greaterS hH blsPr c (rtF (rhsB X.val))
 rw [← above_law blsPr, hu] at ab
 have hyl : (rtF (rhsB X.val)).val < 2 ^ 384 := Nat.lt_trans (Fin.isLt _) (by decide)
 have gr := rGrp6_1 hH blsPr h1c ⟨X.val, (rtF (rhsB X.val)).val, false⟩ hx384 hyl
 rw [← grpP_eq blsPr] at gr
 have eg : grpP c.b1 ⟨X.val, (rtF (rhsB X.val)).val, false⟩ c.r = grpP blsC.b1 ⟨X.val, (rtF (rhsB X.val)).val, false⟩ blsR := by rw [hc]; rfl
 rw [eg, hg] at gr
 clear hrt hu hg eg hyl ea h1c
 generalize rtF (rhsB X.val) = r at *
 generalize rhsB X.val = a at *
 generalize X * X * X = X3 at *
 generalize X * X = X2 at *
 have he : ((e + 1 : Nat) : Int) ≠ 0 := by omega
 generalize ((e + 1 : Nat) : Int) = e at *
 refine mk Tryz.func70 rfl rfl L0 RRl (by decide +kernel) fun A S hA hS => ?_
 obtain ⟨lt4, ge6, eq7, eq6, eq5, h31⟩ := b5 A hA
 have nf : A.not false = true := i_not hA rfl
 have nt : A.not true = false := i_not hA rfl
 rw [← h31] at hbig
 rw [show decide (bs 0 / 32 < 4) = false from decide_eq_false (by omega)] at lt4
 rw [show decide (bs 0 / 32 ≥ 6) = false from decide_eq_false (by omega)] at ge6
 rw [show decide (bs 0 / 32 = 7) = false from decide_eq_false (by omega)] at eq7
 rw [show decide (bs 0 / 32 = 6) = false from decide_eq_false (by omega)] at eq6
 rw [show decide (bs 0 / 32 = 5) = false from decide_eq_false (by omega)] at eq5
 have e0 : A.cmp .neq e 0 = true := by rw [i_ne hA, decide_eq_false he]; rfl
 have hbn : A.not (A.eqs [(.sb false, .sb (A.cmp .eql (A.bin .shr .u8 (bs 0 : Int) 5) 5))]) = false := by rw [eq5, hA]; rfl
 unfold bodyOf Tryz.f70
 cbv
 repeat ((first | refine ABr.t (by first | assumption | rfl) ?_ | refine ABr.f (by first | assumption | rfl) ?_ | (refine aG hS k ?_ ?_; focus (cbv; done)) | (refine aG hS hbig ?_ ?_; focus (cbv; done)) | (refine aG hS ls ?_ ?_; focus (cbv; done)) | (refine aG hS m1 ?_ ?_; focus (cbv; done)) | (refine aG hS m2 ?_ ?_; focus (cbv; done)) | (refine aG hS ad ?_ ?_; focus (cbv; done)) | (refine aG hS rt ?_ ?_; focus (cbv; done)) | (refine aG hS ab ?_ ?_; focus (cbv; done)) | (refine aG hS gr ?_ ?_; focus (cbv; done))); cbv)
theorem rrP7_010 {H : H5} (hH : H = H5.real) {c : Cu blsP} (hc : c = blsC) {bs : Nat → Nat} (hb : ∀ i, bs i < 256) (hf : bs 0 / 32 = 4) (hx : numB (bareB bs) 48 < blsP) (hrt : rtF (rhsB (numB (bareB bs) 48)) * rtF (rhsB (numB (bareB bs) 48)) = rhsB (numB (bareB bs) 48)) (hu : decide (blsP / 2 < (rtF (rhsB (numB (bareB bs) 48))).val) = true) (hg : grpP blsC.b1 ⟨numB (bareB bs) 48, (0 - rtF (rhsB (numB (bareB bs) 48))).val, false⟩ blsR = 0) : Sp 70 [.lst false 48 (q0x48 bs)] (.tup [PR6_1 H ⟨numB (bareB bs) 48, (0 - rtF (rhsB (numB (bareB bs) 48))).val, false⟩, .s .i64 ((0 : Nat) : Int)]) := by
 have k := rBls1S hH hc
 have b5 := fun A hA => bits5 (A := A) hA (hb 0)
 have hbig := rbareBig hH hb
 have hx384 : numB (bareB bs) 48 < 2 ^ 384 := Vb_lt 48 fun j _ => bare_lt hb _
 have h1c : c.one = fo blsP 1 := by rw [hc]; rfl
 have ls := rLess6 (H5.hlim hH) _ blsP hx384 (by decide) true (decide_eq_true hx).symm
 generalize numB (bareB bs) 48 = x at *
 obtain ⟨X, rfl⟩ : ∃ X : Fin blsP, x = X.val := ⟨⟨x, hx⟩, rfl⟩
 have m1 := mulR6_1 hH blsPr c X X
 have m2 := mulR6_1 hH blsPr c (X * X) X
 have ad := addR6_1 hH blsPr c (X * X * X) c.b1
 have ea : X * X * X + c.b1 = rhsB X.val := by unfold rhsB; rw [fo_val, hc]
 rw [ea] at ad
 have rt := (rRoot6 hH blsPr.toMod (rhsB X.val).isLt (rtF (rhsB X.val)).val (by rw [hH]; rfl)).1 (by rw [hH]; exact (Fin.val_mul _ _).symm.trans (congrArg Fin.val hrt))
 have ab := greaterS hH blsPr c (rtF (rhsB X.val))
 rw [← above_law blsPr, hu] at ab
 have kn := rnumS6 (p := blsP) hH 0 (by decide)
 have sb := rSubF6 hH blsPr 0 (rtF (rhsB X.val))
 rw [show (0 : Fin blsP).val = 0 from rfl] at sb
 have hyl : (0 - rtF (rhsB X.val)).val < 2 ^ 384 := Nat.lt_trans (Fin.isLt _) (by decide)
 have gr := rGrp6_1 hH blsPr h1c ⟨X.val, (0 - rtF (rhsB X.val)).val, false⟩ hx384 hyl
 rw [← grpP_eq blsPr] at gr
 have eg : grpP c.b1 ⟨X.val, (0 - rtF (rhsB X.val)).val, false⟩ c.r = grpP blsC.b1 ⟨X.val, (0 - rtF (rhsB X.val)).val, false⟩ blsR := by rw [hc]; rfl
 rw [eg, hg] at gr
 clear hrt hu hg eg hyl ea h1c
 generalize (0 - rtF (rhsB X.val)).val = yv at *
 generalize rtF (rhsB X.val) = r at *
 generalize rhsB X.val = a at *
 generalize X * X * X = X3 at *
 generalize X * X = X2 at *
 refine mk Tryz.func70 rfl rfl L0 RRl (by decide +kernel) fun A S hA hS => ?_
 obtain ⟨lt4, ge6, eq7, eq6, eq5, h31⟩ := b5 A hA
 have nf : A.not false = true := i_not hA rfl
 have nt : A.not true = false := i_not hA rfl
 rw [← h31] at hbig
 rw [show decide (bs 0 / 32 < 4) = false from decide_eq_false (by omega)] at lt4
 rw [show decide (bs 0 / 32 ≥ 6) = false from decide_eq_false (by omega)] at ge6
 rw [show decide (bs 0 / 32 = 7) = false from decide_eq_false (by omega)] at eq7
 rw [show decide (bs 0 / 32 = 6) = false from decide_eq_false (by omega)] at eq6
 rw [show decide (bs 0 / 32 = 5) = false from decide_eq_false (by omega)] at eq5
 have e0 : A.cmp .neq ((0 : Nat) : Int) 0 = false := i_ne hA
 have hbn : A.not (A.eqs [(.sb true, .sb (A.cmp .eql (A.bin .shr .u8 (bs 0 : Int) 5) 5))]) = true := by rw [eq5, hA]; rfl
 unfold bodyOf Tryz.f70
 cbv
 repeat ((first | refine ABr.t (by first | assumption | rfl) ?_ | refine ABr.f (by first | assumption | rfl) ?_ | (refine aG hS k ?_ ?_; focus (cbv; done)) | (refine aG hS hbig ?_ ?_; focus (cbv; done)) | (refine aG hS ls ?_ ?_; focus (cbv; done)) | (refine aG hS m1 ?_ ?_; focus (cbv; done)) | (refine aG hS m2 ?_ ?_; focus (cbv; done)) | (refine aG hS ad ?_ ?_; focus (cbv; done)) | (refine aG hS rt ?_ ?_; focus (cbv; done)) | (refine aG hS ab ?_ ?_; focus (cbv; done)) | (refine aG hS kn ?_ ?_; focus (cbv; done)) | (refine aG hS sb ?_ ?_; focus (cbv; done)) | (refine aG hS gr ?_ ?_; focus (cbv; done))); cbv)
theorem rrP7_011 {H : H5} (hH : H = H5.real) {c : Cu blsP} (hc : c = blsC) {bs : Nat → Nat} (hb : ∀ i, bs i < 256) (hf : bs 0 / 32 = 4) (hx : numB (bareB bs) 48 < blsP) (hrt : rtF (rhsB (numB (bareB bs) 48)) * rtF (rhsB (numB (bareB bs) 48)) = rhsB (numB (bareB bs) 48)) (hu : decide (blsP / 2 < (rtF (rhsB (numB (bareB bs) 48))).val) = true) {e : Nat} (hg : grpP blsC.b1 ⟨numB (bareB bs) 48, (0 - rtF (rhsB (numB (bareB bs) 48))).val, false⟩ blsR = e + 1) : Sp 70 [.lst false 48 (q0x48 bs)] (.tup [NoPt, .s .i64 ((e + 1 : Nat) : Int)]) := by
 have k := rBls1S hH hc
 have b5 := fun A hA => bits5 (A := A) hA (hb 0)
 have hbig := rbareBig hH hb
 have hx384 : numB (bareB bs) 48 < 2 ^ 384 := Vb_lt 48 fun j _ => bare_lt hb _
 have h1c : c.one = fo blsP 1 := by rw [hc]; rfl
 have ls := rLess6 (H5.hlim hH) _ blsP hx384 (by decide) true (decide_eq_true hx).symm
 generalize numB (bareB bs) 48 = x at *
 obtain ⟨X, rfl⟩ : ∃ X : Fin blsP, x = X.val := ⟨⟨x, hx⟩, rfl⟩
 have m1 := mulR6_1 hH blsPr c X X
 have m2 := mulR6_1 hH blsPr c (X * X) X
 have ad := addR6_1 hH blsPr c (X * X * X) c.b1
 have ea : X * X * X + c.b1 = rhsB X.val := by unfold rhsB; rw [fo_val, hc]
 rw [ea] at ad
 have rt := (rRoot6 hH blsPr.toMod (rhsB X.val).isLt (rtF (rhsB X.val)).val (by rw [hH]; rfl)).1 (by rw [hH]; exact (Fin.val_mul _ _).symm.trans (congrArg Fin.val hrt))
 have ab := greaterS hH blsPr c (rtF (rhsB X.val))
 rw [← above_law blsPr, hu] at ab
 have kn := rnumS6 (p := blsP) hH 0 (by decide)
 have sb := rSubF6 hH blsPr 0 (rtF (rhsB X.val))
 rw [show (0 : Fin blsP).val = 0 from rfl] at sb
 have hyl : (0 - rtF (rhsB X.val)).val < 2 ^ 384 := Nat.lt_trans (Fin.isLt _) (by decide)
 have gr := rGrp6_1 hH blsPr h1c ⟨X.val, (0 - rtF (rhsB X.val)).val, false⟩ hx384 hyl
 rw [← grpP_eq blsPr] at gr
 have eg : grpP c.b1 ⟨X.val, (0 - rtF (rhsB X.val)).val, false⟩ c.r = grpP blsC.b1 ⟨X.val, (0 - rtF (rhsB X.val)).val, false⟩ blsR := by rw [hc]; rfl
 rw [eg, hg] at gr
 clear hrt hu hg eg hyl ea h1c
 generalize (0 - rtF (rhsB X.val)).val = yv at *
 generalize rtF (rhsB X.val) = r at *
 generalize rhsB X.val = a at *
 generalize X * X * X = X3 at *
 generalize X * X = X2 at *
 have he : ((e + 1 : Nat) : Int) ≠ 0 := by omega
 generalize ((e + 1 : Nat) : Int) = e at *
 refine mk Tryz.func70 rfl rfl L0 RRl (by decide +kernel) fun A S hA hS => ?_
 obtain ⟨lt4, ge6, eq7, eq6, eq5, h31⟩ := b5 A hA
 have nf : A.not false = true := i_not hA rfl
 have nt : A.not true = false := i_not hA rfl
 rw [← h31] at hbig
 rw [show decide (bs 0 / 32 < 4) = false from decide_eq_false (by omega)] at lt4
 rw [show decide (bs 0 / 32 ≥ 6) = false from decide_eq_false (by omega)] at ge6
 rw [show decide (bs 0 / 32 = 7) = false from decide_eq_false (by omega)] at eq7
 rw [show decide (bs 0 / 32 = 6) = false from decide_eq_false (by omega)] at eq6
 rw [show decide (bs 0 / 32 = 5) = false from decide_eq_false (by omega)] at eq5
 have e0 : A.cmp .neq e 0 = true := by rw [i_ne hA, decide_eq_false he]; rfl
 have hbn : A.not (A.eqs [(.sb true, .sb (A.cmp .eql (A.bin .shr .u8 (bs 0 : Int) 5) 5))]) = true := by rw [eq5, hA]; rfl
 unfold bodyOf Tryz.f70
 cbv
 repeat ((first | refine ABr.t (by first | assumption | rfl) ?_ | refine ABr.f (by first | assumption | rfl) ?_ | (refine aG hS k ?_ ?_; focus (cbv; done)) | (refine aG hS hbig ?_ ?_; focus (cbv; done)) | (refine aG hS ls ?_ ?_; focus (cbv; done)) | (refine aG hS m1 ?_ ?_; focus (cbv; done)) | (refine aG hS m2 ?_ ?_; focus (cbv; done)) | (refine aG hS ad ?_ ?_; focus (cbv; done)) | (refine aG hS rt ?_ ?_; focus (cbv; done)) | (refine aG hS ab ?_ ?_; focus (cbv; done)) | (refine aG hS kn ?_ ?_; focus (cbv; done)) | (refine aG hS sb ?_ ?_; focus (cbv; done)) | (refine aG hS gr ?_ ?_; focus (cbv; done))); cbv)
theorem rrP6_1 {H : H5} (hH : H = H5.real) {c : Cu blsP} (hc : c = blsC) {bs : Nat → Nat} (hb : ∀ i, bs i < 256) (hf : bs 0 / 32 = 5) (hx : numB (bareB bs) 48 < blsP) (hrt : rtF (rhsB (numB (bareB bs) 48)) * rtF (rhsB (numB (bareB bs) 48)) ≠ rhsB (numB (bareB bs) 48)) : Sp 70 [.lst false 48 (q0x48 bs)] (.tup [NoPt, .s .i64 71]) := by
 have k := rBls1S hH hc
 have b5 := fun A hA => bits5 (A := A) hA (hb 0)
 have hbig := rbareBig hH hb
 have hx384 : numB (bareB bs) 48 < 2 ^ 384 := Vb_lt 48 fun j _ => bare_lt hb _
 have h1c : c.one = fo blsP 1 := by rw [hc]; rfl
 have ls := rLess6 (H5.hlim hH) _ blsP hx384 (by decide) true (decide_eq_true hx).symm
 generalize numB (bareB bs) 48 = x at *
 obtain ⟨X, rfl⟩ : ∃ X : Fin blsP, x = X.val := ⟨⟨x, hx⟩, rfl⟩
 have m1 := mulR6_1 hH blsPr c X X
 have m2 := mulR6_1 hH blsPr c (X * X) X
 have ad := addR6_1 hH blsPr c (X * X * X) c.b1
 have ea : X * X * X + c.b1 = rhsB X.val := by unfold rhsB; rw [fo_val, hc]
 rw [ea] at ad
 have rt := (rRoot6 hH blsPr.toMod (rhsB X.val).isLt (rtF (rhsB X.val)).val (by rw [hH]; rfl)).2 (fun e => hrt (Fin.ext ((Fin.val_mul _ _).trans (by rw [hH] at e; exact e))))
 clear hrt ea
 generalize rhsB X.val = a at *
 generalize X * X * X = X3 at *
 generalize X * X = X2 at *
 refine mk Tryz.func70 rfl rfl L0 RRl (by decide +kernel) fun A S hA hS => ?_
 obtain ⟨lt4, ge6, eq7, eq6, eq5, h31⟩ := b5 A hA
 have nf : A.not false = true := i_not hA rfl
 have nt : A.not true = false := i_not hA rfl
 rw [← h31] at hbig
 rw [show decide (bs 0 / 32 < 4) = false from decide_eq_false (by omega)] at lt4
 rw [show decide (bs 0 / 32 ≥ 6) = false from decide_eq_false (by omega)] at ge6
 rw [show decide (bs 0 / 32 = 7) = false from decide_eq_false (by omega)] at eq7
 rw [show decide (bs 0 / 32 = 6) = false from decide_eq_false (by omega)] at eq6
 rw [show decide (bs 0 / 32 = 5) = true from decide_eq_true (by omega)] at eq5
 unfold bodyOf Tryz.f70
 cbv
 repeat ((first | refine ABr.t (by first | assumption | rfl) ?_ | refine ABr.f (by first | assumption | rfl) ?_ | (refine aG hS k ?_ ?_; focus (cbv; done)) | (refine aG hS hbig ?_ ?_; focus (cbv; done)) | (refine aG hS ls ?_ ?_; focus (cbv; done)) | (refine aG hS m1 ?_ ?_; focus (cbv; done)) | (refine aG hS m2 ?_ ?_; focus (cbv; done)) | (refine aG hS ad ?_ ?_; focus (cbv; done)) | (refine aG hS rt ?_ ?_; focus (cbv; done))); cbv)
theorem rrP7_100 {H : H5} (hH : H = H5.real) {c : Cu blsP} (hc : c = blsC) {bs : Nat → Nat} (hb : ∀ i, bs i < 256) (hf : bs 0 / 32 = 5) (hx : numB (bareB bs) 48 < blsP) (hrt : rtF (rhsB (numB (bareB bs) 48)) * rtF (rhsB (numB (bareB bs) 48)) = rhsB (numB (bareB bs) 48)) (hu : decide (blsP / 2 < (rtF (rhsB (numB (bareB bs) 48))).val) = false) (hg : grpP blsC.b1 ⟨numB (bareB bs) 48, (0 - rtF (rhsB (numB (bareB bs) 48))).val, false⟩ blsR = 0) : Sp 70 [.lst false 48 (q0x48 bs)] (.tup [PR6_1 H ⟨numB (bareB bs) 48, (0 - rtF (rhsB (numB (bareB bs) 48))).val, false⟩, .s .i64 ((0 : Nat) : Int)]) := by
 have k := rBls1S hH hc
 have b5 := fun A hA => bits5 (A := A) hA (hb 0)
 have hbig := rbareBig hH hb
 have hx384 : numB (bareB bs) 48 < 2 ^ 384 := Vb_lt 48 fun j _ => bare_lt hb _
 have h1c : c.one = fo blsP 1 := by rw [hc]; rfl
 have ls := rLess6 (H5.hlim hH) _ blsP hx384 (by decide) true (decide_eq_true hx).symm
 generalize numB (bareB bs) 48 = x at *
 obtain ⟨X, rfl⟩ : ∃ X : Fin blsP, x = X.val := ⟨⟨x, hx⟩, rfl⟩
 have m1 := mulR6_1 hH blsPr c X X
 have m2 := mulR6_1 hH blsPr c (X * X) X
 have ad := addR6_1 hH blsPr c (X * X * X) c.b1
 have ea : X * X * X + c.b1 = rhsB X.val := by unfold rhsB; rw [fo_val, hc]
 rw [ea] at ad
 have rt := (rRoot6 hH blsPr.toMod (rhsB X.val).isLt (rtF (rhsB X.val)).val (by rw [hH]; rfl)).1 (by rw [hH]; exact (Fin.val_mul _ _).symm.trans (congrArg Fin.val hrt))
 have ab := greaterS hH blsPr c (rtF (rhsB X.val))
 rw [← above_law blsPr, hu] at ab
 have kn := rnumS6 (p := blsP) hH 0 (by decide)
 have sb := rSubF6 hH blsPr 0 (rtF (rhsB X.val))
 rw [show (0 : Fin blsP).val = 0 from rfl] at sb
 have hyl : (0 - rtF (rhsB X.val)).val < 2 ^ 384 := Nat.lt_trans (Fin.isLt _) (by decide)
 have gr := rGrp6_1 hH blsPr h1c ⟨X.val, (0 - rtF (rhsB X.val)).val, false⟩ hx384 hyl
 rw [← grpP_eq blsPr] at gr
 have eg : grpP c.b1 ⟨X.val, (0 - rtF (rhsB X.val)).val, false⟩ c.r = grpP blsC.b1 ⟨X.val, (0 - rtF (rhsB X.val)).val, false⟩ blsR := by rw [hc]; rfl
 rw [eg, hg] at gr
 clear hrt hu hg eg hyl ea h1c
 generalize (0 - rtF (rhsB X.val)).val = yv at *
 generalize rtF (rhsB X.val) = r at *
 generalize rhsB X.val = a at *
 generalize X * X * X = X3 at *
 generalize X * X = X2 at *
 refine mk Tryz.func70 rfl rfl L0 RRl (by decide +kernel) fun A S hA hS => ?_
 obtain ⟨lt4, ge6, eq7, eq6, eq5, h31⟩ := b5 A hA
 have nf : A.not false = true := i_not hA rfl
 have nt : A.not true = false := i_not hA rfl
 rw [← h31] at hbig
 rw [show decide (bs 0 / 32 < 4) = false from decide_eq_false (by omega)] at lt4
 rw [show decide (bs 0 / 32 ≥ 6) = false from decide_eq_false (by omega)] at ge6
 rw [show decide (bs 0 / 32 = 7) = false from decide_eq_false (by omega)] at eq7
 rw [show decide (bs 0 / 32 = 6) = false from decide_eq_false (by omega)] at eq6
 rw [show decide (bs 0 / 32 = 5) = true from decide_eq_true (by omega)] at eq5
 have e0 : A.cmp .neq ((0 : Nat) : Int) 0 = false := i_ne hA
 have hbn : A.not (A.eqs [(.sb false, .sb (A.cmp .eql (A.bin .shr .u8 (bs 0 : Int) 5) 5))]) = true := by rw [eq5, hA]; rfl
 unfold bodyOf Tryz.f70
 cbv
 repeat ((first | refine ABr.t (by first | assumption | rfl) ?_ | refine ABr.f (by first | assumption | rfl) ?_ | (refine aG hS k ?_ ?_; focus (cbv; done)) | (refine aG hS hbig ?_ ?_; focus (cbv; done)) | (refine aG hS ls ?_ ?_; focus (cbv; done)) | (refine aG hS m1 ?_ ?_; focus (cbv; done)) | (refine aG hS m2 ?_ ?_; focus (cbv; done)) | (refine aG hS ad ?_ ?_; focus (cbv; done)) | (refine aG hS rt ?_ ?_; focus (cbv; done)) | (refine aG hS ab ?_ ?_; focus (cbv; done)) | (refine aG hS kn ?_ ?_; focus (cbv; done)) | (refine aG hS sb ?_ ?_; focus (cbv; done)) | (refine aG hS gr ?_ ?_; focus (cbv; done))); cbv)
theorem rrP7_101 {H : H5} (hH : H = H5.real) {c : Cu blsP} (hc : c = blsC) {bs : Nat → Nat} (hb : ∀ i, bs i < 256) (hf : bs 0 / 32 = 5) (hx : numB (bareB bs) 48 < blsP) (hrt : rtF (rhsB (numB (bareB bs) 48)) * rtF (rhsB (numB (bareB bs) 48)) = rhsB (numB (bareB bs) 48)) (hu : decide (blsP / 2 < (rtF (rhsB (numB (bareB bs) 48))).val) = false) {e : Nat} (hg : grpP blsC.b1 ⟨numB (bareB bs) 48, (0 - rtF (rhsB (numB (bareB bs) 48))).val, false⟩ blsR = e + 1) : Sp 70 [.lst false 48 (q0x48 bs)] (.tup [NoPt, .s .i64 ((e + 1 : Nat) : Int)]) := by
 have k := rBls1S hH hc
 have b5 := fun A hA => bits5 (A := A) hA (hb 0)
 have hbig := rbareBig hH hb
 have hx384 : numB (bareB bs) 48 < 2 ^ 384 := Vb_lt 48 fun j _ => bare_lt hb _
 have h1c : c.one = fo blsP 1 := by rw [hc]; rfl
 have ls := rLess6 (H5.hlim hH) _ blsP hx384 (by decide) true (decide_eq_true hx).symm
 generalize numB (bareB bs) 48 = x at *
 obtain ⟨X, rfl⟩ : ∃ X : Fin blsP, x = X.val := ⟨⟨x, hx⟩, rfl⟩
 have m1 := mulR6_1 hH blsPr c X X
 have m2 := mulR6_1 hH blsPr c (X * X) X
 have ad := addR6_1 hH blsPr c (X * X * X) c.b1
 have ea : X * X * X + c.b1 = rhsB X.val := by unfold rhsB; rw [fo_val, hc]
 rw [ea] at ad
 have rt := (rRoot6 hH blsPr.toMod (rhsB X.val).isLt (rtF (rhsB X.val)).val (by rw [hH]; rfl)).1 (by rw [hH]; exact (Fin.val_mul _ _).symm.trans (congrArg Fin.val hrt))
 have ab := greaterS hH blsPr c (rtF (rhsB X.val))
 rw [← above_law blsPr, hu] at ab
 have kn := rnumS6 (p := blsP) hH 0 (by decide)
 have sb := rSubF6 hH blsPr 0 (rtF (rhsB X.val))
 rw [show (0 : Fin blsP).val = 0 from rfl] at sb
 have hyl : (0 - rtF (rhsB X.val)).val < 2 ^ 384 := Nat.lt_trans (Fin.isLt _) (by decide)
 have gr := rGrp6_1 hH blsPr h1c ⟨X.val, (0 - rtF (rhsB X.val)).val, false⟩ hx384 hyl
 rw [← grpP_eq blsPr] at gr
 have eg : grpP c.b1 ⟨X.val, (0 - rtF (rhsB X.val)).val, false⟩ c.r = grpP blsC.b1 ⟨X.val, (0 - rtF (rhsB X.val)).val, false⟩ blsR := by rw [hc]; rfl
 rw [eg, hg] at gr
 clear hrt hu hg eg hyl ea h1c
 generalize (0 - rtF (rhsB X.val)).val = yv at *
 generalize rtF (rhsB X.val) = r at *
 generalize rhsB X.val = a at *
 generalize X * X * X = X3 at *
 generalize X * X = X2 at *
 have he : ((e + 1 : Nat) : Int) ≠ 0 := by omega
 generalize ((e + 1 : Nat) : Int) = e at *
 refine mk Tryz.func70 rfl rfl L0 RRl (by decide +kernel) fun A S hA hS => ?_
 obtain ⟨lt4, ge6, eq7, eq6, eq5, h31⟩ := b5 A hA
 have nf : A.not false = true := i_not hA rfl
 have nt : A.not true = false := i_not hA rfl
 rw [← h31] at hbig
 rw [show decide (bs 0 / 32 < 4) = false from decide_eq_false (by omega)] at lt4
 rw [show decide (bs 0 / 32 ≥ 6) = false from decide_eq_false (by omega)] at ge6
 rw [show decide (bs 0 / 32 = 7) = false from decide_eq_false (by omega)] at eq7
 rw [show decide (bs 0 / 32 = 6) = false from decide_eq_false (by omega)] at eq6
 rw [show decide (bs 0 / 32 = 5) = true from decide_eq_true (by omega)] at eq5
 have e0 : A.cmp .neq e 0 = true := by rw [i_ne hA, decide_eq_false he]; rfl
 have hbn : A.not (A.eqs [(.sb false, .sb (A.cmp .eql (A.bin .shr .u8 (bs 0 : Int) 5) 5))]) = true := by rw [eq5, hA]; rfl
 unfold bodyOf Tryz.f70
 cbv
 repeat ((first | refine ABr.t (by first | assumption | rfl) ?_ | refine ABr.f (by first | assumption | rfl) ?_ | (refine aG hS k ?_ ?_; focus (cbv; done)) | (refine aG hS hbig ?_ ?_; focus (cbv; done)) | (refine aG hS ls ?_ ?_; focus (cbv; done)) | (refine aG hS m1 ?_ ?_; focus (cbv; done)) | (refine aG hS m2 ?_ ?_; focus (cbv; done)) | (refine aG hS ad ?_ ?_; focus (cbv; done)) | (refine aG hS rt ?_ ?_; focus (cbv; done)) | (refine aG hS ab ?_ ?_; focus (cbv; done)) | (refine aG hS kn ?_ ?_; focus (cbv; done)) | (refine aG hS sb ?_ ?_; focus (cbv; done)) | (refine aG hS gr ?_ ?_; focus (cbv; done))); cbv)
theorem rrP7_110 {H : H5} (hH : H = H5.real) {c : Cu blsP} (hc : c = blsC) {bs : Nat → Nat} (hb : ∀ i, bs i < 256) (hf : bs 0 / 32 = 5) (hx : numB (bareB bs) 48 < blsP) (hrt : rtF (rhsB (numB (bareB bs) 48)) * rtF (rhsB (numB (bareB bs) 48)) = rhsB (numB (bareB bs) 48)) (hu : decide (blsP / 2 < (rtF (rhsB (numB (bareB bs) 48))).val) = true) (hg : grpP blsC.b1 ⟨numB (bareB bs) 48, (rtF (rhsB (numB (bareB bs) 48))).val, false⟩ blsR = 0) : Sp 70 [.lst false 48 (q0x48 bs)] (.tup [PR6_1 H ⟨numB (bareB bs) 48, (rtF (rhsB (numB (bareB bs) 48))).val, false⟩, .s .i64 ((0 : Nat) : Int)]) := by
 have k := rBls1S hH hc
 have b5 := fun A hA => bits5 (A := A) hA (hb 0)
 have hbig := rbareBig hH hb
 have hx384 : numB (bareB bs) 48 < 2 ^ 384 := Vb_lt 48 fun j _ => bare_lt hb _
 have h1c : c.one = fo blsP 1 := by rw [hc]; rfl
 have ls := rLess6 (H5.hlim hH) _ blsP hx384 (by decide) true (decide_eq_true hx).symm
 generalize numB (bareB bs) 48 = x at *
 obtain ⟨X, rfl⟩ : ∃ X : Fin blsP, x = X.val := ⟨⟨x, hx⟩, rfl⟩
 have m1 := mulR6_1 hH blsPr c X X
 have m2 := mulR6_1 hH blsPr c (X * X) X
 have ad := addR6_1 hH blsPr c (X * X * X) c.b1
 have ea : X * X * X + c.b1 = rhsB X.val := by unfold rhsB; rw [fo_val, hc]
 rw [ea] at ad
 have rt := (rRoot6 hH blsPr.toMod (rhsB X.val).isLt (rtF (rhsB X.val)).val (by rw [hH]; rfl)).1 (by rw [hH]; exact (Fin.val_mul _ _).symm.trans (congrArg Fin.val hrt))
 have ab := greaterS hH blsPr c (rtF (rhsB X.val))
 rw [← above_law blsPr, hu] at ab
 have hyl : (rtF (rhsB X.val)).val < 2 ^ 384 := Nat.lt_trans (Fin.isLt _) (by decide)
 have gr := rGrp6_1 hH blsPr h1c ⟨X.val, (rtF (rhsB X.val)).val, false⟩ hx384 hyl
 rw [← grpP_eq blsPr] at gr
 have eg : grpP c.b1 ⟨X.val, (rtF (rhsB X.val)).val, false⟩ c.r = grpP blsC.b1 ⟨X.val, (rtF (rhsB X.val)).val, false⟩ blsR := by rw [hc]; rfl
 rw [eg, hg] at gr
 clear hrt hu hg eg hyl ea h1c
 generalize rtF (rhsB X.val) = r at *
 generalize rhsB X.val = a at *
 generalize X * X * X = X3 at *
 generalize X * X = X2 at *
 refine mk Tryz.func70 rfl rfl L0 RRl (by decide +kernel) fun A S hA hS => ?_
 obtain ⟨lt4, ge6, eq7, eq6, eq5, h31⟩ := b5 A hA
 have nf : A.not false = true := i_not hA rfl
 have nt : A.not true = false := i_not hA rfl
 rw [← h31] at hbig
 rw [show decide (bs 0 / 32 < 4) = false from decide_eq_false (by omega)] at lt4
 rw [show decide (bs 0 / 32 ≥ 6) = false from decide_eq_false (by omega)] at ge6
 rw [show decide (bs 0 / 32 = 7) = false from decide_eq_false (by omega)] at eq7
 rw [show decide (bs 0 / 32 = 6) = false from decide_eq_false (by omega)] at eq6
 rw [show decide (bs 0 / 32 = 5) = true from decide_eq_true (by omega)] at eq5
 have e0 : A.cmp .neq ((0 : Nat) : Int) 0 = false := i_ne hA
 have hbn : A.not (A.eqs [(.sb true, .sb (A.cmp .eql (A.bin .shr .u8 (bs 0 : Int) 5) 5))]) = false := by rw [eq5, hA]; rfl
 unfold bodyOf Tryz.f70
 cbv
 repeat ((first | refine ABr.t (by first | assumption | rfl) ?_ | refine ABr.f (by first | assumption | rfl) ?_ | (refine aG hS k ?_ ?_; focus (cbv; done)) | (refine aG hS hbig ?_ ?_; focus (cbv; done)) | (refine aG hS ls ?_ ?_; focus (cbv; done)) | (refine aG hS m1 ?_ ?_; focus (cbv; done)) | (refine aG hS m2 ?_ ?_; focus (cbv; done)) | (refine aG hS ad ?_ ?_; focus (cbv; done)) | (refine aG hS rt ?_ ?_; focus (cbv; done)) | (refine aG hS ab ?_ ?_; focus (cbv; done)) | (refine aG hS gr ?_ ?_; focus (cbv; done))); cbv)
theorem rrP7_111 {H : H5} (hH : H = H5.real) {c : Cu blsP} (hc : c = blsC) {bs : Nat → Nat} (hb : ∀ i, bs i < 256) (hf : bs 0 / 32 = 5) (hx : numB (bareB bs) 48 < blsP) (hrt : rtF (rhsB (numB (bareB bs) 48)) * rtF (rhsB (numB (bareB bs) 48)) = rhsB (numB (bareB bs) 48)) (hu : decide (blsP / 2 < (rtF (rhsB (numB (bareB bs) 48))).val) = true) {e : Nat} (hg : grpP blsC.b1 ⟨numB (bareB bs) 48, (rtF (rhsB (numB (bareB bs) 48))).val, false⟩ blsR = e + 1) : Sp 70 [.lst false 48 (q0x48 bs)] (.tup [NoPt, .s .i64 ((e + 1 : Nat) : Int)]) := by
 have k := rBls1S hH hc
 have b5 := fun A hA => bits5 (A := A) hA (hb 0)
 have hbig := rbareBig hH hb
 have hx384 : numB (bareB bs) 48 < 2 ^ 384 := Vb_lt 48 fun j _ => bare_lt hb _
 have h1c : c.one = fo blsP 1 := by rw [hc]; rfl
 have ls := rLess6 (H5.hlim hH) _ blsP hx384 (by decide) true (decide_eq_true hx).symm
 generalize numB (bareB bs) 48 = x at *
 obtain ⟨X, rfl⟩ : ∃ X : Fin blsP, x = X.val := ⟨⟨x, hx⟩, rfl⟩
 have m1 := mulR6_1 hH blsPr c X X
 have m2 := mulR6_1 hH blsPr c (X * X) X
 have ad := addR6_1 hH blsPr c (X * X * X) c.b1
 have ea : X * X * X + c.b1 = rhsB X.val := by unfold rhsB; rw [fo_val, hc]
 rw [ea] at ad
 have rt := (rRoot6 hH blsPr.toMod (rhsB X.val).isLt (rtF (rhsB X.val)).val (by rw [hH]; rfl)).1 (by rw [hH]; exact (Fin.val_mul _ _).symm.trans (congrArg Fin.val hrt))
 have ab := greaterS hH blsPr c (rtF (rhsB X.val))
 rw [← above_law blsPr, hu] at ab
 have hyl : (rtF (rhsB X.val)).val < 2 ^ 384 := Nat.lt_trans (Fin.isLt _) (by decide)
 have gr := rGrp6_1 hH blsPr h1c ⟨X.val, (rtF (rhsB X.val)).val, false⟩ hx384 hyl
 rw [← grpP_eq blsPr] at gr
 have eg : grpP c.b1 ⟨X.val, (rtF (rhsB X.val)).val, false⟩ c.r = grpP blsC.b1 ⟨X.val, (rtF (rhsB X.val)).val, false⟩ blsR := by rw [hc]; rfl
 rw [eg, hg] at gr
 clear hrt hu hg eg hyl ea h1c
 generalize rtF (rhsB X.val) = r at *
 generalize rhsB X.val = a at *
 generalize X * X * X = X3 at *
 generalize X * X = X2 at *
 have he : ((e + 1 : Nat) : Int) ≠ 0 := by omega
 generalize ((e + 1 : Nat) : Int) = e at *
 refine mk Tryz.func70 rfl rfl L0 RRl (by decide +kernel) fun A S hA hS => ?_
 obtain ⟨lt4, ge6, eq7, eq6, eq5, h31⟩ := b5 A hA
 have nf : A.not false = true := i_not hA rfl
 have nt : A.not true = false := i_not hA rfl
 rw [← h31] at hbig
 rw [show decide (bs 0 / 32 < 4) = false from decide_eq_false (by omega)] at lt4
 rw [show decide (bs 0 / 32 ≥ 6) = false from decide_eq_false (by omega)] at ge6
 rw [show decide (bs 0 / 32 = 7) = false from decide_eq_false (by omega)] at eq7
 rw [show decide (bs 0 / 32 = 6) = false from decide_eq_false (by omega)] at eq6
 rw [show decide (bs 0 / 32 = 5) = true from decide_eq_true (by omega)] at eq5
 have e0 : A.cmp .neq e 0 = true := by rw [i_ne hA, decide_eq_false he]; rfl
 have hbn : A.not (A.eqs [(.sb true, .sb (A.cmp .eql (A.bin .shr .u8 (bs 0 : Int) 5) 5))]) = false := by rw [eq5, hA]; rfl
 unfold bodyOf Tryz.f70
 cbv
 repeat ((first | refine ABr.t (by first | assumption | rfl) ?_ | refine ABr.f (by first | assumption | rfl) ?_ | (refine aG hS k ?_ ?_; focus (cbv; done)) | (refine aG hS hbig ?_ ?_; focus (cbv; done)) | (refine aG hS ls ?_ ?_; focus (cbv; done)) | (refine aG hS m1 ?_ ?_; focus (cbv; done)) | (refine aG hS m2 ?_ ?_; focus (cbv; done)) | (refine aG hS ad ?_ ?_; focus (cbv; done)) | (refine aG hS rt ?_ ?_; focus (cbv; done)) | (refine aG hS ab ?_ ?_; focus (cbv; done)) | (refine aG hS gr ?_ ?_; focus (cbv; done))); cbv)
theorem RdN_succ (X Y : AVal) (e : Nat) : RdN X (e + 1) = RdN Y (e + 1) := rfl
theorem rReadBlsS {H : H5} (hH : H = H5.real) {c : Cu blsP} (hc : c = blsC) {bs : Nat → Nat} (hb : ∀ i, bs i < 256) {P : PtA} {e : Nat} (hr : rdB (bs 0 / 32) (allz (bareB bs) 48) (numB (bareB bs) 48) = (P, e)) : Sp 70 [.lst false 48 (q0x48 bs)] (RdN (PR6_1 H P) e) := by
 have h8 : bs 0 / 32 < 8 := by have := hb 0; omega
 rw [allz_num (bare_lt hb)] at hr
 by_cases h4 : bs 0 / 32 < 4
 . unfold rdB at hr; rw [if_pos h4] at hr
   obtain ⟨rfl, rfl⟩ := Prod.mk.inj hr
   exact rrP2 hH hc hb h4
 by_cases h7 : bs 0 / 32 = 7
 . unfold rdB at hr; rw [if_neg h4, if_pos (by omega), if_neg (fun h => by omega)] at hr
   obtain ⟨rfl, rfl⟩ := Prod.mk.inj hr
   exact rrP3 hH hc hb h7
 by_cases h6 : bs 0 / 32 = 6
 . by_cases hz : numB (bareB bs) 48 = 0
   . unfold rdB at hr; rw [if_neg h4, if_pos (by omega), if_pos ⟨h6, decide_eq_true hz⟩] at hr
     obtain ⟨rfl, rfl⟩ := Prod.mk.inj hr
     exact rrP4 hH hc hb h6 hz
   . unfold rdB at hr; rw [if_neg h4, if_pos (by omega), if_neg (fun h => hz (of_decide_eq_true h.2))] at hr
     obtain ⟨rfl, rfl⟩ := Prod.mk.inj hr
     exact rrP3b hH hc hb h6 hz
 have h45 : bs 0 / 32 = 4 ∨ bs 0 / 32 = 5 := by omega
 unfold rdB at hr; rw [if_neg h4, if_neg (by omega)] at hr
 by_cases hx : numB (bareB bs) 48 < blsP
 . rw [if_neg (fun h => h hx)] at hr
   by_cases hrt : rtF (rhsB (numB (bareB bs) 48)) * rtF (rhsB (numB (bareB bs) 48)) = rhsB (numB (bareB bs) 48)
   . rw [if_neg (fun h => h hrt)] at hr
     rcases h45 with hf | hf
     . rw [show decide (bs 0 / 32 = 5) = false by rw [hf]; rfl] at hr
       cases hu : decide (blsP / 2 < (rtF (rhsB (numB (bareB bs) 48))).val)
       . have ep : ptB (numB (bareB bs) 48) false = ⟨numB (bareB bs) 48, (rtF (rhsB (numB (bareB bs) 48))).val, false⟩ := by unfold ptB; rw [pickY_ff hu]
         rw [ep] at hr
         cases hg : grpP blsC.b1 ⟨numB (bareB bs) 48, (rtF (rhsB (numB (bareB bs) 48))).val, false⟩ blsR with
         | zero =>
           rw [hg, if_neg (fun h => h rfl)] at hr
           obtain ⟨rfl, rfl⟩ := Prod.mk.inj hr
           exact rrP7_000 hH hc hb hf hx hrt hu hg
         | succ e =>
           rw [hg, if_pos (Nat.succ_ne_zero e)] at hr
           obtain ⟨rfl, rfl⟩ := Prod.mk.inj hr
           exact rrP7_001 hH hc hb hf hx hrt hu hg
       . have ep : ptB (numB (bareB bs) 48) false = ⟨numB (bareB bs) 48, (0 - rtF (rhsB (numB (bareB bs) 48))).val, false⟩ := by unfold ptB; rw [pickY_tf hu]
         rw [ep] at hr
         cases hg : grpP blsC.b1 ⟨numB (bareB bs) 48, (0 - rtF (rhsB (numB (bareB bs) 48))).val, false⟩ blsR with
         | zero =>
           rw [hg, if_neg (fun h => h rfl)] at hr
           obtain ⟨rfl, rfl⟩ := Prod.mk.inj hr
           exact rrP7_010 hH hc hb hf hx hrt hu hg
         | succ e =>
           rw [hg, if_pos (Nat.succ_ne_zero e)] at hr
           obtain ⟨rfl, rfl⟩ := Prod.mk.inj hr
           exact rrP7_011 hH hc hb hf hx hrt hu hg
     . rw [show decide (bs 0 / 32 = 5) = true by rw [hf]; rfl] at hr
       cases hu : decide (blsP / 2 < (rtF (rhsB (numB (bareB bs) 48))).val)
       . have ep : ptB (numB (bareB bs) 48) true = ⟨numB (bareB bs) 48, (0 - rtF (rhsB (numB (bareB bs) 48))).val, false⟩ := by unfold ptB; rw [pickY_ft hu]
         rw [ep] at hr
         cases hg : grpP blsC.b1 ⟨numB (bareB bs) 48, (0 - rtF (rhsB (numB (bareB bs) 48))).val, false⟩ blsR with
         | zero =>
           rw [hg, if_neg (fun h => h rfl)] at hr
           obtain ⟨rfl, rfl⟩ := Prod.mk.inj hr
           exact rrP7_100 hH hc hb hf hx hrt hu hg
         | succ e =>
           rw [hg, if_pos (Nat.succ_ne_zero e)] at hr
           obtain ⟨rfl, rfl⟩ := Prod.mk.inj hr
           exact rrP7_101 hH hc hb hf hx hrt hu hg
       . have ep : ptB (numB (bareB bs) 48) true = ⟨numB (bareB bs) 48, (rtF (rhsB (numB (bareB bs) 48))).val, false⟩ := by unfold ptB; rw [pickY_tt hu]
         rw [ep] at hr
         cases hg : grpP blsC.b1 ⟨numB (bareB bs) 48, (rtF (rhsB (numB (bareB bs) 48))).val, false⟩ blsR with
         | zero =>
           rw [hg, if_neg (fun h => h rfl)] at hr
           obtain ⟨rfl, rfl⟩ := Prod.mk.inj hr
           exact rrP7_110 hH hc hb hf hx hrt hu hg
         | succ e =>
           rw [hg, if_pos (Nat.succ_ne_zero e)] at hr
           obtain ⟨rfl, rfl⟩ := Prod.mk.inj hr
           exact rrP7_111 hH hc hb hf hx hrt hu hg
   . rw [if_pos hrt] at hr
     obtain ⟨rfl, rfl⟩ := Prod.mk.inj hr
     rcases h45 with hf | hf
     . exact rrP6_0 hH hc hb hf hx hrt
     . exact rrP6_1 hH hc hb hf hx hrt
 . rw [if_pos hx] at hr
   obtain ⟨rfl, rfl⟩ := Prod.mk.inj hr
   rcases h45 with hf | hf
   . exact rrP5_0 hH hc hb hf hx
   . exact rrP5_1 hH hc hb hf hx
theorem rdB_zero {f x : Nat} {z : Bool} {P : PtA} {e : Nat} (h : rdB f z x = (P, e)) (he : e ≠ 0) : P = ⟨0, 0, false⟩ := by
 unfold rdB at h
 by_cases h4 : f < 4
 . rw [if_pos h4] at h; exact (Prod.mk.inj h).1.symm
 rw [if_neg h4] at h
 by_cases h6 : 6 ≤ f
 . rw [if_pos h6] at h
   by_cases hz : f = 6 ∧ z = true
   . rw [if_pos hz] at h; exact absurd (Prod.mk.inj h).2.symm he
   . rw [if_neg hz] at h; exact (Prod.mk.inj h).1.symm
 rw [if_neg h6] at h
 by_cases hx : x < blsP
 . rw [if_neg (fun e => e hx)] at h
   generalize rtF (rhsB x) * rtF (rhsB x) = a at *
   by_cases hr : a = rhsB x
   . rw [if_neg (fun e => e hr)] at h
     generalize ptB x (decide (f = 5)) = R at *
     by_cases hg : grpP blsC.b1 R blsR = 0
     . rw [if_neg (fun e => e hg)] at h; exact absurd (Prod.mk.inj h).2.symm he
     . rw [if_pos hg] at h; exact (Prod.mk.inj h).1.symm
   . rw [if_pos hr] at h; exact (Prod.mk.inj h).1.symm
 . rw [if_pos hx] at h; exact (Prod.mk.inj h).1.symm
theorem by6f_num {bs : Nat → Nat} (hb : ∀ i, bs i < 256) {x f : Nat} (hx : numB (bareB bs) 48 = x) (hf : bs 0 / 32 * 32 = f) : by6f byteN x f = (List.range 48).map fun j => AVal.s .u8 (bs j : Nat) := by
 have e : by6f byteN x f = (List.range 48).map fun j => AVal.s .u8 (wbs x f j : Nat) := by rw [by6f_eq]; rfl
 rw [e]
 refine List.map_congr_left fun j hj => ?_
 have hj := List.mem_range.1 hj
 have hd := numB_dig (bare_lt hb) hj
 rw [hx] at hd
 cases j with
 | zero =>
   have h0 : bs 0 % 32 = x / 2 ^ (8 * 47) % 256 := hd
   have : wbs x f 0 = bs 0 := by show x / 2 ^ (8 * 47) % 256 + f = bs 0; omega
   rw [this]
 | succ i =>
   have h1 : bs (i + 1) = x / 2 ^ (8 * (48 - 1 - (i + 1))) % 256 := hd
   have : wbs x f (i + 1) = bs (i + 1) := by rw [h1, show 48 - 1 - (i + 1) = 46 - i by omega]; rfl
   rw [this]
theorem jn6 {H : H5} (hH : H = H5.real) {B : Nat → Nat → Int} (hB : B = byteN) {c : Cu blsP} (hc : c = blsC) {row : List AVal} {bs : Nat → Nat} {k : Nat} (hrow : IsRowB row bs k) (hk : k ≤ 140737488355328) :
   ∃ (P : PtA) (e : Nat), Sp 66 [.lst true k row] (.tup [P1_6 H P, .s .i64 ((e : Nat) : Int)]) ∧ Sp 70 [.lst true k row] (RdN (PR6_1 H P) e) ∧ (e ≠ 0 → P = ⟨0, 0, false⟩) ∧
     (e = 0 → k = 48 ∧ row = by6f B P.x (flg P) ∧ good1 c.b1 P = 0) ∧ P.x < 2 ^ 384 ∧ P.y < 2 ^ 384 := by
 have hb := hrow.2.2
 by_cases h : k = 48
 . subst h
   have hl := rowB_eq hrow
   have s1 := readBls1S hH hc hb
   cases hr : rdB (bs 0 / 32) (allz (bareB bs) 48) (numB (bareB bs) 48) with
   | mk P e =>
   rw [hr] at s1
   have s2 := rReadBlsS hH hc hb hr
   have key : e = 0 → P.x = numB (bareB bs) 48 ∧ flg P = 32 * (bs 0 / 32) ∧ good1 blsC.b1 P = 0 ∧ numB (bareB bs) 48 < blsP := fun he => by
     subst he
     exact fwd (by have := hb 0; omega) (allz_num (bare_lt hb)) hr
   have hz := rdB_zero hr
   refine ⟨P, e, ?_, ?_, hz, fun he => ⟨rfl, ?_, ?_⟩, ?_, ?_⟩
   . rw [hl]; exact Spec.args s1 (by cbv)
   . rw [hl]; exact Spec.args s2 (by cbv)
   . obtain ⟨h1, h2, _, _⟩ := key he
     rw [hl, hB, by6f_num hb h1.symm (by rw [h2]; exact Nat.mul_comm _ _)]
   . rw [hc]; exact (key he).2.2.1
   . by_cases he : e = 0
     . obtain ⟨h1, _, _, h4⟩ := key he
       rw [h1]; exact Nat.lt_trans h4 (by decide)
     . rw [hz he]; exact Nat.two_pow_pos _
   . by_cases he : e = 0
     . exact Nat.lt_trans (good_lt (key he).2.2.1).2 (by decide)
     . rw [hz he]; exact Nat.two_pow_pos _
 . exact ⟨⟨0, 0, false⟩, 1 + 1, readBls1L hH h hk, rReadBlsL hH h hk, fun _ => rfl, (fun e => by cases e), Nat.two_pow_pos _, Nat.two_pow_pos _⟩
theorem bnP1_of (bs : Nat → Nat) : (bnP1 bs).x = numB (fun j => bs (0 + j)) 32 ∧ (bnP1 bs).y = numB (fun j => bs (32 + j)) 32 ∧ (bnP1 bs).inf = (decide (numB (fun j => bs (0 + j)) 32 = 0) && decide (numB (fun j => bs (32 + j)) 32 = 0)) := ⟨rfl, rfl, rfl⟩
theorem allz64 {bs : Nat → Nat} (hb : ∀ i, bs i < 256) : allz bs 64 = (decide (numB (fun j => bs (0 + j)) 32 = 0) && decide (numB (fun j => bs (32 + j)) 32 = 0)) := by
 rw [show (64 : Nat) = 32 + 32 from rfl, allz_app, ← allz0 bs 32, allz_num (fun i => hb (0 + i)), allz_num (fun i => hb (32 + i))]
theorem rel1 {p : Nat} [NeZero p] (b : Fin p) {bs : Nat → Nat} (hb : ∀ i, bs i < 256) : ∃ (P : PtA) (e : Nat), readP b bs = (P, e) ∧ good1 b (bnP1 bs) = e ∧ (e = 0 → P = bnP1 bs) ∧ (e ≠ 0 → P = ⟨0, 0, false⟩) ∧ ((bnP1 bs).inf = true → (bnP1 bs).x = 0 ∧ (bnP1 bs).y = 0) := by
 obtain ⟨e1, e2, e3⟩ := bnP1_of bs
 have ha := allz64 hb
 unfold readP
 rw [ha]
 generalize bnP1 bs = R at *
 generalize numB (fun j => bs (0 + j)) 32 = X at *
 generalize numB (fun j => bs (32 + j)) 32 = Y at *
 obtain ⟨x, y, inf⟩ := R
 dsimp only at e1 e2 e3
 subst e1 e2 e3
 cases hz : (decide (x = 0) && decide (y = 0)) with
 | true =>
   rw [if_pos rfl]
   have h2 := (Bool.and_eq_true _ _).mp hz
   have hx := of_decide_eq_true h2.1
   have hy := of_decide_eq_true h2.2
   subst hx hy
   refine ⟨_, 0, rfl, ?_, fun _ => rfl, fun h => absurd rfl h, fun _ => ⟨rfl, rfl⟩⟩
   unfold good1
   rw [if_pos rfl, if_pos ⟨rfl, rfl⟩]
 | false =>
   rw [if_neg Bool.false_ne_true]
   by_cases hg : good1 b ⟨x, y, false⟩ = 0
   . rw [if_neg (fun h => h hg)]
     exact ⟨_, 0, rfl, hg, fun _ => rfl, fun h => absurd rfl h, fun h => absurd h Bool.false_ne_true⟩
   . rw [if_pos hg]
     exact ⟨_, _, rfl, rfl, fun h => absurd h hg, fun _ => rfl, fun h => absurd h Bool.false_ne_true⟩
theorem jn1 {H : H5} (hH : H = H5.real) {B : Nat → Nat → Int} (hB : B = byteN) {c : Cu bnP} (hc : c = bnC) {row : List AVal} {bs : Nat → Nat} {k : Nat} (hrow : IsRowB row bs k) (hk : k ≤ 140737488355328) :
   ∃ (P : PtA) (e : Nat), Sp 67 [.lst true k row] (.tup [P1_4 H P, .s .i64 ((e : Nat) : Int)]) ∧ Sp 68 [Cr4_1 H c, .lst true k row] (RdN (PR4_1 H P) e) ∧ (e ≠ 0 → P = ⟨0, 0, false⟩) ∧
     (e = 0 → k = 64 ∧ row = by4 B (wr P.inf P.x) ++ by4 B (wr P.inf P.y)) ∧ P.x < 2 ^ 256 ∧ P.y < 2 ^ 256 := by
 have hb := hrow.2.2
 by_cases h : k = 64
 . subst h
   have hl := rowB_eq hrow
   have s1 := readBn1S hH hc bs hb
   have s2 := rReadBn1S hH hc bs hb
   have vlt : ∀ o, numB (fun j => bs (o + j)) 32 < 2 ^ 256 := fun o => Vb_lt 32 fun j _ => hb _
   obtain ⟨e1, e2, _⟩ := bnP1_of bs
   obtain ⟨P, e, hr, hg, hp, hz, hi⟩ := rel1 c.b1 hb
   rw [hr] at s1
   rw [hg] at s2
   clear hr hg
   have b1 : (bnP1 bs).x < 2 ^ 256 := by rw [e1]; exact vlt 0
   have b2 : (bnP1 bs).y < 2 ^ 256 := by rw [e2]; exact vlt 32
   have w : row = by4 B (bnP1 bs).x ++ by4 B (bnP1 bs).y := by
     rw [hl, hB, e1, e2, by4_num (fun i => hb (0 + i)), by4_num (fun i => hb (32 + i)), row0b, show (64 : Nat) = 32 + 32 from rfl, row_app]
   clear e1 e2 vlt
   refine ⟨P, e, ?_, ?_, hz, fun he => ⟨rfl, ?_⟩, ?_, ?_⟩
   . rw [hl]; exact Spec.args s1 (by cbv)
   . have er : RdN (PR4_1 H (bnP1 bs)) e = RdN (PR4_1 H P) e := by
       cases e with
       | zero => rw [hp rfl]
       | succ e => exact RdN_succ _ _ _
     rw [er] at s2
     rw [hl]; exact Spec.args s2 (by cbv)
   . rw [hp he, wr_z (fun h => (hi h).1), wr_z (fun h => (hi h).2)]; exact w
   . by_cases he : e = 0
     . rw [hp he]; exact b1
     . rw [hz he]; exact Nat.two_pow_pos _
   . by_cases he : e = 0
     . rw [hp he]; exact b2
     . rw [hz he]; exact Nat.two_pow_pos _
 . exact ⟨⟨0, 0, false⟩, 1 + 1, readBn1L hH h hk, rReadBn1L c h hk, fun _ => rfl, (fun e => by cases e), Nat.two_pow_pos _, Nat.two_pow_pos _⟩
theorem bnP2_of (bs : Nat → Nat) : (bnP2 bs).xa = numB (fun j => bs (32 + j)) 32 ∧ (bnP2 bs).xb = numB (fun j => bs (0 + j)) 32 ∧ (bnP2 bs).ya = numB (fun j => bs (96 + j)) 32 ∧ (bnP2 bs).yb = numB (fun j => bs (64 + j)) 32 ∧ (bnP2 bs).inf = (((decide (numB (fun j => bs (0 + j)) 32 = 0) && decide (numB (fun j => bs (32 + j)) 32 = 0)) && decide (numB (fun j => bs (64 + j)) 32 = 0)) && decide (numB (fun j => bs (96 + j)) 32 = 0)) := ⟨rfl, rfl, rfl, rfl, rfl⟩
theorem allz128 {bs : Nat → Nat} (hb : ∀ i, bs i < 256) : allz bs 128 = (((decide (numB (fun j => bs (0 + j)) 32 = 0) && decide (numB (fun j => bs (32 + j)) 32 = 0)) && decide (numB (fun j => bs (64 + j)) 32 = 0)) && decide (numB (fun j => bs (96 + j)) 32 = 0)) := by
 rw [show (128 : Nat) = 32 + 32 + 32 + 32 from rfl, allz_app, allz_app, allz_app, ← allz0 bs 32, allz_num (fun i => hb (0 + i)), allz_num (fun i => hb (32 + i)), allz_num (fun i => hb (32 + 32 + i)), allz_num (fun i => hb (32 + 32 + 32 + i))]
theorem jn2 {H : H5} (hH : H = H5.real) {B : Nat → Nat → Int} (hB : B = byteN) {c : Cu bnP} (hc : c = bnC) {row : List AVal} {bs : Nat → Nat} {k : Nat} (hrow : IsRowB row bs k) (hk : k ≤ 140737488355328) :
   ∃ (P : PtB) (e : Nat), Sp 69 [.lst true k row] (.tup [P2_4 H P, .s .i64 ((e : Nat) : Int)]) ∧ Sp 68 [Cr4_2 H c, .lst true k row] (RdN (PR4_2 H P) e) ∧ (e ≠ 0 → P = ⟨0, 0, 0, 0, false⟩) ∧
     (e = 0 → k = 128 ∧ row = by4 B (wr P.inf P.xb) ++ (by4 B (wr P.inf P.xa) ++ (by4 B (wr P.inf P.yb) ++ by4 B (wr P.inf P.ya)))) ∧ (P.xa < 2 ^ 256 ∧ P.xb < 2 ^ 256 ∧ P.ya < 2 ^ 256 ∧ P.yb < 2 ^ 256) := by
 have hb := hrow.2.2
 by_cases h : k = 128
 . subst h
   have hl := rowB_eq hrow
   have h1c : c.one = fo bnP 1 := by rw [hc]; rfl
   have hr : c.r < 2 ^ 256 := by rw [hc]; decide
   have vlt : ∀ o, numB (fun j => bs (o + j)) 32 < 2 ^ 256 := fun o => Vb_lt 32 fun j _ => hb _
   have hn : Sp 141 [.lst true 128 (q0x128 bs)] (.sb (allz bs 128)) := noughtsS (row := (List.range 128).map fun j => .s .u8 (bs j : Nat)) (by decide) ⟨by simp, fun i hi => by rw [Nat.mul_one]; exact lsub_rowC (fun j => .s .u8 (bs j : Nat)) 128 i hi, hb⟩
   have gr := grpS2_4 hH bnPr (c := c) h1c hr ⟨numB (fun j => bs (32 + j)) 32, numB (fun j => bs (0 + j)) 32, numB (fun j => bs (96 + j)) 32, numB (fun j => bs (64 + j)) 32, false⟩ (vlt 32) (vlt 0) (vlt 96) (vlt 64)
   have s1 := readBn2C hH c bs _ _ _ _ _ _ hn (four128 hH bs hb) (BnS hH hc) gr
   have s2 := rReadBn2S hH hc bs hb
   obtain ⟨e1, e2, e3, e4, e5⟩ := bnP2_of bs
   have ha := allz128 hb
   have w : row = by4 B (bnP2 bs).xb ++ (by4 B (bnP2 bs).xa ++ (by4 B (bnP2 bs).yb ++ by4 B (bnP2 bs).ya)) := by
     rw [hl, hB, e1, e2, e3, e4, by4_num (fun i => hb (0 + i)), by4_num (fun i => hb (32 + i)), by4_num (fun i => hb (64 + i)), by4_num (fun i => hb (96 + i)), row0b, show (128 : Nat) = 32 + 32 + 32 + 32 from rfl, row_app, row_app, row_app, List.append_assoc, List.append_assoc]
   have v0 := vlt 0
   have v1 := vlt 32
   have v2 := vlt 64
   have v3 := vlt 96
   clear hn gr vlt
   rw [ha] at s1
   clear ha
   generalize bnP2 bs = R at *
   generalize numB (fun j => bs (0 + j)) 32 = x0 at *
   generalize numB (fun j => bs (32 + j)) 32 = x1 at *
   generalize numB (fun j => bs (64 + j)) 32 = x2 at *
   generalize numB (fun j => bs (96 + j)) 32 = x3 at *
   obtain ⟨xa, xb, ya, yb, inf⟩ := R
   dsimp only at e1 e2 e3 e4 e5 w
   subst e1 e2 e3 e4 e5
   rw [hl]
   rw [hl] at w
   cases hz : (((decide (xb = 0) && decide (xa = 0)) && decide (yb = 0)) && decide (ya = 0)) with
   | true =>
     rw [hz] at s1 s2
     have z1 := (Bool.and_eq_true _ _).mp hz
     have z2 := (Bool.and_eq_true _ _).mp z1.1
     have z3 := (Bool.and_eq_true _ _).mp z2.1
     have h1 := of_decide_eq_true z1.2
     have h2 := of_decide_eq_true z2.2
     have h3 := of_decide_eq_true z3.2
     have h4 := of_decide_eq_true z3.1
     subst h1 h2 h3 h4
     have hg : grpQ c.b2 ⟨0, 0, 0, 0, true⟩ c.r = 0 := by
       have g0 : good2 c.b2 ⟨0, 0, 0, 0, true⟩ = 0 := by
         unfold good2
         rw [if_pos rfl, if_pos ⟨⟨rfl, rfl⟩, rfl, rfl⟩]
       rw [grpQ_eq bnPr, g0]
       rfl
     rw [hg] at s2
     refine ⟨⟨0, 0, 0, 0, true⟩, 0, Spec.args s1 (by cbv), Spec.args s2 (by cbv), fun h => absurd rfl h, fun _ => ⟨rfl, w⟩, Nat.two_pow_pos _, Nat.two_pow_pos _, Nat.two_pow_pos _, Nat.two_pow_pos _⟩
   | false =>
     rw [hz] at s1 s2
     cases hg : grpQ c.b2 ⟨xa, xb, ya, yb, false⟩ c.r with
     | zero =>
       rw [hg] at s1 s2
       exact ⟨⟨xa, xb, ya, yb, false⟩, 0, Spec.args s1 (by cbv), Spec.args s2 (by cbv), fun h => absurd rfl h, fun _ => ⟨rfl, w⟩, v1, v0, v3, v2⟩
     | succ e =>
       rw [hg] at s1 s2
       exact ⟨⟨0, 0, 0, 0, false⟩, e + 1, Spec.args s1 (by cbv), Spec.args s2 (by cbv), fun _ => rfl, (fun e => by cases e), Nat.two_pow_pos _, Nat.two_pow_pos _, Nat.two_pow_pos _, Nat.two_pow_pos _⟩
 . exact ⟨⟨0, 0, 0, 0, false⟩, 1 + 1, readBn2L hH h hk, rReadBn2L c h hk, fun _ => rfl, (fun e => by cases e), Nat.two_pow_pos _, Nat.two_pow_pos _, Nat.two_pow_pos _, Nat.two_pow_pos _⟩
end Go.Proofs.YtmholgclgamnnaaGreat
end
