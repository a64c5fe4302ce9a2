import Derived.Test.YtmholgclgamnnaaGreatQXDR
import Derived.Test.YtmholgclgamnnaaGreatQXDA
import Derived.Test.YtmholgclgamnnaaGreatQXN
set_option linter.unusedVariables false
set_option linter.unusedSimpArgs false
set_option linter.unusedSectionVars false
set_option maxRecDepth 100000
set_option exponentiation.threshold 2000
set_option maxHeartbeats 4000000
section
namespace Go.Proofs.YtmholgclgamnnaaGreat
open Go Eng
theorem bits8 {A : Ar} (hA : A = Ar.real) {b : Nat} (hb : b < 256) : A.cmp .eql (A.bin .and .u8 (b : Int) 128) 0 = decide (b / 32 < 4) ∧ A.cmp .neq (A.bin .and .u8 (b : Int) 64) 0 = decide (b / 32 % 4 ≥ 2) ∧ A.cmp .neq (A.bin .and .u8 (b : Int) 32) 0 = decide (b / 32 % 2 = 1) ∧ A.bin .and .u8 (b : Int) 31 = ((b % 32 : Nat) : Int) := by
 rw [hA]
 have : ∀ b : Fin 256, rcmp .eql (rbin .and .u8 (b.val : Int) 128) 0 = decide (b.val / 32 < 4) ∧ rcmp .neq (rbin .and .u8 (b.val : Int) 64) 0 = decide (b.val / 32 % 4 ≥ 2) ∧ rcmp .neq (rbin .and .u8 (b.val : Int) 32) 0 = decide (b.val / 32 % 2 = 1) ∧ rbin .and .u8 (b.val : Int) 31 = ((b.val % 32 : Nat) : Int) := by decide +kernel
 exact this ⟨b, hb⟩
def bareB (bs : Nat → Nat) : Nat → Nat
 | 0 => bs 0 % 32
 | i + 1 => bs (i + 1)
theorem bare_lt {bs : Nat → Nat} (hb : ∀ i, bs i < 256) : ∀ i, bareB bs i < 256
 | 0 => Nat.lt_trans (Nat.mod_lt _ (by decide)) (by decide : 32 < 256)
 | i + 1 => hb _
theorem rowB48 {bs : Nat → Nat} (hb : ∀ i, bs i < 256) : IsRowB ((List.range 48).map fun j => .s .u8 (bareB bs j : Nat)) (bareB bs) 48 :=
 ⟨by simp, fun i hi => by rw [Nat.mul_one]; exact lsub_rowC (fun j => .s .u8 (bareB bs j : Nat)) 48 i hi, bare_lt hb⟩
theorem bareNo {bs : Nat → Nat} (hb : ∀ i, bs i < 256) : Sp 141 [.lst true 48 [.s .u8 ((bs 0 % 32 : Nat) : Int), qb bs 1, qb bs 2, qb bs 3, qb bs 4, qb bs 5, qb bs 6, qb bs 7, qb bs 8, qb bs 9, qb bs 10, qb bs 11, qb bs 12, qb bs 13, qb bs 14, qb bs 15, qb bs 16, qb bs 17, qb bs 18, qb bs 19, qb bs 20, qb bs 21, qb bs 22, qb bs 23, qb bs 24, qb bs 25, qb bs 26, qb bs 27, qb bs 28, qb bs 29, qb bs 30, qb bs 31, qb bs 32, qb bs 33, qb bs 34, qb bs 35, qb bs 36, qb bs 37, qb bs 38, qb bs 39, qb bs 40, qb bs 41, qb bs 42, qb bs 43, qb bs 44, qb bs 45, qb bs 46, qb bs 47]] (.sb (allz (bareB bs) 48)) := noughtsS (by decide) (rowB48 hb)
theorem bareBig {H : H5} (hH : H = H5.real) {bs : Nat → Nat} (hb : ∀ i, bs i < 256) : Sp 142 [.lst true 48 [.s .u8 ((bs 0 % 32 : Nat) : Int), qb bs 1, qb bs 2, qb bs 3, qb bs 4, qb bs 5, qb bs 6, qb bs 7, qb bs 8, qb bs 9, qb bs 10, qb bs 11, qb bs 12, qb bs 13, qb bs 14, qb bs 15, qb bs 16, qb bs 17, qb bs 18, qb bs 19, qb bs 20, qb bs 21, qb bs 22, qb bs 23, qb bs 24, qb bs 25, qb bs 26, qb bs 27, qb bs 28, qb bs 29, qb bs 30, qb bs 31, qb bs 32, qb bs 33, qb bs 34, qb bs 35, qb bs 36, qb bs 37, qb bs 38, qb bs 39, qb bs 40, qb bs 41, qb bs 42, qb bs 43, qb bs 44, qb bs 45, qb bs 46, qb bs 47]] (.tup [u6 H.lim (numB (bareB bs) 48), .i .i64 0]) := bigS6 (H5.hlim hH) (rowB48 hb) (by decide)
def rtF {p : Nat} [NeZero p] (a : Fin p) : Fin p := ⟨a.val ^ ((p + 1) / 4) % p, Nat.mod_lt _ (Nat.pos_of_ne_zero (NeZero.ne p))⟩
theorem rootT {p : Nat} [NeZero p] {H : H5} (hH : H = H5.real) (hp : PrM 384 p) {a : Fin p} (h : rtF a * rtF a = a) : Sp 143 [.ref (R6 H p) 0, el6 H p a.val] (.tup [el6 H p (rtF a).val, .b true]) :=
 (RootS6 hH hp.toMod a.isLt (rtF a).val (by rw [hH]; rfl)).1 (by rw [hH]; exact (Fin.val_mul _ _).symm.trans (congrArg Fin.val h))
theorem rootN {p : Nat} [NeZero p] {H : H5} (hH : H = H5.real) (hp : PrM 384 p) {a : Fin p} (h : rtF a * rtF a ≠ a) : Sp 143 [.ref (R6 H p) 0, el6 H p a.val] (.tup [u6 H.lim 0, .b false]) :=
 (RootS6 hH hp.toMod a.isLt (rtF a).val (by rw [hH]; rfl)).2 (fun e => h (Fin.ext ((Fin.val_mul _ _).trans (by rw [hH] at e; exact e))))
def pickY {p : Nat} [NeZero p] (r : Fin p) (s : Bool) : Fin p := match decide (p / 2 < r.val) with
 | true => match s with | true => r | false => 0 - r
 | false => match s with | true => 0 - r | false => r
def rhsB (x : Nat) : Fin blsP := fo blsP x * fo blsP x * fo blsP x + blsC.b1
def ptB (x : Nat) (s : Bool) : PtA := ⟨x, (pickY (rtF (rhsB x)) s).val, false⟩
def rdB (f : Nat) (z : Bool) (x : Nat) : PtA × Nat :=
 if f < 4 then (⟨0, 0, false⟩, 73) else if 6 ≤ f then (if f = 6 ∧ z = true then (⟨0, 0, true⟩, 0) else (⟨0, 0, false⟩, 73))
 else if ¬ x < blsP then (⟨0, 0, false⟩, 70) else if rtF (rhsB x) * rtF (rhsB x) ≠ rhsB x then (⟨0, 0, false⟩, 71)
 else if grpP blsC.b1 (ptB x (decide (f = 5))) blsR ≠ 0 then (⟨0, 0, false⟩, grpP blsC.b1 (ptB x (decide (f = 5))) blsR) else (ptB x (decide (f = 5)), 0)
def RRb : Nat → Md := fun r => match r with | 6 => .own | _ => .mid
theorem readBls1L {H : H5} (hH : H = H5.real) {row : List AVal} {k : Nat} (hk : k ≠ 48) (hk2 : k ≤ 140737488355328) : Sp 66 [.lst true k row] (.tup [P1_6 H ⟨0, 0, false⟩, .s .i64 2]) := by
 have l0 := lim06 hH
 refine mk Tryz.func66 rfl rfl L0 RRb (by decide +kernel) fun A S hA hS => ?_
 have e : A.cmp .neq (A.len k) 48 = true := by rw [a_len hA, i_ne hA, decide_eq_false (by omega)]; rfl
 unfold bodyOf Tryz.f66
 cbv
 repeat ((first | refine ABr.t (by first | assumption | rfl) ?_ | refine ABr.f (by first | assumption | rfl) ?_); cbv)
 repeat' (first | exact (l0 _).symm | exact rfl | exact trivial | constructor)
theorem rdP2 {H : H5} (hH : H = H5.real) {c : Cu blsP} (hc : c = blsC) {bs : Nat → Nat} (hb : ∀ i, bs i < 256) (hf : bs 0 / 32 < 4) : Sp 66 [.lst false 48 (q0x48 bs)] (.tup [P1_6 H ⟨0, 0, false⟩, .s .i64 73]) := by
 have l0 := lim06 hH
 have kcl := cloneS bs
 have b8 := fun A hA => bits8 (A := A) hA (hb 0)
 have hno := bareNo hb
 have hbig := bareBig hH hb
 refine mk Tryz.func66 rfl rfl L0 RRb (by decide +kernel) fun A S hA hS => ?_
 obtain ⟨t7, t6, t5, h31⟩ := b8 A hA
 have nf : A.not false = true := i_not hA rfl
 have nt : A.not true = false := i_not hA rfl
 rw [← h31] at hno hbig
 rw [show decide (bs 0 / 32 < 4) = true from decide_eq_true (by omega)] at t7
 unfold bodyOf Tryz.f66
 cbv
 repeat ((first | refine ABr.t (by first | assumption | rfl) ?_ | refine ABr.f (by first | assumption | rfl) ?_); cbv)
 repeat' (first | exact (l0 _).symm | exact rfl | exact trivial | constructor)
theorem rdP3 {H : H5} (hH : H = H5.real) {c : Cu blsP} (hc : c = blsC) {bs : Nat → Nat} (hb : ∀ i, bs i < 256) (hf : bs 0 / 32 = 7) : Sp 66 [.lst false 48 (q0x48 bs)] (.tup [P1_6 H ⟨0, 0, false⟩, .s .i64 73]) := by
 have l0 := lim06 hH
 have kcl := cloneS bs
 have b8 := fun A hA => bits8 (A := A) hA (hb 0)
 have hno := bareNo hb
 have hbig := bareBig hH hb
 clear hno hbig
 have hno := (trivial : True)
 have hbig := (trivial : True)
 refine mk Tryz.func66 rfl rfl L0 RRb (by decide +kernel) fun A S hA hS => ?_
 obtain ⟨t7, t6, t5, h31⟩ := b8 A hA
 have nf : A.not false = true := i_not hA rfl
 have nt : A.not true = false := i_not hA rfl
 rw [show decide (bs 0 / 32 < 4) = false from decide_eq_false (by omega)] at t7
 rw [show decide (bs 0 / 32 % 4 ≥ 2) = true from decide_eq_true (by omega)] at t6
 rw [show decide (bs 0 / 32 % 2 = 1) = true from decide_eq_true (by omega)] at t5
 unfold bodyOf Tryz.f66
 cbv
 repeat ((first | refine ABr.t (by first | assumption | rfl) ?_ | refine ABr.f (by first | assumption | rfl) ?_ | refine aF hS kcl ?_); cbv)
 repeat' (first | exact (l0 _).symm | exact rfl | exact trivial | constructor)
theorem rdP3b {H : H5} (hH : H = H5.real) {c : Cu blsP} (hc : c = blsC) {bs : Nat → Nat} (hb : ∀ i, bs i < 256) (hf : bs 0 / 32 = 6) (hz : allz (bareB bs) 48 = false) : Sp 66 [.lst false 48 (q0x48 bs)] (.tup [P1_6 H ⟨0, 0, false⟩, .s .i64 73]) := by
 have l0 := lim06 hH
 have kcl := cloneS bs
 have b8 := fun A hA => bits8 (A := A) hA (hb 0)
 have hno := bareNo hb
 have hbig := bareBig hH hb
 rw [hz] at hno
 clear hbig
 refine mk Tryz.func66 rfl rfl L0 RRb (by decide +kernel) fun A S hA hS => ?_
 obtain ⟨t7, t6, t5, h31⟩ := b8 A hA
 have nf : A.not false = true := i_not hA rfl
 have nt : A.not true = false := i_not hA rfl
 rw [← h31] at hno
 rw [show decide (bs 0 / 32 < 4) = false from decide_eq_false (by omega)] at t7
 rw [show decide (bs 0 / 32 % 4 ≥ 2) = true from decide_eq_true (by omega)] at t6
 rw [show decide (bs 0 / 32 % 2 = 1) = false from decide_eq_false (by omega)] at t5
 unfold bodyOf Tryz.f66
 cbv
 repeat ((first | refine ABr.t (by first | assumption | rfl) ?_ | refine ABr.f (by first | assumption | rfl) ?_ | refine aF hS kcl ?_ | (refine aG hS hno ?_ ?_; focus (cbv; done))); cbv)
 repeat' (first | exact (l0 _).symm | exact rfl | exact trivial | constructor)
theorem rdP4 {H : H5} (hH : H = H5.real) {c : Cu blsP} (hc : c = blsC) {bs : Nat → Nat} (hb : ∀ i, bs i < 256) (hf : bs 0 / 32 = 6) (hz : allz (bareB bs) 48 = true) : Sp 66 [.lst false 48 (q0x48 bs)] (.tup [P1_6 H ⟨0, 0, true⟩, .s .i64 0]) := by
 have l0 := lim06 hH
 have kcl := cloneS bs
 have b8 := fun A hA => bits8 (A := A) hA (hb 0)
 have hno := bareNo hb
 have hbig := bareBig hH hb
 rw [hz] at hno
 clear hbig
 refine mk Tryz.func66 rfl rfl L0 RRb (by decide +kernel) fun A S hA hS => ?_
 obtain ⟨t7, t6, t5, h31⟩ := b8 A hA
 have nf : A.not false = true := i_not hA rfl
 have nt : A.not true = false := i_not hA rfl
 rw [← h31] at hno
 rw [show decide (bs 0 / 32 < 4) = false from decide_eq_false (by omega)] at t7
 rw [show decide (bs 0 / 32 % 4 ≥ 2) = true from decide_eq_true (by omega)] at t6
 rw [show decide (bs 0 / 32 % 2 = 1) = false from decide_eq_false (by omega)] at t5
 unfold bodyOf Tryz.f66
 cbv
 repeat ((first | refine ABr.t (by first | assumption | rfl) ?_ | refine ABr.f (by first | assumption | rfl) ?_ | refine aF hS kcl ?_ | (refine aG hS hno ?_ ?_; focus (cbv; done))); cbv)
 repeat' (first | exact (l0 _).symm | exact rfl | exact trivial | constructor)
theorem rdP5_0 {H : H5} (hH : H = H5.real) {c : Cu blsP} (hc : c = blsC) {bs : Nat → Nat} (hb : ∀ i, bs i < 256) (hf : bs 0 / 32 = 4) (hx : ¬ numB (bareB bs) 48 < blsP) : Sp 66 [.lst false 48 (q0x48 bs)] (.tup [P1_6 H ⟨0, 0, false⟩, .s .i64 70]) := by
 have l0 := lim06 hH
 have kcl := cloneS bs
 have k := BlsS hH hc
 have kp := BlsPS hH
 have b8 := fun A hA => bits8 (A := A) hA (hb 0)
 have hno := bareNo hb
 have hbig := bareBig hH hb
 have ls := LessS6 hH (numB (bareB bs) 48) blsP (Vb_lt 48 fun j _ => bare_lt hb _) (by decide)
 rw [show H.lt (numB (bareB bs) 48) blsP = false by rw [hH]; exact decide_eq_false hx] at ls
 clear hno
 generalize numB (bareB bs) 48 = x at *
 obtain ⟨q, hq⟩ : ∃ q, q = blsP := ⟨_, rfl⟩
 rw [← hq] at ls kp
 clear hq
 refine mk Tryz.func66 rfl rfl L0 RRb (by decide +kernel) fun A S hA hS => ?_
 obtain ⟨t7, t6, t5, h31⟩ := b8 A hA
 have nf : A.not false = true := i_not hA rfl
 have nt : A.not true = false := i_not hA rfl
 rw [← h31] at hbig
 rw [show decide (bs 0 / 32 < 4) = false from decide_eq_false (by omega)] at t7
 rw [show decide (bs 0 / 32 % 4 ≥ 2) = false from decide_eq_false (by omega)] at t6
 rw [show decide (bs 0 / 32 % 2 = 1) = false from decide_eq_false (by omega)] at t5
 unfold bodyOf Tryz.f66
 cbv
 repeat ((first | refine ABr.t (by first | assumption | rfl) ?_ | refine ABr.f (by first | assumption | rfl) ?_ | refine aF hS kcl ?_ | (refine aG hS hbig ?_ ?_; focus (cbv; done)) | refine aF hS k ?_ | refine aF hS kp ?_ | refine aF hS ls ?_); cbv)
 repeat' (first | exact (l0 _).symm | exact rfl | exact trivial | constructor)
theorem rdP5_1 {H : H5} (hH : H = H5.real) {c : Cu blsP} (hc : c = blsC) {bs : Nat → Nat} (hb : ∀ i, bs i < 256) (hf : bs 0 / 32 = 5) (hx : ¬ numB (bareB bs) 48 < blsP) : Sp 66 [.lst false 48 (q0x48 bs)] (.tup [P1_6 H ⟨0, 0, false⟩, .s .i64 70]) := by
 have l0 := lim06 hH
 have kcl := cloneS bs
 have k := BlsS hH hc
 have kp := BlsPS hH
 have b8 := fun A hA => bits8 (A := A) hA (hb 0)
 have hno := bareNo hb
 have hbig := bareBig hH hb
 have ls := LessS6 hH (numB (bareB bs) 48) blsP (Vb_lt 48 fun j _ => bare_lt hb _) (by decide)
 rw [show H.lt (numB (bareB bs) 48) blsP = false by rw [hH]; exact decide_eq_false hx] at ls
 clear hno
 generalize numB (bareB bs) 48 = x at *
 obtain ⟨q, hq⟩ : ∃ q, q = blsP := ⟨_, rfl⟩
 rw [← hq] at ls kp
 clear hq
 refine mk Tryz.func66 rfl rfl L0 RRb (by decide +kernel) fun A S hA hS => ?_
 obtain ⟨t7, t6, t5, h31⟩ := b8 A hA
 have nf : A.not false = true := i_not hA rfl
 have nt : A.not true = false := i_not hA rfl
 rw [← h31] at hbig
 rw [show decide (bs 0 / 32 < 4) = false from decide_eq_false (by omega)] at t7
 rw [show decide (bs 0 / 32 % 4 ≥ 2) = false from decide_eq_false (by omega)] at t6
 rw [show decide (bs 0 / 32 % 2 = 1) = true from decide_eq_true (by omega)] at t5
 unfold bodyOf Tryz.f66
 cbv
 repeat ((first | refine ABr.t (by first | assumption | rfl) ?_ | refine ABr.f (by first | assumption | rfl) ?_ | refine aF hS kcl ?_ | (refine aG hS hbig ?_ ?_; focus (cbv; done)) | refine aF hS k ?_ | refine aF hS kp ?_ | refine aF hS ls ?_); cbv)
 repeat' (first | exact (l0 _).symm | exact rfl | exact trivial | constructor)
theorem bits5 {A : Ar} (hA : A = Ar.real) {b : Nat} (hb : b < 256) : A.cmp .lss (A.bin .shr .u8 (b : Int) 5) 4 = decide (b / 32 < 4) ∧ A.cmp .geq (A.bin .shr .u8 (b : Int) 5) 6 = decide (b / 32 ≥ 6) ∧ A.cmp .eql (A.bin .shr .u8 (b : Int) 5) 7 = decide (b / 32 = 7) ∧ A.cmp .eql (A.bin .shr .u8 (b : Int) 5) 6 = decide (b / 32 = 6) ∧ A.cmp .eql (A.bin .shr .u8 (b : Int) 5) 5 = decide (b / 32 = 5) ∧ A.bin .and .u8 (b : Int) 31 = ((b % 32 : Nat) : Int) := by
 rw [hA]
 have : ∀ b : Fin 256, rcmp .lss (rbin .shr .u8 (b.val : Int) 5) 4 = decide (b.val / 32 < 4) ∧ rcmp .geq (rbin .shr .u8 (b.val : Int) 5) 6 = decide (b.val / 32 ≥ 6) ∧ rcmp .eql (rbin .shr .u8 (b.val : Int) 5) 7 = decide (b.val / 32 = 7) ∧ rcmp .eql (rbin .shr .u8 (b.val : Int) 5) 6 = decide (b.val / 32 = 6) ∧ rcmp .eql (rbin .shr .u8 (b.val : Int) 5) 5 = decide (b.val / 32 = 5) ∧ rbin .and .u8 (b.val : Int) 31 = ((b.val % 32 : Nat) : Int) := by decide +kernel
 exact this ⟨b, hb⟩
theorem rbareBig {H : H5} (hH : H = H5.real) {bs : Nat → Nat} (hb : ∀ i, bs i < 256) : Sp 149 [.lst true 48 [.s .u8 ((bs 0 % 32 : Nat) : Int), qb bs 1, qb bs 2, qb bs 3, qb bs 4, qb bs 5, qb bs 6, qb bs 7, qb bs 8, qb bs 9, qb bs 10, qb bs 11, qb bs 12, qb bs 13, qb bs 14, qb bs 15, qb bs 16, qb bs 17, qb bs 18, qb bs 19, qb bs 20, qb bs 21, qb bs 22, qb bs 23, qb bs 24, qb bs 25, qb bs 26, qb bs 27, qb bs 28, qb bs 29, qb bs 30, qb bs 31, qb bs 32, qb bs 33, qb bs 34, qb bs 35, qb bs 36, qb bs 37, qb bs 38, qb bs 39, qb bs 40, qb bs 41, qb bs 42, qb bs 43, qb bs 44, qb bs 45, qb bs 46, qb bs 47], .i .i64 6] (.tup [.new false 6 1 (ws6 H.lim (numB (bareB bs) 48)), .i .i64 0]) := rBig6 (H5.hlim hH) (rowB48 hb) (by decide)
def RRl : Nat → Md := fun r => match r with | 5 => .owl [23, 27] | 13 => .tre [] | _ => .mid
def NoPt : AVal := .agg [.v (.slice none 0 0), .v (.slice none 0 0), .b false]
theorem rInfS {H : H5} (hH : H = H5.real) (c : Cu blsP) : Sp 150 [Cr6_1 H c] (PR6_1 H ⟨0, 0, true⟩) := by
 have kn := noneR6_1 hH blsPr c
 have e0 : (0 : Fin blsP).val = 0 := rfl
 unfold Nr6_1 at kn
 rw [e0] at kn
 refine mk Tryz.func150 rfl rfl L0 R1 (by decide +kernel) fun A S hA hS => ?_
 unfold bodyOf Tryz.f150
 cbv
 repeat ((first | refine ABr.t (by first | assumption | rfl) ?_ | refine ABr.f (by first | assumption | rfl) ?_ | (refine aG hS kn ?_ ?_; focus (cbv; done))); cbv)
theorem rReadBlsL {H : H5} (hH : H = H5.real) {row : List AVal} {k : Nat} (hk : k ≠ 48) (hk2 : k ≤ 140737488355328) : Sp 70 [.lst true k row] (.tup [NoPt, .s .i64 2]) := by
 refine mk Tryz.func70 rfl rfl L0 RRl (by decide +kernel) fun A S hA hS => ?_
 have e : A.cmp .neq (A.len k) 48 = true := by rw [a_len hA, i_ne hA, decide_eq_false (by omega)]; rfl
 unfold bodyOf Tryz.f70
 cbv
 repeat ((first | refine ABr.t (by first | assumption | rfl) ?_ | refine ABr.f (by first | assumption | rfl) ?_); cbv)
theorem rrP2 {H : H5} (hH : H = H5.real) {c : Cu blsP} (hc : c = blsC) {bs : Nat → Nat} (hb : ∀ i, bs i < 256) (hf : bs 0 / 32 < 4) : Sp 70 [.lst false 48 (q0x48 bs)] (.tup [NoPt, .s .i64 73]) := by
 have k := rBls1S hH hc
 have b5 := fun A hA => bits5 (A := A) hA (hb 0)
 have hbig := rbareBig hH hb
 generalize numB (bareB bs) 48 = x at *
 refine mk Tryz.func70 rfl rfl L0 RRl (by decide +kernel) fun A S hA hS => ?_
 obtain ⟨lt4, ge6, eq7, eq6, eq5, h31⟩ := b5 A hA
 have nf : A.not false = true := i_not hA rfl
 have nt : A.not true = false := i_not hA rfl
 rw [← h31] at hbig
 rw [show decide (bs 0 / 32 < 4) = true from decide_eq_true hf] at lt4
 unfold bodyOf Tryz.f70
 cbv
 repeat ((first | refine ABr.t (by first | assumption | rfl) ?_ | refine ABr.f (by first | assumption | rfl) ?_ | (refine aG hS k ?_ ?_; focus (cbv; done)) | (refine aG hS hbig ?_ ?_; focus (cbv; done))); cbv)
theorem rrP3 {H : H5} (hH : H = H5.real) {c : Cu blsP} (hc : c = blsC) {bs : Nat → Nat} (hb : ∀ i, bs i < 256) (hf : bs 0 / 32 = 7) : Sp 70 [.lst false 48 (q0x48 bs)] (.tup [NoPt, .s .i64 73]) := by
 have k := rBls1S hH hc
 have b5 := fun A hA => bits5 (A := A) hA (hb 0)
 have hbig := rbareBig hH hb
 generalize numB (bareB bs) 48 = x at *
 refine mk Tryz.func70 rfl rfl L0 RRl (by decide +kernel) fun A S hA hS => ?_
 obtain ⟨lt4, ge6, eq7, eq6, eq5, h31⟩ := b5 A hA
 have nf : A.not false = true := i_not hA rfl
 have nt : A.not true = false := i_not hA rfl
 rw [← h31] at hbig
 rw [show decide (bs 0 / 32 < 4) = false from decide_eq_false (by omega)] at lt4
 rw [show decide (bs 0 / 32 ≥ 6) = true from decide_eq_true (by omega)] at ge6
 rw [show decide (bs 0 / 32 = 7) = true from decide_eq_true (by omega)] at eq7
 rw [show decide (bs 0 / 32 = 6) = false from decide_eq_false (by omega)] at eq6
 rw [show decide (bs 0 / 32 = 5) = false from decide_eq_false (by omega)] at eq5
 unfold bodyOf Tryz.f70
 cbv
 repeat ((first | refine ABr.t (by first | assumption | rfl) ?_ | refine ABr.f (by first | assumption | rfl) ?_ | (refine aG hS k ?_ ?_; focus (cbv; done)) | (refine aG hS hbig ?_ ?_; focus (cbv; done))); cbv)
theorem rrP3b {H : H5} (hH : H = H5.real) {c : Cu blsP} (hc : c = blsC) {bs : Nat → Nat} (hb : ∀ i, bs i < 256) (hf : bs 0 / 32 = 6) (hz : numB (bareB bs) 48 ≠ 0) : Sp 70 [.lst false 48 (q0x48 bs)] (.tup [NoPt, .s .i64 73]) := by
 have k := rBls1S hH hc
 have b5 := fun A hA => bits5 (A := A) hA (hb 0)
 have hbig := rbareBig hH hb
 have hx384 : numB (bareB bs) 48 < 2 ^ 384 := Vb_lt 48 fun j _ => bare_lt hb _
 have kz := rZeroS6 hH _ hx384
 rw [decide_eq_false hz] at kz
 generalize numB (bareB bs) 48 = x at *
 refine mk Tryz.func70 rfl rfl L0 RRl (by decide +kernel) fun A S hA hS => ?_
 obtain ⟨lt4, ge6, eq7, eq6, eq5, h31⟩ := b5 A hA
 have nf : A.not false = true := i_not hA rfl
 have nt : A.not true = false := i_not hA rfl
 rw [← h31] at hbig
 rw [show decide (bs 0 / 32 < 4) = false from decide_eq_false (by omega)] at lt4
 rw [show decide (bs 0 / 32 ≥ 6) = true from decide_eq_true (by omega)] at ge6
 rw [show decide (bs 0 / 32 = 7) = false from decide_eq_false (by omega)] at eq7
 rw [show decide (bs 0 / 32 = 6) = true from decide_eq_true (by omega)] at eq6
 rw [show decide (bs 0 / 32 = 5) = false from decide_eq_false (by omega)] at eq5
 unfold bodyOf Tryz.f70
 cbv
 repeat ((first | refine ABr.t (by first | assumption | rfl) ?_ | refine ABr.f (by first | assumption | rfl) ?_ | (refine aG hS k ?_ ?_; focus (cbv; done)) | (refine aG hS hbig ?_ ?_; focus (cbv; done)) | (refine aG hS kz ?_ ?_; focus (cbv; done))); cbv)
theorem rrP4 {H : H5} (hH : H = H5.real) {c : Cu blsP} (hc : c = blsC) {bs : Nat → Nat} (hb : ∀ i, bs i < 256) (hf : bs 0 / 32 = 6) (hz : numB (bareB bs) 48 = 0) : Sp 70 [.lst false 48 (q0x48 bs)] (.tup [PR6_1 H ⟨0, 0, true⟩, .s .i64 ((0 : Nat) : Int)]) := by
 have k := rBls1S hH hc
 have b5 := fun A hA => bits5 (A := A) hA (hb 0)
 have hbig := rbareBig hH hb
 have hx384 : numB (bareB bs) 48 < 2 ^ 384 := Vb_lt 48 fun j _ => bare_lt hb _
 have kz := rZeroS6 hH _ hx384
 rw [decide_eq_true hz] at kz
 have ki := rInfS hH c
 generalize numB (bareB bs) 48 = x at *
 refine mk Tryz.func70 rfl rfl L0 RRl (by decide +kernel) fun A S hA hS => ?_
 obtain ⟨lt4, ge6, eq7, eq6, eq5, h31⟩ := b5 A hA
 have nf : A.not false = true := i_not hA rfl
 have nt : A.not true = false := i_not hA rfl
 rw [← h31] at hbig
 rw [show decide (bs 0 / 32 < 4) = false from decide_eq_false (by omega)] at lt4
 rw [show decide (bs 0 / 32 ≥ 6) = true from decide_eq_true (by omega)] at ge6
 rw [show decide (bs 0 / 32 = 7) = false from decide_eq_false (by omega)] at eq7
 rw [show decide (bs 0 / 32 = 6) = true from decide_eq_true (by omega)] at eq6
 rw [show decide (bs 0 / 32 = 5) = false from decide_eq_false (by omega)] at eq5
 unfold bodyOf Tryz.f70
 cbv
 repeat ((first | refine ABr.t (by first | assumption | rfl) ?_ | refine ABr.f (by first | assumption | rfl) ?_ | (refine aG hS k ?_ ?_; focus (cbv; done)) | (refine aG hS hbig ?_ ?_; focus (cbv; done)) | (refine aG hS kz ?_ ?_; focus (cbv; done)) | (refine aG hS ki ?_ ?_; focus (cbv; done))); cbv)
theorem rrP5_0 {H : H5} (hH : H = H5.real) {c : Cu blsP} (hc : c = blsC) {bs : Nat → Nat} (hb : ∀ i, bs i < 256) (hf : bs 0 / 32 = 4) (hx : ¬ numB (bareB bs) 48 < blsP) : Sp 70 [.lst false 48 (q0x48 bs)] (.tup [NoPt, .s .i64 70]) := by
 have k := rBls1S hH hc
 have b5 := fun A hA => bits5 (A := A) hA (hb 0)
 have hbig := rbareBig hH hb
 have hx384 : numB (bareB bs) 48 < 2 ^ 384 := Vb_lt 48 fun j _ => bare_lt hb _
 have ls := rLess6 (H5.hlim hH) _ blsP hx384 (by decide) false (decide_eq_false hx).symm
 generalize numB (bareB bs) 48 = x at *
 refine mk Tryz.func70 rfl rfl L0 RRl (by decide +kernel) fun A S hA hS => ?_
 obtain ⟨lt4, ge6, eq7, eq6, eq5, h31⟩ := b5 A hA
 have nf : A.not false = true := i_not hA rfl
 have nt : A.not true = false := i_not hA rfl
 rw [← h31] at hbig
 rw [show decide (bs 0 / 32 < 4) = false from decide_eq_false (by omega)] at lt4
 rw [show decide (bs 0 / 32 ≥ 6) = false from decide_eq_false (by omega)] at ge6
 rw [show decide (bs 0 / 32 = 7) = false from decide_eq_false (by omega)] at eq7
 rw [show decide (bs 0 / 32 = 6) = false from decide_eq_false (by omega)] at eq6
 rw [show decide (bs 0 / 32 = 5) = false from decide_eq_false (by omega)] at eq5
 unfold bodyOf Tryz.f70
 cbv
 repeat ((first | refine ABr.t (by first | assumption | rfl) ?_ | refine ABr.f (by first | assumption | rfl) ?_ | (refine aG hS k ?_ ?_; focus (cbv; done)) | (refine aG hS hbig ?_ ?_; focus (cbv; done)) | (refine aG hS ls ?_ ?_; focus (cbv; done))); cbv)
theorem rrP5_1 {H : H5} (hH : H = H5.real) {c : Cu blsP} (hc : c = blsC) {bs : Nat → Nat} (hb : ∀ i, bs i < 256) (hf : bs 0 / 32 = 5) (hx : ¬ numB (bareB bs) 48 < blsP) : Sp 70 [.lst false 48 (q0x48 bs)] (.tup [NoPt, .s .i64 70]) := by
 have k := rBls1S hH hc
 have b5 := fun A hA => bits5 (A := A) hA (hb 0)
 have hbig := rbareBig hH hb
 have hx384 : numB (bareB bs) 48 < 2 ^ 384 := Vb_lt 48 fun j _ => bare_lt hb _
 have ls := rLess6 (H5.hlim hH) _ blsP hx384 (by decide) false (decide_eq_false hx).symm
 generalize numB (bareB bs) 48 = x at *
 refine mk Tryz.func70 rfl rfl L0 RRl (by decide +kernel) fun A S hA hS => ?_
 obtain ⟨lt4, ge6, eq7, eq6, eq5, h31⟩ := b5 A hA
 have nf : A.not false = true := i_not hA rfl
 have nt : A.not true = false := i_not hA rfl
 rw [← h31] at hbig
 rw [show decide (bs 0 / 32 < 4) = false from decide_eq_false (by omega)] at lt4
 rw [show decide (bs 0 / 32 ≥ 6) = false from decide_eq_false (by omega)] at ge6
 rw [show decide (bs 0 / 32 = 7) = false from decide_eq_false (by omega)] at eq7
 rw [show decide (bs 0 / 32 = 6) = false from decide_eq_false (by omega)] at eq6
 rw [show decide (bs 0 / 32 = 5) = true from decide_eq_true (by omega)] at eq5
 unfold bodyOf Tryz.f70
 cbv
 repeat ((first | refine ABr.t (by first | assumption | rfl) ?_ | refine ABr.f (by first | assumption | rfl) ?_ | (refine aG hS k ?_ ?_; focus (cbv; done)) | (refine aG hS hbig ?_ ?_; focus (cbv; done)) | (refine aG hS ls ?_ ?_; focus (cbv; done))); cbv)
end Go.Proofs.YtmholgclgamnnaaGreat
end
section
namespace Gp
open Cv
section
variable {α : Type} [DecidableEq α] {O : Ops α} (F : Fd O)
include F
end
section
variable {α : Type} [DecidableEq α] {O : Ops α} (F : Fd O) (L : Laws O) {b : α} (N : No2 O b) (hA : ∀ P Q : Pt α, onC O b P → onC O b Q → down O (plus O (up O P) (up O Q)) = sumR O P Q)
include F L N hA
end
end Gp
end
section
namespace Gp
open Cv NT
section
variable {p : Nat} [NeZero p]
theorem no_cube (hp : Pr p) {f : Nat} {c : Fin p} (hc : c ≠ 0) (h3 : p % 3 = 1) (hf : (p - 1) / 3 < 2 ^ f) (h : pm p f c.val ((p - 1) / 3) ≠ 1) (x : Fin p) : x * x * x ≠ c := fun e => by
 rw [pm_eq p f _ _ hf] at h
 refine h ?_
 have hv : c.val = x.val ^ 3 % p := by
   rw [← e, Fin.val_mul, Fin.val_mul, Nat.mod_mul_mod]
   congr 1
   rw [Nat.pow_succ, Nat.pow_two]
 have hx : ¬ p ∣ x.val := fun hd => hc (by
   have := Nat.eq_zero_of_dvd_of_lt hd x.isLt
   refine Fin.ext ?_
   rw [hv, this, val_zero]
   exact Nat.zero_mod p)
 rw [hv, ← Nat.pow_mod, ← Nat.pow_mul, show 3 * ((p - 1) / 3) = p - 1 by omega]
 exact fermat hp hx
theorem no2_1 (hp : Pr p) {f : Nat} {b : Fin p} (hc : 0 - b ≠ 0) (h3 : p % 3 = 1) (hf : (p - 1) / 3 < 2 ^ f) (h : pm p f (0 - b).val ((p - 1) / 3) ≠ 1) : No2 (ops1 (inv1 (p := p))) b := fun x e => by
 have e : x * x * x + b = 0 := e
 exact no_cube hp hc h3 hf h x (by grind)
end
end Gp
end
section
namespace Go.Proofs.YtmholgclgamnnaaGreat
open Go Eng
section
variable {p : Nat} [NeZero p]
end
theorem no2_bls : Gp.No2 (Cv.ops1 (Cv.inv1 (p := blsP))) (fo blsP 4) := Gp.no2_1 (f := 384) blsPr.pr (by decide +kernel) (by decide +kernel) (by decide +kernel) (by decide +kernel)
theorem numB_dig {bs : Nat → Nat} {n : Nat} (hb : ∀ i, bs i < 256) {j : Nat} (hj : j < n) : bs j = numB bs n / 2 ^ (8 * (n - 1 - j)) % 256 := by
 have := Vb_dig (o := fun p => bs (n - 1 - p)) n (fun _ _ => hb _) (n - 1 - j) (by omega)
 rw [show n - 1 - (n - 1 - j) = j by omega] at this
 exact this.symm
theorem Vb_zero {d : Nat → Nat} : ∀ n, (∀ j, j < n → d j = 0) → Vb d n = 0
 | 0, _ => rfl
 | n + 1, h => by rw [Vb, Vb_zero n fun j hj => h j (by omega), h n (by omega), Nat.zero_mul]
theorem allz_num {bs : Nat → Nat} {n : Nat} (hb : ∀ i, bs i < 256) : allz bs n = decide (numB bs n = 0) := by
 by_cases h : numB bs n = 0
 . rw [decide_eq_true h]
   unfold allz
   rw [List.all_eq_true]
   intro i hi
   have hi' : i < n := List.mem_range.1 hi
   have := numB_dig hb hi'
   rw [h, Nat.zero_div] at this
   rw [this]; rfl
 . rw [decide_eq_false h]
   refine Bool.eq_false_iff.2 fun ha => h ?_
   unfold allz at ha
   rw [List.all_eq_true] at ha
   unfold numB
   refine Vb_zero n fun j hj => ?_
   have := ha (n - 1 - j) (List.mem_range.2 (by omega))
   exact eq_of_beq this
open NT in
section
variable {p : Nat} [NeZero p]
theorem half_neg {n : Nat} (hp : PrM n p) {y : Fin p} (hy : y ≠ 0) : decide (p / 2 < (0 - y).val) = !decide (p / 2 < y.val) := by
 have h4 := hp.four
 have h1 := y.isLt
 have h0 : y.val ≠ 0 := fun e => hy (Fin.ext e)
 have e : (0 - y).val = p - y.val := by
   have e : (0 - y).val = (p - y.val) % p := by rw [Fin.sub_def]; rfl
   rw [e, Nat.mod_eq_of_lt (by omega)]
 rw [e]
 by_cases h : p / 2 < y.val
 . rw [decide_eq_true h, decide_eq_false (by omega)]; rfl
 . rw [decide_eq_false h, decide_eq_true (by omega)]; rfl
theorem pick_flag {n : Nat} (hp : PrM n p) {r : Fin p} (hr : r ≠ 0) (s : Bool) : decide (p / 2 < (pickY r s).val) = s := by
 have h := half_neg hp hr
 unfold pickY
 cases hu : decide (p / 2 < r.val) <;> cases s <;> (rw [hu] at h; first | exact hu | exact h)
end
theorem pickY_tt {p : Nat} [NeZero p] {r : Fin p} (h : decide (p / 2 < r.val) = true) : pickY r true = r := by unfold pickY; rw [h]
theorem pickY_tf {p : Nat} [NeZero p] {r : Fin p} (h : decide (p / 2 < r.val) = true) : pickY r false = 0 - r := by unfold pickY; rw [h]
theorem pickY_ft {p : Nat} [NeZero p] {r : Fin p} (h : decide (p / 2 < r.val) = false) : pickY r true = 0 - r := by unfold pickY; rw [h]
theorem pickY_ff {p : Nat} [NeZero p] {r : Fin p} (h : decide (p / 2 < r.val) = false) : pickY r false = r := by unfold pickY; rw [h]
def wbs (x f : Nat) : Nat → Nat
 | 0 => x / 2 ^ (8 * 47) % 256 + f
 | i + 1 => x / 2 ^ (8 * (46 - i)) % 256
theorem grp_good {p : Nat} [NeZero p] {b : Fin p} {P : PtA} {r : Nat} (h : grpP b P r = 0) : good1 b P = 0 := by
 unfold grpP at h
 by_cases hg : good1 b P = 0
 . exact hg
 . rw [if_pos hg] at h; exact h
theorem rbig32 {lim : Lim} (hl : lim = limR) (bs : Nat → Nat) (hb : ∀ i, bs i < 256) (o : Nat) : Sp 149 [.lst true 32 ((List.range 32).map fun j => .s .u8 (bs (o + j) : Nat)), .i .i64 4] (.tup [.new false 4 1 (ws4 lim (numB (fun j => bs (o + j)) 32)), .i .i64 0]) :=
 rBig4 hl (rowB32 bs hb o) (Nat.le_refl _)
def RRn : Nat → Md := fun r => match r with | 10 => .own | 11 => .tre [] | 13 => .tre [] | _ => .mid
def RdN (P : AVal) : Nat → AVal
 | 0 => .tup [P, .s .i64 ((0 : Nat) : Int)]
 | e + 1 => .tup [NoPt, .s .i64 ((e + 1 : Nat) : Int)]
theorem rReadBn1L {p : Nat} [NeZero p] {H : H5} (c : Cu p) {row : List AVal} {k : Nat} (hk : k ≠ 64) (hk2 : k ≤ 140737488355328) : Sp 68 [Cr4_1 H c, .lst true k row] (.tup [NoPt, .s .i64 2]) := by
 refine mk Tryz.func68 rfl rfl L0 RRn (by decide +kernel) fun A S hA hS => ?_
 have e : A.cmp .neq (A.len k) 64 = true := by rw [a_len hA, i_ne hA, decide_eq_false (by omega)]; rfl
 unfold bodyOf Tryz.f68
 cbv
 repeat ((first | refine ABr.t (by first | assumption | rfl) ?_ | refine ABr.f (by first | assumption | rfl) ?_); cbv)
def bnP1 (bs : Nat → Nat) : PtA := ⟨numB (fun j => bs (0 + j)) 32, numB (fun j => bs (32 + j)) 32, (decide (numB (fun j => bs (0 + j)) 32 = 0) && decide (numB (fun j => bs (32 + j)) 32 = 0))⟩
theorem rReadBn1C {H : H5} (c : Cu bnP) (bs : Nat → Nat) (x0 x1 : Nat) (t0 t1 inf : Bool) (hinf : inf = (t0 && t1)) {e : Nat} (g0 : Sp 149 [.lst true 32 (q0x32 bs), .i .i64 4] (.tup [.new false 4 1 (ws4 H.lim x0), .i .i64 0])) (g1 : Sp 149 [.lst true 32 (q32x64 bs), .i .i64 4] (.tup [.new false 4 1 (ws4 H.lim x1), .i .i64 0])) (z0 : Sp 87 [.lst false 4 (ws4 H.lim x0)] (.sb t0)) (z1 : Sp 87 [.lst false 4 (ws4 H.lim x1)] (.sb t1)) (gg : Sp 19 [Cr4_1 H c, PR4_1 H ⟨x0, x1, inf⟩] (.s .i64 ((e : Nat) : Int))) : Sp 68 [Cr4_1 H c, .lst false 64 (q0x64 bs)] (RdN (PR4_1 H ⟨x0, x1, inf⟩) e) := by
 have hor : (t0 = false ∧ inf = false) ∨ (t0 = true ∧ t1 = false ∧ inf = false) ∨ (t0 = true ∧ t1 = true ∧ inf = true) := by
   subst hinf
   cases t0 <;> cases t1 <;> simp
 clear hinf
 cases e with
 | zero =>
   unfold RdN
   dsimp only
   rcases hor with ⟨rfl, rfl⟩ | ⟨rfl, rfl, rfl⟩ | ⟨rfl, rfl, rfl⟩
   all_goals
     refine mk Tryz.func68 rfl rfl L0 RRn (by decide +kernel) fun A S hA hS => ?_
     have ez : A.cmp .neq ((0 : Nat) : Int) 0 = false := i_ne hA
     unfold bodyOf Tryz.f68
     cbv
     repeat ((first | refine ABr.t (by first | assumption | rfl) ?_ | refine ABr.f (by first | assumption | rfl) ?_ | (refine aG hS g0 ?_ ?_; focus (cbv; done)) | (refine aG hS g1 ?_ ?_; focus (cbv; done)) | (refine aG hS z0 ?_ ?_; focus (cbv; done)) | (refine aG hS z1 ?_ ?_; focus (cbv; done)) | (refine aG hS gg ?_ ?_; focus (cbv; done))); cbv)
 | succ e =>
   have he : ((e + 1 : Nat) : Int) ≠ 0 := by omega
   unfold RdN
   dsimp only
   generalize ((e + 1 : Nat) : Int) = e at *
   rcases hor with ⟨rfl, rfl⟩ | ⟨rfl, rfl, rfl⟩ | ⟨rfl, rfl, rfl⟩
   all_goals
     refine mk Tryz.func68 rfl rfl L0 RRn (by decide +kernel) fun A S hA hS => ?_
     have e0 : A.cmp .neq e 0 = true := by rw [i_ne hA, decide_eq_false he]; rfl
     unfold bodyOf Tryz.f68
     cbv
     repeat ((first | refine ABr.t (by first | assumption | rfl) ?_ | refine ABr.f (by first | assumption | rfl) ?_ | (refine aG hS g0 ?_ ?_; focus (cbv; done)) | (refine aG hS g1 ?_ ?_; focus (cbv; done)) | (refine aG hS z0 ?_ ?_; focus (cbv; done)) | (refine aG hS z1 ?_ ?_; focus (cbv; done)) | (refine aG hS gg ?_ ?_; focus (cbv; done))); cbv)
theorem rReadBn1S {H : H5} (hH : H = H5.real) {c : Cu bnP} (hc : c = bnC) (bs : Nat → Nat) (hb : ∀ i, bs i < 256) : Sp 68 [Cr4_1 H c, .lst false 64 (q0x64 bs)] (RdN (PR4_1 H (bnP1 bs)) (good1 c.b1 (bnP1 bs))) := by
 have vlt : ∀ o, numB (fun j => bs (o + j)) 32 < 2 ^ 256 := fun o => Vb_lt 32 fun j _ => hb _
 have h1c : c.one = fo bnP 1 := by rw [hc]; rfl
 have hP : bnP1 bs = ⟨numB (fun j => bs (0 + j)) 32, numB (fun j => bs (32 + j)) 32, (decide (numB (fun j => bs (0 + j)) 32 = 0) && decide (numB (fun j => bs (32 + j)) 32 = 0))⟩ := rfl
 generalize hinf : (decide (numB (fun j => bs (0 + j)) 32 = 0) && decide (numB (fun j => bs (32 + j)) 32 = 0)) = inf at hP
 have gg := rGood4_1 hH bnPr c ⟨numB (fun j => bs (0 + j)) 32, numB (fun j => bs (32 + j)) 32, inf⟩ (vlt 0) (vlt 32)
 rw [hP]
 refine rReadBn1C c bs _ _ _ _ inf hinf.symm (rbig32 (H5.hlim hH) bs hb 0) (rbig32 (H5.hlim hH) bs hb 32) (rZeroS4 hH _ (vlt 0)) (rZeroS4 hH _ (vlt 32)) gg
theorem rReadBn2L {p : Nat} [NeZero p] {H : H5} (c : Cu p) {row : List AVal} {k : Nat} (hk : k ≠ 128) (hk2 : k ≤ 140737488355328) : Sp 68 [Cr4_2 H c, .lst true k row] (.tup [NoPt, .s .i64 2]) := by
 refine mk Tryz.func68 rfl rfl L0 RRn (by decide +kernel) fun A S hA hS => ?_
 have e : A.cmp .neq (A.len k) 128 = true := by rw [a_len hA, i_ne hA, decide_eq_false (by omega)]; rfl
 unfold bodyOf Tryz.f68
 cbv
 repeat ((first | refine ABr.t (by first | assumption | rfl) ?_ | refine ABr.f (by first | assumption | rfl) ?_); cbv)
def bnP2 (bs : Nat → Nat) : PtB := ⟨numB (fun j => bs (32 + j)) 32, numB (fun j => bs (0 + j)) 32, numB (fun j => bs (96 + j)) 32, numB (fun j => bs (64 + j)) 32, ((((decide (numB (fun j => bs (0 + j)) 32 = 0) && decide (numB (fun j => bs (32 + j)) 32 = 0)) && decide (numB (fun j => bs (64 + j)) 32 = 0)) && decide (numB (fun j => bs (96 + j)) 32 = 0)))⟩
theorem rReadBn2C {H : H5} (c : Cu bnP) (bs : Nat → Nat) (x0 x1 x2 x3 : Nat) (t0 t1 t2 t3 inf : Bool) (hinf : inf = (((t0 && t1) && t2) && t3)) {e g : Nat} (g0 : Sp 149 [.lst true 32 (q0x32 bs), .i .i64 4] (.tup [.new false 4 1 (ws4 H.lim x0), .i .i64 0])) (g1 : Sp 149 [.lst true 32 (q32x64 bs), .i .i64 4] (.tup [.new false 4 1 (ws4 H.lim x1), .i .i64 0])) (g2 : Sp 149 [.lst true 32 (q64x96 bs), .i .i64 4] (.tup [.new false 4 1 (ws4 H.lim x2), .i .i64 0])) (g3 : Sp 149 [.lst true 32 (q96x128 bs), .i .i64 4] (.tup [.new false 4 1 (ws4 H.lim x3), .i .i64 0])) (z0 : Sp 87 [.lst false 4 (ws4 H.lim x0)] (.sb t0)) (z1 : Sp 87 [.lst false 4 (ws4 H.lim x1)] (.sb t1)) (z2 : Sp 87 [.lst false 4 (ws4 H.lim x2)] (.sb t2)) (z3 : Sp 87 [.lst false 4 (ws4 H.lim x3)] (.sb t3)) (gg : Sp 19 [Cr4_2 H c, PR4_2 H ⟨x1, x0, x3, x2, inf⟩] (.s .i64 ((g : Nat) : Int))) (qq : Sp 21 [Cr4_2 H c, PR4_2 H ⟨x1, x0, x3, x2, inf⟩] (.s .i64 ((e : Nat) : Int))) (gi : g ≠ 0 → e = g) : Sp 68 [Cr4_2 H c, .lst false 128 (q0x128 bs)] (RdN (PR4_2 H ⟨x1, x0, x3, x2, inf⟩) e) := by
 have hor : (t0 = false ∧ inf = false) ∨ (t0 = true ∧ t1 = false ∧ inf = false) ∨ (t0 = true ∧ t1 = true ∧ t2 = false ∧ inf = false) ∨ (t0 = true ∧ t1 = true ∧ t2 = true ∧ t3 = false ∧ inf = false) ∨ (t0 = true ∧ t1 = true ∧ t2 = true ∧ t3 = true ∧ inf = true) := by
   subst hinf
   cases t0 <;> cases t1 <;> cases t2 <;> cases t3 <;> simp
 clear hinf
 cases g with
 | zero =>
   cases e with
   | zero =>
     unfold RdN
     dsimp only
     rcases hor with ⟨rfl, rfl⟩ | ⟨rfl, rfl, rfl⟩ | ⟨rfl, rfl, rfl, rfl⟩ | ⟨rfl, rfl, rfl, rfl, rfl⟩ | ⟨rfl, rfl, rfl, rfl, rfl⟩
     all_goals
       refine mk Tryz.func68 rfl rfl L0 RRn (by decide +kernel) fun A S hA hS => ?_
       have ez : A.cmp .neq ((0 : Nat) : Int) 0 = false := i_ne hA
       unfold bodyOf Tryz.f68
       cbv
       repeat ((first | refine ABr.t (by first | assumption | rfl) ?_ | refine ABr.f (by first | assumption | rfl) ?_ | (refine aG hS g0 ?_ ?_; focus (cbv; done)) | (refine aG hS g1 ?_ ?_; focus (cbv; done)) | (refine aG hS g2 ?_ ?_; focus (cbv; done)) | (refine aG hS g3 ?_ ?_; focus (cbv; done)) | (refine aG hS z0 ?_ ?_; focus (cbv; done)) | (refine aG hS z1 ?_ ?_; focus (cbv; done)) | (refine aG hS z2 ?_ ?_; focus (cbv; done)) | (refine aG hS z3 ?_ ?_; focus (cbv; done)) | (refine aG hS gg ?_ ?_; focus (cbv; done)) | (refine aG hS qq ?_ ?_; focus (cbv; done))); cbv)
   | succ e =>
     have he : ((e + 1 : Nat) : Int) ≠ 0 := by omega
     clear gi
     unfold RdN
     dsimp only
     generalize ((e + 1 : Nat) : Int) = e at *
     rcases hor with ⟨rfl, rfl⟩ | ⟨rfl, rfl, rfl⟩ | ⟨rfl, rfl, rfl, rfl⟩ | ⟨rfl, rfl, rfl, rfl, rfl⟩ | ⟨rfl, rfl, rfl, rfl, rfl⟩
     all_goals
       refine mk Tryz.func68 rfl rfl L0 RRn (by decide +kernel) fun A S hA hS => ?_
       have ez : A.cmp .neq ((0 : Nat) : Int) 0 = false := i_ne hA
       have e0 : A.cmp .neq e 0 = true := by rw [i_ne hA, decide_eq_false he]; rfl
       unfold bodyOf Tryz.f68
       cbv
       repeat ((first | refine ABr.t (by first | assumption | rfl) ?_ | refine ABr.f (by first | assumption | rfl) ?_ | (refine aG hS g0 ?_ ?_; focus (cbv; done)) | (refine aG hS g1 ?_ ?_; focus (cbv; done)) | (refine aG hS g2 ?_ ?_; focus (cbv; done)) | (refine aG hS g3 ?_ ?_; focus (cbv; done)) | (refine aG hS z0 ?_ ?_; focus (cbv; done)) | (refine aG hS z1 ?_ ?_; focus (cbv; done)) | (refine aG hS z2 ?_ ?_; focus (cbv; done)) | (refine aG hS z3 ?_ ?_; focus (cbv; done)) | (refine aG hS gg ?_ ?_; focus (cbv; done)) | (refine aG hS qq ?_ ?_; focus (cbv; done))); cbv)
 | succ g =>
   rw [gi (by omega)]
   have he : ((g + 1 : Nat) : Int) ≠ 0 := by omega
   clear gi qq
   unfold RdN
   dsimp only
   generalize ((g + 1 : Nat) : Int) = g at *
   rcases hor with ⟨rfl, rfl⟩ | ⟨rfl, rfl, rfl⟩ | ⟨rfl, rfl, rfl, rfl⟩ | ⟨rfl, rfl, rfl, rfl, rfl⟩ | ⟨rfl, rfl, rfl, rfl, rfl⟩
   all_goals
     refine mk Tryz.func68 rfl rfl L0 RRn (by decide +kernel) fun A S hA hS => ?_
     have e0 : A.cmp .neq g 0 = true := by rw [i_ne hA, decide_eq_false he]; rfl
     unfold bodyOf Tryz.f68
     cbv
     repeat ((first | refine ABr.t (by first | assumption | rfl) ?_ | refine ABr.f (by first | assumption | rfl) ?_ | (refine aG hS g0 ?_ ?_; focus (cbv; done)) | (refine aG hS g1 ?_ ?_; focus (cbv; done)) | (refine aG hS g2 ?_ ?_; focus (cbv; done)) | (refine aG hS g3 ?_ ?_; focus (cbv; done)) | (refine aG hS z0 ?_ ?_; focus (cbv; done)) | (refine aG hS z1 ?_ ?_; focus (cbv; done)) | (refine aG hS z2 ?_ ?_; focus (cbv; done)) | (refine aG hS z3 ?_ ?_; focus (cbv; done)) | (refine aG hS gg ?_ ?_; focus (cbv; done))); cbv)
theorem rReadBn2S {H : H5} (hH : H = H5.real) {c : Cu bnP} (hc : c = bnC) (bs : Nat → Nat) (hb : ∀ i, bs i < 256) : Sp 68 [Cr4_2 H c, .lst false 128 (q0x128 bs)] (RdN (PR4_2 H (bnP2 bs)) (grpQ c.b2 (bnP2 bs) c.r)) := by
 have vlt : ∀ o, numB (fun j => bs (o + j)) 32 < 2 ^ 256 := fun o => Vb_lt 32 fun j _ => hb _
 have h1c : c.one = fo bnP 1 := by rw [hc]; rfl
 have hP : bnP2 bs = ⟨numB (fun j => bs (32 + j)) 32, numB (fun j => bs (0 + j)) 32, numB (fun j => bs (96 + j)) 32, numB (fun j => bs (64 + j)) 32, ((((decide (numB (fun j => bs (0 + j)) 32 = 0) && decide (numB (fun j => bs (32 + j)) 32 = 0)) && decide (numB (fun j => bs (64 + j)) 32 = 0)) && decide (numB (fun j => bs (96 + j)) 32 = 0)))⟩ := rfl
 generalize hinf : ((((decide (numB (fun j => bs (0 + j)) 32 = 0) && decide (numB (fun j => bs (32 + j)) 32 = 0)) && decide (numB (fun j => bs (64 + j)) 32 = 0)) && decide (numB (fun j => bs (96 + j)) 32 = 0))) = inf at hP
 have gg := rGood4_2 hH bnPr c ⟨numB (fun j => bs (32 + j)) 32, numB (fun j => bs (0 + j)) 32, numB (fun j => bs (96 + j)) 32, numB (fun j => bs (64 + j)) 32, inf⟩ (vlt 32) (vlt 0) (vlt 96) (vlt 64)
 have qq := rGrp4_2 hH bnPr h1c ⟨numB (fun j => bs (32 + j)) 32, numB (fun j => bs (0 + j)) 32, numB (fun j => bs (96 + j)) 32, numB (fun j => bs (64 + j)) 32, inf⟩ (vlt 32) (vlt 0) (vlt 96) (vlt 64)
 rw [← grpQ_eq bnPr c.b2 ⟨numB (fun j => bs (32 + j)) 32, numB (fun j => bs (0 + j)) 32, numB (fun j => bs (96 + j)) 32, numB (fun j => bs (64 + j)) 32, inf⟩ c.r] at qq
 rw [hP]
 refine rReadBn2C c bs _ _ _ _ _ _ _ _ inf hinf.symm (rbig32 (H5.hlim hH) bs hb 0) (rbig32 (H5.hlim hH) bs hb 32) (rbig32 (H5.hlim hH) bs hb 64) (rbig32 (H5.hlim hH) bs hb 96) (rZeroS4 hH _ (vlt 0)) (rZeroS4 hH _ (vlt 32)) (rZeroS4 hH _ (vlt 64)) (rZeroS4 hH _ (vlt 96)) gg qq fun h => by unfold grpQ; rw [if_pos h]
theorem readBn2L {H : H5} (hH : H = H5.real) {row : List AVal} {k : Nat} (hk : k ≠ 128) (hk2 : k ≤ 140737488355328) : Sp 69 [.lst true k row] (.tup [P2_4 H ⟨0, 0, 0, 0, false⟩, .s .i64 2]) := by
 have l0 := lim04 hH
 refine mk Tryz.func69 rfl rfl L0 RRd (by decide +kernel) fun A S hA hS => ?_
 have e : A.cmp .neq (A.len k) 128 = true := by rw [a_len hA, i_ne hA, decide_eq_false (by omega)]; rfl
 unfold bodyOf Tryz.f69
 cbv
 repeat ((first | refine ABr.t (by first | assumption | rfl) ?_ | refine ABr.f (by first | assumption | rfl) ?_); cbv)
 repeat' (first | exact (l0 _).symm | exact rfl | exact trivial | constructor)
def RdQ (H : H5) (P : PtB) : Bool → Nat → AVal
 | true, _ => .tup [P2_4 H ⟨0, 0, 0, 0, true⟩, .s .i64 ((0 : Nat) : Int)]
 | false, 0 => .tup [P2_4 H P, .s .i64 ((0 : Nat) : Int)]
 | false, e + 1 => .tup [P2_4 H ⟨0, 0, 0, 0, false⟩, .s .i64 ((e + 1 : Nat) : Int)]
theorem readBn2C {H : H5} (hH : H = H5.real) (c : Cu bnP) (bs : Nat → Nat) (x0 x1 x2 x3 : Nat) (z : Bool) (e : Nat) (hn : Sp 141 [.lst true 128 (q0x128 bs)] (.sb z)) (h4 : Sp 148 [.lst false 128 (q0x128 bs)] (.new false 4 4 [.s .u64 (H.lim x0 0), .s .u64 (H.lim x0 1), .s .u64 (H.lim x0 2), .s .u64 (H.lim x0 3), .s .u64 (H.lim x1 0), .s .u64 (H.lim x1 1), .s .u64 (H.lim x1 2), .s .u64 (H.lim x1 3), .s .u64 (H.lim x2 0), .s .u64 (H.lim x2 1), .s .u64 (H.lim x2 2), .s .u64 (H.lim x2 3), .s .u64 (H.lim x3 0), .s .u64 (H.lim x3 1), .s .u64 (H.lim x3 2), .s .u64 (H.lim x3 3)]))
   (hB : Sp 28 [] (.ref (Cc4 H c) 0)) (gr : Sp 51 [.ref (Cc4 H c) 0, P2_4 H ⟨x1, x0, x3, x2, false⟩] (.s .i64 ((e : Nat) : Int))) : Sp 69 [.lst false 128 (q0x128 bs)] (RdQ H ⟨x1, x0, x3, x2, false⟩ z e) := by
 have l0 := lim04 hH
 cases z with
 | true =>
   unfold RdQ
   dsimp only
   clear gr h4 hB
   refine mk Tryz.func69 rfl rfl L0 RRd (by decide +kernel) fun A S hA hS => ?_
   unfold bodyOf Tryz.f69
   cbv
   repeat ((first | refine ABr.t (by first | assumption | rfl) ?_ | refine ABr.f (by first | assumption | rfl) ?_ | (refine aG hS hn ?_ ?_; focus (cbv; done))); cbv)
   repeat' (first | exact (l0 _).symm | exact rfl | exact trivial | constructor)
 | false =>
   cases e with
   | zero =>
     unfold RdQ
     dsimp only
     refine mk Tryz.func69 rfl rfl L0 RRd (by decide +kernel) fun A S hA hS => ?_
     have e0 : A.cmp .neq ((0 : Nat) : Int) 0 = false := i_ne hA
     unfold bodyOf Tryz.f69
     cbv
     repeat ((first | refine ABr.t (by first | assumption | rfl) ?_ | refine ABr.f (by first | assumption | rfl) ?_ | (refine aG hS hn ?_ ?_; focus (cbv; done)) | (refine aG hS h4 ?_ ?_; focus (cbv; done)) | refine aF hS hB ?_ | (refine aG hS gr ?_ ?_; focus (cbv; done))); cbv)
   | succ e =>
     have he : ((e + 1 : Nat) : Int) ≠ 0 := by omega
     unfold RdQ
     dsimp only
     generalize ((e + 1 : Nat) : Int) = e at *
     refine mk Tryz.func69 rfl rfl L0 RRd (by decide +kernel) fun A S hA hS => ?_
     have e0 : A.cmp .neq e 0 = true := by rw [i_ne hA, decide_eq_false he]; rfl
     unfold bodyOf Tryz.f69
     cbv
     repeat ((first | refine ABr.t (by first | assumption | rfl) ?_ | refine ABr.f (by first | assumption | rfl) ?_ | (refine aG hS hn ?_ ?_; focus (cbv; done)) | (refine aG hS h4 ?_ ?_; focus (cbv; done)) | refine aF hS hB ?_ | (refine aG hS gr ?_ ?_; focus (cbv; done))); cbv)
     repeat' (first | exact (l0 _).symm | exact rfl | exact trivial | constructor)
theorem allz_app (bs : Nat → Nat) (m n : Nat) : allz bs (m + n) = (allz bs m && allz (fun j => bs (m + j)) n) := by
 unfold allz
 rw [List.range_add, List.all_append, List.all_map]
 rfl
theorem allz0 (bs : Nat → Nat) (n : Nat) : allz (fun j => bs (0 + j)) n = allz bs n := by
 congr 1
 funext j
 rw [Nat.zero_add]
theorem rowB_eq {row : List AVal} {bs : Nat → Nat} {k : Nat} (h : IsRowB row bs k) : row = (List.range k).map fun j => AVal.s .u8 (bs j : Nat) := by
 refine List.ext_getElem? fun i => ?_
 by_cases hi : i < k
 . have hr := h.2.1 i hi
   rw [Nat.mul_one] at hr
   have h1 := lsub_spec _ _ _ _ hr
   rw [List.getElem?_map, List.getElem?_range hi]
   obtain ⟨h2, h3⟩ := h1
   have h4 := congrArg (fun l => l[0]?) h3
   simp only [List.getElem?_take, List.getElem?_drop] at h4
   simpa using h4.symm
 . rw [List.getElem?_eq_none (by rw [h.1]; omega), List.getElem?_eq_none (by simp; omega)]
theorem by4_num {bs : Nat → Nat} (hb : ∀ i, bs i < 256) : by4 byteN (numB bs 32) = (List.range 32).map fun j => AVal.s .u8 (bs j : Nat) := by
 have e : by4 byteN (numB bs 32) = (List.range 32).map fun j => AVal.s .u8 ((numB bs 32 / 2 ^ (8 * (32 - 1 - j)) % 256 : Nat) : Int) := by
   generalize numB bs 32 = x
   rfl
 rw [e]
 refine List.map_congr_left fun j hj => ?_
 rw [← numB_dig hb (List.mem_range.1 hj)]
theorem row_app {bs : Nat → Nat} (m n : Nat) : ((List.range (m + n)).map fun j => AVal.s .u8 (bs j : Nat)) = ((List.range m).map fun j => AVal.s .u8 (bs j : Nat)) ++ ((List.range n).map fun j => AVal.s .u8 (bs (m + j) : Nat)) := by
 rw [List.range_add, List.map_append, List.map_map]
 rfl
theorem row0b {bs : Nat → Nat} (n : Nat) : ((List.range n).map fun j => AVal.s .u8 (bs (0 + j) : Nat)) = ((List.range n).map fun j => AVal.s .u8 (bs j : Nat)) := by
 refine List.map_congr_left fun j _ => ?_
 rw [Nat.zero_add]
theorem wr_z {inf : Bool} {x : Nat} (h : inf = true → x = 0) : wr inf x = x := by
 cases inf
 . rfl
 . exact (h rfl).symm
end Go.Proofs.YtmholgclgamnnaaGreat
end
