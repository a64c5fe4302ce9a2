import Derived.Test.YtmholgclgamnnaaGreatQYD
import Derived.Test.YtmholgclgamnnaaGreatQYGG
import Derived.Test.YtmholgclgamnnaaGreatQYDL
import Derived.Test.YtmholgclgamnnaaGreatQYDB
import Derived.Test.YtmholgclgamnnaaGreatQYyXCWritesyDR
section
set_option linter.unusedVariables false
set_option linter.unusedSectionVars false
set_option linter.unusedSimpArgs false
namespace Go.Proofs.YtmholgclgamnnaaGreat
open Go Eng
set_option maxRecDepth 100000
set_option exponentiation.threshold 2000
set_option maxHeartbeats 4000000
theorem bits8 {A : Ar} (hA : A = Ar.real) {b : Nat} (hb : b < 256) : A.cmp .eql (A.bin .and .u8 (b : Int) 128) 0 = decide (b / 32 < 4) ∧ A.cmp .neq (A.bin .and .u8 (b : Int) 64) 0 = decide (b / 32 % 4 ≥ 2) ∧ A.cmp .neq (A.bin .and .u8 (b : Int) 32) 0 = decide (b / 32 % 2 = 1) ∧ A.bin .and .u8 (b : Int) 31 = ((b % 32 : Nat) : Int) := by
  rw [hA]
  have : ∀ b : Fin 256, rcmp .eql (rbin .and .u8 (b.val : Int) 128) 0 = decide (b.val / 32 < 4) ∧ rcmp .neq (rbin .and .u8 (b.val : Int) 64) 0 = decide (b.val / 32 % 4 ≥ 2) ∧ rcmp .neq (rbin .and .u8 (b.val : Int) 32) 0 = decide (b.val / 32 % 2 = 1) ∧ rbin .and .u8 (b.val : Int) 31 = ((b.val % 32 : Nat) : Int) := by decide +kernel
  exact this ⟨b, hb⟩
/-- The bytes without flags. -/
def bareB (bs : Nat → Nat) : Nat → Nat
  | 0 => bs 0 % 32
  | i + 1 => bs (i + 1)
theorem bare_lt {bs : Nat → Nat} (hb : ∀ i, bs i < 256) : ∀ i, bareB bs i < 256
  | 0 => Nat.lt_trans (Nat.mod_lt _ (by decide)) (by decide : 32 < 256)
  | i + 1 => hb _
theorem rowB48 {bs : Nat → Nat} (hb : ∀ i, bs i < 256) : IsRowB ((List.range 48).map fun j => .s .u8 (bareB bs j : Nat)) (bareB bs) 48 :=
  ⟨by simp, fun i hi => by rw [Nat.mul_one]; exact lsub_rowC (fun j => .s .u8 (bareB bs j : Nat)) 48 i hi, bare_lt hb⟩
theorem bareNo {bs : Nat → Nat} (hb : ∀ i, bs i < 256) : Sp 141 [.lst true 48 [.s .u8 ((bs 0 % 32 : Nat) : Int), .s .u8 (bs 1 : Nat), .s .u8 (bs 2 : Nat), .s .u8 (bs 3 : Nat), .s .u8 (bs 4 : Nat), .s .u8 (bs 5 : Nat), .s .u8 (bs 6 : Nat), .s .u8 (bs 7 : Nat), .s .u8 (bs 8 : Nat), .s .u8 (bs 9 : Nat), .s .u8 (bs 10 : Nat), .s .u8 (bs 11 : Nat), .s .u8 (bs 12 : Nat), .s .u8 (bs 13 : Nat), .s .u8 (bs 14 : Nat), .s .u8 (bs 15 : Nat), .s .u8 (bs 16 : Nat), .s .u8 (bs 17 : Nat), .s .u8 (bs 18 : Nat), .s .u8 (bs 19 : Nat), .s .u8 (bs 20 : Nat), .s .u8 (bs 21 : Nat), .s .u8 (bs 22 : Nat), .s .u8 (bs 23 : Nat), .s .u8 (bs 24 : Nat), .s .u8 (bs 25 : Nat), .s .u8 (bs 26 : Nat), .s .u8 (bs 27 : Nat), .s .u8 (bs 28 : Nat), .s .u8 (bs 29 : Nat), .s .u8 (bs 30 : Nat), .s .u8 (bs 31 : Nat), .s .u8 (bs 32 : Nat), .s .u8 (bs 33 : Nat), .s .u8 (bs 34 : Nat), .s .u8 (bs 35 : Nat), .s .u8 (bs 36 : Nat), .s .u8 (bs 37 : Nat), .s .u8 (bs 38 : Nat), .s .u8 (bs 39 : Nat), .s .u8 (bs 40 : Nat), .s .u8 (bs 41 : Nat), .s .u8 (bs 42 : Nat), .s .u8 (bs 43 : Nat), .s .u8 (bs 44 : Nat), .s .u8 (bs 45 : Nat), .s .u8 (bs 46 : Nat), .s .u8 (bs 47 : Nat)]] (.sb (allz (bareB bs) 48)) := noughtsS (by decide) (rowB48 hb)
theorem bareBig {H : H5} (hH : H = H5.real) {bs : Nat → Nat} (hb : ∀ i, bs i < 256) : Sp 142 [.lst true 48 [.s .u8 ((bs 0 % 32 : Nat) : Int), .s .u8 (bs 1 : Nat), .s .u8 (bs 2 : Nat), .s .u8 (bs 3 : Nat), .s .u8 (bs 4 : Nat), .s .u8 (bs 5 : Nat), .s .u8 (bs 6 : Nat), .s .u8 (bs 7 : Nat), .s .u8 (bs 8 : Nat), .s .u8 (bs 9 : Nat), .s .u8 (bs 10 : Nat), .s .u8 (bs 11 : Nat), .s .u8 (bs 12 : Nat), .s .u8 (bs 13 : Nat), .s .u8 (bs 14 : Nat), .s .u8 (bs 15 : Nat), .s .u8 (bs 16 : Nat), .s .u8 (bs 17 : Nat), .s .u8 (bs 18 : Nat), .s .u8 (bs 19 : Nat), .s .u8 (bs 20 : Nat), .s .u8 (bs 21 : Nat), .s .u8 (bs 22 : Nat), .s .u8 (bs 23 : Nat), .s .u8 (bs 24 : Nat), .s .u8 (bs 25 : Nat), .s .u8 (bs 26 : Nat), .s .u8 (bs 27 : Nat), .s .u8 (bs 28 : Nat), .s .u8 (bs 29 : Nat), .s .u8 (bs 30 : Nat), .s .u8 (bs 31 : Nat), .s .u8 (bs 32 : Nat), .s .u8 (bs 33 : Nat), .s .u8 (bs 34 : Nat), .s .u8 (bs 35 : Nat), .s .u8 (bs 36 : Nat), .s .u8 (bs 37 : Nat), .s .u8 (bs 38 : Nat), .s .u8 (bs 39 : Nat), .s .u8 (bs 40 : Nat), .s .u8 (bs 41 : Nat), .s .u8 (bs 42 : Nat), .s .u8 (bs 43 : Nat), .s .u8 (bs 44 : Nat), .s .u8 (bs 45 : Nat), .s .u8 (bs 46 : Nat), .s .u8 (bs 47 : Nat)]] (.tup [u6 H.lim (numB (bareB bs) 48), .i .i64 0]) := bigS6 (H5.hlim hH) (rowB48 hb) (by decide)
/-- A root, if there is one. -/
def rtF {p : Nat} [NeZero p] (a : Fin p) : Fin p := ⟨a.val ^ ((p + 1) / 4) % p, Nat.mod_lt _ (Nat.pos_of_ne_zero (NeZero.ne p))⟩
theorem rootT {p : Nat} [NeZero p] {H : H5} (hH : H = H5.real) (hp : PrM 384 p) {a : Fin p} (h : rtF a * rtF a = a) : Sp 143 [.ref (R6 H p) 0, el6 H p a.val] (.tup [el6 H p (rtF a).val, .b true]) :=
  (RootS6 hH hp.toMod a.isLt (rtF a).val (by rw [hH]; rfl)).1 (by rw [hH]; exact (Fin.val_mul _ _).symm.trans (congrArg Fin.val h))
theorem rootN {p : Nat} [NeZero p] {H : H5} (hH : H = H5.real) (hp : PrM 384 p) {a : Fin p} (h : rtF a * rtF a ≠ a) : Sp 143 [.ref (R6 H p) 0, el6 H p a.val] (.tup [u6 H.lim 0, .b false]) :=
  (RootS6 hH hp.toMod a.isLt (rtF a).val (by rw [hH]; rfl)).2 (fun e => h (Fin.ext ((Fin.val_mul _ _).trans (by rw [hH] at e; exact e))))
/-- The other root, if it is asked for. -/
def pickY {p : Nat} [NeZero p] (r : Fin p) (s : Bool) : Fin p := match decide (p / 2 < r.val) with
  | true => match s with | true => r | false => 0 - r
  | false => match s with | true => 0 - r | false => r
def rhsB (x : Nat) : Fin blsP := fo blsP x * fo blsP x * fo blsP x + blsC.b1
def ptB (x : Nat) (s : Bool) : PtA := ⟨x, (pickY (rtF (rhsB x)) s).val, false⟩
/-- What a compressed point's bytes tell: its flags, whether the others are noughts, and the number. -/
def rdB (f : Nat) (z : Bool) (x : Nat) : PtA × Nat :=
  if f < 4 then (⟨0, 0, false⟩, 73) else if 6 ≤ f then (if f = 6 ∧ z = true then (⟨0, 0, true⟩, 0) else (⟨0, 0, false⟩, 73))
  else if ¬ x < blsP then (⟨0, 0, false⟩, 70) else if rtF (rhsB x) * rtF (rhsB x) ≠ rhsB x then (⟨0, 0, false⟩, 71)
  else if grpP blsC.b1 (ptB x (decide (f = 5))) blsR ≠ 0 then (⟨0, 0, false⟩, grpP blsC.b1 (ptB x (decide (f = 5))) blsR) else (ptB x (decide (f = 5)), 0)
def RRb : Nat → Md := fun r => match r with | 6 => .own | _ => .mid
theorem rdP2 {H : H5} (hH : H = H5.real) {c : Cu blsP} (hc : c = blsC) {bs : Nat → Nat} (hb : ∀ i, bs i < 256) (hf : bs 0 / 32 < 4) : Sp 66 [.lst false 48 [.s .u8 (bs 0 : Nat), .s .u8 (bs 1 : Nat), .s .u8 (bs 2 : Nat), .s .u8 (bs 3 : Nat), .s .u8 (bs 4 : Nat), .s .u8 (bs 5 : Nat), .s .u8 (bs 6 : Nat), .s .u8 (bs 7 : Nat), .s .u8 (bs 8 : Nat), .s .u8 (bs 9 : Nat), .s .u8 (bs 10 : Nat), .s .u8 (bs 11 : Nat), .s .u8 (bs 12 : Nat), .s .u8 (bs 13 : Nat), .s .u8 (bs 14 : Nat), .s .u8 (bs 15 : Nat), .s .u8 (bs 16 : Nat), .s .u8 (bs 17 : Nat), .s .u8 (bs 18 : Nat), .s .u8 (bs 19 : Nat), .s .u8 (bs 20 : Nat), .s .u8 (bs 21 : Nat), .s .u8 (bs 22 : Nat), .s .u8 (bs 23 : Nat), .s .u8 (bs 24 : Nat), .s .u8 (bs 25 : Nat), .s .u8 (bs 26 : Nat), .s .u8 (bs 27 : Nat), .s .u8 (bs 28 : Nat), .s .u8 (bs 29 : Nat), .s .u8 (bs 30 : Nat), .s .u8 (bs 31 : Nat), .s .u8 (bs 32 : Nat), .s .u8 (bs 33 : Nat), .s .u8 (bs 34 : Nat), .s .u8 (bs 35 : Nat), .s .u8 (bs 36 : Nat), .s .u8 (bs 37 : Nat), .s .u8 (bs 38 : Nat), .s .u8 (bs 39 : Nat), .s .u8 (bs 40 : Nat), .s .u8 (bs 41 : Nat), .s .u8 (bs 42 : Nat), .s .u8 (bs 43 : Nat), .s .u8 (bs 44 : Nat), .s .u8 (bs 45 : Nat), .s .u8 (bs 46 : Nat), .s .u8 (bs 47 : Nat)]] (.tup [P1_6 H ⟨0, 0, false⟩, .s .i64 73]) := by
  have l0 := lim06 hH
  have kcl := cloneS bs
  have b8 := fun A hA => bits8 (A := A) hA (hb 0)
  have hno := bareNo hb
  have hbig := bareBig hH hb
  refine mk Tryz.func66 rfl rfl L0 RRb (by decide +kernel) fun A S hA hS => ?_
  obtain ⟨t7, t6, t5, h31⟩ := b8 A hA
  have nf : A.not false = true := i_not hA rfl
  have nt : A.not true = false := i_not hA rfl
  rw [← h31] at hno hbig
  rw [show decide (bs 0 / 32 < 4) = true from decide_eq_true (by omega)] at t7
  unfold bodyOf Tryz.f66
  cbv
  repeat (first
    | (refine ABr.t (by assumption) ?_; cbv)
    | (refine ABr.f (by assumption) ?_; cbv)
    | (refine ABr.t rfl ?_; cbv)
    | (refine ABr.f rfl ?_; cbv))
  repeat' (first | exact (l0 _).symm | exact rfl | exact trivial | constructor)
theorem rdP3 {H : H5} (hH : H = H5.real) {c : Cu blsP} (hc : c = blsC) {bs : Nat → Nat} (hb : ∀ i, bs i < 256) (hf : bs 0 / 32 = 7) : Sp 66 [.lst false 48 [.s .u8 (bs 0 : Nat), .s .u8 (bs 1 : Nat), .s .u8 (bs 2 : Nat), .s .u8 (bs 3 : Nat), .s .u8 (bs 4 : Nat), .s .u8 (bs 5 : Nat), .s .u8 (bs 6 : Nat), .s .u8 (bs 7 : Nat), .s .u8 (bs 8 : Nat), .s .u8 (bs 9 : Nat), .s .u8 (bs 10 : Nat), .s .u8 (bs 11 : Nat), .s .u8 (bs 12 : Nat), .s .u8 (bs 13 : Nat), .s .u8 (bs 14 : Nat), .s .u8 (bs 15 : Nat), .s .u8 (bs 16 : Nat), .s .u8 (bs 17 : Nat), .s .u8 (bs 18 : Nat), .s .u8 (bs 19 : Nat), .s .u8 (bs 20 : Nat), .s .u8 (bs 21 : Nat), .s .u8 (bs 22 : Nat), .s .u8 (bs 23 : Nat), .s .u8 (bs 24 : Nat), .s .u8 (bs 25 : Nat), .s .u8 (bs 26 : Nat), .s .u8 (bs 27 : Nat), .s .u8 (bs 28 : Nat), .s .u8 (bs 29 : Nat), .s .u8 (bs 30 : Nat), .s .u8 (bs 31 : Nat), .s .u8 (bs 32 : Nat), .s .u8 (bs 33 : Nat), .s .u8 (bs 34 : Nat), .s .u8 (bs 35 : Nat), .s .u8 (bs 36 : Nat), .s .u8 (bs 37 : Nat), .s .u8 (bs 38 : Nat), .s .u8 (bs 39 : Nat), .s .u8 (bs 40 : Nat), .s .u8 (bs 41 : Nat), .s .u8 (bs 42 : Nat), .s .u8 (bs 43 : Nat), .s .u8 (bs 44 : Nat), .s .u8 (bs 45 : Nat), .s .u8 (bs 46 : Nat), .s .u8 (bs 47 : Nat)]] (.tup [P1_6 H ⟨0, 0, false⟩, .s .i64 73]) := by
  have l0 := lim06 hH
  have kcl := cloneS bs
  have b8 := fun A hA => bits8 (A := A) hA (hb 0)
  have hno := bareNo hb
  have hbig := bareBig hH hb
  clear hno hbig
  have hno := (trivial : True)
  have hbig := (trivial : True)
  refine mk Tryz.func66 rfl rfl L0 RRb (by decide +kernel) fun A S hA hS => ?_
  obtain ⟨t7, t6, t5, h31⟩ := b8 A hA
  have nf : A.not false = true := i_not hA rfl
  have nt : A.not true = false := i_not hA rfl
  rw [show decide (bs 0 / 32 < 4) = false from decide_eq_false (by omega)] at t7
  rw [show decide (bs 0 / 32 % 4 ≥ 2) = true from decide_eq_true (by omega)] at t6
  rw [show decide (bs 0 / 32 % 2 = 1) = true from decide_eq_true (by omega)] at t5
  unfold bodyOf Tryz.f66
  cbv
  repeat (first
    | (refine ABr.t (by assumption) ?_; cbv)
    | (refine ABr.f (by assumption) ?_; cbv)
    | (refine ABr.t rfl ?_; cbv)
    | (refine ABr.f rfl ?_; cbv)
    | (refine ACall.mk _ (cf hS kcl) ?_; cbv))
  repeat' (first | exact (l0 _).symm | exact rfl | exact trivial | constructor)
theorem rdP3b {H : H5} (hH : H = H5.real) {c : Cu blsP} (hc : c = blsC) {bs : Nat → Nat} (hb : ∀ i, bs i < 256) (hf : bs 0 / 32 = 6) (hz : allz (bareB bs) 48 = false) : Sp 66 [.lst false 48 [.s .u8 (bs 0 : Nat), .s .u8 (bs 1 : Nat), .s .u8 (bs 2 : Nat), .s .u8 (bs 3 : Nat), .s .u8 (bs 4 : Nat), .s .u8 (bs 5 : Nat), .s .u8 (bs 6 : Nat), .s .u8 (bs 7 : Nat), .s .u8 (bs 8 : Nat), .s .u8 (bs 9 : Nat), .s .u8 (bs 10 : Nat), .s .u8 (bs 11 : Nat), .s .u8 (bs 12 : Nat), .s .u8 (bs 13 : Nat), .s .u8 (bs 14 : Nat), .s .u8 (bs 15 : Nat), .s .u8 (bs 16 : Nat), .s .u8 (bs 17 : Nat), .s .u8 (bs 18 : Nat), .s .u8 (bs 19 : Nat), .s .u8 (bs 20 : Nat), .s .u8 (bs 21 : Nat), .s .u8 (bs 22 : Nat), .s .u8 (bs 23 : Nat), .s .u8 (bs 24 : Nat), .s .u8 (bs 25 : Nat), .s .u8 (bs 26 : Nat), .s .u8 (bs 27 : Nat), .s .u8 (bs 28 : Nat), .s .u8 (bs 29 : Nat), .s .u8 (bs 30 : Nat), .s .u8 (bs 31 : Nat), .s .u8 (bs 32 : Nat), .s .u8 (bs 33 : Nat), .s .u8 (bs 34 : Nat), .s .u8 (bs 35 : Nat), .s .u8 (bs 36 : Nat), .s .u8 (bs 37 : Nat), .s .u8 (bs 38 : Nat), .s .u8 (bs 39 : Nat), .s .u8 (bs 40 : Nat), .s .u8 (bs 41 : Nat), .s .u8 (bs 42 : Nat), .s .u8 (bs 43 : Nat), .s .u8 (bs 44 : Nat), .s .u8 (bs 45 : Nat), .s .u8 (bs 46 : Nat), .s .u8 (bs 47 : Nat)]] (.tup [P1_6 H ⟨0, 0, false⟩, .s .i64 73]) := by
  have l0 := lim06 hH
  have kcl := cloneS bs
  have b8 := fun A hA => bits8 (A := A) hA (hb 0)
  have hno := bareNo hb
  have hbig := bareBig hH hb
  rw [hz] at hno
  clear hbig
  refine mk Tryz.func66 rfl rfl L0 RRb (by decide +kernel) fun A S hA hS => ?_
  obtain ⟨t7, t6, t5, h31⟩ := b8 A hA
  have nf : A.not false = true := i_not hA rfl
  have nt : A.not true = false := i_not hA rfl
  rw [← h31] at hno
  rw [show decide (bs 0 / 32 < 4) = false from decide_eq_false (by omega)] at t7
  rw [show decide (bs 0 / 32 % 4 ≥ 2) = true from decide_eq_true (by omega)] at t6
  rw [show decide (bs 0 / 32 % 2 = 1) = false from decide_eq_false (by omega)] at t5
  unfold bodyOf Tryz.f66
  cbv
  repeat (first
    | (refine ABr.t (by assumption) ?_; cbv)
    | (refine ABr.f (by assumption) ?_; cbv)
    | (refine ABr.t rfl ?_; cbv)
    | (refine ABr.f rfl ?_; cbv)
    | (refine ACall.mk _ (cf hS kcl) ?_; cbv)
    | (refine ACall.mk _ (cg hS hno ?_) ?_; (focus (cbv; done)); cbv))
  repeat' (first | exact (l0 _).symm | exact rfl | exact trivial | constructor)
theorem rdP4 {H : H5} (hH : H = H5.real) {c : Cu blsP} (hc : c = blsC) {bs : Nat → Nat} (hb : ∀ i, bs i < 256) (hf : bs 0 / 32 = 6) (hz : allz (bareB bs) 48 = true) : Sp 66 [.lst false 48 [.s .u8 (bs 0 : Nat), .s .u8 (bs 1 : Nat), .s .u8 (bs 2 : Nat), .s .u8 (bs 3 : Nat), .s .u8 (bs 4 : Nat), .s .u8 (bs 5 : Nat), .s .u8 (bs 6 : Nat), .s .u8 (bs 7 : Nat), .s .u8 (bs 8 : Nat), .s .u8 (bs 9 : Nat), .s .u8 (bs 10 : Nat), .s .u8 (bs 11 : Nat), .s .u8 (bs 12 : Nat), .s .u8 (bs 13 : Nat), .s .u8 (bs 14 : Nat), .s .u8 (bs 15 : Nat), .s .u8 (bs 16 : Nat), .s .u8 (bs 17 : Nat), .s .u8 (bs 18 : Nat), .s .u8 (bs 19 : Nat), .s .u8 (bs 20 : Nat), .s .u8 (bs 21 : Nat), .s .u8 (bs 22 : Nat), .s .u8 (bs 23 : Nat), .s .u8 (bs 24 : Nat), .s .u8 (bs 25 : Nat), .s .u8 (bs 26 : Nat), .s .u8 (bs 27 : Nat), .s .u8 (bs 28 : Nat), .s .u8 (bs 29 : Nat), .s .u8 (bs 30 : Nat), .s .u8 (bs 31 : Nat), .s .u8 (bs 32 : Nat), .s .u8 (bs 33 : Nat), .s .u8 (bs 34 : Nat), .s .u8 (bs 35 : Nat), .s .u8 (bs 36 : Nat), .s .u8 (bs 37 : Nat), .s .u8 (bs 38 : Nat), .s .u8 (bs 39 : Nat), .s .u8 (bs 40 : Nat), .s .u8 (bs 41 : Nat), .s .u8 (bs 42 : Nat), .s .u8 (bs 43 : Nat), .s .u8 (bs 44 : Nat), .s .u8 (bs 45 : Nat), .s .u8 (bs 46 : Nat), .s .u8 (bs 47 : Nat)]] (.tup [P1_6 H ⟨0, 0, true⟩, .s .i64 0]) := by
  have l0 := lim06 hH
  have kcl := cloneS bs
  have b8 := fun A hA => bits8 (A := A) hA (hb 0)
  have hno := bareNo hb
  have hbig := bareBig hH hb
  rw [hz] at hno
  clear hbig
  refine mk Tryz.func66 rfl rfl L0 RRb (by decide +kernel) fun A S hA hS => ?_
  obtain ⟨t7, t6, t5, h31⟩ := b8 A hA
  have nf : A.not false = true := i_not hA rfl
  have nt : A.not true = false := i_not hA rfl
  rw [← h31] at hno
  rw [show decide (bs 0 / 32 < 4) = false from decide_eq_false (by omega)] at t7
  rw [show decide (bs 0 / 32 % 4 ≥ 2) = true from decide_eq_true (by omega)] at t6
  rw [show decide (bs 0 / 32 % 2 = 1) = false from decide_eq_false (by omega)] at t5
  unfold bodyOf Tryz.f66
  cbv
  repeat (first
    | (refine ABr.t (by assumption) ?_; cbv)
    | (refine ABr.f (by assumption) ?_; cbv)
    | (refine ABr.t rfl ?_; cbv)
    | (refine ABr.f rfl ?_; cbv)
    | (refine ACall.mk _ (cf hS kcl) ?_; cbv)
    | (refine ACall.mk _ (cg hS hno ?_) ?_; (focus (cbv; done)); cbv))
  repeat' (first | exact (l0 _).symm | exact rfl | exact trivial | constructor)
theorem rdP5_0 {H : H5} (hH : H = H5.real) {c : Cu blsP} (hc : c = blsC) {bs : Nat → Nat} (hb : ∀ i, bs i < 256) (hf : bs 0 / 32 = 4) (hx : ¬ numB (bareB bs) 48 < blsP) : Sp 66 [.lst false 48 [.s .u8 (bs 0 : Nat), .s .u8 (bs 1 : Nat), .s .u8 (bs 2 : Nat), .s .u8 (bs 3 : Nat), .s .u8 (bs 4 : Nat), .s .u8 (bs 5 : Nat), .s .u8 (bs 6 : Nat), .s .u8 (bs 7 : Nat), .s .u8 (bs 8 : Nat), .s .u8 (bs 9 : Nat), .s .u8 (bs 10 : Nat), .s .u8 (bs 11 : Nat), .s .u8 (bs 12 : Nat), .s .u8 (bs 13 : Nat), .s .u8 (bs 14 : Nat), .s .u8 (bs 15 : Nat), .s .u8 (bs 16 : Nat), .s .u8 (bs 17 : Nat), .s .u8 (bs 18 : Nat), .s .u8 (bs 19 : Nat), .s .u8 (bs 20 : Nat), .s .u8 (bs 21 : Nat), .s .u8 (bs 22 : Nat), .s .u8 (bs 23 : Nat), .s .u8 (bs 24 : Nat), .s .u8 (bs 25 : Nat), .s .u8 (bs 26 : Nat), .s .u8 (bs 27 : Nat), .s .u8 (bs 28 : Nat), .s .u8 (bs 29 : Nat), .s .u8 (bs 30 : Nat), .s .u8 (bs 31 : Nat), .s .u8 (bs 32 : Nat), .s .u8 (bs 33 : Nat), .s .u8 (bs 34 : Nat), .s .u8 (bs 35 : Nat), .s .u8 (bs 36 : Nat), .s .u8 (bs 37 : Nat), .s .u8 (bs 38 : Nat), .s .u8 (bs 39 : Nat), .s .u8 (bs 40 : Nat), .s .u8 (bs 41 : Nat), .s .u8 (bs 42 : Nat), .s .u8 (bs 43 : Nat), .s .u8 (bs 44 : Nat), .s .u8 (bs 45 : Nat), .s .u8 (bs 46 : Nat), .s .u8 (bs 47 : Nat)]] (.tup [P1_6 H ⟨0, 0, false⟩, .s .i64 70]) := by
  have l0 := lim06 hH
  have kcl := cloneS bs
  have k := BlsS hH hc
  have kp := BlsPS hH
  have b8 := fun A hA => bits8 (A := A) hA (hb 0)
  have hno := bareNo hb
  have hbig := bareBig hH hb
  have ls := LessS6 hH (numB (bareB bs) 48) blsP (Vb_lt 48 fun j _ => bare_lt hb _) (by decide)
  rw [show H.lt (numB (bareB bs) 48) blsP = false by rw [hH]; exact decide_eq_false hx] at ls
  clear hno
  generalize numB (bareB bs) 48 = x at *
  obtain ⟨q, hq⟩ : ∃ q, q = blsP := ⟨_, rfl⟩
  rw [← hq] at ls kp
  clear hq
  refine mk Tryz.func66 rfl rfl L0 RRb (by decide +kernel) fun A S hA hS => ?_
  obtain ⟨t7, t6, t5, h31⟩ := b8 A hA
  have nf : A.not false = true := i_not hA rfl
  have nt : A.not true = false := i_not hA rfl
  rw [← h31] at hbig
  rw [show decide (bs 0 / 32 < 4) = false from decide_eq_false (by omega)] at t7
  rw [show decide (bs 0 / 32 % 4 ≥ 2) = false from decide_eq_false (by omega)] at t6
  rw [show decide (bs 0 / 32 % 2 = 1) = false from decide_eq_false (by omega)] at t5
  unfold bodyOf Tryz.f66
  cbv
  repeat (first
    | (refine ABr.t (by assumption) ?_; cbv)
    | (refine ABr.f (by assumption) ?_; cbv)
    | (refine ABr.t rfl ?_; cbv)
    | (refine ABr.f rfl ?_; cbv)
    | (refine ACall.mk _ (cf hS kcl) ?_; cbv)
    | (refine ACall.mk _ (cg hS hbig ?_) ?_; (focus (cbv; done)); cbv)
    | (refine ACall.mk _ (cf hS k) ?_; cbv)
    | (refine ACall.mk _ (cf hS kp) ?_; cbv)
    | (refine ACall.mk _ (cf hS ls) ?_; cbv))
  repeat' (first | exact (l0 _).symm | exact rfl | exact trivial | constructor)
theorem rdP5_1 {H : H5} (hH : H = H5.real) {c : Cu blsP} (hc : c = blsC) {bs : Nat → Nat} (hb : ∀ i, bs i < 256) (hf : bs 0 / 32 = 5) (hx : ¬ numB (bareB bs) 48 < blsP) : Sp 66 [.lst false 48 [.s .u8 (bs 0 : Nat), .s .u8 (bs 1 : Nat), .s .u8 (bs 2 : Nat), .s .u8 (bs 3 : Nat), .s .u8 (bs 4 : Nat), .s .u8 (bs 5 : Nat), .s .u8 (bs 6 : Nat), .s .u8 (bs 7 : Nat), .s .u8 (bs 8 : Nat), .s .u8 (bs 9 : Nat), .s .u8 (bs 10 : Nat), .s .u8 (bs 11 : Nat), .s .u8 (bs 12 : Nat), .s .u8 (bs 13 : Nat), .s .u8 (bs 14 : Nat), .s .u8 (bs 15 : Nat), .s .u8 (bs 16 : Nat), .s .u8 (bs 17 : Nat), .s .u8 (bs 18 : Nat), .s .u8 (bs 19 : Nat), .s .u8 (bs 20 : Nat), .s .u8 (bs 21 : Nat), .s .u8 (bs 22 : Nat), .s .u8 (bs 23 : Nat), .s .u8 (bs 24 : Nat), .s .u8 (bs 25 : Nat), .s .u8 (bs 26 : Nat), .s .u8 (bs 27 : Nat), .s .u8 (bs 28 : Nat), .s .u8 (bs 29 : Nat), .s .u8 (bs 30 : Nat), .s .u8 (bs 31 : Nat), .s .u8 (bs 32 : Nat), .s .u8 (bs 33 : Nat), .s .u8 (bs 34 : Nat), .s .u8 (bs 35 : Nat), .s .u8 (bs 36 : Nat), .s .u8 (bs 37 : Nat), .s .u8 (bs 38 : Nat), .s .u8 (bs 39 : Nat), .s .u8 (bs 40 : Nat), .s .u8 (bs 41 : Nat), .s .u8 (bs 42 : Nat), .s .u8 (bs 43 : Nat), .s .u8 (bs 44 : Nat), .s .u8 (bs 45 : Nat), .s .u8 (bs 46 : Nat), .s .u8 (bs 47 : Nat)]] (.tup [P1_6 H ⟨0, 0, false⟩, .s .i64 70]) := by
  have l0 := lim06 hH
  have kcl := cloneS bs
  have k := BlsS hH hc
  have kp := BlsPS hH
  have b8 := fun A hA => bits8 (A := A) hA (hb 0)
  have hno := bareNo hb
  have hbig := bareBig hH hb
  have ls := LessS6 hH (numB (bareB bs) 48) blsP (Vb_lt 48 fun j _ => bare_lt hb _) (by decide)
  rw [show H.lt (numB (bareB bs) 48) blsP = false by rw [hH]; exact decide_eq_false hx] at ls
  clear hno
  generalize numB (bareB bs) 48 = x at *
  obtain ⟨q, hq⟩ : ∃ q, q = blsP := ⟨_, rfl⟩
  rw [← hq] at ls kp
  clear hq
  refine mk Tryz.func66 rfl rfl L0 RRb (by decide +kernel) fun A S hA hS => ?_
  obtain ⟨t7, t6, t5, h31⟩ := b8 A hA
  have nf : A.not false = true := i_not hA rfl
  have nt : A.not true = false := i_not hA rfl
  rw [← h31] at hbig
  rw [show decide (bs 0 / 32 < 4) = false from decide_eq_false (by omega)] at t7
  rw [show decide (bs 0 / 32 % 4 ≥ 2) = false from decide_eq_false (by omega)] at t6
  rw [show decide (bs 0 / 32 % 2 = 1) = true from decide_eq_true (by omega)] at t5
  unfold bodyOf Tryz.f66
  cbv
  repeat (first
    | (refine ABr.t (by assumption) ?_; cbv)
    | (refine ABr.f (by assumption) ?_; cbv)
    | (refine ABr.t rfl ?_; cbv)
    | (refine ABr.f rfl ?_; cbv)
    | (refine ACall.mk _ (cf hS kcl) ?_; cbv)
    | (refine ACall.mk _ (cg hS hbig ?_) ?_; (focus (cbv; done)); cbv)
    | (refine ACall.mk _ (cf hS k) ?_; cbv)
    | (refine ACall.mk _ (cf hS kp) ?_; cbv)
    | (refine ACall.mk _ (cf hS ls) ?_; cbv))
  repeat' (first | exact (l0 _).symm | exact rfl | exact trivial | constructor)
end Go.Proofs.YtmholgclgamnnaaGreat
end
section
set_option linter.unusedVariables false
set_option linter.unusedSectionVars false
set_option linter.unusedSimpArgs false
namespace Go.Proofs.YtmholgclgamnnaaGreat
open Go Eng
set_option maxRecDepth 100000
set_option exponentiation.threshold 2000
set_option maxHeartbeats 4000000
theorem Vb_congr {d e : Nat → Nat} : ∀ n, (∀ j, j < n → d j = e j) → Vb d n = Vb e n
  | 0, _ => rfl
  | n + 1, h => by rw [Vb, Vb, Vb_congr n fun j hj => h j (by omega), h n (by omega)]
theorem Vb_num (x : Nat) : ∀ n, Vb (fun p => x / 2 ^ (8 * p) % 256) n = x % 2 ^ (8 * n)
  | 0 => by rw [Vb, Nat.mul_zero, Nat.pow_zero, Nat.mod_one]
  | n + 1 => by rw [Vb, Vb_num x n, mod_byte]
theorem numB_of {bs : Nat → Nat} {n x : Nat} (h : ∀ i, i < n → bs i = x / 2 ^ (8 * (n - 1 - i)) % 256) (hx : x < 2 ^ (8 * n)) : numB bs n = x := by
  unfold numB
  rw [Vb_congr (e := fun p => x / 2 ^ (8 * p) % 256) n fun j hj => by rw [h _ (by omega), show n - 1 - (n - 1 - j) = j by omega], Vb_num, Nat.mod_eq_of_lt hx]
theorem numB_dig {bs : Nat → Nat} {n : Nat} (hb : ∀ i, bs i < 256) {j : Nat} (hj : j < n) : bs j = numB bs n / 2 ^ (8 * (n - 1 - j)) % 256 := by
  have := Vb_dig (o := fun p => bs (n - 1 - p)) n (fun _ _ => hb _) (n - 1 - j) (by omega)
  rw [show n - 1 - (n - 1 - j) = j by omega] at this
  exact this.symm
theorem Vb_zero {d : Nat → Nat} : ∀ n, (∀ j, j < n → d j = 0) → Vb d n = 0
  | 0, _ => rfl
  | n + 1, h => by rw [Vb, Vb_zero n fun j hj => h j (by omega), h n (by omega), Nat.zero_mul]
theorem allz_num {bs : Nat → Nat} {n : Nat} (hb : ∀ i, bs i < 256) : allz bs n = decide (numB bs n = 0) := by
  by_cases h : numB bs n = 0
  · rw [decide_eq_true h]
    unfold allz
    rw [List.all_eq_true]
    intro i hi
    have hi' : i < n := List.mem_range.1 hi
    have := numB_dig hb hi'
    rw [h, Nat.zero_div] at this
    rw [this]; rfl
  · rw [decide_eq_false h]
    refine Bool.eq_false_iff.2 fun ha => h ?_
    unfold allz at ha
    rw [List.all_eq_true] at ha
    unfold numB
    refine Vb_zero n fun j hj => ?_
    have := ha (n - 1 - j) (List.mem_range.2 (by omega))
    exact eq_of_beq this
open NT in
theorem pr_root {p x : Nat} (hp : Pr p) (h2 : 2 < p) (h3 : p % 4 = 3) : ((x * x % p) ^ ((p + 1) / 4) % p) * ((x * x % p) ^ ((p + 1) / 4) % p) % p = x * x % p := by
  obtain ⟨k, rfl⟩ : ∃ k, p = 4 * k + 3 := ⟨p / 4, by omega⟩
  rw [← Nat.mul_mod, show (4 * k + 3 + 1) / 4 = k + 1 by omega, ← Nat.mul_pow, Nat.pow_mod, ← Nat.mul_mod, ← Nat.pow_mod]
  by_cases hd : (4 * k + 3) ∣ x
  · obtain ⟨y, rfl⟩ := hd
    have e1 : ∀ n : Nat, ((4 * k + 3) * n) % (4 * k + 3) = 0 := fun n => Nat.mul_mod_right _ _
    rw [Nat.mul_assoc (4 * k + 3) y, Nat.mul_assoc, Nat.mul_pow, Nat.pow_succ, Nat.mul_comm _ (4 * k + 3), Nat.mul_assoc, Nat.mul_assoc, e1, e1]
  · have := fermat hp hd
    rw [show 4 * k + 3 - 1 = 4 * k + 2 by omega] at this
    have e : (x * x * (x * x)) ^ (k + 1) = x ^ (4 * k + 2) * (x * x) := by
      rw [show x * x * (x * x) = x ^ 4 by simp only [Nat.pow_succ, Nat.pow_zero, Nat.one_mul, Nat.mul_assoc], ← Nat.pow_mul, show 4 * (k + 1) = 4 * k + 2 + 1 + 1 by omega, Nat.pow_succ, Nat.pow_succ, Nat.mul_assoc]
    rw [e, Nat.mul_mod, this, Nat.one_mul, Nat.mod_mod]
section
variable {p : Nat} [NeZero p]
theorem rt_sq {n : Nat} (hp : PrM n p) (y : Fin p) : rtF (y * y) * rtF (y * y) = y * y := by
  refine Fin.ext ?_
  have := pr_root (x := y.val) hp.pr hp.two hp.four
  rw [Fin.val_mul]
  unfold rtF
  show (y * y).val ^ ((p + 1) / 4) % p * ((y * y).val ^ ((p + 1) / 4) % p) % p = (y * y).val
  rw [Fin.val_mul]
  exact this
theorem sq_eq {n : Nat} (hp : PrM n p) {r y : Fin p} (h : r * r = y * y) : r = y ∨ r = 0 - y := by
  have F := Gp.fd1 hp.pr hp.two
  have : (r - y) * (r + y) = 0 := by grind
  rcases F.dom (a := r - y) (b := r + y) this with h | h
  · exact .inl (by have h : r - y = 0 := h; grind)
  · exact .inr (by have h : r + y = 0 := h; grind)
theorem half_neg {n : Nat} (hp : PrM n p) {y : Fin p} (hy : y ≠ 0) : decide (p / 2 < (0 - y).val) = !decide (p / 2 < y.val) := by
  have h4 := hp.four
  have h1 := y.isLt
  have h0 : y.val ≠ 0 := fun e => hy (Fin.ext e)
  have e : (0 - y).val = p - y.val := by
    have e : (0 - y).val = (p - y.val) % p := by rw [Fin.sub_def]; rfl
    rw [e, Nat.mod_eq_of_lt (by omega)]
  rw [e]
  by_cases h : p / 2 < y.val
  · rw [decide_eq_true h, decide_eq_false (by omega)]; rfl
  · rw [decide_eq_false h, decide_eq_true (by omega)]; rfl
theorem pick_sq {n : Nat} (hp : PrM n p) {r y : Fin p} (h : r * r = y * y) : pickY r (decide (p / 2 < y.val)) = y := by
  rcases sq_eq hp h with rfl | rfl
  · unfold pickY; cases decide (p / 2 < r.val) <;> rfl
  · by_cases h0 : y = 0
    · subst h0
      have e : (0 : Fin p) - 0 = 0 := by grind
      unfold pickY; rw [e]; cases decide (p / 2 < (0 : Fin p).val) <;> first | rfl | exact e
    · have e : (0 : Fin p) - (0 - y) = y := by grind
      unfold pickY; rw [half_neg hp h0, e]; cases decide (p / 2 < y.val) <;> rfl
end
theorem pickY_tt {p : Nat} [NeZero p] {r : Fin p} (h : decide (p / 2 < r.val) = true) : pickY r true = r := by unfold pickY; rw [h]
theorem pickY_tf {p : Nat} [NeZero p] {r : Fin p} (h : decide (p / 2 < r.val) = true) : pickY r false = 0 - r := by unfold pickY; rw [h]
theorem pickY_ft {p : Nat} [NeZero p] {r : Fin p} (h : decide (p / 2 < r.val) = false) : pickY r true = 0 - r := by unfold pickY; rw [h]
theorem pickY_ff {p : Nat} [NeZero p] {r : Fin p} (h : decide (p / 2 < r.val) = false) : pickY r false = r := by unfold pickY; rw [h]
/-- A written point's bytes, as numbers. -/
def wbs (x f : Nat) : Nat → Nat
  | 0 => x / 2 ^ (8 * 47) % 256 + f
  | i + 1 => x / 2 ^ (8 * (46 - i)) % 256
theorem wbs_lt {x f : Nat} (hx : x < blsP) (hf : f ≤ 192) : ∀ i, wbs x f i < 256
  | 0 => by
    have := top_lt hx
    show x / 2 ^ (8 * 47) % 256 + f < 256
    omega
  | i + 1 => Nat.mod_lt _ (by decide)
theorem bare_w {x f : Nat} (hx : x < blsP) (hf : f % 32 = 0) : numB (bareB (wbs x f)) 48 = x := by
  refine numB_of (fun i hi => ?_) (Nat.lt_trans hx (by decide))
  cases i with
  | zero =>
    have := top_lt hx
    show (x / 2 ^ (8 * 47) % 256 + f) % 32 = x / 2 ^ (8 * 47) % 256
    omega
  | succ i => show x / 2 ^ (8 * (46 - i)) % 256 = _; rw [show 48 - 1 - (i + 1) = 46 - i by omega]
theorem flg_cases (P : PtA) : flg P = 192 ∨ flg P = 160 ∨ flg P = 128 := by
  unfold flg; cases P.inf <;> cases decide (blsP / 2 < P.y) <;> simp
theorem grp_good {p : Nat} [NeZero p] {b : Fin p} {P : PtA} {r : Nat} (h : grpP b P r = 0) : good1 b P = 0 := by
  unfold grpP at h
  by_cases hg : good1 b P = 0
  · exact hg
  · rw [if_pos hg] at h; exact h
theorem good_eq {p : Nat} [NeZero p] {b : Fin p} {P : PtA} (h : good1 b P = 0) (hi : P.inf = false) : fo p P.y * fo p P.y = fo p P.x * fo p P.x * fo p P.x + b := by
  have hl := good_lt h
  unfold good1 at h
  rw [if_neg (by rw [hi]; exact Bool.false_ne_true), if_pos hl] at h
  by_cases h0 : fo p P.y * fo p P.y = fo p P.x * fo p P.x * fo p P.x + b
  · exact h0
  · rw [if_neg h0] at h; cases h
/-- What is written is read back. -/
theorem back {P : PtA} (hg : grpP blsC.b1 P blsR = 0) : rdB (flg P / 32) (allz (bareB (wbs P.x (flg P))) 48) (numB (bareB (wbs P.x (flg P))) 48) = (P, 0) := by
  have hgd := grp_good hg
  have hl := good_lt hgd
  have hfc := flg_cases P
  have hb := wbs_lt (f := flg P) hl.1 (by omega)
  rw [allz_num (bare_lt hb), bare_w hl.1 (by omega)]
  cases hi : P.inf with
  | true =>
    have h0 := good_inf hgd hi
    have hf : flg P = 192 := by unfold flg; rw [hi]
    rw [hf]
    unfold rdB
    rw [if_neg (by decide), if_pos (by decide), if_pos ⟨by decide, decide_eq_true h0.1⟩]
    obtain ⟨x, y, i⟩ := P
    dsimp only at h0 hi
    obtain ⟨rfl, rfl⟩ := h0
    subst hi
    rfl
  | false =>
    have he := good_eq hgd hi
    have hf : flg P = (match decide (blsP / 2 < P.y) with | true => 160 | false => 128) := by unfold flg; rw [hi]; rfl
    have hr : rhsB P.x = fo blsP P.y * fo blsP P.y := he.symm
    have hyv : (fo blsP P.y).val = P.y := Nat.mod_eq_of_lt hl.2
    have hpk : ptB P.x (decide (flg P / 32 = 5)) = P := by
      have e5 : decide (flg P / 32 = 5) = decide (blsP / 2 < (fo blsP P.y).val) := by
        rw [hyv, hf]; cases decide (blsP / 2 < P.y) <;> rfl
      unfold ptB
      rw [e5, hr, pick_sq blsPr (rt_sq blsPr _), hyv, ← hi]
    have h45 : flg P / 32 = 4 ∨ flg P / 32 = 5 := by rw [hf]; cases decide (blsP / 2 < P.y) <;> simp
    unfold rdB
    rw [if_neg (by omega), if_neg (by omega), if_neg (fun h => h hl.1), if_neg (fun h => h (by rw [hr]; exact rt_sq blsPr _)), if_neg (fun h => h (by rw [hpk]; exact hg)), hpk]
end Go.Proofs.YtmholgclgamnnaaGreat
end
