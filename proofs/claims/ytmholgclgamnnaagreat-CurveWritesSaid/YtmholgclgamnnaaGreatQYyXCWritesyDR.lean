import Derived.Test.YtmholgclgamnnaaGreatQYGG
import Derived.Test.YtmholgclgamnnaaGreatQYD
import Derived.Test.YtmholgclgamnnaaGreatQYyXCWritesyCX
section
set_option linter.unusedVariables false
set_option linter.unusedSectionVars false
set_option linter.unusedSimpArgs false
namespace Go.Proofs.YtmholgclgamnnaaGreat
open Go Eng
set_option maxRecDepth 100000
set_option exponentiation.threshold 2000
set_option maxHeartbeats 4000000
theorem aboveS {H : H5} (hH : H = H5.real) (y : Nat) (hy : y < 2 ^ 384) : Sp 138 [u6 H.lim y] (.sb (H.lt (blsP / 2) y)) := by
  obtain ⟨q, hq⟩ : ∃ q, q = blsP := ⟨_, rfl⟩
  obtain ⟨h, hh⟩ : ∃ h, h = blsP / 2 := ⟨_, rfl⟩
  have k : Sp 72 [] (u6 H.lim q) := by rw [hq]; exact BlsPS hH
  have ls := LessS6 hH h y (by rw [hh]; decide) hy
  rw [← hh]
  refine mk Tryz.func138 rfl rfl L0 R1 (by decide +kernel) fun A S hA hS => ?_
  have e0 : A.bin .or .u64 (A.bin .shr .u64 (H.lim q 0) 1) (A.bin .shl .u64 (H.lim q 1) 63) = H.lim h 0 := by rw [hA, hH, hq, hh]; decide +kernel
  have e1 : A.bin .or .u64 (A.bin .shr .u64 (H.lim q 1) 1) (A.bin .shl .u64 (H.lim q 2) 63) = H.lim h 1 := by rw [hA, hH, hq, hh]; decide +kernel
  have e2 : A.bin .or .u64 (A.bin .shr .u64 (H.lim q 2) 1) (A.bin .shl .u64 (H.lim q 3) 63) = H.lim h 2 := by rw [hA, hH, hq, hh]; decide +kernel
  have e3 : A.bin .or .u64 (A.bin .shr .u64 (H.lim q 3) 1) (A.bin .shl .u64 (H.lim q 4) 63) = H.lim h 3 := by rw [hA, hH, hq, hh]; decide +kernel
  have e4 : A.bin .or .u64 (A.bin .shr .u64 (H.lim q 4) 1) (A.bin .shl .u64 (H.lim q 5) 63) = H.lim h 4 := by rw [hA, hH, hq, hh]; decide +kernel
  have e5 : A.bin .shr .u64 (H.lim q 5) 1 = H.lim h 5 := by rw [hA, hH, hq, hh]; decide +kernel
  clear hq hh
  unfold bodyOf Tryz.f138
  cbv
  repeat (first
    | (refine ABr.t (by assumption) ?_; cbv)
    | (refine ABr.f (by assumption) ?_; cbv)
    | (refine ABr.t rfl ?_; cbv)
    | (refine ABr.f rfl ?_; cbv)
    | (refine ACall.mk _ (cf hS k) ?_; cbv))
  refine ACall.mk _ (cg hS ls ?_) ?_
  · cbv
    repeat' (first | assumption | exact rfl | exact trivial | constructor)
  cbv
theorem greaterS {p : Nat} [NeZero p] {H : H5} (hH : H = H5.real) (hp : PrM 384 p) (c : Cu p) (y : Fin p) : Sp 139 [Cr6_1 H c, .lst false 6 (ws6 H.lim y.val)] (.sb (decide ((0 - y).val < y.val))) := by
  have n0 := rnumS6 (p := p) hH 0 (by decide)
  have sb := rSubF6 hH hp 0 y
  rw [show (0 : Fin p).val = 0 from rfl] at sb
  have ls := rLess6 (H5.hlim hH) (0 - y).val y.val (Nat.lt_trans (0 - y).isLt hp.lt) (Nat.lt_trans y.isLt hp.lt) _ rfl
  generalize (0 - y).val = z at *
  generalize y.val = w at *
  generalize decide (z < w) = t at *
  refine mk Tryz.func139 rfl rfl L0 R1 (by decide +kernel) fun A S hA hS => ?_
  unfold bodyOf Tryz.f139
  cbv
  repeat (first
    | (refine ABr.t (by assumption) ?_; cbv)
    | (refine ABr.f (by assumption) ?_; cbv)
    | (refine ABr.t rfl ?_; cbv)
    | (refine ABr.f rfl ?_; cbv)
    | (refine ACall.mk _ (cg hS n0 ?_) ?_; (focus (cbv; done)); cbv)
    | (refine ACall.mk _ (cg hS sb ?_) ?_; (focus (cbv; done)); cbv)
    | (refine ACall.mk _ (cg hS ls ?_) ?_; (focus (cbv; done)); cbv))
/-- Both tell the greater one of two roots. -/
theorem above_law {b p : Nat} [NeZero p] (hp : PrM b p) (y : Fin p) : decide (p / 2 < y.val) = decide ((0 - y).val < y.val) := by
  have h4 := hp.four
  have hy := y.isLt
  have e : (0 - y).val = (p - y.val) % p := by rw [Fin.sub_def]; rfl
  rw [e]
  by_cases h0 : y.val = 0
  · rw [h0, decide_eq_false (by omega), decide_eq_false (by omega)]
  · rw [Nat.mod_eq_of_lt (by omega)]
    by_cases h : p / 2 < y.val
    · rw [decide_eq_true h, decide_eq_true (by omega)]
    · rw [decide_eq_false h, decide_eq_false (by omega)]
/-- A compressed point's bytes. -/
def by6f (B : Nat → Nat → Int) (x f : Nat) : List AVal := [.s .u8 (B x 47 + (f : Nat)), .s .u8 (B x 46), .s .u8 (B x 45), .s .u8 (B x 44), .s .u8 (B x 43), .s .u8 (B x 42), .s .u8 (B x 41), .s .u8 (B x 40), .s .u8 (B x 39), .s .u8 (B x 38), .s .u8 (B x 37), .s .u8 (B x 36), .s .u8 (B x 35), .s .u8 (B x 34), .s .u8 (B x 33), .s .u8 (B x 32), .s .u8 (B x 31), .s .u8 (B x 30), .s .u8 (B x 29), .s .u8 (B x 28), .s .u8 (B x 27), .s .u8 (B x 26), .s .u8 (B x 25), .s .u8 (B x 24), .s .u8 (B x 23), .s .u8 (B x 22), .s .u8 (B x 21), .s .u8 (B x 20), .s .u8 (B x 19), .s .u8 (B x 18), .s .u8 (B x 17), .s .u8 (B x 16), .s .u8 (B x 15), .s .u8 (B x 14), .s .u8 (B x 13), .s .u8 (B x 12), .s .u8 (B x 11), .s .u8 (B x 10), .s .u8 (B x 9), .s .u8 (B x 8), .s .u8 (B x 7), .s .u8 (B x 6), .s .u8 (B x 5), .s .u8 (B x 4), .s .u8 (B x 3), .s .u8 (B x 2), .s .u8 (B x 1), .s .u8 (B x 0)]
def flg (P : PtA) : Nat := match P.inf with | true => 192 | false => match decide (blsP / 2 < P.y) with | true => 160 | false => 128
/-- A point's bytes and the error. -/
def wrB (B : Nat → Nat → Int) (P : PtA) : Nat → AVal
  | 0 => .tup [.new false 48 1 (by6f B P.x (flg P)), .s .i64 0]
  | e + 1 => .tup [.lst false 0 [], .s .i64 ((e + 1 : Nat) : Int)]
def RWb : Nat → Md := fun r => match r with | 1 => .all | _ => .own
def RWc : Nat → Md := fun r => match r with | 1 => .mid | _ => .own
theorem or_hi {A : Ar} (hA : A = Ar.real) {t : Nat} (ht : t < 32) : A.bin .or .u8 (t : Int) 128 = (t : Int) + (128 : Nat) ∧ A.bin .or .u8 (A.bin .or .u8 (t : Int) 128) 64 = (t : Int) + (192 : Nat) ∧ A.bin .or .u8 (A.bin .or .u8 (t : Int) 128) 32 = (t : Int) + (160 : Nat) := by
  rw [hA]
  have : ∀ t : Fin 32, rbin .or .u8 (t.val : Int) 128 = (t.val : Int) + (128 : Nat) ∧ rbin .or .u8 (rbin .or .u8 (t.val : Int) 128) 64 = (t.val : Int) + (192 : Nat) ∧ rbin .or .u8 (rbin .or .u8 (t.val : Int) 128) 32 = (t.val : Int) + (160 : Nat) := by decide +kernel
  exact this ⟨t, ht⟩
theorem top_lt {x : Nat} (hx : x < blsP) : x / 2 ^ (8 * 47) % 256 < 32 := by
  have : x / 2 ^ (8 * 47) < 32 := (Nat.div_lt_iff_lt_mul (Nat.two_pow_pos _)).2 (Nat.lt_trans hx (by decide))
  omega
theorem good_lt {p : Nat} [NeZero p] {b : Fin p} {P : PtA} (h : good1 b P = 0) : P.x < p ∧ P.y < p := by
  have hp : 0 < p := Nat.pos_of_ne_zero (NeZero.ne p)
  unfold good1 at h
  by_cases hi : P.inf = true
  · rw [if_pos hi] at h
    by_cases h0 : P.x = 0 ∧ P.y = 0
    · exact ⟨by omega, by omega⟩
    · rw [if_neg h0] at h; cases h
  · rw [if_neg hi] at h
    by_cases h0 : P.x < p ∧ P.y < p
    · exact h0
    · rw [if_neg h0] at h; cases h
theorem good_inf {p : Nat} [NeZero p] {b : Fin p} {P : PtA} (h : good1 b P = 0) (hi : P.inf = true) : P.x = 0 ∧ P.y = 0 := by
  unfold good1 at h
  rw [if_pos hi] at h
  by_cases h0 : P.x = 0 ∧ P.y = 0
  · exact h0
  · rw [if_neg h0] at h; cases h
theorem writeBls1S {H : H5} (hH : H = H5.real) {B : Nat → Nat → Int} (hB : B = byteN) {c : Cu blsP} (hc : c = blsC) (P : PtA) (hPx : P.x < 2 ^ 384) (hPy : P.y < 2 ^ 384) : Sp 64 [P1_6 H P] (wrB B P (good1 c.b1 P)) := by
  have k := BlsS hH hc
  have g := good1S6 hH blsPr c P hPx hPy
  have ne := fun A hA x => i_ne (A := A) hA (x := x) (y := 0)
  have hb := bytesS6 (H5.hlim hH) hB P.x
  have ab := aboveS hH P.y hPy
  rw [show H.lt (blsP / 2) P.y = decide (blsP / 2 < P.y) by rw [hH]; rfl] at ab
  generalize hgd : good1 c.b1 P = e at *
  cases e with
  | succ e =>
    have he : ((e + 1 : Nat) : Int) ≠ 0 := by omega
    unfold wrB
    dsimp only
    generalize ((e + 1 : Nat) : Int) = e at *
    clear hb ab
    obtain ⟨x, y, inf⟩ := P
    refine mk Tryz.func64 rfl rfl L0 RWb (by decide +kernel) fun A S hA hS => ?_
    have e0 : A.cmp .neq e 0 = true := by rw [ne A hA, decide_eq_false he]; rfl
    clear hgd hc
    unfold bodyOf Tryz.f64
    cbv
    repeat (first
      | (refine ABr.t (by assumption) ?_; cbv)
      | (refine ABr.f (by assumption) ?_; cbv)
      | (refine ABr.t rfl ?_; cbv)
      | (refine ABr.f rfl ?_; cbv)
      | (refine ACall.mk _ (cf hS k) ?_; cbv)
      | (refine ACall.mk _ (cf hS g) ?_; cbv))
  | zero =>
    have hx := top_lt (good_lt hgd).1
    have hi := fun h => good_inf hgd h
    have hB47 : B P.x 47 = ((P.x / 2 ^ (8 * 47) % 256 : Nat) : Int) := by rw [hB]; rfl
    have or3 := fun A hA => or_hi (A := A) hA hx
    rw [← hB47] at or3
    unfold wrB
    dsimp only
    obtain ⟨x, y, inf⟩ := P
    dsimp only at *
    clear hgd hc hB hB47 hx
    unfold flg
    dsimp only
    generalize decide (blsP / 2 < y) = t at *
    cases inf
    · cases t
      all_goals
        refine mk Tryz.func64 rfl rfl L0 RWb (by decide +kernel) fun A S hA hS => ?_
        have e0 : A.cmp .neq ((0 : Nat) : Int) 0 = false := ne A hA _
        have o3 := or3 A hA
        unfold bodyOf Tryz.f64
        cbv
        repeat (first
          | (refine ABr.t (by assumption) ?_; cbv)
          | (refine ABr.f (by assumption) ?_; cbv)
          | (refine ABr.t rfl ?_; cbv)
          | (refine ABr.f rfl ?_; cbv)
          | (refine ACall.mk _ (cf hS k) ?_; cbv)
          | (refine ACall.mk _ (cf hS g) ?_; cbv)
          | (refine ACall.mk _ (cf hS hb) ?_; cbv)
          | (refine ACall.mk _ (cf hS ab) ?_; cbv))
        repeat' (first | exact o3.1 | exact o3.2.1 | exact o3.2.2 | exact rfl | exact trivial | constructor)
    · clear ab
      refine mk Tryz.func64 rfl rfl L0 RWb (by decide +kernel) fun A S hA hS => ?_
      have e0 : A.cmp .neq ((0 : Nat) : Int) 0 = false := ne A hA _
      have o3 := or3 A hA
      unfold bodyOf Tryz.f64
      cbv
      repeat (first
        | (refine ABr.t (by assumption) ?_; cbv)
        | (refine ABr.f (by assumption) ?_; cbv)
        | (refine ABr.t rfl ?_; cbv)
        | (refine ABr.f rfl ?_; cbv)
        | (refine ACall.mk _ (cf hS k) ?_; cbv)
        | (refine ACall.mk _ (cf hS g) ?_; cbv)
        | (refine ACall.mk _ (cf hS hb) ?_; cbv))
      repeat' (first | exact o3.1 | exact o3.2.1 | exact o3.2.2 | exact rfl | exact trivial | constructor)
theorem rWriteBlsS {H : H5} (hH : H = H5.real) {B : Nat → Nat → Int} (hB : B = byteN) {c : Cu blsP} (hc : c = blsC) (P : PtA) (hPx : P.x < 2 ^ 384) (hPy : P.y < 2 ^ 384) : Sp 65 [PR6_1 H P] (wrB B P (good1 c.b1 P)) := by
  have k := rBls1S hH hc
  have g := rGood6_1 hH blsPr c P hPx hPy
  have ne := fun A hA x => i_ne (A := A) hA (x := x) (y := 0)
  have hb := rBytesS6 (H5.hlim hH) hB P.x
  generalize hgd : good1 c.b1 P = e at *
  cases e with
  | succ e =>
    have he : ((e + 1 : Nat) : Int) ≠ 0 := by omega
    unfold wrB
    dsimp only
    generalize ((e + 1 : Nat) : Int) = e at *
    clear hb
    obtain ⟨x, y, inf⟩ := P
    refine mk Tryz.func65 rfl rfl L0 RWc (by decide +kernel) fun A S hA hS => ?_
    have e0 : A.cmp .neq e 0 = true := by rw [ne A hA, decide_eq_false he]; rfl
    clear hgd hc
    unfold bodyOf Tryz.f65
    cbv
    repeat (first
      | (refine ABr.t (by assumption) ?_; cbv)
      | (refine ABr.f (by assumption) ?_; cbv)
      | (refine ABr.t rfl ?_; cbv)
      | (refine ABr.f rfl ?_; cbv)
      | (refine ACall.mk _ (cg hS k ?_) ?_; (focus (cbv; done)); cbv)
      | (refine ACall.mk _ (cg hS g ?_) ?_; (focus (cbv; done)); cbv))
  | zero =>
    have hx := top_lt (good_lt hgd).1
    have hi := fun h => good_inf hgd h
    have ab := greaterS hH blsPr c (fo blsP P.y)
    rw [← above_law blsPr, show (fo blsP P.y).val = P.y from Nat.mod_eq_of_lt (good_lt hgd).2] at ab
    have hB47 : B P.x 47 = ((P.x / 2 ^ (8 * 47) % 256 : Nat) : Int) := by rw [hB]; rfl
    have or3 := fun A hA => or_hi (A := A) hA hx
    rw [← hB47] at or3
    have z := b0 hB
    unfold wrB
    dsimp only
    obtain ⟨x, y, inf⟩ := P
    dsimp only at *
    clear hgd hc hB hB47 hx
    unfold flg
    dsimp only
    generalize decide (blsP / 2 < y) = t at *
    cases inf
    · cases t
      all_goals
        refine mk Tryz.func65 rfl rfl L0 RWc (by decide +kernel) fun A S hA hS => ?_
        have e0 : A.cmp .neq ((0 : Nat) : Int) 0 = false := ne A hA _
        have o3 := or3 A hA
        unfold bodyOf Tryz.f65
        cbv
        repeat (first
          | (refine ABr.t (by assumption) ?_; cbv)
          | (refine ABr.f (by assumption) ?_; cbv)
          | (refine ABr.t rfl ?_; cbv)
          | (refine ABr.f rfl ?_; cbv)
          | (refine ACall.mk _ (cg hS k ?_) ?_; (focus (cbv; done)); cbv)
          | (refine ACall.mk _ (cg hS g ?_) ?_; (focus (cbv; done)); cbv)
          | (refine ACall.mk _ (cg hS hb ?_) ?_; (focus (cbv; done)); cbv)
          | (refine ACall.mk _ (cg hS ab ?_) ?_; (focus (cbv; done)); cbv))
        repeat' (first | exact o3.1 | exact o3.2.1 | exact o3.2.2 | exact rfl | exact trivial | constructor)
    · clear ab or3 hb
      obtain ⟨rfl, rfl⟩ := hi rfl
      refine mk Tryz.func65 rfl rfl L0 RWc (by decide +kernel) fun A S hA hS => ?_
      have e0 : A.cmp .neq ((0 : Nat) : Int) 0 = false := ne A hA _
      have z47 : (192 : Int) = B 0 47 + (192 : Nat) := by rw [z 47]; rfl
      unfold bodyOf Tryz.f65
      cbv
      repeat (first
        | (refine ABr.t (by assumption) ?_; cbv)
        | (refine ABr.f (by assumption) ?_; cbv)
        | (refine ABr.t rfl ?_; cbv)
        | (refine ABr.f rfl ?_; cbv)
        | (refine ACall.mk _ (cg hS k ?_) ?_; (focus (cbv; done)); cbv)
        | (refine ACall.mk _ (cg hS g ?_) ?_; (focus (cbv; done)); cbv))
      repeat' (first | exact z47 | exact (z _).symm | exact rfl | exact trivial | constructor)
end Go.Proofs.YtmholgclgamnnaaGreat
end
section
set_option linter.unusedVariables false
set_option linter.unusedSectionVars false
set_option linter.unusedSimpArgs false
namespace Go.Proofs.YtmholgclgamnnaaGreat
open Go Eng
set_option maxRecDepth 100000
set_option exponentiation.threshold 2000
set_option maxHeartbeats 4000000
theorem cloneS (bs : Nat → Nat) : Sp 140 [.lst false 48 [.s .u8 (bs 0 : Nat), .s .u8 (bs 1 : Nat), .s .u8 (bs 2 : Nat), .s .u8 (bs 3 : Nat), .s .u8 (bs 4 : Nat), .s .u8 (bs 5 : Nat), .s .u8 (bs 6 : Nat), .s .u8 (bs 7 : Nat), .s .u8 (bs 8 : Nat), .s .u8 (bs 9 : Nat), .s .u8 (bs 10 : Nat), .s .u8 (bs 11 : Nat), .s .u8 (bs 12 : Nat), .s .u8 (bs 13 : Nat), .s .u8 (bs 14 : Nat), .s .u8 (bs 15 : Nat), .s .u8 (bs 16 : Nat), .s .u8 (bs 17 : Nat), .s .u8 (bs 18 : Nat), .s .u8 (bs 19 : Nat), .s .u8 (bs 20 : Nat), .s .u8 (bs 21 : Nat), .s .u8 (bs 22 : Nat), .s .u8 (bs 23 : Nat), .s .u8 (bs 24 : Nat), .s .u8 (bs 25 : Nat), .s .u8 (bs 26 : Nat), .s .u8 (bs 27 : Nat), .s .u8 (bs 28 : Nat), .s .u8 (bs 29 : Nat), .s .u8 (bs 30 : Nat), .s .u8 (bs 31 : Nat), .s .u8 (bs 32 : Nat), .s .u8 (bs 33 : Nat), .s .u8 (bs 34 : Nat), .s .u8 (bs 35 : Nat), .s .u8 (bs 36 : Nat), .s .u8 (bs 37 : Nat), .s .u8 (bs 38 : Nat), .s .u8 (bs 39 : Nat), .s .u8 (bs 40 : Nat), .s .u8 (bs 41 : Nat), .s .u8 (bs 42 : Nat), .s .u8 (bs 43 : Nat), .s .u8 (bs 44 : Nat), .s .u8 (bs 45 : Nat), .s .u8 (bs 46 : Nat), .s .u8 (bs 47 : Nat)]] (.new false 48 1 [.s .u8 (bs 0 : Nat), .s .u8 (bs 1 : Nat), .s .u8 (bs 2 : Nat), .s .u8 (bs 3 : Nat), .s .u8 (bs 4 : Nat), .s .u8 (bs 5 : Nat), .s .u8 (bs 6 : Nat), .s .u8 (bs 7 : Nat), .s .u8 (bs 8 : Nat), .s .u8 (bs 9 : Nat), .s .u8 (bs 10 : Nat), .s .u8 (bs 11 : Nat), .s .u8 (bs 12 : Nat), .s .u8 (bs 13 : Nat), .s .u8 (bs 14 : Nat), .s .u8 (bs 15 : Nat), .s .u8 (bs 16 : Nat), .s .u8 (bs 17 : Nat), .s .u8 (bs 18 : Nat), .s .u8 (bs 19 : Nat), .s .u8 (bs 20 : Nat), .s .u8 (bs 21 : Nat), .s .u8 (bs 22 : Nat), .s .u8 (bs 23 : Nat), .s .u8 (bs 24 : Nat), .s .u8 (bs 25 : Nat), .s .u8 (bs 26 : Nat), .s .u8 (bs 27 : Nat), .s .u8 (bs 28 : Nat), .s .u8 (bs 29 : Nat), .s .u8 (bs 30 : Nat), .s .u8 (bs 31 : Nat), .s .u8 (bs 32 : Nat), .s .u8 (bs 33 : Nat), .s .u8 (bs 34 : Nat), .s .u8 (bs 35 : Nat), .s .u8 (bs 36 : Nat), .s .u8 (bs 37 : Nat), .s .u8 (bs 38 : Nat), .s .u8 (bs 39 : Nat), .s .u8 (bs 40 : Nat), .s .u8 (bs 41 : Nat), .s .u8 (bs 42 : Nat), .s .u8 (bs 43 : Nat), .s .u8 (bs 44 : Nat), .s .u8 (bs 45 : Nat), .s .u8 (bs 46 : Nat), .s .u8 (bs 47 : Nat)]) := by
  refine mk Tryz.func140 rfl rfl L0 R0 (by decide +kernel) fun A S hA hS => ?_
  unfold bodyOf Tryz.f140
  cbv
  repeat (first
    | (refine ABr.t (by assumption) ?_; cbv)
    | (refine ABr.f (by assumption) ?_; cbv)
    | (refine ABr.t rfl ?_; cbv)
    | (refine ABr.f rfl ?_; cbv))
end Go.Proofs.YtmholgclgamnnaaGreat
end
