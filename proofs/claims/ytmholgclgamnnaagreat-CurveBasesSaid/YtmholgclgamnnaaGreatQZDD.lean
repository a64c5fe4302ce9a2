import Derived.Test.YtmholgclgamnnaaGreatQZCW
section
set_option linter.unusedVariables false
set_option linter.unusedSectionVars false
set_option linter.unusedSimpArgs false
namespace Go.Proofs.YtmholgclgamnnaaGreat
open Go Eng
set_option maxRecDepth 100000
set_option exponentiation.threshold 2000
set_option maxHeartbeats 4000000
def RWr : Nat → Md := fun r => match r with | 0 => .all | 3 => .owl [6, 9] | _ => .own
theorem b0 {B : Nat → Nat → Int} (hB : B = byteN) (j : Nat) : B 0 j = 0 := by rw [hB]; show ((0 / 2 ^ (8 * j) % 256 : Nat) : Int) = 0; rw [Nat.zero_div]; rfl
/-- What a point's number counts where it is written. -/
def wr (inf : Bool) (x : Nat) : Nat := match inf with | true => 0 | false => x
theorem writeBn1S {H : H5} (hH : H = H5.real) {B : Nat → Nat → Int} (hB : B = byteN) (P : PtA) : Sp 61 [P1_4 H P] (.new false 64 1 (by4 B (wr P.inf P.x) ++ by4 B (wr P.inf P.y))) := by
  have hl := H5.hlim hH
  have hx := bytesS4 hl hB P.x
  have hy := bytesS4 hl hB P.y
  have z := b0 hB
  obtain ⟨x, y, inf⟩ := P
  dsimp only at *
  cases inf
  · refine mk Tryz.func61 rfl rfl L0 RWr (by decide +kernel) fun A S hA hS => ?_
    unfold bodyOf Tryz.f61
    cbv
    repeat (first
      | (refine ABr.t (by assumption) ?_; cbv)
      | (refine ABr.f (by assumption) ?_; cbv)
      | (refine ABr.t rfl ?_; cbv)
      | (refine ABr.f rfl ?_; cbv)
      | (refine ACall.mk _ (cf hS hx) ?_; cbv)
      | (refine ACall.mk _ (cf hS hy) ?_; cbv))
    try (repeat' (first | exact rfl | exact trivial | constructor))
  · refine mk Tryz.func61 rfl rfl L0 RWr (by decide +kernel) fun A S hA hS => ?_
    unfold bodyOf Tryz.f61
    cbv
    repeat (first
      | (refine ABr.t (by assumption) ?_; cbv)
      | (refine ABr.f (by assumption) ?_; cbv)
      | (refine ABr.t rfl ?_; cbv)
      | (refine ABr.f rfl ?_; cbv))
    exact ⟨(z 31).symm, (z 30).symm, (z 29).symm, (z 28).symm, (z 27).symm, (z 26).symm, (z 25).symm, (z 24).symm, (z 23).symm, (z 22).symm, (z 21).symm, (z 20).symm, (z 19).symm, (z 18).symm, (z 17).symm, (z 16).symm, (z 15).symm, (z 14).symm, (z 13).symm, (z 12).symm, (z 11).symm, (z 10).symm, (z 9).symm, (z 8).symm, (z 7).symm, (z 6).symm, (z 5).symm, (z 4).symm, (z 3).symm, (z 2).symm, (z 1).symm, (z 0).symm, (z 31).symm, (z 30).symm, (z 29).symm, (z 28).symm, (z 27).symm, (z 26).symm, (z 25).symm, (z 24).symm, (z 23).symm, (z 22).symm, (z 21).symm, (z 20).symm, (z 19).symm, (z 18).symm, (z 17).symm, (z 16).symm, (z 15).symm, (z 14).symm, (z 13).symm, (z 12).symm, (z 11).symm, (z 10).symm, (z 9).symm, (z 8).symm, (z 7).symm, (z 6).symm, (z 5).symm, (z 4).symm, (z 3).symm, (z 2).symm, (z 1).symm, (z 0).symm⟩
theorem rowB32 (bs : Nat → Nat) (hb : ∀ i, bs i < 256) (o : Nat) : IsRowB ((List.range 32).map fun j => .s .u8 (bs (o + j) : Nat)) (fun j => bs (o + j)) 32 :=
  ⟨by simp, fun i hi => by rw [Nat.mul_one]; exact lsub_rowC (fun j => .s .u8 (bs (o + j) : Nat)) 32 i hi, fun i => hb _⟩
theorem big32 {lim : Lim} (hl : lim = limR) (bs : Nat → Nat) (hb : ∀ i, bs i < 256) (o : Nat) : Sp 179 [.lst true 32 ((List.range 32).map fun j => .s .u8 (bs (o + j) : Nat))] (.tup [u4 lim (numB (fun j => bs (o + j)) 32), .i .i64 0]) :=
  bigS4 hl (rowB32 bs hb o) (Nat.le_refl _)
theorem four64 {H : H5} (hH : H = H5.real) (bs : Nat → Nat) (hb : ∀ i, bs i < 256) : Sp 148 [.lst false 64 [.s .u8 (bs 0 : Nat), .s .u8 (bs 1 : Nat), .s .u8 (bs 2 : Nat), .s .u8 (bs 3 : Nat), .s .u8 (bs 4 : Nat), .s .u8 (bs 5 : Nat), .s .u8 (bs 6 : Nat), .s .u8 (bs 7 : Nat), .s .u8 (bs 8 : Nat), .s .u8 (bs 9 : Nat), .s .u8 (bs 10 : Nat), .s .u8 (bs 11 : Nat), .s .u8 (bs 12 : Nat), .s .u8 (bs 13 : Nat), .s .u8 (bs 14 : Nat), .s .u8 (bs 15 : Nat), .s .u8 (bs 16 : Nat), .s .u8 (bs 17 : Nat), .s .u8 (bs 18 : Nat), .s .u8 (bs 19 : Nat), .s .u8 (bs 20 : Nat), .s .u8 (bs 21 : Nat), .s .u8 (bs 22 : Nat), .s .u8 (bs 23 : Nat), .s .u8 (bs 24 : Nat), .s .u8 (bs 25 : Nat), .s .u8 (bs 26 : Nat), .s .u8 (bs 27 : Nat), .s .u8 (bs 28 : Nat), .s .u8 (bs 29 : Nat), .s .u8 (bs 30 : Nat), .s .u8 (bs 31 : Nat), .s .u8 (bs 32 : Nat), .s .u8 (bs 33 : Nat), .s .u8 (bs 34 : Nat), .s .u8 (bs 35 : Nat), .s .u8 (bs 36 : Nat), .s .u8 (bs 37 : Nat), .s .u8 (bs 38 : Nat), .s .u8 (bs 39 : Nat), .s .u8 (bs 40 : Nat), .s .u8 (bs 41 : Nat), .s .u8 (bs 42 : Nat), .s .u8 (bs 43 : Nat), .s .u8 (bs 44 : Nat), .s .u8 (bs 45 : Nat), .s .u8 (bs 46 : Nat), .s .u8 (bs 47 : Nat), .s .u8 (bs 48 : Nat), .s .u8 (bs 49 : Nat), .s .u8 (bs 50 : Nat), .s .u8 (bs 51 : Nat), .s .u8 (bs 52 : Nat), .s .u8 (bs 53 : Nat), .s .u8 (bs 54 : Nat), .s .u8 (bs 55 : Nat), .s .u8 (bs 56 : Nat), .s .u8 (bs 57 : Nat), .s .u8 (bs 58 : Nat), .s .u8 (bs 59 : Nat), .s .u8 (bs 60 : Nat), .s .u8 (bs 61 : Nat), .s .u8 (bs 62 : Nat), .s .u8 (bs 63 : Nat)]] (.new false 2 4 [.s .u64 (H.lim (numB (fun j => bs (0 + j)) 32) 0), .s .u64 (H.lim (numB (fun j => bs (0 + j)) 32) 1), .s .u64 (H.lim (numB (fun j => bs (0 + j)) 32) 2), .s .u64 (H.lim (numB (fun j => bs (0 + j)) 32) 3), .s .u64 (H.lim (numB (fun j => bs (32 + j)) 32) 0), .s .u64 (H.lim (numB (fun j => bs (32 + j)) 32) 1), .s .u64 (H.lim (numB (fun j => bs (32 + j)) 32) 2), .s .u64 (H.lim (numB (fun j => bs (32 + j)) 32) 3)]) := by
  have g0 : Sp 179 [.lst true 32 [.s .u8 (bs 0 : Nat), .s .u8 (bs 1 : Nat), .s .u8 (bs 2 : Nat), .s .u8 (bs 3 : Nat), .s .u8 (bs 4 : Nat), .s .u8 (bs 5 : Nat), .s .u8 (bs 6 : Nat), .s .u8 (bs 7 : Nat), .s .u8 (bs 8 : Nat), .s .u8 (bs 9 : Nat), .s .u8 (bs 10 : Nat), .s .u8 (bs 11 : Nat), .s .u8 (bs 12 : Nat), .s .u8 (bs 13 : Nat), .s .u8 (bs 14 : Nat), .s .u8 (bs 15 : Nat), .s .u8 (bs 16 : Nat), .s .u8 (bs 17 : Nat), .s .u8 (bs 18 : Nat), .s .u8 (bs 19 : Nat), .s .u8 (bs 20 : Nat), .s .u8 (bs 21 : Nat), .s .u8 (bs 22 : Nat), .s .u8 (bs 23 : Nat), .s .u8 (bs 24 : Nat), .s .u8 (bs 25 : Nat), .s .u8 (bs 26 : Nat), .s .u8 (bs 27 : Nat), .s .u8 (bs 28 : Nat), .s .u8 (bs 29 : Nat), .s .u8 (bs 30 : Nat), .s .u8 (bs 31 : Nat)]] _ := big32 (H5.hlim hH) bs hb 0
  generalize numB (fun j => bs (0 + j)) 32 = q0 at *
  have g1 : Sp 179 [.lst true 32 [.s .u8 (bs 32 : Nat), .s .u8 (bs 33 : Nat), .s .u8 (bs 34 : Nat), .s .u8 (bs 35 : Nat), .s .u8 (bs 36 : Nat), .s .u8 (bs 37 : Nat), .s .u8 (bs 38 : Nat), .s .u8 (bs 39 : Nat), .s .u8 (bs 40 : Nat), .s .u8 (bs 41 : Nat), .s .u8 (bs 42 : Nat), .s .u8 (bs 43 : Nat), .s .u8 (bs 44 : Nat), .s .u8 (bs 45 : Nat), .s .u8 (bs 46 : Nat), .s .u8 (bs 47 : Nat), .s .u8 (bs 48 : Nat), .s .u8 (bs 49 : Nat), .s .u8 (bs 50 : Nat), .s .u8 (bs 51 : Nat), .s .u8 (bs 52 : Nat), .s .u8 (bs 53 : Nat), .s .u8 (bs 54 : Nat), .s .u8 (bs 55 : Nat), .s .u8 (bs 56 : Nat), .s .u8 (bs 57 : Nat), .s .u8 (bs 58 : Nat), .s .u8 (bs 59 : Nat), .s .u8 (bs 60 : Nat), .s .u8 (bs 61 : Nat), .s .u8 (bs 62 : Nat), .s .u8 (bs 63 : Nat)]] _ := big32 (H5.hlim hH) bs hb 32
  generalize numB (fun j => bs (32 + j)) 32 = q1 at *
  refine mk Tryz.func148 rfl rfl L0 R0 (by decide +kernel) fun A S hA hS => ?_
  unfold bodyOf Tryz.f148
  cbv
  refine ACall.mk _ (cg hS g0 (by cbv)) ?_
  cbv
  refine ACall.mk _ (cg hS g1 (by cbv)) ?_
  cbv
/-- The program's reading. -/
def readP {p : Nat} [NeZero p] (b : Fin p) (bs : Nat → Nat) : PtA × Nat :=
  if allz bs 64 = true then (⟨0, 0, true⟩, 0) else if good1 b ⟨numB (fun j => bs (0 + j)) 32, numB (fun j => bs (32 + j)) 32, false⟩ ≠ 0 then (⟨0, 0, false⟩, good1 b ⟨numB (fun j => bs (0 + j)) 32, numB (fun j => bs (32 + j)) 32, false⟩)
  else (⟨numB (fun j => bs (0 + j)) 32, numB (fun j => bs (32 + j)) 32, false⟩, 0)
def RRd : Nat → Md := fun r => match r with | _ => .mid
theorem readBn1S {H : H5} (hH : H = H5.real) {c : Cu bnP} (hc : c = bnC) (bs : Nat → Nat) (hb : ∀ i, bs i < 256) : Sp 67 [.lst false 64 [.s .u8 (bs 0 : Nat), .s .u8 (bs 1 : Nat), .s .u8 (bs 2 : Nat), .s .u8 (bs 3 : Nat), .s .u8 (bs 4 : Nat), .s .u8 (bs 5 : Nat), .s .u8 (bs 6 : Nat), .s .u8 (bs 7 : Nat), .s .u8 (bs 8 : Nat), .s .u8 (bs 9 : Nat), .s .u8 (bs 10 : Nat), .s .u8 (bs 11 : Nat), .s .u8 (bs 12 : Nat), .s .u8 (bs 13 : Nat), .s .u8 (bs 14 : Nat), .s .u8 (bs 15 : Nat), .s .u8 (bs 16 : Nat), .s .u8 (bs 17 : Nat), .s .u8 (bs 18 : Nat), .s .u8 (bs 19 : Nat), .s .u8 (bs 20 : Nat), .s .u8 (bs 21 : Nat), .s .u8 (bs 22 : Nat), .s .u8 (bs 23 : Nat), .s .u8 (bs 24 : Nat), .s .u8 (bs 25 : Nat), .s .u8 (bs 26 : Nat), .s .u8 (bs 27 : Nat), .s .u8 (bs 28 : Nat), .s .u8 (bs 29 : Nat), .s .u8 (bs 30 : Nat), .s .u8 (bs 31 : Nat), .s .u8 (bs 32 : Nat), .s .u8 (bs 33 : Nat), .s .u8 (bs 34 : Nat), .s .u8 (bs 35 : Nat), .s .u8 (bs 36 : Nat), .s .u8 (bs 37 : Nat), .s .u8 (bs 38 : Nat), .s .u8 (bs 39 : Nat), .s .u8 (bs 40 : Nat), .s .u8 (bs 41 : Nat), .s .u8 (bs 42 : Nat), .s .u8 (bs 43 : Nat), .s .u8 (bs 44 : Nat), .s .u8 (bs 45 : Nat), .s .u8 (bs 46 : Nat), .s .u8 (bs 47 : Nat), .s .u8 (bs 48 : Nat), .s .u8 (bs 49 : Nat), .s .u8 (bs 50 : Nat), .s .u8 (bs 51 : Nat), .s .u8 (bs 52 : Nat), .s .u8 (bs 53 : Nat), .s .u8 (bs 54 : Nat), .s .u8 (bs 55 : Nat), .s .u8 (bs 56 : Nat), .s .u8 (bs 57 : Nat), .s .u8 (bs 58 : Nat), .s .u8 (bs 59 : Nat), .s .u8 (bs 60 : Nat), .s .u8 (bs 61 : Nat), .s .u8 (bs 62 : Nat), .s .u8 (bs 63 : Nat)]] (.tup [P1_4 H (readP c.b1 bs).1, .s .i64 ((readP c.b1 bs).2 : Nat)]) := by
  have l0 := lim04 hH
  have hn : Sp 141 [.lst true 64 [.s .u8 (bs 0 : Nat), .s .u8 (bs 1 : Nat), .s .u8 (bs 2 : Nat), .s .u8 (bs 3 : Nat), .s .u8 (bs 4 : Nat), .s .u8 (bs 5 : Nat), .s .u8 (bs 6 : Nat), .s .u8 (bs 7 : Nat), .s .u8 (bs 8 : Nat), .s .u8 (bs 9 : Nat), .s .u8 (bs 10 : Nat), .s .u8 (bs 11 : Nat), .s .u8 (bs 12 : Nat), .s .u8 (bs 13 : Nat), .s .u8 (bs 14 : Nat), .s .u8 (bs 15 : Nat), .s .u8 (bs 16 : Nat), .s .u8 (bs 17 : Nat), .s .u8 (bs 18 : Nat), .s .u8 (bs 19 : Nat), .s .u8 (bs 20 : Nat), .s .u8 (bs 21 : Nat), .s .u8 (bs 22 : Nat), .s .u8 (bs 23 : Nat), .s .u8 (bs 24 : Nat), .s .u8 (bs 25 : Nat), .s .u8 (bs 26 : Nat), .s .u8 (bs 27 : Nat), .s .u8 (bs 28 : Nat), .s .u8 (bs 29 : Nat), .s .u8 (bs 30 : Nat), .s .u8 (bs 31 : Nat), .s .u8 (bs 32 : Nat), .s .u8 (bs 33 : Nat), .s .u8 (bs 34 : Nat), .s .u8 (bs 35 : Nat), .s .u8 (bs 36 : Nat), .s .u8 (bs 37 : Nat), .s .u8 (bs 38 : Nat), .s .u8 (bs 39 : Nat), .s .u8 (bs 40 : Nat), .s .u8 (bs 41 : Nat), .s .u8 (bs 42 : Nat), .s .u8 (bs 43 : Nat), .s .u8 (bs 44 : Nat), .s .u8 (bs 45 : Nat), .s .u8 (bs 46 : Nat), .s .u8 (bs 47 : Nat), .s .u8 (bs 48 : Nat), .s .u8 (bs 49 : Nat), .s .u8 (bs 50 : Nat), .s .u8 (bs 51 : Nat), .s .u8 (bs 52 : Nat), .s .u8 (bs 53 : Nat), .s .u8 (bs 54 : Nat), .s .u8 (bs 55 : Nat), .s .u8 (bs 56 : Nat), .s .u8 (bs 57 : Nat), .s .u8 (bs 58 : Nat), .s .u8 (bs 59 : Nat), .s .u8 (bs 60 : Nat), .s .u8 (bs 61 : Nat), .s .u8 (bs 62 : Nat), .s .u8 (bs 63 : Nat)]] (.sb (allz bs 64)) := noughtsS (row := (List.range 64).map fun j => .s .u8 (bs j : Nat)) (by decide) ⟨by simp, fun i hi => by rw [Nat.mul_one]; exact lsub_rowC (fun j => .s .u8 (bs j : Nat)) 64 i hi, hb⟩
  have h4 := four64 hH bs hb
  have vlt : ∀ o, numB (fun j => bs (o + j)) 32 < 2 ^ 256 := fun o => Vb_lt 32 fun j _ => hb _
  have hB := BnS hH hc
  have g1 := good1S4 hH bnPr c ⟨numB (fun j => bs (0 + j)) 32, numB (fun j => bs (32 + j)) 32, false⟩ (vlt 0) (vlt 32)
  have ne := fun A hA x => i_ne (A := A) hA (x := x) (y := 0)
  unfold readP
  generalize numB (fun j => bs (0 + j)) 32 = X at *
  generalize numB (fun j => bs (32 + j)) 32 = Y at *
  by_cases hz : allz bs 64 = true
  · rw [if_pos hz]
    rw [hz] at hn
    clear g1 h4 hB
    refine mk Tryz.func67 rfl rfl L0 RRd (by decide +kernel) fun A S hA hS => ?_
    unfold bodyOf Tryz.f67
    cbv
    refine ACall.mk _ (cg hS hn (by cbv)) ?_
    cbv
    repeat (first
      | (refine ABr.t (by assumption) ?_; cbv)
      | (refine ABr.f (by assumption) ?_; cbv)
      | (refine ABr.t rfl ?_; cbv)
      | (refine ABr.f rfl ?_; cbv))
    repeat' (first | exact (l0 _).symm | exact rfl | exact trivial | constructor)
  · rw [if_neg hz]
    rw [Bool.eq_false_iff.2 hz] at hn
    by_cases h1 : good1 c.b1 ⟨X, Y, false⟩ = 0
    · rw [if_neg (fun h => h h1)]
      rw [h1] at g1
      clear h1
      refine mk Tryz.func67 rfl rfl L0 RRd (by decide +kernel) fun A S hA hS => ?_
      have e0 : A.cmp .neq ((0 : Nat) : Int) 0 = false := ne A hA _
      unfold bodyOf Tryz.f67
      cbv
      refine ACall.mk _ (cg hS hn (by cbv)) ?_
      cbv
      repeat (first
        | (refine ABr.t (by assumption) ?_; cbv)
        | (refine ABr.f (by assumption) ?_; cbv)
        | (refine ABr.t rfl ?_; cbv)
        | (refine ABr.f rfl ?_; cbv)
        | (refine ACall.mk _ (cf hS h4) ?_; cbv)
        | (refine ACall.mk _ (cf hS hB) ?_; cbv))
      refine ACall.mk _ (cg hS g1 (by cbv)) ?_
      cbv
      repeat (first
        | (refine ABr.t (by assumption) ?_; cbv)
        | (refine ABr.f (by assumption) ?_; cbv)
        | (refine ABr.t rfl ?_; cbv)
        | (refine ABr.f rfl ?_; cbv))
    · rw [if_pos h1]
      have h1' : ((good1 c.b1 ⟨X, Y, false⟩ : Nat) : Int) ≠ 0 := by omega
      dsimp only
      generalize ((good1 c.b1 ⟨X, Y, false⟩ : Nat) : Int) = e at *
      refine mk Tryz.func67 rfl rfl L0 RRd (by decide +kernel) fun A S hA hS => ?_
      have e0 : A.cmp .neq e 0 = true := by rw [ne A hA, decide_eq_false h1']; rfl
      unfold bodyOf Tryz.f67
      cbv
      refine ACall.mk _ (cg hS hn (by cbv)) ?_
      cbv
      repeat (first
        | (refine ABr.t (by assumption) ?_; cbv)
        | (refine ABr.f (by assumption) ?_; cbv)
        | (refine ABr.t rfl ?_; cbv)
        | (refine ABr.f rfl ?_; cbv)
        | (refine ACall.mk _ (cf hS h4) ?_; cbv)
        | (refine ACall.mk _ (cf hS hB) ?_; cbv))
      refine ACall.mk _ (cg hS g1 (by cbv)) ?_
      cbv
      repeat (first
        | (refine ABr.t (by assumption) ?_; cbv)
        | (refine ABr.f (by assumption) ?_; cbv)
        | (refine ABr.t rfl ?_; cbv)
        | (refine ABr.f rfl ?_; cbv))
      repeat' (first | exact (l0 _).symm | exact rfl | exact trivial | constructor)
end Go.Proofs.YtmholgclgamnnaaGreat
end
section
set_option linter.unusedVariables false
set_option linter.unusedSectionVars false
set_option linter.unusedSimpArgs false
namespace Go.Proofs.YtmholgclgamnnaaGreat
open Go Eng
set_option maxRecDepth 100000
set_option exponentiation.threshold 2000
set_option maxHeartbeats 4000000
def bs1 (i : Nat) : Nat := if i = 63 then 1 else 0
theorem readP_one : (readP (fo bnP 3) bs1).2 = 71 := by decide +kernel
theorem awakeS : Sp 12 [] (.b true) := by
  obtain ⟨H, hH⟩ : ∃ H, H = H5.real := ⟨_, rfl⟩
  obtain ⟨B, hB⟩ : ∃ B, B = byteN := ⟨_, rfl⟩
  obtain ⟨c, hc⟩ : ∃ c, c = bnC := ⟨_, rfl⟩
  obtain ⟨d, hd⟩ : ∃ d, d = blsC := ⟨_, rfl⟩
  have c1 := BnS hH hc
  have c2 := BlsS hH hd
  have c3 := base1S4 (H := H) c
  have h1c : c.one = fo bnP 1 := by rw [hc]; rfl
  have hb1 : c.b1 = fo bnP 3 := by rw [hc]; rfl
  have hbase : (⟨c.x1, c.y1, false⟩ : PtA) = ⟨1, 2, false⟩ := by rw [hc]; rfl
  rw [hbase] at c3
  obtain ⟨G, hG⟩ : ∃ G : PtA, G = ⟨1, 2, false⟩ := ⟨_, rfl⟩
  obtain ⟨P, hP⟩ : ∃ P : PtA, P = ⟨1368015179489954701390400359078579693043519447331113978918064868415326638035, 9918110051302171585080402603319702774565515993150576347155970296011118125764, false⟩ := ⟨_, rfl⟩
  have c4 := mulS1_4 hH bnPr h1c G (by rw [hG]; decide) (by rw [hG]; decide) 2 (by decide)
  have bt : mulP (fo bnP 3) G 2 = (P, 0) := by rw [hG, hP]; exact bn_two
  rw [hb1, bt] at c4
  rw [← hG] at c3
  have w2 : u4 H.lim 2 = .agg [.s .u64 2, .s .u64 0, .s .u64 0, .s .u64 0] := by rw [hH]; rfl
  rw [w2] at c4
  have c5 := writeBn1S hH hB P
  have b1 : B (wr P.inf P.x) 30 = 6 := by rw [hB, hP]; rfl
  have b2 : B (wr P.inf P.x) 29 = 0x44 := by rw [hB, hP]; rfl
  have b3 : B (wr P.inf P.y) 0 = 0xc4 := by rw [hB, hP]; rfl
  have c6 := good1S4 hH bnPr c P (by rw [hP]; decide) (by rw [hP]; decide)
  have bg : good1 (fo bnP 3) P = 0 := by rw [hP]; exact bn_two_good
  rw [hb1, bg] at c6
  have hi : P.inf = false := by rw [hP]
  have c7 := readBn1S hH hc bs1 (fun i => by unfold bs1; split <;> decide)
  rw [hb1, readP_one] at c7
  generalize (readP (fo bnP 3) bs1).1 = Q at *
  have c7 : Sp 67 [.lst false 64 [.s .u8 0, .s .u8 0, .s .u8 0, .s .u8 0, .s .u8 0, .s .u8 0, .s .u8 0, .s .u8 0, .s .u8 0, .s .u8 0, .s .u8 0, .s .u8 0, .s .u8 0, .s .u8 0, .s .u8 0, .s .u8 0, .s .u8 0, .s .u8 0, .s .u8 0, .s .u8 0, .s .u8 0, .s .u8 0, .s .u8 0, .s .u8 0, .s .u8 0, .s .u8 0, .s .u8 0, .s .u8 0, .s .u8 0, .s .u8 0, .s .u8 0, .s .u8 0, .s .u8 0, .s .u8 0, .s .u8 0, .s .u8 0, .s .u8 0, .s .u8 0, .s .u8 0, .s .u8 0, .s .u8 0, .s .u8 0, .s .u8 0, .s .u8 0, .s .u8 0, .s .u8 0, .s .u8 0, .s .u8 0, .s .u8 0, .s .u8 0, .s .u8 0, .s .u8 0, .s .u8 0, .s .u8 0, .s .u8 0, .s .u8 0, .s .u8 0, .s .u8 0, .s .u8 0, .s .u8 0, .s .u8 0, .s .u8 0, .s .u8 0, .s .u8 1]] (.tup [P1_4 H Q, .s .i64 71]) := c7
  generalize wr P.inf P.x = wx at *
  generalize wr P.inf P.y = wy at *
  clear hc hd bt hP hG bg h1c hb1 hbase
  refine mk Tryz.func12 rfl rfl L0 R0 (by decide +kernel) fun A S hA hS => ?_
  have e0 : A.cmp .eql ((0 : Nat) : Int) 0 = true := i_eq hA
  have e1 : A.cmp .eql (B wx 30) 6 = true := by rw [b1]; exact i_eq hA
  have e2 : A.cmp .eql (B wx 29) 68 = true := by rw [b2]; exact i_eq hA
  have e3 : A.cmp .eql (B wy 0) 196 = true := by rw [b3]; exact i_eq hA
  have e4 : A.cmp .eql (71 : Int) 71 = true := i_eq hA
  have e5 := i_not hA hi
  unfold bodyOf Tryz.f12
  cbv
  repeat (first
    | (refine ABr.t (by assumption) ?_; cbv)
    | (refine ABr.f (by assumption) ?_; cbv)
    | (refine ABr.t rfl ?_; cbv)
    | (refine ABr.f rfl ?_; cbv)
    | (refine ACall.mk _ (cf hS c1) ?_; cbv)
    | (refine ACall.mk _ (cf hS c2) ?_; cbv)
    | (refine ACall.mk _ (cf hS c3) ?_; cbv)
    | (refine ACall.mk _ (cg hS c4 ?_) ?_; (focus (cbv; done)); cbv)
    | (refine ACall.mk _ (cf hS c5) ?_; cbv)
    | (refine ACall.mk _ (cf hS c6) ?_; cbv)
    | (refine ACall.mk _ (cg hS c7 ?_) ?_; (focus (cbv; done)); cbv))
  exact e5
end Go.Proofs.YtmholgclgamnnaaGreat
end
section
set_option linter.unusedVariables false
set_option linter.unusedSectionVars false
set_option linter.unusedSimpArgs false
namespace Go.Proofs.YtmholgclgamnnaaGreat
open Go Eng
set_option maxRecDepth 100000
set_option exponentiation.threshold 2000
set_option maxHeartbeats 4000000
def RLw : Nat → Md := fun r => match r with | 5 => .res [] | 6 => .res [] | _ => .mid
def RLw4 : Nat → Md := fun r => match r with | 4 => .res [] | 5 => .res [] | _ => .mid
def rr (t : AVal) (X Y : AVal) : AVal := .agg [X, Y, t]
theorem res_lt1 {b p : Nat} [NeZero p] (hp : PrM b p) (e : Nat) (Q : Cv.Pt (Fin p)) : (resA e Q).x < 2 ^ b ∧ (resA e Q).y < 2 ^ b := by
  cases e with
  | zero =>
    obtain _ | ⟨x, y⟩ := Q
    · exact ⟨Nat.two_pow_pos _, Nat.two_pow_pos _⟩
    · exact ⟨Nat.lt_trans x.isLt hp.lt, Nat.lt_trans y.isLt hp.lt⟩
  | succ e => exact ⟨Nat.two_pow_pos _, Nat.two_pow_pos _⟩
theorem res_lt2 {b p : Nat} [NeZero p] (hp : PrM b p) (e : Nat) (Q : Cv.Pt (Cv.F2 p)) : (resB e Q).xa < 2 ^ b ∧ (resB e Q).xb < 2 ^ b ∧ (resB e Q).ya < 2 ^ b ∧ (resB e Q).yb < 2 ^ b := by
  cases e with
  | zero =>
    obtain _ | ⟨x, y⟩ := Q
    · exact ⟨Nat.two_pow_pos _, Nat.two_pow_pos _, Nat.two_pow_pos _, Nat.two_pow_pos _⟩
    · exact ⟨Nat.lt_trans x.a.isLt hp.lt, Nat.lt_trans x.b.isLt hp.lt, Nat.lt_trans y.a.isLt hp.lt, Nat.lt_trans y.b.isLt hp.lt⟩
  | succ e => exact ⟨Nat.two_pow_pos _, Nat.two_pow_pos _, Nat.two_pow_pos _, Nat.two_pow_pos _⟩
end Go.Proofs.YtmholgclgamnnaaGreat
end
