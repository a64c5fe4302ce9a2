import Derived.Test.YtmholgclgamnnaaGreatQYCS
import Derived.Test.YtmholgclgamnnaaGreatQYGG
import Derived.Test.YtmholgclgamnnaaGreatQYJ
import Derived.Test.YtmholgclgamnnaaGreatQYBO
import Derived.Test.YtmholgclgamnnaaGreatQYyXCWritesyX4
section
set_option linter.unusedVariables false
set_option linter.unusedSectionVars false
set_option linter.unusedSimpArgs false
namespace Go.Proofs.YtmholgclgamnnaaGreat
open Go Eng
set_option maxRecDepth 100000
set_option exponentiation.threshold 2000
set_option maxHeartbeats 4000000
def RB1 : Nat → Md := fun r => match r with | 2 => .tre [] | 3 => .all | _ => .mid
def RB2 : Nat → Md := fun r => match r with | 4 => .all | _ => .mid
def RL1 : Nat → Md := fun r => match r with | 3 => .all | _ => .mid
section
variable {p : Nat} [NeZero p]
theorem mulG4_2 {H : H5} (hH : H = H5.real) (hp : PrM 256 p) (vB vR vX vY vI : AVal) (a b : Cv.F2 p) : Sp 89 [.agg [.lst false 4 (ws4 H.lim p), .s .u64 (H.minv p : Nat), .lst false 4 (ws4 H.lim (H.mf (2 * 256) p 1)), .i .i64 2, vB, vR, vX, vY, vI], Er4_2 H a, Er4_2 H b] (Nr4_2 H ⟨a.a * b.a - a.b * b.b, a.a * b.b + a.b * b.a⟩) := by
  have h1 := rMulF4 hH hp a.a b.a
  have h2 := rMulF4 hH hp a.b b.b
  have h3 := rMulF4 hH hp a.a b.b
  have h4 := rMulF4 hH hp a.b b.a
  have h5 := rSubF4 hH hp (a.a * b.a) (a.b * b.b)
  have h6 := rAddF4 hH hp (a.a * b.b) (a.b * b.a)
  generalize a.a * b.a - a.b * b.b = r at *
  generalize a.a * b.b + a.b * b.a = r2 at *
  generalize a.a * b.a = q1 at *
  generalize a.b * b.b = q2 at *
  generalize a.a * b.b = q3 at *
  generalize a.b * b.a = q4 at *
  refine mk Tryz.func89 rfl rfl L0 R1 (by decide +kernel) fun A S hA hS => ?_
  unfold bodyOf Tryz.f89
  cbv
  refine ACall.mk _ (cf hS h1) ?_
  cbv
  refine ACall.mk _ (cf hS h2) ?_
  cbv
  refine ACall.mk _ (cf hS h5) ?_
  cbv
  refine ACall.mk _ (cf hS h3) ?_
  cbv
  refine ACall.mk _ (cf hS h4) ?_
  cbv
  refine ACall.mk _ (cf hS h6) ?_
  cbv
theorem invG4_2 {H : H5} (hH : H = H5.real) (hp : PrM 256 p) (vB vR vX vY vI : AVal) (a : Cv.F2 p) : Sp 127 [.agg [.lst false 4 (ws4 H.lim p), .s .u64 (H.minv p : Nat), .lst false 4 (ws4 H.lim (H.mf (2 * 256) p 1)), .i .i64 2, vB, vR, vX, vY, vI], Er4_2 H a] (Nr4_2 H (Cv.inv2 a)) := by
  have hs := rnumS4 (p := p) hH 0 (by decide)
  have h1 := rMulF4 hH hp a.a a.a
  have h2 := rMulF4 hH hp a.b a.b
  have h3 := rAddF4 hH hp (a.a * a.a) (a.b * a.b)
  have h4 := rInvF4 hH hp (a.a * a.a + a.b * a.b)
  have h5 := rMulF4 hH hp a.a (Cv.inv1 (a.a * a.a + a.b * a.b))
  have h6 := rMulF4 hH hp a.b (Cv.inv1 (a.a * a.a + a.b * a.b))
  have h7 := rSubF4 hH hp 0 (a.b * Cv.inv1 (a.a * a.a + a.b * a.b))
  have e : Cv.inv2 a = ⟨a.a * Cv.inv1 (a.a * a.a + a.b * a.b), 0 - a.b * Cv.inv1 (a.a * a.a + a.b * a.b)⟩ := rfl
  rw [e]
  have z0 : ((0 : Fin p)).val = 0 := Cv.val_zero
  rw [z0] at h7
  generalize 0 - a.b * Cv.inv1 (a.a * a.a + a.b * a.b) = r2 at *
  generalize a.a * Cv.inv1 (a.a * a.a + a.b * a.b) = r1 at *
  generalize a.b * Cv.inv1 (a.a * a.a + a.b * a.b) = q at *
  generalize Cv.inv1 (a.a * a.a + a.b * a.b) = i at *
  generalize a.a * a.a + a.b * a.b = s at *
  generalize a.a * a.a = q1 at *
  generalize a.b * a.b = q2 at *
  refine mk Tryz.func127 rfl rfl L0 R1 (by decide +kernel) fun A S hA hS => ?_
  unfold bodyOf Tryz.f127
  cbv
  refine ACall.mk _ (cf hS h1) ?_
  cbv
  refine ACall.mk _ (cf hS h2) ?_
  cbv
  refine ACall.mk _ (cf hS h3) ?_
  cbv
  refine ACall.mk _ (cf hS h4) ?_
  cbv
  refine ACall.mk _ (cf hS h5) ?_
  cbv
  refine ACall.mk _ (cg hS hs (by first | (cbv; done) | (cbv; exact rfl) | (cbv; exact ⟨rfl, trivial⟩) | (cbv; simp))) ?_
  cbv
  refine ACall.mk _ (cf hS h6) ?_
  cbv
  refine ACall.mk _ (cf hS h7) ?_
  cbv
end
theorem rBn1S {H : H5} (hH : H = H5.real) {c : Cu bnP} (hc : c = bnC) : Sp 29 [] (Cr4_1 H c) := by
  have hl := H5.hlim hH
  have h1 := rBnPS hH
  have h2 := rNew4 hH bnPr.toMod
  have h3 : Sp 56 [] (.new false 4 1 (ws4 H.lim c.r)) := by rw [hc]; exact rBnRS hH
  have n1 : Sp 80 [rf4 H bnP, .s .u64 1] (.new false 4 1 (ws4 H.lim c.x1)) := by rw [show c.x1 = 1 from (by rw [hc]; decide +kernel)]; exact rnumS4 (p := bnP) hH 1 (by decide)
  have n2 : Sp 80 [rf4 H bnP, .s .u64 2] (.new false 4 1 (ws4 H.lim c.y1)) := by rw [show c.y1 = 2 from (by rw [hc]; decide +kernel)]; exact rnumS4 (p := bnP) hH 2 (by decide)
  have n3 : Sp 80 [rf4 H bnP, .s .u64 3] (.new false 4 1 (ws4 H.lim c.b1.val)) := by rw [show c.b1.val = 3 from (by rw [hc]; decide +kernel)]; exact rnumS4 (p := bnP) hH 3 (by decide)
  refine mk Tryz.func29 rfl rfl L0 RB1 (by decide +kernel) fun A S hA hS => ?_
  unfold bodyOf Tryz.f29
  cbv
  refine ACall.mk _ (cf hS h1) ?_
  cbv
  refine ACall.mk _ (cf hS h2) ?_
  cbv
  refine ACall.mk _ (cg hS n1 (by first | (cbv; done) | (cbv; exact rfl) | (cbv; exact ⟨rfl, trivial⟩) | (cbv; simp))) ?_
  cbv
  refine ACall.mk _ (cg hS n2 (by first | (cbv; done) | (cbv; exact rfl) | (cbv; exact ⟨rfl, trivial⟩) | (cbv; simp))) ?_
  cbv
  refine ACall.mk _ (cg hS n3 (by first | (cbv; done) | (cbv; exact rfl) | (cbv; exact ⟨rfl, trivial⟩) | (cbv; simp))) ?_
  cbv
  refine ACall.mk _ (cf hS h3) ?_
  cbv
theorem rBls1S {H : H5} (hH : H = H5.real) {c : Cu blsP} (hc : c = blsC) : Sp 14 [] (Cr6_1 H c) := by
  have hl := H5.hlim hH
  have h1 := rBlsPS hH
  have h2 := rNew6 hH blsPr.toMod
  have h3 : Sp 57 [] (.new false 4 1 (ws4 H.lim c.r)) := by rw [hc]; exact rBlsRS hH
  have n4 : Sp 80 [rf6 H blsP, .s .u64 4] (.new false 6 1 (ws6 H.lim c.b1.val)) := by rw [show c.b1.val = 4 from (by rw [hc]; decide +kernel)]; exact rnumS6 (p := blsP) hH 4 (by decide)
  refine mk Tryz.func14 rfl rfl L0 RL1 (by decide +kernel) fun A S hA hS => ?_
  unfold bodyOf Tryz.f14
  cbv
  refine ACall.mk _ (cf hS h1) ?_
  cbv
  refine ACall.mk _ (cf hS h2) ?_
  cbv
  refine ACall.mk _ (cf hS (rHex6 (H5.hlim hH) _ (by decide +kernel) (by decide +kernel))) ?_
  rw [show hexN _ = c.x1 from (by rw [hc]; decide +kernel)]
  cbv
  refine ACall.mk _ (cf hS (rHex6 (H5.hlim hH) _ (by decide +kernel) (by decide +kernel))) ?_
  rw [show hexN _ = c.y1 from (by rw [hc]; decide +kernel)]
  cbv
  refine ACall.mk _ (cg hS n4 (by first | (cbv; done) | (cbv; exact rfl) | (cbv; exact ⟨rfl, trivial⟩) | (cbv; simp))) ?_
  cbv
  refine ACall.mk _ (cf hS h3) ?_
  cbv
theorem rBn2S {H : H5} (hH : H = H5.real) {c : Cu bnP} (hc : c = bnC) : Sp 48 [] (Cr4_2 H c) := by
  have hl := H5.hlim hH
  have h1 := rBnPS hH
  have h2 := rNew4 hH bnPr.toMod
  have h3 : Sp 56 [] (.new false 4 1 (ws4 H.lim c.r)) := by rw [hc]; exact rBnRS hH
  obtain ⟨q0, hq0⟩ : ∃ q, q = fo bnP 0 := ⟨_, rfl⟩
  obtain ⟨q9, hq9⟩ : ∃ q, q = fo bnP 9 := ⟨_, rfl⟩
  have hb1 : c.b1 = fo bnP 3 := by rw [hc]; rfl
  have hq1 : c.one = fo bnP 1 := by rw [hc]; rfl
  have n3 : Sp 80 [rf4 H bnP, .s .u64 3] (.new false 4 1 (ws4 H.lim c.b1.val)) := by rw [show c.b1.val = 3 from (by rw [hc]; decide +kernel)]; exact rnumS4 (p := bnP) hH 3 (by decide)
  have n1 : Sp 80 [rf4 H bnP, .s .u64 1] (.new false 4 1 (ws4 H.lim c.one.val)) := by rw [show c.one.val = 1 from (by rw [hc]; decide +kernel)]; exact rnumS4 (p := bnP) hH 1 (by decide)
  have n0 : Sp 80 [rf4 H bnP, .s .u64 0] (.new false 4 1 (ws4 H.lim q0.val)) := by rw [show q0.val = 0 from (by rw [hq0]; decide +kernel)]; exact rnumS4 (p := bnP) hH 0 (by decide)
  have n9 : Sp 80 [rf4 H bnP, .s .u64 9] (.new false 4 1 (ws4 H.lim q9.val)) := by rw [show q9.val = 9 from (by rw [hq9]; decide +kernel)]; exact rnumS4 (p := bnP) hH 9 (by decide)
  have iv := fun a b d e f => invG4_2 hH bnPr a b d e f (⟨q9, c.one⟩ : Cv.F2 bnP)
  have ml := fun a b d e f => mulG4_2 hH bnPr a b d e f (⟨c.b1, q0⟩ : Cv.F2 bnP) (Cv.inv2 ⟨q9, c.one⟩)
  have e2 : (⟨c.b1 * (Cv.inv2 ⟨q9, c.one⟩).a - q0 * (Cv.inv2 ⟨q9, c.one⟩).b, c.b1 * (Cv.inv2 ⟨q9, c.one⟩).b + q0 * (Cv.inv2 ⟨q9, c.one⟩).a⟩ : Cv.F2 bnP) = c.b2 := by rw [hb1, hq0, hq1, hq9, hc]; rfl
  dsimp only at ml
  simp only [e2] at ml
  generalize Cv.inv2 ⟨q9, c.one⟩ = i9 at *
  clear hq1 hq0 hq9 hb1 e2
  refine mk Tryz.func48 rfl rfl L0 RB2 (by decide +kernel) fun A S hA hS => ?_
  unfold bodyOf Tryz.f48
  cbv
  refine ACall.mk _ (cf hS h1) ?_
  cbv
  refine ACall.mk _ (cf hS h2) ?_
  cbv
  refine ACall.mk _ (cf hS h3) ?_
  cbv
  refine ACall.mk _ (cg hS n3 (by first | (cbv; done) | (cbv; exact rfl) | (cbv; exact ⟨rfl, trivial⟩) | (cbv; simp))) ?_
  cbv
  refine ACall.mk _ (cg hS n0 (by first | (cbv; done) | (cbv; exact rfl) | (cbv; exact ⟨rfl, trivial⟩) | (cbv; simp))) ?_
  cbv
  refine ACall.mk _ (cg hS n9 (by first | (cbv; done) | (cbv; exact rfl) | (cbv; exact ⟨rfl, trivial⟩) | (cbv; simp))) ?_
  cbv
  refine ACall.mk _ (cg hS n1 (by first | (cbv; done) | (cbv; exact rfl) | (cbv; exact ⟨rfl, trivial⟩) | (cbv; simp))) ?_
  cbv
  refine ACall.mk _ (cf hS (iv _ _ _ _ _)) ?_
  cbv
  refine ACall.mk _ (cf hS (ml _ _ _ _ _)) ?_
  cbv
  refine ACall.mk _ (cf hS (rHex4 (H5.hlim hH) _ (by decide +kernel) (by decide +kernel))) ?_
  rw [show hexN _ = c.xa from (by rw [hc]; decide +kernel)]
  cbv
  refine ACall.mk _ (cf hS (rHex4 (H5.hlim hH) _ (by decide +kernel) (by decide +kernel))) ?_
  rw [show hexN _ = c.xb from (by rw [hc]; decide +kernel)]
  cbv
  refine ACall.mk _ (cf hS (rHex4 (H5.hlim hH) _ (by decide +kernel) (by decide +kernel))) ?_
  rw [show hexN _ = c.ya from (by rw [hc]; decide +kernel)]
  cbv
  refine ACall.mk _ (cf hS (rHex4 (H5.hlim hH) _ (by decide +kernel) (by decide +kernel))) ?_
  rw [show hexN _ = c.yb from (by rw [hc]; decide +kernel)]
  cbv
end Go.Proofs.YtmholgclgamnnaaGreat
end
section
set_option linter.unusedVariables false
set_option linter.unusedSimpArgs false
namespace Go.Proofs.YtmholgclgamnnaaGreat
open Go Eng
set_option maxRecDepth 100000
set_option exponentiation.threshold 2000
set_option maxHeartbeats 8000000
abbrev by6 (B : Nat → Nat → Int) (a : Nat) : List AVal := [.s .u8 (B a 47), .s .u8 (B a 46), .s .u8 (B a 45), .s .u8 (B a 44), .s .u8 (B a 43), .s .u8 (B a 42), .s .u8 (B a 41), .s .u8 (B a 40), .s .u8 (B a 39), .s .u8 (B a 38), .s .u8 (B a 37), .s .u8 (B a 36), .s .u8 (B a 35), .s .u8 (B a 34), .s .u8 (B a 33), .s .u8 (B a 32), .s .u8 (B a 31), .s .u8 (B a 30), .s .u8 (B a 29), .s .u8 (B a 28), .s .u8 (B a 27), .s .u8 (B a 26), .s .u8 (B a 25), .s .u8 (B a 24), .s .u8 (B a 23), .s .u8 (B a 22), .s .u8 (B a 21), .s .u8 (B a 20), .s .u8 (B a 19), .s .u8 (B a 18), .s .u8 (B a 17), .s .u8 (B a 16), .s .u8 (B a 15), .s .u8 (B a 14), .s .u8 (B a 13), .s .u8 (B a 12), .s .u8 (B a 11), .s .u8 (B a 10), .s .u8 (B a 9), .s .u8 (B a 8), .s .u8 (B a 7), .s .u8 (B a 6), .s .u8 (B a 5), .s .u8 (B a 4), .s .u8 (B a 3), .s .u8 (B a 2), .s .u8 (B a 1), .s .u8 (B a 0)]
/-- Bytes in a row, told by a sequence. -/
def wb6 (o : Nat → Int) : List AVal := [.s .u8 (o (8 * 6 - 1 - 47)), .s .u8 (o (8 * 6 - 1 - 46)), .s .u8 (o (8 * 6 - 1 - 45)), .s .u8 (o (8 * 6 - 1 - 44)), .s .u8 (o (8 * 6 - 1 - 43)), .s .u8 (o (8 * 6 - 1 - 42)), .s .u8 (o (8 * 6 - 1 - 41)), .s .u8 (o (8 * 6 - 1 - 40)), .s .u8 (o (8 * 6 - 1 - 39)), .s .u8 (o (8 * 6 - 1 - 38)), .s .u8 (o (8 * 6 - 1 - 37)), .s .u8 (o (8 * 6 - 1 - 36)), .s .u8 (o (8 * 6 - 1 - 35)), .s .u8 (o (8 * 6 - 1 - 34)), .s .u8 (o (8 * 6 - 1 - 33)), .s .u8 (o (8 * 6 - 1 - 32)), .s .u8 (o (8 * 6 - 1 - 31)), .s .u8 (o (8 * 6 - 1 - 30)), .s .u8 (o (8 * 6 - 1 - 29)), .s .u8 (o (8 * 6 - 1 - 28)), .s .u8 (o (8 * 6 - 1 - 27)), .s .u8 (o (8 * 6 - 1 - 26)), .s .u8 (o (8 * 6 - 1 - 25)), .s .u8 (o (8 * 6 - 1 - 24)), .s .u8 (o (8 * 6 - 1 - 23)), .s .u8 (o (8 * 6 - 1 - 22)), .s .u8 (o (8 * 6 - 1 - 21)), .s .u8 (o (8 * 6 - 1 - 20)), .s .u8 (o (8 * 6 - 1 - 19)), .s .u8 (o (8 * 6 - 1 - 18)), .s .u8 (o (8 * 6 - 1 - 17)), .s .u8 (o (8 * 6 - 1 - 16)), .s .u8 (o (8 * 6 - 1 - 15)), .s .u8 (o (8 * 6 - 1 - 14)), .s .u8 (o (8 * 6 - 1 - 13)), .s .u8 (o (8 * 6 - 1 - 12)), .s .u8 (o (8 * 6 - 1 - 11)), .s .u8 (o (8 * 6 - 1 - 10)), .s .u8 (o (8 * 6 - 1 - 9)), .s .u8 (o (8 * 6 - 1 - 8)), .s .u8 (o (8 * 6 - 1 - 7)), .s .u8 (o (8 * 6 - 1 - 6)), .s .u8 (o (8 * 6 - 1 - 5)), .s .u8 (o (8 * 6 - 1 - 4)), .s .u8 (o (8 * 6 - 1 - 3)), .s .u8 (o (8 * 6 - 1 - 2)), .s .u8 (o (8 * 6 - 1 - 1)), .s .u8 (o (8 * 6 - 1 - 0))]
theorem wb_eq6 (o : Nat → Int) : wb6 o = (List.range (8 * 6)).map fun j => .s .u8 (o j) := rfl
theorem wb_put6 {A : Ar} (hA : A = Ar.real) (o o2 : Nat → Int) (j : Nat) (hj : j < 8 * 6) {x : Int} (hx : x = o2 j) (h : ∀ m, m ≠ j → o2 m = o m) : lput (wb6 o) (A.offs 0 j 1) [.s .u8 x] = some (wb6 o2) := by
  subst hA
  subst hx
  rw [wb_eq6, wb_eq6, show Ar.real.offs 0 j 1 = j from (by show 0 + j * 1 = j; omega)]
  exact lput_row (fun j => .s .u8 (o j)) (fun j => .s .u8 (o2 j)) _ j hj fun m hm => by rw [h m hm]
theorem rBytesS4 {lim : Lim} (hl : lim = limR) {B : Nat → Nat → Int} (hB : B = byteN) (a : Nat) : Sp 136 [.lst false 4 (ws4 lim a)] (.new false (8 * 4) 1 (by4 B a)) := by
  obtain ⟨O, hO⟩ : ∃ O : Nat → Nat → Int, O = fun i j => if 8 * 4 - i ≤ j then B a (8 * 4 - 1 - j) else 0 := ⟨_, rfl⟩
  have hO0 : ∀ j, j < 8 * 4 → O 0 j = 0 := fun j hj => by rw [hO]; exact if_neg (by omega)
  have hOn : ∀ j, O (8 * 4) j = B a (8 * 4 - 1 - j) := fun j => by rw [hO]; exact if_pos (by omega)
  have hO1 : ∀ i, i < 8 * 4 → O (i + 1) (8 * 4 - 1 - i) = B a (8 * (i / 8) + i % 8) := fun i hi => by
    rw [hO]
    show (if 8 * 4 - (i + 1) ≤ 8 * 4 - 1 - i then B a (8 * 4 - 1 - (8 * 4 - 1 - i)) else 0) = _
    rw [if_pos (by omega)]; congr 1; omega
  have hO2 : ∀ i, i < 8 * 4 → ∀ m, m ≠ 8 * 4 - 1 - i → O (i + 1) m = O i m := fun i hi m hm => by
    rw [hO]
    by_cases h : 8 * 4 - i ≤ m
    · exact (if_pos (by omega)).trans (if_pos h).symm
    · exact (if_neg (by omega)).trans (if_neg h).symm
  clear hO
  refine mk Tryz.func136 rfl rfl LN R0 (by decide +kernel) ?_
  intro A S hA hS
  unfold bodyOf Tryz.f136
  cbv
  refine .inv (α := Nat) (fun i => ⟨[.lst false 4 (ws4 lim a), .any, .any, .i .i64 (8 * 4 : Nat), .osl false 0 0 (8 * 4) 1, .any, .any, .any, .any, .any, .any, .any, .i .i64 (8 * 4 : Nat), .s .i64 (i : Nat), .any, .any, .any, .any, .any, .any, .any, .any, .any, .any, .any, .any, .any, .any, .any, .any, .any, .any, .any, .any, .any], [⟨true, true, wb4 (O i)⟩]⟩) (fun i => i ≤ 8 * 4) (fun i => 8 * 4 - i) 0 ?_ (Nat.zero_le _) ?_
  · have h := fun j hj => (hO0 j hj).symm
    cbv
    repeat' (first | exact rfl | exact h _ (by decide) | exact trivial | constructor)
  intro i hi
  by_cases h : i < 8 * 4
  · have hlt : A.cmp .lss (i : Int) ((8 * 4 : Nat) : Int) = true := (i_lt hA).trans (decide_eq_true (by omega))
    obtain ⟨p, hp⟩ : ∃ p, p = 8 * 4 - 1 - i := ⟨_, rfl⟩
    have hix : A.bin .sub .i64 ((8 * 4 - 1 : Nat) : Int) (i : Int) = (p : Int) := e_sub hA rfl rfl (by omega) (by omega)
    have hpn : p < 8 * 4 := by omega
    have hquo : A.bin .quo .i64 (i : Int) 8 = ((i / 8 : Nat) : Int) := e_quo hA rfl rfl (by omega) (by omega) (by omega) (by omega)
    have hnext : A.bin .add .i64 (i : Int) 1 = ((i + 1 : Nat) : Int) := e_add hA rfl rfl (by omega) (by omega)
    have hq : i / 8 < 4 := by omega
    have hr8 : i % 8 < 8 := by omega
    have hrem : A.wrap .u64 (A.bin .mul .i64 8 (A.bin .rem .i64 (i : Int) 8)) = ((8 * (i % 8) : Nat) : Int) := wrap_small hA (e_mul hA rfl (e_rem hA rfl rfl (z := ((i % 8 : Nat) : Int)) (by omega) (by omega)) (by omega) (by omega)) (by omega)
    have hok : A.okb .shr (A.wrap .u64 (A.bin .mul .i64 8 (A.bin .rem .i64 (i : Int) 8))) = true := by rw [hrem]; exact (a_okbS hA (by omega)).1
    have hget := (rowx4 lim a).2 (i / 8) hq
    have hbw := byte_word hA hl a (i / 8) (i % 8) _ hr8 hrem
    have hput := wb_put4 hA (O i) (O (i + 1)) p hpn ((hB ▸ hbw).trans (by rw [hp, hO1 i h])) (by rw [hp]; exact hO2 i h)
    have hdec : 8 * 4 - (i + 1) < 8 * 4 - i := by omega
    have hle : i + 1 ≤ 8 * 4 := h
    obtain ⟨nx, hnx⟩ : ∃ nx, nx = i + 1 := ⟨_, rfl⟩
    rw [← hnx] at hnext hput hdec hle
    clear hO0 hOn hO1 hO2 hp hbw hr8 hrem
    generalize i / 8 = q at *
    cbv
    refine ABr.t hlt ?_
    cbv
    refine .sym q hquo hq ?_
    cbv
    refine .mk _ hget ?_
    cbv
    refine .mk hok ?_
    cbv
    refine .sym p hix hpn ?_
    cbv
    refine .mk _ hput ?_
    cbv
    refine ⟨nx, ?_, hle, hdec⟩
    cbv
    repeat' (first | exact hnext | exact trivial | exact rfl | constructor)
  · have hlt : A.cmp .lss (i : Int) ((8 * 4 : Nat) : Int) = false := (i_lt hA).trans (decide_eq_false (by omega))
    obtain rfl : i = 8 * 4 := by omega
    cbv
    refine ABr.f hlt ?_
    cbv
    exact ⟨hOn (8 * 4 - 1 - 31), hOn (8 * 4 - 1 - 30), hOn (8 * 4 - 1 - 29), hOn (8 * 4 - 1 - 28), hOn (8 * 4 - 1 - 27), hOn (8 * 4 - 1 - 26), hOn (8 * 4 - 1 - 25), hOn (8 * 4 - 1 - 24), hOn (8 * 4 - 1 - 23), hOn (8 * 4 - 1 - 22), hOn (8 * 4 - 1 - 21), hOn (8 * 4 - 1 - 20), hOn (8 * 4 - 1 - 19), hOn (8 * 4 - 1 - 18), hOn (8 * 4 - 1 - 17), hOn (8 * 4 - 1 - 16), hOn (8 * 4 - 1 - 15), hOn (8 * 4 - 1 - 14), hOn (8 * 4 - 1 - 13), hOn (8 * 4 - 1 - 12), hOn (8 * 4 - 1 - 11), hOn (8 * 4 - 1 - 10), hOn (8 * 4 - 1 - 9), hOn (8 * 4 - 1 - 8), hOn (8 * 4 - 1 - 7), hOn (8 * 4 - 1 - 6), hOn (8 * 4 - 1 - 5), hOn (8 * 4 - 1 - 4), hOn (8 * 4 - 1 - 3), hOn (8 * 4 - 1 - 2), hOn (8 * 4 - 1 - 1), hOn (8 * 4 - 1 - 0)⟩
theorem bytesS6 {lim : Lim} (hl : lim = limR) {B : Nat → Nat → Int} (hB : B = byteN) (a : Nat) : Sp 137 [u6 lim a] (.new false (8 * 6) 1 (by6 B a)) := by
  obtain ⟨O, hO⟩ : ∃ O : Nat → Nat → Int, O = fun i j => if 8 * 6 - i ≤ j then B a (8 * 6 - 1 - j) else 0 := ⟨_, rfl⟩
  have hO0 : ∀ j, j < 8 * 6 → O 0 j = 0 := fun j hj => by rw [hO]; exact if_neg (by omega)
  have hOn : ∀ j, O (8 * 6) j = B a (8 * 6 - 1 - j) := fun j => by rw [hO]; exact if_pos (by omega)
  have hO1 : ∀ i, i < 8 * 6 → O (i + 1) (8 * 6 - 1 - i) = B a (8 * (i / 8) + i % 8) := fun i hi => by
    rw [hO]
    show (if 8 * 6 - (i + 1) ≤ 8 * 6 - 1 - i then B a (8 * 6 - 1 - (8 * 6 - 1 - i)) else 0) = _
    rw [if_pos (by omega)]; congr 1; omega
  have hO2 : ∀ i, i < 8 * 6 → ∀ m, m ≠ 8 * 6 - 1 - i → O (i + 1) m = O i m := fun i hi m hm => by
    rw [hO]
    by_cases h : 8 * 6 - i ≤ m
    · exact (if_pos (by omega)).trans (if_pos h).symm
    · exact (if_neg (by omega)).trans (if_neg h).symm
  clear hO
  refine mk Tryz.func137 rfl rfl LN R0 (by decide +kernel) ?_
  intro A S hA hS
  unfold bodyOf Tryz.f137
  cbv
  refine .inv (α := Nat) (fun i => ⟨[.any, .own 0 0, .any, .i .i64 (8 * 6 : Nat), .osl false 1 0 (8 * 6) 1, .any, .any, .any, .any, .any, .any, .i .i64 (8 * 6 : Nat), .s .i64 (i : Nat), .any, .any, .any, .any, .any, .any, .any, .any, .any, .any, .any, .any, .any, .any, .any, .any, .any, .any, .any], [⟨true, true, ws6 lim a⟩, ⟨true, true, wb6 (O i)⟩]⟩) (fun i => i ≤ 8 * 6) (fun i => 8 * 6 - i) 0 ?_ (Nat.zero_le _) ?_
  · have h := fun j hj => (hO0 j hj).symm
    cbv
    repeat' (first | exact rfl | exact h _ (by decide) | exact trivial | constructor)
  intro i hi
  by_cases h : i < 8 * 6
  · have hlt : A.cmp .lss (i : Int) ((8 * 6 : Nat) : Int) = true := (i_lt hA).trans (decide_eq_true (by omega))
    obtain ⟨p, hp⟩ : ∃ p, p = 8 * 6 - 1 - i := ⟨_, rfl⟩
    have hix : A.bin .sub .i64 ((8 * 6 - 1 : Nat) : Int) (i : Int) = (p : Int) := e_sub hA rfl rfl (by omega) (by omega)
    have hpn : p < 8 * 6 := by omega
    have hquo : A.bin .quo .i64 (i : Int) 8 = ((i / 8 : Nat) : Int) := e_quo hA rfl rfl (by omega) (by omega) (by omega) (by omega)
    have hnext : A.bin .add .i64 (i : Int) 1 = ((i + 1 : Nat) : Int) := e_add hA rfl rfl (by omega) (by omega)
    have hq : i / 8 < 6 := by omega
    have hr8 : i % 8 < 8 := by omega
    have hrem : A.bin .mul .i64 8 (A.bin .rem .i64 (i : Int) 8) = ((8 * (i % 8) : Nat) : Int) := e_mul hA rfl (e_rem hA rfl rfl (z := ((i % 8 : Nat) : Int)) (by omega) (by omega)) (by omega) (by omega)
    have hok : A.okb .shr (A.bin .mul .i64 8 (A.bin .rem .i64 (i : Int) 8)) = true := by rw [hrem]; exact (a_okbS hA (by omega)).1
    have hget := ws_get6 hA lim a (i / 8) hq
    have hbw := byte_word hA hl a (i / 8) (i % 8) _ hr8 hrem
    have hput := wb_put6 hA (O i) (O (i + 1)) p hpn ((hB ▸ hbw).trans (by rw [hp, hO1 i h])) (by rw [hp]; exact hO2 i h)
    have hdec : 8 * 6 - (i + 1) < 8 * 6 - i := by omega
    have hle : i + 1 ≤ 8 * 6 := h
    obtain ⟨nx, hnx⟩ : ∃ nx, nx = i + 1 := ⟨_, rfl⟩
    rw [← hnx] at hnext hput hdec hle
    clear hO0 hOn hO1 hO2 hp hbw hr8 hrem
    generalize i / 8 = q at *
    cbv
    refine ABr.t hlt ?_
    cbv
    refine .sym q hquo hq ?_
    cbv
    refine .mk _ hget ?_
    cbv
    refine .mk hok ?_
    cbv
    refine .sym p hix hpn ?_
    cbv
    refine .mk _ hput ?_
    cbv
    refine ⟨nx, ?_, hle, hdec⟩
    cbv
    repeat' (first | exact hnext | exact trivial | exact rfl | constructor)
  · have hlt : A.cmp .lss (i : Int) ((8 * 6 : Nat) : Int) = false := (i_lt hA).trans (decide_eq_false (by omega))
    obtain rfl : i = 8 * 6 := by omega
    cbv
    refine ABr.f hlt ?_
    cbv
    exact ⟨hOn (8 * 6 - 1 - 47), hOn (8 * 6 - 1 - 46), hOn (8 * 6 - 1 - 45), hOn (8 * 6 - 1 - 44), hOn (8 * 6 - 1 - 43), hOn (8 * 6 - 1 - 42), hOn (8 * 6 - 1 - 41), hOn (8 * 6 - 1 - 40), hOn (8 * 6 - 1 - 39), hOn (8 * 6 - 1 - 38), hOn (8 * 6 - 1 - 37), hOn (8 * 6 - 1 - 36), hOn (8 * 6 - 1 - 35), hOn (8 * 6 - 1 - 34), hOn (8 * 6 - 1 - 33), hOn (8 * 6 - 1 - 32), hOn (8 * 6 - 1 - 31), hOn (8 * 6 - 1 - 30), hOn (8 * 6 - 1 - 29), hOn (8 * 6 - 1 - 28), hOn (8 * 6 - 1 - 27), hOn (8 * 6 - 1 - 26), hOn (8 * 6 - 1 - 25), hOn (8 * 6 - 1 - 24), hOn (8 * 6 - 1 - 23), hOn (8 * 6 - 1 - 22), hOn (8 * 6 - 1 - 21), hOn (8 * 6 - 1 - 20), hOn (8 * 6 - 1 - 19), hOn (8 * 6 - 1 - 18), hOn (8 * 6 - 1 - 17), hOn (8 * 6 - 1 - 16), hOn (8 * 6 - 1 - 15), hOn (8 * 6 - 1 - 14), hOn (8 * 6 - 1 - 13), hOn (8 * 6 - 1 - 12), hOn (8 * 6 - 1 - 11), hOn (8 * 6 - 1 - 10), hOn (8 * 6 - 1 - 9), hOn (8 * 6 - 1 - 8), hOn (8 * 6 - 1 - 7), hOn (8 * 6 - 1 - 6), hOn (8 * 6 - 1 - 5), hOn (8 * 6 - 1 - 4), hOn (8 * 6 - 1 - 3), hOn (8 * 6 - 1 - 2), hOn (8 * 6 - 1 - 1), hOn (8 * 6 - 1 - 0)⟩
theorem rBytesS6 {lim : Lim} (hl : lim = limR) {B : Nat → Nat → Int} (hB : B = byteN) (a : Nat) : Sp 136 [.lst false 6 (ws6 lim a)] (.new false (8 * 6) 1 (by6 B a)) := by
  obtain ⟨O, hO⟩ : ∃ O : Nat → Nat → Int, O = fun i j => if 8 * 6 - i ≤ j then B a (8 * 6 - 1 - j) else 0 := ⟨_, rfl⟩
  have hO0 : ∀ j, j < 8 * 6 → O 0 j = 0 := fun j hj => by rw [hO]; exact if_neg (by omega)
  have hOn : ∀ j, O (8 * 6) j = B a (8 * 6 - 1 - j) := fun j => by rw [hO]; exact if_pos (by omega)
  have hO1 : ∀ i, i < 8 * 6 → O (i + 1) (8 * 6 - 1 - i) = B a (8 * (i / 8) + i % 8) := fun i hi => by
    rw [hO]
    show (if 8 * 6 - (i + 1) ≤ 8 * 6 - 1 - i then B a (8 * 6 - 1 - (8 * 6 - 1 - i)) else 0) = _
    rw [if_pos (by omega)]; congr 1; omega
  have hO2 : ∀ i, i < 8 * 6 → ∀ m, m ≠ 8 * 6 - 1 - i → O (i + 1) m = O i m := fun i hi m hm => by
    rw [hO]
    by_cases h : 8 * 6 - i ≤ m
    · exact (if_pos (by omega)).trans (if_pos h).symm
    · exact (if_neg (by omega)).trans (if_neg h).symm
  clear hO
  refine mk Tryz.func136 rfl rfl LN R0 (by decide +kernel) ?_
  intro A S hA hS
  unfold bodyOf Tryz.f136
  cbv
  refine .inv (α := Nat) (fun i => ⟨[.lst false 6 (ws6 lim a), .any, .any, .i .i64 (8 * 6 : Nat), .osl false 0 0 (8 * 6) 1, .any, .any, .any, .any, .any, .any, .any, .i .i64 (8 * 6 : Nat), .s .i64 (i : Nat), .any, .any, .any, .any, .any, .any, .any, .any, .any, .any, .any, .any, .any, .any, .any, .any, .any, .any, .any, .any, .any], [⟨true, true, wb6 (O i)⟩]⟩) (fun i => i ≤ 8 * 6) (fun i => 8 * 6 - i) 0 ?_ (Nat.zero_le _) ?_
  · have h := fun j hj => (hO0 j hj).symm
    cbv
    repeat' (first | exact rfl | exact h _ (by decide) | exact trivial | constructor)
  intro i hi
  by_cases h : i < 8 * 6
  · have hlt : A.cmp .lss (i : Int) ((8 * 6 : Nat) : Int) = true := (i_lt hA).trans (decide_eq_true (by omega))
    obtain ⟨p, hp⟩ : ∃ p, p = 8 * 6 - 1 - i := ⟨_, rfl⟩
    have hix : A.bin .sub .i64 ((8 * 6 - 1 : Nat) : Int) (i : Int) = (p : Int) := e_sub hA rfl rfl (by omega) (by omega)
    have hpn : p < 8 * 6 := by omega
    have hquo : A.bin .quo .i64 (i : Int) 8 = ((i / 8 : Nat) : Int) := e_quo hA rfl rfl (by omega) (by omega) (by omega) (by omega)
    have hnext : A.bin .add .i64 (i : Int) 1 = ((i + 1 : Nat) : Int) := e_add hA rfl rfl (by omega) (by omega)
    have hq : i / 8 < 6 := by omega
    have hr8 : i % 8 < 8 := by omega
    have hrem : A.wrap .u64 (A.bin .mul .i64 8 (A.bin .rem .i64 (i : Int) 8)) = ((8 * (i % 8) : Nat) : Int) := wrap_small hA (e_mul hA rfl (e_rem hA rfl rfl (z := ((i % 8 : Nat) : Int)) (by omega) (by omega)) (by omega) (by omega)) (by omega)
    have hok : A.okb .shr (A.wrap .u64 (A.bin .mul .i64 8 (A.bin .rem .i64 (i : Int) 8))) = true := by rw [hrem]; exact (a_okbS hA (by omega)).1
    have hget := (rowx6 lim a).2 (i / 8) hq
    have hbw := byte_word hA hl a (i / 8) (i % 8) _ hr8 hrem
    have hput := wb_put6 hA (O i) (O (i + 1)) p hpn ((hB ▸ hbw).trans (by rw [hp, hO1 i h])) (by rw [hp]; exact hO2 i h)
    have hdec : 8 * 6 - (i + 1) < 8 * 6 - i := by omega
    have hle : i + 1 ≤ 8 * 6 := h
    obtain ⟨nx, hnx⟩ : ∃ nx, nx = i + 1 := ⟨_, rfl⟩
    rw [← hnx] at hnext hput hdec hle
    clear hO0 hOn hO1 hO2 hp hbw hr8 hrem
    generalize i / 8 = q at *
    cbv
    refine ABr.t hlt ?_
    cbv
    refine .sym q hquo hq ?_
    cbv
    refine .mk _ hget ?_
    cbv
    refine .mk hok ?_
    cbv
    refine .sym p hix hpn ?_
    cbv
    refine .mk _ hput ?_
    cbv
    refine ⟨nx, ?_, hle, hdec⟩
    cbv
    repeat' (first | exact hnext | exact trivial | exact rfl | constructor)
  · have hlt : A.cmp .lss (i : Int) ((8 * 6 : Nat) : Int) = false := (i_lt hA).trans (decide_eq_false (by omega))
    obtain rfl : i = 8 * 6 := by omega
    cbv
    refine ABr.f hlt ?_
    cbv
    exact ⟨hOn (8 * 6 - 1 - 47), hOn (8 * 6 - 1 - 46), hOn (8 * 6 - 1 - 45), hOn (8 * 6 - 1 - 44), hOn (8 * 6 - 1 - 43), hOn (8 * 6 - 1 - 42), hOn (8 * 6 - 1 - 41), hOn (8 * 6 - 1 - 40), hOn (8 * 6 - 1 - 39), hOn (8 * 6 - 1 - 38), hOn (8 * 6 - 1 - 37), hOn (8 * 6 - 1 - 36), hOn (8 * 6 - 1 - 35), hOn (8 * 6 - 1 - 34), hOn (8 * 6 - 1 - 33), hOn (8 * 6 - 1 - 32), hOn (8 * 6 - 1 - 31), hOn (8 * 6 - 1 - 30), hOn (8 * 6 - 1 - 29), hOn (8 * 6 - 1 - 28), hOn (8 * 6 - 1 - 27), hOn (8 * 6 - 1 - 26), hOn (8 * 6 - 1 - 25), hOn (8 * 6 - 1 - 24), hOn (8 * 6 - 1 - 23), hOn (8 * 6 - 1 - 22), hOn (8 * 6 - 1 - 21), hOn (8 * 6 - 1 - 20), hOn (8 * 6 - 1 - 19), hOn (8 * 6 - 1 - 18), hOn (8 * 6 - 1 - 17), hOn (8 * 6 - 1 - 16), hOn (8 * 6 - 1 - 15), hOn (8 * 6 - 1 - 14), hOn (8 * 6 - 1 - 13), hOn (8 * 6 - 1 - 12), hOn (8 * 6 - 1 - 11), hOn (8 * 6 - 1 - 10), hOn (8 * 6 - 1 - 9), hOn (8 * 6 - 1 - 8), hOn (8 * 6 - 1 - 7), hOn (8 * 6 - 1 - 6), hOn (8 * 6 - 1 - 5), hOn (8 * 6 - 1 - 4), hOn (8 * 6 - 1 - 3), hOn (8 * 6 - 1 - 2), hOn (8 * 6 - 1 - 1), hOn (8 * 6 - 1 - 0)⟩
theorem eqs_str {A : Ar} (hA : A = Ar.real) (s : ByteArray) : A.eqs [(.v (.string s), .v (.string s))] = true := by
  rw [eqs_real hA]
  show (leafEq (.v (.string s), .v (.string s)) && true) = true
  have : (s == s) = true := by first | exact beq_self_eq_true s | (obtain ⟨d⟩ := s; exact beq_self_eq_true d) | (exact decide_eq_true rfl)
  show ((s == s) && true) = true
  rw [this]; rfl
end Go.Proofs.YtmholgclgamnnaaGreat
end
section
set_option linter.unusedVariables false
set_option linter.unusedSectionVars false
set_option linter.unusedSimpArgs false
namespace Go.Proofs.YtmholgclgamnnaaGreat
open Go Eng
set_option maxRecDepth 100000
set_option exponentiation.threshold 2000
set_option maxHeartbeats 4000000
def ROw : Nat → Md := fun r => match r with | 0 => .all | _ => .own
theorem writeBn2S {H : H5} (hH : H = H5.real) {B : Nat → Nat → Int} (hB : B = byteN) (P : PtB) : Sp 63 [P2_4 H P] (.new false 128 1 (by4 B (wr P.inf P.xb) ++ (by4 B (wr P.inf P.xa) ++ (by4 B (wr P.inf P.yb) ++ by4 B (wr P.inf P.ya))))) := by
  have hl := H5.hlim hH
  have h1 := bytesS4 hl hB P.xa
  have h2 := bytesS4 hl hB P.xb
  have h3 := bytesS4 hl hB P.ya
  have h4 := bytesS4 hl hB P.yb
  have z := b0 hB
  obtain ⟨xa, xb, ya, yb, inf⟩ := P
  dsimp only at *
  cases inf
  · refine mk Tryz.func63 rfl rfl L0 ROw (by decide +kernel) fun A S hA hS => ?_
    unfold bodyOf Tryz.f63
    cbv
    repeat (first
      | (refine ABr.t (by assumption) ?_; cbv)
      | (refine ABr.f (by assumption) ?_; cbv)
      | (refine ABr.t rfl ?_; cbv)
      | (refine ABr.f rfl ?_; cbv)
      | (refine ACall.mk _ (cf hS h1) ?_; cbv)
      | (refine ACall.mk _ (cf hS h2) ?_; cbv)
      | (refine ACall.mk _ (cf hS h3) ?_; cbv)
      | (refine ACall.mk _ (cf hS h4) ?_; cbv))
    try (repeat' (first | exact rfl | exact trivial | constructor))
  · refine mk Tryz.func63 rfl rfl L0 ROw (by decide +kernel) fun A S hA hS => ?_
    unfold bodyOf Tryz.f63
    cbv
    repeat (first
      | (refine ABr.t (by assumption) ?_; cbv)
      | (refine ABr.f (by assumption) ?_; cbv)
      | (refine ABr.t rfl ?_; cbv)
      | (refine ABr.f rfl ?_; cbv))
    exact ⟨(z 31).symm, (z 30).symm, (z 29).symm, (z 28).symm, (z 27).symm, (z 26).symm, (z 25).symm, (z 24).symm, (z 23).symm, (z 22).symm, (z 21).symm, (z 20).symm, (z 19).symm, (z 18).symm, (z 17).symm, (z 16).symm, (z 15).symm, (z 14).symm, (z 13).symm, (z 12).symm, (z 11).symm, (z 10).symm, (z 9).symm, (z 8).symm, (z 7).symm, (z 6).symm, (z 5).symm, (z 4).symm, (z 3).symm, (z 2).symm, (z 1).symm, (z 0).symm, (z 31).symm, (z 30).symm, (z 29).symm, (z 28).symm, (z 27).symm, (z 26).symm, (z 25).symm, (z 24).symm, (z 23).symm, (z 22).symm, (z 21).symm, (z 20).symm, (z 19).symm, (z 18).symm, (z 17).symm, (z 16).symm, (z 15).symm, (z 14).symm, (z 13).symm, (z 12).symm, (z 11).symm, (z 10).symm, (z 9).symm, (z 8).symm, (z 7).symm, (z 6).symm, (z 5).symm, (z 4).symm, (z 3).symm, (z 2).symm, (z 1).symm, (z 0).symm, (z 31).symm, (z 30).symm, (z 29).symm, (z 28).symm, (z 27).symm, (z 26).symm, (z 25).symm, (z 24).symm, (z 23).symm, (z 22).symm, (z 21).symm, (z 20).symm, (z 19).symm, (z 18).symm, (z 17).symm, (z 16).symm, (z 15).symm, (z 14).symm, (z 13).symm, (z 12).symm, (z 11).symm, (z 10).symm, (z 9).symm, (z 8).symm, (z 7).symm, (z 6).symm, (z 5).symm, (z 4).symm, (z 3).symm, (z 2).symm, (z 1).symm, (z 0).symm, (z 31).symm, (z 30).symm, (z 29).symm, (z 28).symm, (z 27).symm, (z 26).symm, (z 25).symm, (z 24).symm, (z 23).symm, (z 22).symm, (z 21).symm, (z 20).symm, (z 19).symm, (z 18).symm, (z 17).symm, (z 16).symm, (z 15).symm, (z 14).symm, (z 13).symm, (z 12).symm, (z 11).symm, (z 10).symm, (z 9).symm, (z 8).symm, (z 7).symm, (z 6).symm, (z 5).symm, (z 4).symm, (z 3).symm, (z 2).symm, (z 1).symm, (z 0).symm⟩
end Go.Proofs.YtmholgclgamnnaaGreat
end
