import Derived.Test.YtmholgclgamnnaaGreatQXDA
import Derived.Test.YtmholgclgamnnaaGreatQXBO
import Derived.Test.YtmholgclgamnnaaGreatQXCA
import Derived.Test.YtmholgclgamnnaaGreatQXC
set_option linter.unusedVariables false
set_option linter.unusedSimpArgs false
set_option linter.unusedSectionVars false
set_option maxRecDepth 100000
set_option exponentiation.threshold 2000
set_option maxHeartbeats 4000000
set_option maxHeartbeats 8000000
section
namespace Go.Proofs.YtmholgclgamnnaaGreat
open Go Eng
theorem inv1_uniq {n p : Nat} [NeZero p] (hp : PrM n p) {a b : Fin p} (h : a * b = 1) : Cv.inv1 a = b := by
 have L := laws1p hp
 have ha : a ≠ 0 := fun e => by
   rw [e] at h
   exact one_ne hp (h.symm.trans (L.zero_mul b))
 have hi : Cv.inv1 a * a = 1 := (Fin.mul_comm _ _).trans (Cv.inv1_ok hp.pr hp.two a ha)
 have h1 : (Cv.inv1 a * a) * b = Cv.inv1 a * (a * b) := L.assoc _ _ _
 rw [h, hi] at h1
 exact (L.mul_one (Cv.inv1 a)).symm.trans (h1.symm.trans (L.one_mul b))
theorem bn_two : mulP (fo bnP 3) ⟨1, 2, false⟩ 2 = (⟨1368015179489954701390400359078579693043519447331113978918064868415326638035, 9918110051302171585080402603319702774565515993150576347155970296011118125764, false⟩, 0) := by
 have g : good1 (fo bnP 3) ⟨1, 2, false⟩ = 0 := by decide +kernel
 have hx : (Cv.tm (Cv.ops1 Cv.inv1) (Cv.up (Cv.ops1 Cv.inv1) (ptOf bnP ⟨1, 2, false⟩)) 2 256 256).x = fo bnP 21888242871839275222246405745257275088696311157297823662689037894645226208560 := by decide +kernel
 have hy : (Cv.tm (Cv.ops1 Cv.inv1) (Cv.up (Cv.ops1 Cv.inv1) (ptOf bnP ⟨1, 2, false⟩)) 2 256 256).y = fo bnP 21888242871839275222246405745257275088696311157297823662689037894645226208572 := by decide +kernel
 have hz : (Cv.tm (Cv.ops1 Cv.inv1) (Cv.up (Cv.ops1 Cv.inv1) (ptOf bnP ⟨1, 2, false⟩)) 2 256 256).z = fo bnP 4 := by decide +kernel
 have e : Cv.inv1 (fo bnP 4) = fo bnP 5472060717959818805561601436314318772174077789324455915672259473661306552146 := inv1_uniq bnPr (by decide +kernel)
 unfold mulP
 rw [if_neg (fun h => h g)]
 generalize Cv.tm (Cv.ops1 Cv.inv1) (Cv.up (Cv.ops1 Cv.inv1) (ptOf bnP ⟨1, 2, false⟩)) 2 256 256 = j at *
 obtain ⟨x, y, z⟩ := j
 dsimp only at hx hy hz
 subst hx hy hz
 unfold Cv.down
 rw [if_neg (by decide +kernel)]
 dsimp only [Cv.ops1]
 rw [e]
 have v1 : (fo bnP 21888242871839275222246405745257275088696311157297823662689037894645226208560 * (fo bnP 5472060717959818805561601436314318772174077789324455915672259473661306552146 * fo bnP 5472060717959818805561601436314318772174077789324455915672259473661306552146)).val = 1368015179489954701390400359078579693043519447331113978918064868415326638035 := by decide +kernel
 have v2 : (fo bnP 21888242871839275222246405745257275088696311157297823662689037894645226208572 * (fo bnP 5472060717959818805561601436314318772174077789324455915672259473661306552146 * fo bnP 5472060717959818805561601436314318772174077789324455915672259473661306552146) * fo bnP 5472060717959818805561601436314318772174077789324455915672259473661306552146).val = 9918110051302171585080402603319702774565515993150576347155970296011118125764 := by decide +kernel
 show ((⟨(fo bnP 21888242871839275222246405745257275088696311157297823662689037894645226208560 * (fo bnP 5472060717959818805561601436314318772174077789324455915672259473661306552146 * fo bnP 5472060717959818805561601436314318772174077789324455915672259473661306552146)).val, (fo bnP 21888242871839275222246405745257275088696311157297823662689037894645226208572 * (fo bnP 5472060717959818805561601436314318772174077789324455915672259473661306552146 * fo bnP 5472060717959818805561601436314318772174077789324455915672259473661306552146) * fo bnP 5472060717959818805561601436314318772174077789324455915672259473661306552146).val, false⟩ : PtA), 0) = _
 rw [v1, v2]
theorem bn_two_good : good1 (fo bnP 3) ⟨1368015179489954701390400359078579693043519447331113978918064868415326638035, 9918110051302171585080402603319702774565515993150576347155970296011118125764, false⟩ = 0 := by decide +kernel
def RB1 : Nat → Md := fun r => match r with | 2 => .tre [] | 3 => .all | _ => .mid
def RB2 : Nat → Md := fun r => match r with | 4 => .all | _ => .mid
def RL1 : Nat → Md := fun r => match r with | 3 => .all | _ => .mid
section
variable {p : Nat} [NeZero p]
theorem mulG4_2 {H : H5} (hH : H = H5.real) (hp : PrM 256 p) (vB vR vX vY vI : AVal) (a b : Cv.F2 p) : Sp 89 [.agg [.lst false 4 (ws4 H.lim p), .s .u64 (H.minv p : Nat), .lst false 4 (ws4 H.lim (H.mf (2 * 256) p 1)), .i .i64 2, vB, vR, vX, vY, vI], Er4_2 H a, Er4_2 H b] (Nr4_2 H ⟨a.a * b.a - a.b * b.b, a.a * b.b + a.b * b.a⟩) := by
 have h1 := rMulF4 hH hp a.a b.a
 have h2 := rMulF4 hH hp a.b b.b
 have h3 := rMulF4 hH hp a.a b.b
 have h4 := rMulF4 hH hp a.b b.a
 have h5 := rSubF4 hH hp (a.a * b.a) (a.b * b.b)
 have h6 := rAddF4 hH hp (a.a * b.b) (a.b * b.a)
 generalize a.a * b.a - a.b * b.b = r at *
 generalize a.a * b.b + a.b * b.a = r2 at *
 generalize a.a * b.a = q1 at *
 generalize a.b * b.b = q2 at *
 generalize a.a * b.b = q3 at *
 generalize a.b * b.a = q4 at *
 refine mk Tryz.func89 rfl rfl L0 R1 (by decide +kernel) fun A S hA hS => ?_
 unfold bodyOf Tryz.f89
 cbv
 refine aF hS h1 ?_
 cbv
 refine aF hS h2 ?_
 cbv
 refine aF hS h5 ?_
 cbv
 refine aF hS h3 ?_
 cbv
 refine aF hS h4 ?_
 cbv
 refine aF hS h6 ?_
 cbv
theorem invG4_2 {H : H5} (hH : H = H5.real) (hp : PrM 256 p) (vB vR vX vY vI : AVal) (a : Cv.F2 p) : Sp 127 [.agg [.lst false 4 (ws4 H.lim p), .s .u64 (H.minv p : Nat), .lst false 4 (ws4 H.lim (H.mf (2 * 256) p 1)), .i .i64 2, vB, vR, vX, vY, vI], Er4_2 H a] (Nr4_2 H (Cv.inv2 a)) := by
 have hs := rnumS4 (p := p) hH 0 (by decide)
 have h1 := rMulF4 hH hp a.a a.a
 have h2 := rMulF4 hH hp a.b a.b
 have h3 := rAddF4 hH hp (a.a * a.a) (a.b * a.b)
 have h4 := rInvF4 hH hp (a.a * a.a + a.b * a.b)
 have h5 := rMulF4 hH hp a.a (Cv.inv1 (a.a * a.a + a.b * a.b))
 have h6 := rMulF4 hH hp a.b (Cv.inv1 (a.a * a.a + a.b * a.b))
 have h7 := rSubF4 hH hp 0 (a.b * Cv.inv1 (a.a * a.a + a.b * a.b))
 have e : Cv.inv2 a = ⟨a.a * Cv.inv1 (a.a * a.a + a.b * a.b), 0 - a.b * Cv.inv1 (a.a * a.a + a.b * a.b)⟩ := rfl
 rw [e]
 have z0 : ((0 : Fin p)).val = 0 := Cv.val_zero
 rw [z0] at h7
 generalize 0 - a.b * Cv.inv1 (a.a * a.a + a.b * a.b) = r2 at *
 generalize a.a * Cv.inv1 (a.a * a.a + a.b * a.b) = r1 at *
 generalize a.b * Cv.inv1 (a.a * a.a + a.b * a.b) = q at *
 generalize Cv.inv1 (a.a * a.a + a.b * a.b) = i at *
 generalize a.a * a.a + a.b * a.b = s at *
 generalize a.a * a.a = q1 at *
 generalize a.b * a.b = q2 at *
 refine mk Tryz.func127 rfl rfl L0 R1 (by decide +kernel) fun A S hA hS => ?_
 unfold bodyOf Tryz.f127
 cbv
 refine aF hS h1 ?_
 cbv
 refine aF hS h2 ?_
 cbv
 refine aF hS h3 ?_
 cbv
 refine aF hS h4 ?_
 cbv
 refine aF hS h5 ?_
 cbv
 refine ACall.mk _ (cg hS hs (by first | (cbv; done) | (cbv; exact rfl) | (cbv; exact ⟨rfl, trivial⟩) | (cbv; simp))) ?_
 cbv
 refine aF hS h6 ?_
 cbv
 refine aF hS h7 ?_
 cbv
end
theorem rBn1S {H : H5} (hH : H = H5.real) {c : Cu bnP} (hc : c = bnC) : Sp 29 [] (Cr4_1 H c) := by
 have hl := H5.hlim hH
 have h1 := rBnPS hH
 have h2 := rNew4 hH bnPr.toMod
 have h3 : Sp 56 [] (.new false 4 1 (ws4 H.lim c.r)) := by rw [hc]; exact rBnRS hH
 have n1 : Sp 80 [rf4 H bnP, .s .u64 1] (.new false 4 1 (ws4 H.lim c.x1)) := by rw [show c.x1 = 1 from (by rw [hc]; decide +kernel)]; exact rnumS4 (p := bnP) hH 1 (by decide)
 have n2 : Sp 80 [rf4 H bnP, .s .u64 2] (.new false 4 1 (ws4 H.lim c.y1)) := by rw [show c.y1 = 2 from (by rw [hc]; decide +kernel)]; exact rnumS4 (p := bnP) hH 2 (by decide)
 have n3 : Sp 80 [rf4 H bnP, .s .u64 3] (.new false 4 1 (ws4 H.lim c.b1.val)) := by rw [show c.b1.val = 3 from (by rw [hc]; decide +kernel)]; exact rnumS4 (p := bnP) hH 3 (by decide)
 refine mk Tryz.func29 rfl rfl L0 RB1 (by decide +kernel) fun A S hA hS => ?_
 unfold bodyOf Tryz.f29
 cbv
 refine aF hS h1 ?_
 cbv
 refine aF hS h2 ?_
 cbv
 refine ACall.mk _ (cg hS n1 (by first | (cbv; done) | (cbv; exact rfl) | (cbv; exact ⟨rfl, trivial⟩) | (cbv; simp))) ?_
 cbv
 refine ACall.mk _ (cg hS n2 (by first | (cbv; done) | (cbv; exact rfl) | (cbv; exact ⟨rfl, trivial⟩) | (cbv; simp))) ?_
 cbv
 refine ACall.mk _ (cg hS n3 (by first | (cbv; done) | (cbv; exact rfl) | (cbv; exact ⟨rfl, trivial⟩) | (cbv; simp))) ?_
 cbv
 refine aF hS h3 ?_
 cbv
theorem rBls1S {H : H5} (hH : H = H5.real) {c : Cu blsP} (hc : c = blsC) : Sp 14 [] (Cr6_1 H c) := by
 have hl := H5.hlim hH
 have h1 := rBlsPS hH
 have h2 := rNew6 hH blsPr.toMod
 have h3 : Sp 57 [] (.new false 4 1 (ws4 H.lim c.r)) := by rw [hc]; exact rBlsRS hH
 have n4 : Sp 80 [rf6 H blsP, .s .u64 4] (.new false 6 1 (ws6 H.lim c.b1.val)) := by rw [show c.b1.val = 4 from (by rw [hc]; decide +kernel)]; exact rnumS6 (p := blsP) hH 4 (by decide)
 refine mk Tryz.func14 rfl rfl L0 RL1 (by decide +kernel) fun A S hA hS => ?_
 unfold bodyOf Tryz.f14
 cbv
 refine aF hS h1 ?_
 cbv
 refine aF hS h2 ?_
 cbv
 refine ACall.mk _ (cf hS (rHex6 (H5.hlim hH) _ (by decide +kernel) (by decide +kernel))) ?_
 rw [show hexN _ = c.x1 from (by rw [hc]; decide +kernel)]
 cbv
 refine ACall.mk _ (cf hS (rHex6 (H5.hlim hH) _ (by decide +kernel) (by decide +kernel))) ?_
 rw [show hexN _ = c.y1 from (by rw [hc]; decide +kernel)]
 cbv
 refine ACall.mk _ (cg hS n4 (by first | (cbv; done) | (cbv; exact rfl) | (cbv; exact ⟨rfl, trivial⟩) | (cbv; simp))) ?_
 cbv
 refine aF hS h3 ?_
 cbv
theorem rBn2S {H : H5} (hH : H = H5.real) {c : Cu bnP} (hc : c = bnC) : Sp 48 [] (Cr4_2 H c) := by
 have hl := H5.hlim hH
 have h1 := rBnPS hH
 have h2 := rNew4 hH bnPr.toMod
 have h3 : Sp 56 [] (.new false 4 1 (ws4 H.lim c.r)) := by rw [hc]; exact rBnRS hH
 obtain ⟨q0, hq0⟩ : ∃ q, q = fo bnP 0 := ⟨_, rfl⟩
 obtain ⟨q9, hq9⟩ : ∃ q, q = fo bnP 9 := ⟨_, rfl⟩
 have hb1 : c.b1 = fo bnP 3 := by rw [hc]; rfl
 have hq1 : c.one = fo bnP 1 := by rw [hc]; rfl
 have n3 : Sp 80 [rf4 H bnP, .s .u64 3] (.new false 4 1 (ws4 H.lim c.b1.val)) := by rw [show c.b1.val = 3 from (by rw [hc]; decide +kernel)]; exact rnumS4 (p := bnP) hH 3 (by decide)
 have n1 : Sp 80 [rf4 H bnP, .s .u64 1] (.new false 4 1 (ws4 H.lim c.one.val)) := by rw [show c.one.val = 1 from (by rw [hc]; decide +kernel)]; exact rnumS4 (p := bnP) hH 1 (by decide)
 have n0 : Sp 80 [rf4 H bnP, .s .u64 0] (.new false 4 1 (ws4 H.lim q0.val)) := by rw [show q0.val = 0 from (by rw [hq0]; decide +kernel)]; exact rnumS4 (p := bnP) hH 0 (by decide)
 have n9 : Sp 80 [rf4 H bnP, .s .u64 9] (.new false 4 1 (ws4 H.lim q9.val)) := by rw [show q9.val = 9 from (by rw [hq9]; decide +kernel)]; exact rnumS4 (p := bnP) hH 9 (by decide)
 have iv := fun a b d e f => invG4_2 hH bnPr a b d e f (⟨q9, c.one⟩ : Cv.F2 bnP)
 have ml := fun a b d e f => mulG4_2 hH bnPr a b d e f (⟨c.b1, q0⟩ : Cv.F2 bnP) (Cv.inv2 ⟨q9, c.one⟩)
 have e2 : (⟨c.b1 * (Cv.inv2 ⟨q9, c.one⟩).a - q0 * (Cv.inv2 ⟨q9, c.one⟩).b, c.b1 * (Cv.inv2 ⟨q9, c.one⟩).b + q0 * (Cv.inv2 ⟨q9, c.one⟩).a⟩ : Cv.F2 bnP) = c.b2 := by rw [hb1, hq0, hq1, hq9, hc]; rfl
 dsimp only at ml
 simp only [e2] at ml
 generalize Cv.inv2 ⟨q9, c.one⟩ = i9 at *
 clear hq1 hq0 hq9 hb1 e2
 refine mk Tryz.func48 rfl rfl L0 RB2 (by decide +kernel) fun A S hA hS => ?_
 unfold bodyOf Tryz.f48
 cbv
 refine aF hS h1 ?_
 cbv
 refine aF hS h2 ?_
 cbv
 refine aF hS h3 ?_
 cbv
 refine ACall.mk _ (cg hS n3 (by first | (cbv; done) | (cbv; exact rfl) | (cbv; exact ⟨rfl, trivial⟩) | (cbv; simp))) ?_
 cbv
 refine ACall.mk _ (cg hS n0 (by first | (cbv; done) | (cbv; exact rfl) | (cbv; exact ⟨rfl, trivial⟩) | (cbv; simp))) ?_
 cbv
 refine ACall.mk _ (cg hS n9 (by first | (cbv; done) | (cbv; exact rfl) | (cbv; exact ⟨rfl, trivial⟩) | (cbv; simp))) ?_
 cbv
 refine ACall.mk _ (cg hS n1 (by first | (cbv; done) | (cbv; exact rfl) | (cbv; exact ⟨rfl, trivial⟩) | (cbv; simp))) ?_
 cbv
 refine ACall.mk _ (cf hS (iv _ _ _ _ _)) ?_
 cbv
 refine ACall.mk _ (cf hS (ml _ _ _ _ _)) ?_
 cbv
 refine ACall.mk _ (cf hS (rHex4 (H5.hlim hH) _ (by decide +kernel) (by decide +kernel))) ?_
 rw [show hexN _ = c.xa from (by rw [hc]; decide +kernel)]
 cbv
 refine ACall.mk _ (cf hS (rHex4 (H5.hlim hH) _ (by decide +kernel) (by decide +kernel))) ?_
 rw [show hexN _ = c.xb from (by rw [hc]; decide +kernel)]
 cbv
 refine ACall.mk _ (cf hS (rHex4 (H5.hlim hH) _ (by decide +kernel) (by decide +kernel))) ?_
 rw [show hexN _ = c.ya from (by rw [hc]; decide +kernel)]
 cbv
 refine ACall.mk _ (cf hS (rHex4 (H5.hlim hH) _ (by decide +kernel) (by decide +kernel))) ?_
 rw [show hexN _ = c.yb from (by rw [hc]; decide +kernel)]
 cbv
def byteN (a p : Nat) : Int := ((a / 2 ^ (8 * p) % 256 : Nat) : Int)
theorem byte_word {A : Ar} (hA : A = Ar.real) {lim : Lim} (hl : lim = limR) (a q r : Nat) (s : Int) (hr : r < 8) (hs : s = (8 * r : Nat)) : A.wrap .u8 (A.bin .shr .u64 (lim a q) s) = byteN a (8 * q + r) := by
 subst hs
 rw [hA, hl]
 show IntKind.u8.wrap (rbin .shr .u64 (Int.ofNat (a / 2 ^ (64 * q) % 2 ^ 64)) (Int.ofNat (8 * r))) = _
 rw [u_shr _ _ (by omega), wrap_u8]
 show ((a / 2 ^ (64 * q) % 2 ^ 64 / 2 ^ (8 * r) : Nat) : Int) % 256 = ((a / 2 ^ (8 * (8 * q + r)) % 256 : Nat) : Int)
 have e : a / 2 ^ (64 * q) % 2 ^ 64 / 2 ^ (8 * r) % 256 = a / 2 ^ (8 * (8 * q + r)) % 256 := by
   rw [show 8 * (8 * q + r) = 64 * q + 8 * r by omega, Nat.pow_add, ← Nat.div_div_eq_div_mul]
   generalize a / 2 ^ (64 * q) = x
   rw [show (2 : Nat) ^ 64 = 2 ^ (8 * r) * (256 * 2 ^ (56 - 8 * r)) by rw [show (256 : Nat) = 2 ^ 8 from rfl, ← Nat.pow_add, ← Nat.pow_add]; congr 1; omega, Nat.mod_mul_right_div_self, Nat.mod_mul_right_mod]
 omega
theorem lput_one : ∀ (l : List AVal) (j : Nat) (y : AVal), j < l.length → lput l j [y] = some (l.set j y)
 | [], j, y, h => by simp at h
 | x :: l, 0, y, _ => by
   cases l <;> rfl
 | x :: l, j + 1, y, h => by
   have := lput_one l j y (by simpa using h)
   rw [lput, this]; rfl
theorem lput_row (f g : Nat → AVal) (n j : Nat) (h : j < n) (hg : ∀ m, m ≠ j → g m = f m) : lput ((List.range n).map f) j [g j] = some ((List.range n).map g) := by
 rw [lput_one _ _ _ (by simpa using h)]
 congr 1
 refine List.ext_getElem (by simp) fun i h1 h2 => ?_
 rw [List.getElem_set]
 split
 . rename_i e; subst e; simp
 . rename_i e; simp [hg i (fun e' => e e'.symm)]
abbrev by4 (B : Nat → Nat → Int) (a : Nat) : List AVal := [.s .u8 (B a 31), .s .u8 (B a 30), .s .u8 (B a 29), .s .u8 (B a 28), .s .u8 (B a 27), .s .u8 (B a 26), .s .u8 (B a 25), .s .u8 (B a 24), .s .u8 (B a 23), .s .u8 (B a 22), .s .u8 (B a 21), .s .u8 (B a 20), .s .u8 (B a 19), .s .u8 (B a 18), .s .u8 (B a 17), .s .u8 (B a 16), .s .u8 (B a 15), .s .u8 (B a 14), .s .u8 (B a 13), .s .u8 (B a 12), .s .u8 (B a 11), .s .u8 (B a 10), .s .u8 (B a 9), .s .u8 (B a 8), .s .u8 (B a 7), .s .u8 (B a 6), .s .u8 (B a 5), .s .u8 (B a 4), .s .u8 (B a 3), .s .u8 (B a 2), .s .u8 (B a 1), .s .u8 (B a 0)]
def wb4 (o : Nat → Int) : List AVal := [.s .u8 (o (8 * 4 - 1 - 31)), .s .u8 (o (8 * 4 - 1 - 30)), .s .u8 (o (8 * 4 - 1 - 29)), .s .u8 (o (8 * 4 - 1 - 28)), .s .u8 (o (8 * 4 - 1 - 27)), .s .u8 (o (8 * 4 - 1 - 26)), .s .u8 (o (8 * 4 - 1 - 25)), .s .u8 (o (8 * 4 - 1 - 24)), .s .u8 (o (8 * 4 - 1 - 23)), .s .u8 (o (8 * 4 - 1 - 22)), .s .u8 (o (8 * 4 - 1 - 21)), .s .u8 (o (8 * 4 - 1 - 20)), .s .u8 (o (8 * 4 - 1 - 19)), .s .u8 (o (8 * 4 - 1 - 18)), .s .u8 (o (8 * 4 - 1 - 17)), .s .u8 (o (8 * 4 - 1 - 16)), .s .u8 (o (8 * 4 - 1 - 15)), .s .u8 (o (8 * 4 - 1 - 14)), .s .u8 (o (8 * 4 - 1 - 13)), .s .u8 (o (8 * 4 - 1 - 12)), .s .u8 (o (8 * 4 - 1 - 11)), .s .u8 (o (8 * 4 - 1 - 10)), .s .u8 (o (8 * 4 - 1 - 9)), .s .u8 (o (8 * 4 - 1 - 8)), .s .u8 (o (8 * 4 - 1 - 7)), .s .u8 (o (8 * 4 - 1 - 6)), .s .u8 (o (8 * 4 - 1 - 5)), .s .u8 (o (8 * 4 - 1 - 4)), .s .u8 (o (8 * 4 - 1 - 3)), .s .u8 (o (8 * 4 - 1 - 2)), .s .u8 (o (8 * 4 - 1 - 1)), .s .u8 (o (8 * 4 - 1 - 0))]
theorem wb_eq4 (o : Nat → Int) : wb4 o = (List.range (8 * 4)).map fun j => .s .u8 (o j) := rfl
theorem wb_put4 {A : Ar} (hA : A = Ar.real) (o o2 : Nat → Int) (j : Nat) (hj : j < 8 * 4) {x : Int} (hx : x = o2 j) (h : ∀ m, m ≠ j → o2 m = o m) : lput (wb4 o) (A.offs 0 j 1) [.s .u8 x] = some (wb4 o2) := by
 subst hA
 subst hx
 rw [wb_eq4, wb_eq4, show Ar.real.offs 0 j 1 = j from (by show 0 + j * 1 = j; omega)]
 exact lput_row (fun j => .s .u8 (o j)) (fun j => .s .u8 (o2 j)) _ j hj fun m hm => by rw [h m hm]
abbrev by6 (B : Nat → Nat → Int) (a : Nat) : List AVal := [.s .u8 (B a 47), .s .u8 (B a 46), .s .u8 (B a 45), .s .u8 (B a 44), .s .u8 (B a 43), .s .u8 (B a 42), .s .u8 (B a 41), .s .u8 (B a 40), .s .u8 (B a 39), .s .u8 (B a 38), .s .u8 (B a 37), .s .u8 (B a 36), .s .u8 (B a 35), .s .u8 (B a 34), .s .u8 (B a 33), .s .u8 (B a 32), .s .u8 (B a 31), .s .u8 (B a 30), .s .u8 (B a 29), .s .u8 (B a 28), .s .u8 (B a 27), .s .u8 (B a 26), .s .u8 (B a 25), .s .u8 (B a 24), .s .u8 (B a 23), .s .u8 (B a 22), .s .u8 (B a 21), .s .u8 (B a 20), .s .u8 (B a 19), .s .u8 (B a 18), .s .u8 (B a 17), .s .u8 (B a 16), .s .u8 (B a 15), .s .u8 (B a 14), .s .u8 (B a 13), .s .u8 (B a 12), .s .u8 (B a 11), .s .u8 (B a 10), .s .u8 (B a 9), .s .u8 (B a 8), .s .u8 (B a 7), .s .u8 (B a 6), .s .u8 (B a 5), .s .u8 (B a 4), .s .u8 (B a 3), .s .u8 (B a 2), .s .u8 (B a 1), .s .u8 (B a 0)]
def wb6 (o : Nat → Int) : List AVal := [.s .u8 (o (8 * 6 - 1 - 47)), .s .u8 (o (8 * 6 - 1 - 46)), .s .u8 (o (8 * 6 - 1 - 45)), .s .u8 (o (8 * 6 - 1 - 44)), .s .u8 (o (8 * 6 - 1 - 43)), .s .u8 (o (8 * 6 - 1 - 42)), .s .u8 (o (8 * 6 - 1 - 41)), .s .u8 (o (8 * 6 - 1 - 40)), .s .u8 (o (8 * 6 - 1 - 39)), .s .u8 (o (8 * 6 - 1 - 38)), .s .u8 (o (8 * 6 - 1 - 37)), .s .u8 (o (8 * 6 - 1 - 36)), .s .u8 (o (8 * 6 - 1 - 35)), .s .u8 (o (8 * 6 - 1 - 34)), .s .u8 (o (8 * 6 - 1 - 33)), .s .u8 (o (8 * 6 - 1 - 32)), .s .u8 (o (8 * 6 - 1 - 31)), .s .u8 (o (8 * 6 - 1 - 30)), .s .u8 (o (8 * 6 - 1 - 29)), .s .u8 (o (8 * 6 - 1 - 28)), .s .u8 (o (8 * 6 - 1 - 27)), .s .u8 (o (8 * 6 - 1 - 26)), .s .u8 (o (8 * 6 - 1 - 25)), .s .u8 (o (8 * 6 - 1 - 24)), .s .u8 (o (8 * 6 - 1 - 23)), .s .u8 (o (8 * 6 - 1 - 22)), .s .u8 (o (8 * 6 - 1 - 21)), .s .u8 (o (8 * 6 - 1 - 20)), .s .u8 (o (8 * 6 - 1 - 19)), .s .u8 (o (8 * 6 - 1 - 18)), .s .u8 (o (8 * 6 - 1 - 17)), .s .u8 (o (8 * 6 - 1 - 16)), .s .u8 (o (8 * 6 - 1 - 15)), .s .u8 (o (8 * 6 - 1 - 14)), .s .u8 (o (8 * 6 - 1 - 13)), .s .u8 (o (8 * 6 - 1 - 12)), .s .u8 (o (8 * 6 - 1 - 11)), .s .u8 (o (8 * 6 - 1 - 10)), .s .u8 (o (8 * 6 - 1 - 9)), .s .u8 (o (8 * 6 - 1 - 8)), .s .u8 (o (8 * 6 - 1 - 7)), .s .u8 (o (8 * 6 - 1 - 6)), .s .u8 (o (8 * 6 - 1 - 5)), .s .u8 (o (8 * 6 - 1 - 4)), .s .u8 (o (8 * 6 - 1 - 3)), .s .u8 (o (8 * 6 - 1 - 2)), .s .u8 (o (8 * 6 - 1 - 1)), .s .u8 (o (8 * 6 - 1 - 0))]
theorem wb_eq6 (o : Nat → Int) : wb6 o = (List.range (8 * 6)).map fun j => .s .u8 (o j) := rfl
theorem wb_put6 {A : Ar} (hA : A = Ar.real) (o o2 : Nat → Int) (j : Nat) (hj : j < 8 * 6) {x : Int} (hx : x = o2 j) (h : ∀ m, m ≠ j → o2 m = o m) : lput (wb6 o) (A.offs 0 j 1) [.s .u8 x] = some (wb6 o2) := by
 subst hA
 subst hx
 rw [wb_eq6, wb_eq6, show Ar.real.offs 0 j 1 = j from (by show 0 + j * 1 = j; omega)]
 exact lput_row (fun j => .s .u8 (o j)) (fun j => .s .u8 (o2 j)) _ j hj fun m hm => by rw [h m hm]
theorem bytesS4 {lim : Lim} (hl : lim = limR) {B : Nat → Nat → Int} (hB : B = byteN) (a : Nat) : Sp 135 [u4 lim a] (.new false (8 * 4) 1 (by4 B a)) := by
 obtain ⟨O, hO⟩ : ∃ O : Nat → Nat → Int, O = fun i j => if 8 * 4 - i ≤ j then B a (8 * 4 - 1 - j) else 0 := ⟨_, rfl⟩
 have hO0 : ∀ j, j < 8 * 4 → O 0 j = 0 := fun j hj => by rw [hO]; exact if_neg (by omega)
 have hOn : ∀ j, O (8 * 4) j = B a (8 * 4 - 1 - j) := fun j => by rw [hO]; exact if_pos (by omega)
 have hO1 : ∀ i, i < 8 * 4 → O (i + 1) (8 * 4 - 1 - i) = B a (8 * (i / 8) + i % 8) := fun i hi => by
   rw [hO]
   show (if 8 * 4 - (i + 1) ≤ 8 * 4 - 1 - i then B a (8 * 4 - 1 - (8 * 4 - 1 - i)) else 0) = _
   rw [if_pos (by omega)]; congr 1; omega
 have hO2 : ∀ i, i < 8 * 4 → ∀ m, m ≠ 8 * 4 - 1 - i → O (i + 1) m = O i m := fun i hi m hm => by
   rw [hO]
   by_cases h : 8 * 4 - i ≤ m
   . exact (if_pos (by omega)).trans (if_pos h).symm
   . exact (if_neg (by omega)).trans (if_neg h).symm
 clear hO
 refine mk Tryz.func135 rfl rfl LN R0 (by decide +kernel) ?_
 intro A S hA hS
 unfold bodyOf Tryz.f135
 cbv
 refine .inv (α := Nat) (fun i => ⟨[.any, .own 0 0, .any, .i .i64 (8 * 4 : Nat), .osl false 1 0 (8 * 4) 1, .any, .any, .any, .any, .any, .any, .i .i64 (8 * 4 : Nat), .s .i64 (i : Nat), .any, .any, .any, .any, .any, .any, .any, .any, .any, .any, .any, .any, .any, .any, .any, .any, .any, .any, .any], [⟨true, true, ws4 lim a⟩, ⟨true, true, wb4 (O i)⟩]⟩) (fun i => i ≤ 8 * 4) (fun i => 8 * 4 - i) 0 ?_ (Nat.zero_le _) ?_
 . have h := fun j hj => (hO0 j hj).symm
   cbv
   repeat' (first | exact rfl | exact h _ (by decide) | exact trivial | constructor)
 intro i hi
 by_cases h : i < 8 * 4
 . have hlt : A.cmp .lss (i : Int) ((8 * 4 : Nat) : Int) = true := (i_lt hA).trans (decide_eq_true (by omega))
   obtain ⟨p, hp⟩ : ∃ p, p = 8 * 4 - 1 - i := ⟨_, rfl⟩
   have hix : A.bin .sub .i64 ((8 * 4 - 1 : Nat) : Int) (i : Int) = (p : Int) := e_sub hA rfl rfl (by omega) (by omega)
   have hpn : p < 8 * 4 := by omega
   have hquo : A.bin .quo .i64 (i : Int) 8 = ((i / 8 : Nat) : Int) := e_quo hA rfl rfl (by omega) (by omega) (by omega) (by omega)
   have hnext : A.bin .add .i64 (i : Int) 1 = ((i + 1 : Nat) : Int) := e_add hA rfl rfl (by omega) (by omega)
   have hq : i / 8 < 4 := by omega
   have hr8 : i % 8 < 8 := by omega
   have hrem : A.bin .mul .i64 8 (A.bin .rem .i64 (i : Int) 8) = ((8 * (i % 8) : Nat) : Int) := e_mul hA rfl (e_rem hA rfl rfl (z := ((i % 8 : Nat) : Int)) (by omega) (by omega)) (by omega) (by omega)
   have hok : A.okb .shr (A.bin .mul .i64 8 (A.bin .rem .i64 (i : Int) 8)) = true := by rw [hrem]; exact (a_okbS hA (by omega)).1
   have hget := ws_get4 hA lim a (i / 8) hq
   have hbw := byte_word hA hl a (i / 8) (i % 8) _ hr8 hrem
   have hput := wb_put4 hA (O i) (O (i + 1)) p hpn ((hB ▸ hbw).trans (by rw [hp, hO1 i h])) (by rw [hp]; exact hO2 i h)
   have hdec : 8 * 4 - (i + 1) < 8 * 4 - i := by omega
   have hle : i + 1 ≤ 8 * 4 := h
   obtain ⟨nx, hnx⟩ : ∃ nx, nx = i + 1 := ⟨_, rfl⟩
   rw [← hnx] at hnext hput hdec hle
   clear hO0 hOn hO1 hO2 hp hbw hr8 hrem
   generalize i / 8 = q at *
   cbv
   refine ABr.t hlt ?_
   cbv
   refine .sym q hquo hq ?_
   cbv
   refine .mk _ hget ?_
   cbv
   refine .mk hok ?_
   cbv
   refine .sym p hix hpn ?_
   cbv
   refine .mk _ hput ?_
   cbv
   refine ⟨nx, ?_, hle, hdec⟩
   cbv
   repeat' (first | exact hnext | exact trivial | exact rfl | constructor)
 . have hlt : A.cmp .lss (i : Int) ((8 * 4 : Nat) : Int) = false := (i_lt hA).trans (decide_eq_false (by omega))
   obtain rfl : i = 8 * 4 := by omega
   cbv
   refine ABr.f hlt ?_
   cbv
   exact ⟨hOn (8 * 4 - 1 - 31), hOn (8 * 4 - 1 - 30), hOn (8 * 4 - 1 - 29), hOn (8 * 4 - 1 - 28), hOn (8 * 4 - 1 - 27), hOn (8 * 4 - 1 - 26), hOn (8 * 4 - 1 - 25), hOn (8 * 4 - 1 - 24), hOn (8 * 4 - 1 - 23), hOn (8 * 4 - 1 - 22), hOn (8 * 4 - 1 - 21), hOn (8 * 4 - 1 - 20), hOn (8 * 4 - 1 - 19), hOn (8 * 4 - 1 - 18), hOn (8 * 4 - 1 - 17), hOn (8 * 4 - 1 - 16), hOn (8 * 4 - 1 - 15), hOn (8 * 4 - 1 - 14), hOn (8 * 4 - 1 - 13), hOn (8 * 4 - 1 - 12), hOn (8 * 4 - 1 - 11), hOn (8 * 4 - 1 - 10), hOn (8 * 4 - 1 - 9), hOn (8 * 4 - 1 - 8), hOn (8 * 4 - 1 - 7), hOn (8 * 4 - 1 - 6), hOn (8 * 4 - 1 - 5), hOn (8 * 4 - 1 - 4), hOn (8 * 4 - 1 - 3), hOn (8 * 4 - 1 - 2), hOn (8 * 4 - 1 - 1), hOn (8 * 4 - 1 - 0)⟩
theorem bytesS6 {lim : Lim} (hl : lim = limR) {B : Nat → Nat → Int} (hB : B = byteN) (a : Nat) : Sp 137 [u6 lim a] (.new false (8 * 6) 1 (by6 B a)) := by
 obtain ⟨O, hO⟩ : ∃ O : Nat → Nat → Int, O = fun i j => if 8 * 6 - i ≤ j then B a (8 * 6 - 1 - j) else 0 := ⟨_, rfl⟩
 have hO0 : ∀ j, j < 8 * 6 → O 0 j = 0 := fun j hj => by rw [hO]; exact if_neg (by omega)
 have hOn : ∀ j, O (8 * 6) j = B a (8 * 6 - 1 - j) := fun j => by rw [hO]; exact if_pos (by omega)
 have hO1 : ∀ i, i < 8 * 6 → O (i + 1) (8 * 6 - 1 - i) = B a (8 * (i / 8) + i % 8) := fun i hi => by
   rw [hO]
   show (if 8 * 6 - (i + 1) ≤ 8 * 6 - 1 - i then B a (8 * 6 - 1 - (8 * 6 - 1 - i)) else 0) = _
   rw [if_pos (by omega)]; congr 1; omega
 have hO2 : ∀ i, i < 8 * 6 → ∀ m, m ≠ 8 * 6 - 1 - i → O (i + 1) m = O i m := fun i hi m hm => by
   rw [hO]
   by_cases h : 8 * 6 - i ≤ m
   . exact (if_pos (by omega)).trans (if_pos h).symm
   . exact (if_neg (by omega)).trans (if_neg h).symm
 clear hO
 refine mk Tryz.func137 rfl rfl LN R0 (by decide +kernel) ?_
 intro A S hA hS
 unfold bodyOf Tryz.f137
 cbv
 refine .inv (α := Nat) (fun i => ⟨[.any, .own 0 0, .any, .i .i64 (8 * 6 : Nat), .osl false 1 0 (8 * 6) 1, .any, .any, .any, .any, .any, .any, .i .i64 (8 * 6 : Nat), .s .i64 (i : Nat), .any, .any, .any, .any, .any, .any, .any, .any, .any, .any, .any, .any, .any, .any, .any, .any, .any, .any, .any], [⟨true, true, ws6 lim a⟩, ⟨true, true, wb6 (O i)⟩]⟩) (fun i => i ≤ 8 * 6) (fun i => 8 * 6 - i) 0 ?_ (Nat.zero_le _) ?_
 . have h := fun j hj => (hO0 j hj).symm
   cbv
   repeat' (first | exact rfl | exact h _ (by decide) | exact trivial | constructor)
 intro i hi
 by_cases h : i < 8 * 6
 . have hlt : A.cmp .lss (i : Int) ((8 * 6 : Nat) : Int) = true := (i_lt hA).trans (decide_eq_true (by omega))
   obtain ⟨p, hp⟩ : ∃ p, p = 8 * 6 - 1 - i := ⟨_, rfl⟩
   have hix : A.bin .sub .i64 ((8 * 6 - 1 : Nat) : Int) (i : Int) = (p : Int) := e_sub hA rfl rfl (by omega) (by omega)
   have hpn : p < 8 * 6 := by omega
   have hquo : A.bin .quo .i64 (i : Int) 8 = ((i / 8 : Nat) : Int) := e_quo hA rfl rfl (by omega) (by omega) (by omega) (by omega)
   have hnext : A.bin .add .i64 (i : Int) 1 = ((i + 1 : Nat) : Int) := e_add hA rfl rfl (by omega) (by omega)
   have hq : i / 8 < 6 := by omega
   have hr8 : i % 8 < 8 := by omega
   have hrem : A.bin .mul .i64 8 (A.bin .rem .i64 (i : Int) 8) = ((8 * (i % 8) : Nat) : Int) := e_mul hA rfl (e_rem hA rfl rfl (z := ((i % 8 : Nat) : Int)) (by omega) (by omega)) (by omega) (by omega)
   have hok : A.okb .shr (A.bin .mul .i64 8 (A.bin .rem .i64 (i : Int) 8)) = true := by rw [hrem]; exact (a_okbS hA (by omega)).1
   have hget := ws_get6 hA lim a (i / 8) hq
   have hbw := byte_word hA hl a (i / 8) (i % 8) _ hr8 hrem
   have hput := wb_put6 hA (O i) (O (i + 1)) p hpn ((hB ▸ hbw).trans (by rw [hp, hO1 i h])) (by rw [hp]; exact hO2 i h)
   have hdec : 8 * 6 - (i + 1) < 8 * 6 - i := by omega
   have hle : i + 1 ≤ 8 * 6 := h
   obtain ⟨nx, hnx⟩ : ∃ nx, nx = i + 1 := ⟨_, rfl⟩
   rw [← hnx] at hnext hput hdec hle
   clear hO0 hOn hO1 hO2 hp hbw hr8 hrem
   generalize i / 8 = q at *
   cbv
   refine ABr.t hlt ?_
   cbv
   refine .sym q hquo hq ?_
   cbv
   refine .mk _ hget ?_
   cbv
   refine .mk hok ?_
   cbv
   refine .sym p hix hpn ?_
   cbv
   refine .mk _ hput ?_
   cbv
   refine ⟨nx, ?_, hle, hdec⟩
   cbv
   repeat' (first | exact hnext | exact trivial | exact rfl | constructor)
 . have hlt : A.cmp .lss (i : Int) ((8 * 6 : Nat) : Int) = false := (i_lt hA).trans (decide_eq_false (by omega))
   obtain rfl : i = 8 * 6 := by omega
   cbv
   refine ABr.f hlt ?_
   cbv
   exact ⟨hOn (8 * 6 - 1 - 47), hOn (8 * 6 - 1 - 46), hOn (8 * 6 - 1 - 45), hOn (8 * 6 - 1 - 44), hOn (8 * 6 - 1 - 43), hOn (8 * 6 - 1 - 42), hOn (8 * 6 - 1 - 41), hOn (8 * 6 - 1 - 40), hOn (8 * 6 - 1 - 39), hOn (8 * 6 - 1 - 38), hOn (8 * 6 - 1 - 37), hOn (8 * 6 - 1 - 36), hOn (8 * 6 - 1 - 35), hOn (8 * 6 - 1 - 34), hOn (8 * 6 - 1 - 33), hOn (8 * 6 - 1 - 32), hOn (8 * 6 - 1 - 31), hOn (8 * 6 - 1 - 30), hOn (8 * 6 - 1 - 29), hOn (8 * 6 - 1 - 28), hOn (8 * 6 - 1 - 27), hOn (8 * 6 - 1 - 26), hOn (8 * 6 - 1 - 25), hOn (8 * 6 - 1 - 24), hOn (8 * 6 - 1 - 23), hOn (8 * 6 - 1 - 22), hOn (8 * 6 - 1 - 21), hOn (8 * 6 - 1 - 20), hOn (8 * 6 - 1 - 19), hOn (8 * 6 - 1 - 18), hOn (8 * 6 - 1 - 17), hOn (8 * 6 - 1 - 16), hOn (8 * 6 - 1 - 15), hOn (8 * 6 - 1 - 14), hOn (8 * 6 - 1 - 13), hOn (8 * 6 - 1 - 12), hOn (8 * 6 - 1 - 11), hOn (8 * 6 - 1 - 10), hOn (8 * 6 - 1 - 9), hOn (8 * 6 - 1 - 8), hOn (8 * 6 - 1 - 7), hOn (8 * 6 - 1 - 6), hOn (8 * 6 - 1 - 5), hOn (8 * 6 - 1 - 4), hOn (8 * 6 - 1 - 3), hOn (8 * 6 - 1 - 2), hOn (8 * 6 - 1 - 1), hOn (8 * 6 - 1 - 0)⟩
theorem eqs_str {A : Ar} (hA : A = Ar.real) (s : ByteArray) : A.eqs [(.v (.string s), .v (.string s))] = true := by
 rw [eqs_real hA]
 show (leafEq (.v (.string s), .v (.string s)) && true) = true
 have : (s == s) = true := by first | exact beq_self_eq_true s | (obtain ⟨d⟩ := s; exact beq_self_eq_true d) | (exact decide_eq_true rfl)
 show ((s == s) && true) = true
 rw [this]; rfl
def firstB (bs : Nat → Nat) : Nat → Nat → Int
 | 0, _ => -1
 | k + 1, i => if bs i ≠ 0 then (i : Int) else firstB bs k (i + 1)
def allz (bs : Nat → Nat) (n : Nat) : Bool := (List.range n).all fun i => bs i == 0
theorem firstB_neg (bs : Nat → Nat) : ∀ k i, (firstB bs k i < 0 ↔ ∀ j, i ≤ j → j < i + k → bs j = 0)
 | 0, i => by simp only [firstB]; exact ⟨fun _ j h1 h2 => by omega, fun _ => by decide⟩
 | k + 1, i => by
   rw [firstB]
   by_cases h : bs i = 0
   . rw [if_neg (fun e => e h), firstB_neg bs k (i + 1)]
     exact ⟨fun g j h1 h2 => by
       by_cases e : j = i
       . rw [e]; exact h
       . exact g j (by omega) (by omega), fun g j h1 h2 => g j (by omega) (by omega)⟩
   . rw [if_pos h]
     exact ⟨fun g => by omega, fun g => absurd (g i (Nat.le_refl _) (by omega)) h⟩
theorem firstB_allz (bs : Nat → Nat) (n : Nat) : decide (firstB bs n 0 ≥ 0) = !allz bs n := by
 have h := firstB_neg bs n 0
 unfold allz
 by_cases hz : firstB bs n 0 < 0
 . rw [decide_eq_false (by omega)]
   have := h.1 hz
   rw [List.all_eq_true.2 (fun i hi => by simp at hi; simp [this i (Nat.zero_le _) (by omega)])]
   rfl
 . rw [decide_eq_true (by omega)]
   cases hb : (List.range n).all fun i => bs i == 0
   . rfl
   . refine absurd (h.2 fun j _ hj => ?_) hz
     have := List.all_eq_true.1 hb j (by simp; omega)
     simpa using this
theorem nzS (x : Nat) : Sp 192 [.s .u8 (x : Int)] (.sb (decide (x ≠ 0))) := by
 obtain ⟨t, ht⟩ : ∃ t, t = decide (x ≠ 0) := ⟨_, rfl⟩
 rw [← ht]
 refine mk Tryz.func192 rfl rfl L0 R1 (by decide +kernel) fun A S hA hS => ?_
 have e : A.cmp .neq (x : Int) 0 = t := by
   rw [i_ne hA, ht]
   by_cases h : x = 0
   . subst h; rfl
   . rw [decide_eq_false (by omega), decide_eq_true h]; rfl
 unfold bodyOf Tryz.f192
 cbv
 exact e
theorem indexS {row : List AVal} {bs : Nat → Nat} {k : Nat} (hk : k ≤ 140737488355328) (hrow : IsRowB row bs k) : Sp 215 [.lst true k row, .fn (.func 192) [] []] (.s .i64 (firstB bs k 0)) := by
 obtain ⟨F, hF⟩ : ∃ F : Nat → Int, F = fun i => firstB bs (k - i) i := ⟨_, rfl⟩
 have hF0 : firstB bs k 0 = F 0 := by rw [hF]; rfl
 have hFs : ∀ i, i < k → F i = if bs i ≠ 0 then (i : Int) else F (i + 1) := fun i hi => by
   rw [hF]
   show firstB bs (k - i) i = if bs i ≠ 0 then (i : Int) else firstB bs (k - (i + 1)) (i + 1)
   rw [show k - i = (k - (i + 1)) + 1 by omega, firstB]
 have hFk : F k = -1 := by rw [hF]; show firstB bs (k - k) k = -1; rw [Nat.sub_self]; rfl
 have nz := nzS
 rw [hF0]
 clear hF hF0
 refine mk Tryz.func215 rfl rfl LN R1 (by decide +kernel) fun A S hA hS => ?_
 have hlen := a_len hA k
 unfold bodyOf Tryz.f215
 cbv
 refine .inv (α := Nat) (fun j => ⟨[.lst true k row, .fn (.func 192) [] [], .any, .any, .any, .any, .any, .s .i64 (A.len k), .s .i64 (j : Int), .any, .any, .any, .any, .any, .any, .any, .any, .any, .any], []⟩)
   (fun j => j ≤ k ∧ F j = F 0) (fun j => k - j) 0 ?_ ⟨Nat.zero_le _, rfl⟩ ?_
 . cbv
   try (repeat' (first | exact rfl | exact trivial | constructor))
 rintro j ⟨hj, hFj⟩
 dsimp only
 by_cases h : j < k
 . have e1 : A.cmp .lss (j : Int) (A.len k) = true := by rw [hlen, i_lt hA]; exact decide_eq_true (Int.ofNat_lt.2 h)
   have hr := hrow.2.1 j h
   have hs := hFs j h
   have e2 : A.bin .add .i64 (j : Int) 1 = ((j + 1 : Nat) : Int) := e_add hA rfl rfl (by omega) (by omega)
   have nzj := nz (bs j)
   generalize F 0 = F0 at *
   generalize F j = Fj at *
   generalize bs j = bj at *
   have hle : j + 1 ≤ k := h
   have hmu : k - (j + 1) < k - j := by omega
   by_cases hb : bj = 0
   . rw [if_neg (fun e => e hb)] at hs
     rw [decide_eq_false (fun e => e hb)] at nzj
     cbv
     refine ABr.t e1 ?_
     cbv
     refine .mk j rfl h ?_
     cbv
     refine .mk _ hr ?_
     cbv
     refine aF hS nzj ?_
     cbv
     refine ABr.f rfl ?_
     cbv
     refine ⟨j + 1, ?_, ⟨hle, by rw [← hs, hFj]⟩, hmu⟩
     cbv
     simp only [and_true, true_and]
     exact e2
   . rw [if_pos hb] at hs
     rw [decide_eq_true hb] at nzj
     have hfin : (j : Int) = F0 := by rw [← hFj, hs]
     cbv
     refine ABr.t e1 ?_
     cbv
     refine .mk j rfl h ?_
     cbv
     refine .mk _ hr ?_
     cbv
     refine aF hS nzj ?_
     cbv
     refine ABr.t rfl ?_
     cbv
     exact hfin
 . obtain rfl : j = k := by omega
   have e1 : A.cmp .lss (j : Int) (A.len j) = false := by rw [hlen, i_lt hA]; exact decide_eq_false (Int.lt_irrefl _)
   rw [← hFj, hFk]
   cbv
   refine ABr.f e1 ?_
   cbv
theorem noughtsS {row : List AVal} {bs : Nat → Nat} {k : Nat} (hk : k ≤ 140737488355328) (hrow : IsRowB row bs k) : Sp 141 [.lst true k row] (.sb (allz bs k)) := by
 have h1 : Sp 191 [.lst true k row, .fn (.func 192) [] []] (.sb (!allz bs k)) := by
   have h := indexS hk hrow
   rw [← firstB_allz]
   generalize firstB bs k 0 = x at *
   obtain ⟨t, ht⟩ : ∃ t, t = decide (x ≥ 0) := ⟨_, rfl⟩
   rw [← ht]
   refine mk Tryz.func191 rfl rfl L0 R1 (by decide +kernel) fun A S hA hS => ?_
   have e : A.cmp .geq x 0 = t := by rw [i_ge hA, ht]
   unfold bodyOf Tryz.f191
   cbv
   refine aF hS h ?_
   cbv
   exact e
 generalize allz bs k = t at *
 refine mk Tryz.func141 rfl rfl L0 R1 (by decide +kernel) fun A S hA hS => ?_
 have e := i_not hA (rfl : (!t) = !t)
 rw [Bool.not_not] at e
 generalize (!t) = s at *
 unfold bodyOf Tryz.f141
 cbv
 refine aF hS h1 ?_
 cbv
 exact e
def RWr : Nat → Md := fun r => match r with | 0 => .all | 3 => .owl [6, 9] | _ => .own
def ROw : Nat → Md := fun r => match r with | 0 => .all | _ => .own
theorem b0 {B : Nat → Nat → Int} (hB : B = byteN) (j : Nat) : B 0 j = 0 := by rw [hB]; show ((0 / 2 ^ (8 * j) % 256 : Nat) : Int) = 0; rw [Nat.zero_div]; rfl
def wr (inf : Bool) (x : Nat) : Nat := match inf with | true => 0 | false => x
theorem writeBn1S {H : H5} (hH : H = H5.real) {B : Nat → Nat → Int} (hB : B = byteN) (P : PtA) : Sp 61 [P1_4 H P] (.new false 64 1 (by4 B (wr P.inf P.x) ++ by4 B (wr P.inf P.y))) := by
 have hl := H5.hlim hH
 have hx := bytesS4 hl hB P.x
 have hy := bytesS4 hl hB P.y
 have z := b0 hB
 obtain ⟨x, y, inf⟩ := P
 dsimp only at *
 cases inf
 . refine mk Tryz.func61 rfl rfl L0 RWr (by decide +kernel) fun A S hA hS => ?_
   unfold bodyOf Tryz.f61
   cbv
   repeat ((first | refine ABr.t (by first | assumption | rfl) ?_ | refine ABr.f (by first | assumption | rfl) ?_ | refine aF hS hx ?_ | refine aF hS hy ?_); cbv)
   try (repeat' (first | exact rfl | exact trivial | constructor))
 . refine mk Tryz.func61 rfl rfl L0 RWr (by decide +kernel) fun A S hA hS => ?_
   unfold bodyOf Tryz.f61
   cbv
   repeat ((first | refine ABr.t (by first | assumption | rfl) ?_ | refine ABr.f (by first | assumption | rfl) ?_); cbv)
   repeat' (first | exact (z _).symm | constructor)
theorem writeBn2S {H : H5} (hH : H = H5.real) {B : Nat → Nat → Int} (hB : B = byteN) (P : PtB) : Sp 63 [P2_4 H P] (.new false 128 1 (by4 B (wr P.inf P.xb) ++ (by4 B (wr P.inf P.xa) ++ (by4 B (wr P.inf P.yb) ++ by4 B (wr P.inf P.ya))))) := by
 have hl := H5.hlim hH
 have h1 := bytesS4 hl hB P.xa
 have h2 := bytesS4 hl hB P.xb
 have h3 := bytesS4 hl hB P.ya
 have h4 := bytesS4 hl hB P.yb
 have z := b0 hB
 obtain ⟨xa, xb, ya, yb, inf⟩ := P
 dsimp only at *
 cases inf
 . refine mk Tryz.func63 rfl rfl L0 ROw (by decide +kernel) fun A S hA hS => ?_
   unfold bodyOf Tryz.f63
   cbv
   repeat ((first | refine ABr.t (by first | assumption | rfl) ?_ | refine ABr.f (by first | assumption | rfl) ?_ | refine aF hS h1 ?_ | refine aF hS h2 ?_ | refine aF hS h3 ?_ | refine aF hS h4 ?_); cbv)
   try (repeat' (first | exact rfl | exact trivial | constructor))
 . refine mk Tryz.func63 rfl rfl L0 ROw (by decide +kernel) fun A S hA hS => ?_
   unfold bodyOf Tryz.f63
   cbv
   repeat ((first | refine ABr.t (by first | assumption | rfl) ?_ | refine ABr.f (by first | assumption | rfl) ?_); cbv)
   repeat' (first | exact (z _).symm | constructor)
theorem rowB32 (bs : Nat → Nat) (hb : ∀ i, bs i < 256) (o : Nat) : IsRowB ((List.range 32).map fun j => .s .u8 (bs (o + j) : Nat)) (fun j => bs (o + j)) 32 :=
 ⟨by simp, fun i hi => by rw [Nat.mul_one]; exact lsub_rowC (fun j => .s .u8 (bs (o + j) : Nat)) 32 i hi, fun i => hb _⟩
theorem big32 {lim : Lim} (hl : lim = limR) (bs : Nat → Nat) (hb : ∀ i, bs i < 256) (o : Nat) : Sp 179 [.lst true 32 ((List.range 32).map fun j => .s .u8 (bs (o + j) : Nat))] (.tup [u4 lim (numB (fun j => bs (o + j)) 32), .i .i64 0]) :=
 bigS4 hl (rowB32 bs hb o) (Nat.le_refl _)
theorem four64 {H : H5} (hH : H = H5.real) (bs : Nat → Nat) (hb : ∀ i, bs i < 256) : Sp 148 [.lst false 64 (q0x64 bs)] (.new false 2 4 [.s .u64 (H.lim (numB (fun j => bs (0 + j)) 32) 0), .s .u64 (H.lim (numB (fun j => bs (0 + j)) 32) 1), .s .u64 (H.lim (numB (fun j => bs (0 + j)) 32) 2), .s .u64 (H.lim (numB (fun j => bs (0 + j)) 32) 3), .s .u64 (H.lim (numB (fun j => bs (32 + j)) 32) 0), .s .u64 (H.lim (numB (fun j => bs (32 + j)) 32) 1), .s .u64 (H.lim (numB (fun j => bs (32 + j)) 32) 2), .s .u64 (H.lim (numB (fun j => bs (32 + j)) 32) 3)]) := by
 have g0 : Sp 179 [.lst true 32 (q0x32 bs)] _ := big32 (H5.hlim hH) bs hb 0
 generalize numB (fun j => bs (0 + j)) 32 = q0 at *
 have g1 : Sp 179 [.lst true 32 (q32x64 bs)] _ := big32 (H5.hlim hH) bs hb 32
 generalize numB (fun j => bs (32 + j)) 32 = q1 at *
 refine mk Tryz.func148 rfl rfl L0 R0 (by decide +kernel) fun A S hA hS => ?_
 unfold bodyOf Tryz.f148
 cbv
 refine ACall.mk _ (cg hS g0 (by cbv)) ?_
 cbv
 refine ACall.mk _ (cg hS g1 (by cbv)) ?_
 cbv
theorem four128 {H : H5} (hH : H = H5.real) (bs : Nat → Nat) (hb : ∀ i, bs i < 256) : Sp 148 [.lst false 128 (q0x128 bs)] (.new false 4 4 [.s .u64 (H.lim (numB (fun j => bs (0 + j)) 32) 0), .s .u64 (H.lim (numB (fun j => bs (0 + j)) 32) 1), .s .u64 (H.lim (numB (fun j => bs (0 + j)) 32) 2), .s .u64 (H.lim (numB (fun j => bs (0 + j)) 32) 3), .s .u64 (H.lim (numB (fun j => bs (32 + j)) 32) 0), .s .u64 (H.lim (numB (fun j => bs (32 + j)) 32) 1), .s .u64 (H.lim (numB (fun j => bs (32 + j)) 32) 2), .s .u64 (H.lim (numB (fun j => bs (32 + j)) 32) 3), .s .u64 (H.lim (numB (fun j => bs (64 + j)) 32) 0), .s .u64 (H.lim (numB (fun j => bs (64 + j)) 32) 1), .s .u64 (H.lim (numB (fun j => bs (64 + j)) 32) 2), .s .u64 (H.lim (numB (fun j => bs (64 + j)) 32) 3), .s .u64 (H.lim (numB (fun j => bs (96 + j)) 32) 0), .s .u64 (H.lim (numB (fun j => bs (96 + j)) 32) 1), .s .u64 (H.lim (numB (fun j => bs (96 + j)) 32) 2), .s .u64 (H.lim (numB (fun j => bs (96 + j)) 32) 3)]) := by
 have g0 : Sp 179 [.lst true 32 (q0x32 bs)] _ := big32 (H5.hlim hH) bs hb 0
 generalize numB (fun j => bs (0 + j)) 32 = q0 at *
 have g1 : Sp 179 [.lst true 32 (q32x64 bs)] _ := big32 (H5.hlim hH) bs hb 32
 generalize numB (fun j => bs (32 + j)) 32 = q1 at *
 have g2 : Sp 179 [.lst true 32 (q64x96 bs)] _ := big32 (H5.hlim hH) bs hb 64
 generalize numB (fun j => bs (64 + j)) 32 = q2 at *
 have g3 : Sp 179 [.lst true 32 (q96x128 bs)] _ := big32 (H5.hlim hH) bs hb 96
 generalize numB (fun j => bs (96 + j)) 32 = q3 at *
 refine mk Tryz.func148 rfl rfl L0 R0 (by decide +kernel) fun A S hA hS => ?_
 unfold bodyOf Tryz.f148
 cbv
 refine ACall.mk _ (cg hS g0 (by cbv)) ?_
 cbv
 refine ACall.mk _ (cg hS g1 (by cbv)) ?_
 cbv
 refine ACall.mk _ (cg hS g2 (by cbv)) ?_
 cbv
 refine ACall.mk _ (cg hS g3 (by cbv)) ?_
 cbv
def readP {p : Nat} [NeZero p] (b : Fin p) (bs : Nat → Nat) : PtA × Nat :=
 if allz bs 64 = true then (⟨0, 0, true⟩, 0) else if good1 b ⟨numB (fun j => bs (0 + j)) 32, numB (fun j => bs (32 + j)) 32, false⟩ ≠ 0 then (⟨0, 0, false⟩, good1 b ⟨numB (fun j => bs (0 + j)) 32, numB (fun j => bs (32 + j)) 32, false⟩)
 else (⟨numB (fun j => bs (0 + j)) 32, numB (fun j => bs (32 + j)) 32, false⟩, 0)
def RRd : Nat → Md := fun r => match r with | _ => .mid
theorem readBn1L {H : H5} (hH : H = H5.real) {row : List AVal} {k : Nat} (hk : k ≠ 64) (hk2 : k ≤ 140737488355328) : Sp 67 [.lst true k row] (.tup [P1_4 H ⟨0, 0, false⟩, .s .i64 2]) := by
 have l0 := lim04 hH
 refine mk Tryz.func67 rfl rfl L0 RRd (by decide +kernel) fun A S hA hS => ?_
 have e : A.cmp .neq (A.len k) 64 = true := by rw [a_len hA, i_ne hA, decide_eq_false (by omega)]; rfl
 unfold bodyOf Tryz.f67
 cbv
 repeat ((first | refine ABr.t (by first | assumption | rfl) ?_ | refine ABr.f (by first | assumption | rfl) ?_); cbv)
 repeat' (first | exact (l0 _).symm | exact rfl | exact trivial | constructor)
theorem readBn1S {H : H5} (hH : H = H5.real) {c : Cu bnP} (hc : c = bnC) (bs : Nat → Nat) (hb : ∀ i, bs i < 256) : Sp 67 [.lst false 64 (q0x64 bs)] (.tup [P1_4 H (readP c.b1 bs).1, .s .i64 ((readP c.b1 bs).2 : Nat)]) := by
 have l0 := lim04 hH
 have hn : Sp 141 [.lst true 64 (q0x64 bs)] (.sb (allz bs 64)) := noughtsS (row := (List.range 64).map fun j => .s .u8 (bs j : Nat)) (by decide) ⟨by simp, fun i hi => by rw [Nat.mul_one]; exact lsub_rowC (fun j => .s .u8 (bs j : Nat)) 64 i hi, hb⟩
 have h4 := four64 hH bs hb
 have vlt : ∀ o, numB (fun j => bs (o + j)) 32 < 2 ^ 256 := fun o => Vb_lt 32 fun j _ => hb _
 have hB := BnS hH hc
 have g1 := good1S4 hH bnPr c ⟨numB (fun j => bs (0 + j)) 32, numB (fun j => bs (32 + j)) 32, false⟩ (vlt 0) (vlt 32)
 have ne := fun A hA x => i_ne (A := A) hA (x := x) (y := 0)
 unfold readP
 generalize numB (fun j => bs (0 + j)) 32 = X at *
 generalize numB (fun j => bs (32 + j)) 32 = Y at *
 by_cases hz : allz bs 64 = true
 . rw [if_pos hz]
   rw [hz] at hn
   clear g1 h4 hB
   refine mk Tryz.func67 rfl rfl L0 RRd (by decide +kernel) fun A S hA hS => ?_
   unfold bodyOf Tryz.f67
   cbv
   refine ACall.mk _ (cg hS hn (by cbv)) ?_
   cbv
   repeat ((first | refine ABr.t (by first | assumption | rfl) ?_ | refine ABr.f (by first | assumption | rfl) ?_); cbv)
   repeat' (first | exact (l0 _).symm | exact rfl | exact trivial | constructor)
 . rw [if_neg hz]
   rw [Bool.eq_false_iff.2 hz] at hn
   by_cases h1 : good1 c.b1 ⟨X, Y, false⟩ = 0
   . rw [if_neg (fun h => h h1)]
     rw [h1] at g1
     clear h1
     refine mk Tryz.func67 rfl rfl L0 RRd (by decide +kernel) fun A S hA hS => ?_
     have e0 : A.cmp .neq ((0 : Nat) : Int) 0 = false := ne A hA _
     unfold bodyOf Tryz.f67
     cbv
     refine ACall.mk _ (cg hS hn (by cbv)) ?_
     cbv
     repeat ((first | refine ABr.t (by first | assumption | rfl) ?_ | refine ABr.f (by first | assumption | rfl) ?_ | refine aF hS h4 ?_ | refine aF hS hB ?_); cbv)
     refine ACall.mk _ (cg hS g1 (by cbv)) ?_
     cbv
     repeat ((first | refine ABr.t (by first | assumption | rfl) ?_ | refine ABr.f (by first | assumption | rfl) ?_); cbv)
   . rw [if_pos h1]
     have h1' : ((good1 c.b1 ⟨X, Y, false⟩ : Nat) : Int) ≠ 0 := by omega
     dsimp only
     generalize ((good1 c.b1 ⟨X, Y, false⟩ : Nat) : Int) = e at *
     refine mk Tryz.func67 rfl rfl L0 RRd (by decide +kernel) fun A S hA hS => ?_
     have e0 : A.cmp .neq e 0 = true := by rw [ne A hA, decide_eq_false h1']; rfl
     unfold bodyOf Tryz.f67
     cbv
     refine ACall.mk _ (cg hS hn (by cbv)) ?_
     cbv
     repeat ((first | refine ABr.t (by first | assumption | rfl) ?_ | refine ABr.f (by first | assumption | rfl) ?_ | refine aF hS h4 ?_ | refine aF hS hB ?_); cbv)
     refine ACall.mk _ (cg hS g1 (by cbv)) ?_
     cbv
     repeat ((first | refine ABr.t (by first | assumption | rfl) ?_ | refine ABr.f (by first | assumption | rfl) ?_); cbv)
     repeat' (first | exact (l0 _).symm | exact rfl | exact trivial | constructor)
def bs1 (i : Nat) : Nat := if i = 63 then 1 else 0
theorem readP_one : (readP (fo bnP 3) bs1).2 = 71 := by decide +kernel
theorem awakeS : Sp 12 [] (.b true) := by
 obtain ⟨H, hH⟩ : ∃ H, H = H5.real := ⟨_, rfl⟩
 obtain ⟨B, hB⟩ : ∃ B, B = byteN := ⟨_, rfl⟩
 obtain ⟨c, hc⟩ : ∃ c, c = bnC := ⟨_, rfl⟩
 obtain ⟨d, hd⟩ : ∃ d, d = blsC := ⟨_, rfl⟩
 have c1 := BnS hH hc
 have c2 := BlsS hH hd
 have c3 := base1S4 (H := H) c
 have h1c : c.one = fo bnP 1 := by rw [hc]; rfl
 have hb1 : c.b1 = fo bnP 3 := by rw [hc]; rfl
 have hbase : (⟨c.x1, c.y1, false⟩ : PtA) = ⟨1, 2, false⟩ := by rw [hc]; rfl
 rw [hbase] at c3
 obtain ⟨G, hG⟩ : ∃ G : PtA, G = ⟨1, 2, false⟩ := ⟨_, rfl⟩
 obtain ⟨P, hP⟩ : ∃ P : PtA, P = ⟨1368015179489954701390400359078579693043519447331113978918064868415326638035, 9918110051302171585080402603319702774565515993150576347155970296011118125764, false⟩ := ⟨_, rfl⟩
 have c4 := mulS1_4 hH bnPr h1c G (by rw [hG]; decide) (by rw [hG]; decide) 2 (by decide)
 have bt : mulP (fo bnP 3) G 2 = (P, 0) := by rw [hG, hP]; exact bn_two
 rw [hb1, bt] at c4
 rw [← hG] at c3
 have w2 : u4 H.lim 2 = .agg [.s .u64 2, .s .u64 0, .s .u64 0, .s .u64 0] := by rw [hH]; rfl
 rw [w2] at c4
 have c5 := writeBn1S hH hB P
 have b1 : B (wr P.inf P.x) 30 = 6 := by rw [hB, hP]; rfl
 have b2 : B (wr P.inf P.x) 29 = 0x44 := by rw [hB, hP]; rfl
 have b3 : B (wr P.inf P.y) 0 = 0xc4 := by rw [hB, hP]; rfl
 have c6 := good1S4 hH bnPr c P (by rw [hP]; decide) (by rw [hP]; decide)
 have bg : good1 (fo bnP 3) P = 0 := by rw [hP]; exact bn_two_good
 rw [hb1, bg] at c6
 have hi : P.inf = false := by rw [hP]
 have c7 := readBn1S hH hc bs1 (fun i => by unfold bs1; split <;> decide)
 rw [hb1, readP_one] at c7
 generalize (readP (fo bnP 3) bs1).1 = Q at *
 have c7 : Sp 67 [.lst false 64 [.s .u8 0, .s .u8 0, .s .u8 0, .s .u8 0, .s .u8 0, .s .u8 0, .s .u8 0, .s .u8 0, .s .u8 0, .s .u8 0, .s .u8 0, .s .u8 0, .s .u8 0, .s .u8 0, .s .u8 0, .s .u8 0, .s .u8 0, .s .u8 0, .s .u8 0, .s .u8 0, .s .u8 0, .s .u8 0, .s .u8 0, .s .u8 0, .s .u8 0, .s .u8 0, .s .u8 0, .s .u8 0, .s .u8 0, .s .u8 0, .s .u8 0, .s .u8 0, .s .u8 0, .s .u8 0, .s .u8 0, .s .u8 0, .s .u8 0, .s .u8 0, .s .u8 0, .s .u8 0, .s .u8 0, .s .u8 0, .s .u8 0, .s .u8 0, .s .u8 0, .s .u8 0, .s .u8 0, .s .u8 0, .s .u8 0, .s .u8 0, .s .u8 0, .s .u8 0, .s .u8 0, .s .u8 0, .s .u8 0, .s .u8 0, .s .u8 0, .s .u8 0, .s .u8 0, .s .u8 0, .s .u8 0, .s .u8 0, .s .u8 0, .s .u8 1]] (.tup [P1_4 H Q, .s .i64 71]) := c7
 generalize wr P.inf P.x = wx at *
 generalize wr P.inf P.y = wy at *
 clear hc hd bt hP hG bg h1c hb1 hbase
 refine mk Tryz.func12 rfl rfl L0 R0 (by decide +kernel) fun A S hA hS => ?_
 have e0 : A.cmp .eql ((0 : Nat) : Int) 0 = true := i_eq hA
 have e1 : A.cmp .eql (B wx 30) 6 = true := by rw [b1]; exact i_eq hA
 have e2 : A.cmp .eql (B wx 29) 68 = true := by rw [b2]; exact i_eq hA
 have e3 : A.cmp .eql (B wy 0) 196 = true := by rw [b3]; exact i_eq hA
 have e4 : A.cmp .eql (71 : Int) 71 = true := i_eq hA
 have e5 := i_not hA hi
 unfold bodyOf Tryz.f12
 cbv
 repeat ((first | refine ABr.t (by first | assumption | rfl) ?_ | refine ABr.f (by first | assumption | rfl) ?_ | refine aF hS c1 ?_ | refine aF hS c2 ?_ | refine aF hS c3 ?_ | (refine aG hS c4 ?_ ?_; focus (cbv; done)) | refine aF hS c5 ?_ | refine aF hS c6 ?_ | (refine aG hS c7 ?_ ?_; focus (cbv; done))); cbv)
 exact e5
def rr (t : AVal) (X Y : AVal) : AVal := .agg [X, Y, t]
theorem aboveS {H : H5} (hH : H = H5.real) (y : Nat) (hy : y < 2 ^ 384) : Sp 138 [u6 H.lim y] (.sb (H.lt (blsP / 2) y)) := by
 obtain ⟨q, hq⟩ : ∃ q, q = blsP := ⟨_, rfl⟩
 obtain ⟨h, hh⟩ : ∃ h, h = blsP / 2 := ⟨_, rfl⟩
 have k : Sp 72 [] (u6 H.lim q) := by rw [hq]; exact BlsPS hH
 have ls := LessS6 hH h y (by rw [hh]; decide) hy
 rw [← hh]
 refine mk Tryz.func138 rfl rfl L0 R1 (by decide +kernel) fun A S hA hS => ?_
 have e0 : A.bin .or .u64 (A.bin .shr .u64 (H.lim q 0) 1) (A.bin .shl .u64 (H.lim q 1) 63) = H.lim h 0 := by rw [hA, hH, hq, hh]; decide +kernel
 have e1 : A.bin .or .u64 (A.bin .shr .u64 (H.lim q 1) 1) (A.bin .shl .u64 (H.lim q 2) 63) = H.lim h 1 := by rw [hA, hH, hq, hh]; decide +kernel
 have e2 : A.bin .or .u64 (A.bin .shr .u64 (H.lim q 2) 1) (A.bin .shl .u64 (H.lim q 3) 63) = H.lim h 2 := by rw [hA, hH, hq, hh]; decide +kernel
 have e3 : A.bin .or .u64 (A.bin .shr .u64 (H.lim q 3) 1) (A.bin .shl .u64 (H.lim q 4) 63) = H.lim h 3 := by rw [hA, hH, hq, hh]; decide +kernel
 have e4 : A.bin .or .u64 (A.bin .shr .u64 (H.lim q 4) 1) (A.bin .shl .u64 (H.lim q 5) 63) = H.lim h 4 := by rw [hA, hH, hq, hh]; decide +kernel
 have e5 : A.bin .shr .u64 (H.lim q 5) 1 = H.lim h 5 := by rw [hA, hH, hq, hh]; decide +kernel
 clear hq hh
 unfold bodyOf Tryz.f138
 cbv
 repeat ((first | refine ABr.t (by first | assumption | rfl) ?_ | refine ABr.f (by first | assumption | rfl) ?_ | refine aF hS k ?_); cbv)
 refine aG hS ls ?_ ?_
 . cbv
   repeat' (first | assumption | exact rfl | exact trivial | constructor)
 cbv
theorem greaterS {p : Nat} [NeZero p] {H : H5} (hH : H = H5.real) (hp : PrM 384 p) (c : Cu p) (y : Fin p) : Sp 139 [Cr6_1 H c, .lst false 6 (ws6 H.lim y.val)] (.sb (decide ((0 - y).val < y.val))) := by
 have n0 := rnumS6 (p := p) hH 0 (by decide)
 have sb := rSubF6 hH hp 0 y
 rw [show (0 : Fin p).val = 0 from rfl] at sb
 have ls := rLess6 (H5.hlim hH) (0 - y).val y.val (Nat.lt_trans (0 - y).isLt hp.lt) (Nat.lt_trans y.isLt hp.lt) _ rfl
 generalize (0 - y).val = z at *
 generalize y.val = w at *
 generalize decide (z < w) = t at *
 refine mk Tryz.func139 rfl rfl L0 R1 (by decide +kernel) fun A S hA hS => ?_
 unfold bodyOf Tryz.f139
 cbv
 repeat ((first | refine ABr.t (by first | assumption | rfl) ?_ | refine ABr.f (by first | assumption | rfl) ?_ | (refine aG hS n0 ?_ ?_; focus (cbv; done)) | (refine aG hS sb ?_ ?_; focus (cbv; done)) | (refine aG hS ls ?_ ?_; focus (cbv; done))); cbv)
theorem above_law {b p : Nat} [NeZero p] (hp : PrM b p) (y : Fin p) : decide (p / 2 < y.val) = decide ((0 - y).val < y.val) := by
 have h4 := hp.four
 have hy := y.isLt
 have e : (0 - y).val = (p - y.val) % p := by rw [Fin.sub_def]; rfl
 rw [e]
 by_cases h0 : y.val = 0
 . rw [h0, decide_eq_false (by omega), decide_eq_false (by omega)]
 . rw [Nat.mod_eq_of_lt (by omega)]
   by_cases h : p / 2 < y.val
   . rw [decide_eq_true h, decide_eq_true (by omega)]
   . rw [decide_eq_false h, decide_eq_false (by omega)]
def by6f (B : Nat → Nat → Int) (x f : Nat) : List AVal := [.s .u8 (B x 47 + (f : Nat)), .s .u8 (B x 46), .s .u8 (B x 45), .s .u8 (B x 44), .s .u8 (B x 43), .s .u8 (B x 42), .s .u8 (B x 41), .s .u8 (B x 40), .s .u8 (B x 39), .s .u8 (B x 38), .s .u8 (B x 37), .s .u8 (B x 36), .s .u8 (B x 35), .s .u8 (B x 34), .s .u8 (B x 33), .s .u8 (B x 32), .s .u8 (B x 31), .s .u8 (B x 30), .s .u8 (B x 29), .s .u8 (B x 28), .s .u8 (B x 27), .s .u8 (B x 26), .s .u8 (B x 25), .s .u8 (B x 24), .s .u8 (B x 23), .s .u8 (B x 22), .s .u8 (B x 21), .s .u8 (B x 20), .s .u8 (B x 19), .s .u8 (B x 18), .s .u8 (B x 17), .s .u8 (B x 16), .s .u8 (B x 15), .s .u8 (B x 14), .s .u8 (B x 13), .s .u8 (B x 12), .s .u8 (B x 11), .s .u8 (B x 10), .s .u8 (B x 9), .s .u8 (B x 8), .s .u8 (B x 7), .s .u8 (B x 6), .s .u8 (B x 5), .s .u8 (B x 4), .s .u8 (B x 3), .s .u8 (B x 2), .s .u8 (B x 1), .s .u8 (B x 0)]
def flg (P : PtA) : Nat := match P.inf with | true => 192 | false => match decide (blsP / 2 < P.y) with | true => 160 | false => 128
def wrB (B : Nat → Nat → Int) (P : PtA) : Nat → AVal
 | 0 => .tup [.new false 48 1 (by6f B P.x (flg P)), .s .i64 0]
 | e + 1 => .tup [.lst false 0 [], .s .i64 ((e + 1 : Nat) : Int)]
def RWb : Nat → Md := fun r => match r with | 1 => .all | _ => .own
theorem or_hi {A : Ar} (hA : A = Ar.real) {t : Nat} (ht : t < 32) : A.bin .or .u8 (t : Int) 128 = (t : Int) + (128 : Nat) ∧ A.bin .or .u8 (A.bin .or .u8 (t : Int) 128) 64 = (t : Int) + (192 : Nat) ∧ A.bin .or .u8 (A.bin .or .u8 (t : Int) 128) 32 = (t : Int) + (160 : Nat) := by
 rw [hA]
 have : ∀ t : Fin 32, rbin .or .u8 (t.val : Int) 128 = (t.val : Int) + (128 : Nat) ∧ rbin .or .u8 (rbin .or .u8 (t.val : Int) 128) 64 = (t.val : Int) + (192 : Nat) ∧ rbin .or .u8 (rbin .or .u8 (t.val : Int) 128) 32 = (t.val : Int) + (160 : Nat) := by decide +kernel
 exact this ⟨t, ht⟩
theorem top_lt {x : Nat} (hx : x < blsP) : x / 2 ^ (8 * 47) % 256 < 32 := by
 have : x / 2 ^ (8 * 47) < 32 := (Nat.div_lt_iff_lt_mul (Nat.two_pow_pos _)).2 (Nat.lt_trans hx (by decide))
 omega
theorem good_lt {p : Nat} [NeZero p] {b : Fin p} {P : PtA} (h : good1 b P = 0) : P.x < p ∧ P.y < p := by
 have hp : 0 < p := Nat.pos_of_ne_zero (NeZero.ne p)
 unfold good1 at h
 by_cases hi : P.inf = true
 . rw [if_pos hi] at h
   by_cases h0 : P.x = 0 ∧ P.y = 0
   . exact ⟨by omega, by omega⟩
   . rw [if_neg h0] at h; cases h
 . rw [if_neg hi] at h
   by_cases h0 : P.x < p ∧ P.y < p
   . exact h0
   . rw [if_neg h0] at h; cases h
theorem good_inf {p : Nat} [NeZero p] {b : Fin p} {P : PtA} (h : good1 b P = 0) (hi : P.inf = true) : P.x = 0 ∧ P.y = 0 := by
 unfold good1 at h
 rw [if_pos hi] at h
 by_cases h0 : P.x = 0 ∧ P.y = 0
 . exact h0
 . rw [if_neg h0] at h; cases h
theorem writeBls1S {H : H5} (hH : H = H5.real) {B : Nat → Nat → Int} (hB : B = byteN) {c : Cu blsP} (hc : c = blsC) (P : PtA) (hPx : P.x < 2 ^ 384) (hPy : P.y < 2 ^ 384) : Sp 64 [P1_6 H P] (wrB B P (good1 c.b1 P)) := by
 have k := BlsS hH hc
 have g := good1S6 hH blsPr c P hPx hPy
 have ne := fun A hA x => i_ne (A := A) hA (x := x) (y := 0)
 have hb := bytesS6 (H5.hlim hH) hB P.x
 have ab := aboveS hH P.y hPy
 rw [show H.lt (blsP / 2) P.y = decide (blsP / 2 < P.y) by rw [hH]; rfl] at ab
 generalize hgd : good1 c.b1 P = e at *
 cases e with
 | succ e =>
   have he : ((e + 1 : Nat) : Int) ≠ 0 := by omega
   unfold wrB
   dsimp only
   generalize ((e + 1 : Nat) : Int) = e at *
   clear hb ab
   obtain ⟨x, y, inf⟩ := P
   refine mk Tryz.func64 rfl rfl L0 RWb (by decide +kernel) fun A S hA hS => ?_
   have e0 : A.cmp .neq e 0 = true := by rw [ne A hA, decide_eq_false he]; rfl
   clear hgd hc
   unfold bodyOf Tryz.f64
   cbv
   repeat ((first | refine ABr.t (by first | assumption | rfl) ?_ | refine ABr.f (by first | assumption | rfl) ?_ | refine aF hS k ?_ | refine aF hS g ?_); cbv)
 | zero =>
   have hx := top_lt (good_lt hgd).1
   have hi := fun h => good_inf hgd h
   have hB47 : B P.x 47 = ((P.x / 2 ^ (8 * 47) % 256 : Nat) : Int) := by rw [hB]; rfl
   have or3 := fun A hA => or_hi (A := A) hA hx
   rw [← hB47] at or3
   unfold wrB
   dsimp only
   obtain ⟨x, y, inf⟩ := P
   dsimp only at *
   clear hgd hc hB hB47 hx
   unfold flg
   dsimp only
   generalize decide (blsP / 2 < y) = t at *
   cases inf
   . cases t
     all_goals
       refine mk Tryz.func64 rfl rfl L0 RWb (by decide +kernel) fun A S hA hS => ?_
       have e0 : A.cmp .neq ((0 : Nat) : Int) 0 = false := ne A hA _
       have o3 := or3 A hA
       unfold bodyOf Tryz.f64
       cbv
       repeat ((first | refine ABr.t (by first | assumption | rfl) ?_ | refine ABr.f (by first | assumption | rfl) ?_ | refine aF hS k ?_ | refine aF hS g ?_ | refine aF hS hb ?_ | refine aF hS ab ?_); cbv)
       repeat' (first | exact o3.1 | exact o3.2.1 | exact o3.2.2 | exact rfl | exact trivial | constructor)
   . clear ab
     refine mk Tryz.func64 rfl rfl L0 RWb (by decide +kernel) fun A S hA hS => ?_
     have e0 : A.cmp .neq ((0 : Nat) : Int) 0 = false := ne A hA _
     have o3 := or3 A hA
     unfold bodyOf Tryz.f64
     cbv
     repeat ((first | refine ABr.t (by first | assumption | rfl) ?_ | refine ABr.f (by first | assumption | rfl) ?_ | refine aF hS k ?_ | refine aF hS g ?_ | refine aF hS hb ?_); cbv)
     repeat' (first | exact o3.1 | exact o3.2.1 | exact o3.2.2 | exact rfl | exact trivial | constructor)
theorem cloneS (bs : Nat → Nat) : Sp 140 [.lst false 48 (q0x48 bs)] (.new false 48 1 (q0x48 bs)) := by
 refine mk Tryz.func140 rfl rfl L0 R0 (by decide +kernel) fun A S hA hS => ?_
 unfold bodyOf Tryz.f140
 cbv
 repeat ((first | refine ABr.t (by first | assumption | rfl) ?_ | refine ABr.f (by first | assumption | rfl) ?_); cbv)
end Go.Proofs.YtmholgclgamnnaaGreat
end
