import Derived.Test.YtmholgclgamnnaaGreatQYY0
section
set_option linter.unusedVariables false
set_option linter.unusedSectionVars false
set_option linter.unusedSimpArgs false
namespace Go.Proofs.YtmholgclgamnnaaGreat
open Go Eng
set_option maxRecDepth 100000
set_option exponentiation.threshold 2000
set_option maxHeartbeats 4000000
instance : NeZero bnP := ⟨by decide⟩
instance : NeZero blsP := ⟨by decide⟩
/-- A small number as an element. -/
def fo (p : Nat) [NeZero p] (n : Nat) : Fin p := ⟨n % p, Nat.mod_lt _ (Nat.pos_of_ne_zero (NeZero.ne p))⟩
/-- What a curve is made of. -/
structure Cu (p : Nat) where
  one : Fin p
  b1 : Fin p
  b2 : Cv.F2 p
  r : Nat
  x1 : Nat
  y1 : Nat
  xa : Nat
  xb : Nat
  ya : Nat
  yb : Nat
def Cc4 (H : H5) {p : Nat} [NeZero p] (c : Cu p) : List AVal :=
  [.i .i64 1, .ref (R4 H p) 0, .s .u64 (H.lim (H.mf 256 p c.one.val) 0), .s .u64 (H.lim (H.mf 256 p c.one.val) 1), .s .u64 (H.lim (H.mf 256 p c.one.val) 2), .s .u64 (H.lim (H.mf 256 p c.one.val) 3), .s .u64 (H.lim c.r 0), .s .u64 (H.lim c.r 1), .s .u64 (H.lim c.r 2), .s .u64 (H.lim c.r 3),
   .ifc 174 (.agg [.ref (R4 H p) 0]), .s .u64 ((K1_4 H p).w c.b1 0), .s .u64 ((K1_4 H p).w c.b1 1), .s .u64 ((K1_4 H p).w c.b1 2), .s .u64 ((K1_4 H p).w c.b1 3),
   .ifc 171 (.agg [.ref (R4 H p) 0]), .s .u64 ((K2_4 H p).w c.b2 0), .s .u64 ((K2_4 H p).w c.b2 1), .s .u64 ((K2_4 H p).w c.b2 2), .s .u64 ((K2_4 H p).w c.b2 3), .s .u64 ((K2_4 H p).w c.b2 4), .s .u64 ((K2_4 H p).w c.b2 5), .s .u64 ((K2_4 H p).w c.b2 6), .s .u64 ((K2_4 H p).w c.b2 7),
   .s .u64 (H.lim c.x1 0), .s .u64 (H.lim c.x1 1), .s .u64 (H.lim c.x1 2), .s .u64 (H.lim c.x1 3), .s .u64 (H.lim c.y1 0), .s .u64 (H.lim c.y1 1), .s .u64 (H.lim c.y1 2), .s .u64 (H.lim c.y1 3), .b false,
   .s .u64 (H.lim c.xa 0), .s .u64 (H.lim c.xa 1), .s .u64 (H.lim c.xa 2), .s .u64 (H.lim c.xa 3), .s .u64 (H.lim c.xb 0), .s .u64 (H.lim c.xb 1), .s .u64 (H.lim c.xb 2), .s .u64 (H.lim c.xb 3), .s .u64 (H.lim c.ya 0), .s .u64 (H.lim c.ya 1), .s .u64 (H.lim c.ya 2), .s .u64 (H.lim c.ya 3), .s .u64 (H.lim c.yb 0), .s .u64 (H.lim c.yb 1), .s .u64 (H.lim c.yb 2), .s .u64 (H.lim c.yb 3), .b false]
theorem smallS4 {H : H5} (hH : H = H5.real) {n : Nat} (hn : n < 18446744073709551616) : Sp 102 [.s .u64 (n : Int)] (u4 H.lim n) := by
  have h0 : H.lim n 0 = (n : Int) := by rw [hH]; exact limR_word hn
  have hs : ∀ i, 0 < i → H.lim n i = 0 := fun i hi => by
    rw [hH]
    show ((n / 2 ^ (64 * i) % 2 ^ 64 : Nat) : Int) = 0
    rw [Nat.div_eq_of_lt (Nat.lt_of_lt_of_le hn (Nat.le_trans (show 18446744073709551616 ≤ 2 ^ 64 by decide) (Nat.pow_le_pow_right (by decide) (by omega)))), Nat.zero_mod]; rfl
  refine mk Tryz.func102 rfl rfl L0 R1 (by decide +kernel) fun A S hA hS => ?_
  unfold bodyOf Tryz.f102
  cbv
  exact ⟨h0.symm, (hs 1 (by decide)).symm, (hs 2 (by decide)).symm, (hs 3 (by decide)).symm⟩
theorem inF4 {H : H5} (hH : H = H5.real) {p : Nat} [NeZero p] (hp : PrM 256 p) {a : Nat} (ha : a < 2 ^ 256) : Sp 101 [.ref (R4 H p) 0, u4 H.lim a] (el4 H p (fo p a).val) := by
  have h := InS4 hH hp.toMod ha
  have e : H.mod p a = (fo p a).val := by rw [hH]; rfl
  rw [e] at h; exact h
def Cc6 (H : H5) {p : Nat} [NeZero p] (c : Cu p) : List AVal :=
  [.i .i64 1, .ref (R6 H p) 0, .s .u64 (H.lim (H.mf 384 p c.one.val) 0), .s .u64 (H.lim (H.mf 384 p c.one.val) 1), .s .u64 (H.lim (H.mf 384 p c.one.val) 2), .s .u64 (H.lim (H.mf 384 p c.one.val) 3), .s .u64 (H.lim (H.mf 384 p c.one.val) 4), .s .u64 (H.lim (H.mf 384 p c.one.val) 5), .s .u64 (H.lim c.r 0), .s .u64 (H.lim c.r 1), .s .u64 (H.lim c.r 2), .s .u64 (H.lim c.r 3),
   .ifc 134 (.agg [.ref (R6 H p) 0]), .s .u64 ((K1_6 H p).w c.b1 0), .s .u64 ((K1_6 H p).w c.b1 1), .s .u64 ((K1_6 H p).w c.b1 2), .s .u64 ((K1_6 H p).w c.b1 3), .s .u64 ((K1_6 H p).w c.b1 4), .s .u64 ((K1_6 H p).w c.b1 5),
   .ifc 139 (.agg [.ref (R6 H p) 0]), .s .u64 ((K2_6 H p).w c.b2 0), .s .u64 ((K2_6 H p).w c.b2 1), .s .u64 ((K2_6 H p).w c.b2 2), .s .u64 ((K2_6 H p).w c.b2 3), .s .u64 ((K2_6 H p).w c.b2 4), .s .u64 ((K2_6 H p).w c.b2 5), .s .u64 ((K2_6 H p).w c.b2 6), .s .u64 ((K2_6 H p).w c.b2 7), .s .u64 ((K2_6 H p).w c.b2 8), .s .u64 ((K2_6 H p).w c.b2 9), .s .u64 ((K2_6 H p).w c.b2 10), .s .u64 ((K2_6 H p).w c.b2 11),
   .s .u64 (H.lim c.x1 0), .s .u64 (H.lim c.x1 1), .s .u64 (H.lim c.x1 2), .s .u64 (H.lim c.x1 3), .s .u64 (H.lim c.x1 4), .s .u64 (H.lim c.x1 5), .s .u64 (H.lim c.y1 0), .s .u64 (H.lim c.y1 1), .s .u64 (H.lim c.y1 2), .s .u64 (H.lim c.y1 3), .s .u64 (H.lim c.y1 4), .s .u64 (H.lim c.y1 5), .b false,
   .s .u64 (H.lim c.xa 0), .s .u64 (H.lim c.xa 1), .s .u64 (H.lim c.xa 2), .s .u64 (H.lim c.xa 3), .s .u64 (H.lim c.xa 4), .s .u64 (H.lim c.xa 5), .s .u64 (H.lim c.xb 0), .s .u64 (H.lim c.xb 1), .s .u64 (H.lim c.xb 2), .s .u64 (H.lim c.xb 3), .s .u64 (H.lim c.xb 4), .s .u64 (H.lim c.xb 5), .s .u64 (H.lim c.ya 0), .s .u64 (H.lim c.ya 1), .s .u64 (H.lim c.ya 2), .s .u64 (H.lim c.ya 3), .s .u64 (H.lim c.ya 4), .s .u64 (H.lim c.ya 5), .s .u64 (H.lim c.yb 0), .s .u64 (H.lim c.yb 1), .s .u64 (H.lim c.yb 2), .s .u64 (H.lim c.yb 3), .s .u64 (H.lim c.yb 4), .s .u64 (H.lim c.yb 5), .b false]
theorem smallS6 {H : H5} (hH : H = H5.real) {n : Nat} (hn : n < 18446744073709551616) : Sp 74 [.s .u64 (n : Int)] (u6 H.lim n) := by
  have h0 : H.lim n 0 = (n : Int) := by rw [hH]; exact limR_word hn
  have hs : ∀ i, 0 < i → H.lim n i = 0 := fun i hi => by
    rw [hH]
    show ((n / 2 ^ (64 * i) % 2 ^ 64 : Nat) : Int) = 0
    rw [Nat.div_eq_of_lt (Nat.lt_of_lt_of_le hn (Nat.le_trans (show 18446744073709551616 ≤ 2 ^ 64 by decide) (Nat.pow_le_pow_right (by decide) (by omega)))), Nat.zero_mod]; rfl
  refine mk Tryz.func74 rfl rfl L0 R1 (by decide +kernel) fun A S hA hS => ?_
  unfold bodyOf Tryz.f74
  cbv
  exact ⟨h0.symm, (hs 1 (by decide)).symm, (hs 2 (by decide)).symm, (hs 3 (by decide)).symm, (hs 4 (by decide)).symm, (hs 5 (by decide)).symm⟩
theorem inF6 {H : H5} (hH : H = H5.real) {p : Nat} [NeZero p] (hp : PrM 384 p) {a : Nat} (ha : a < 2 ^ 384) : Sp 73 [.ref (R6 H p) 0, u6 H.lim a] (el6 H p (fo p a).val) := by
  have h := InS6 hH hp.toMod ha
  have e : H.mod p a = (fo p a).val := by rw [hH]; rfl
  rw [e] at h; exact h
theorem bnPr : PrM 256 bnP := ⟨⟨by decide, by decide, by decide⟩, primes4_pr (by decide), by decide, by decide⟩
theorem blsPr : PrM 384 blsP := ⟨⟨by decide, by decide, by decide⟩, primes6_pr (by decide), by decide, by decide⟩
def bnB2 : Cv.F2 bnP := (Cv.ops2 Cv.inv2).mul ⟨fo bnP 3, fo bnP 0⟩ (Cv.inv2 ⟨fo bnP 9, fo bnP 1⟩)
def bnC : Cu bnP := ⟨fo bnP 1, fo bnP 3, bnB2, bnR, 1, 2, 0x1800deef121f1e76426a00665e5c4479674322d4f75edadd46debd5cd992f6ed, 0x198e9393920d483a7260bfb731fb5d25f1aa493335a9e71297e485b7aef312c2,
  0x12c85ea5db8c6deb4aab71808dcb408fe3d1e7690c43d37b4ce6cc0166fa7daa, 0x090689d0585ff075ec9e99ad690c3395bc4b313370b38ef355acdadcd122975b⟩
def blsC : Cu blsP := ⟨fo blsP 1, fo blsP 4, ⟨fo blsP 4, fo blsP 4⟩, blsR, 0x17f1d3a73197d7942695638c4fa9ac0fc3688c4f9774b905a14e3a3f171bac586c55e83ff97a1aeffb3af00adb22c6bb, 0x08b3f481e3aaa0f1a09e30ed741d8ae4fcf5e095d5d00af600db18cb2c04b3edd03cc744a2888ae40caa232946c5e7e1,
  0x024aa2b2f08f0a91260805272dc51051c6e47ad4fa403b02b4510b647ae3d1770bac0326a805bbefd48056c8c121bdb8, 0x13e02b6052719f607dacd3a088274f65596bd0d09920b61ab5da61bbdc7f5049334cf11213945d57e5ac7d055d042b7e,
  0x0ce5d527727d6e118cc9cdc6da2e351aadfd9baa8cbdd3a76d429a695160d12c923ac9cc3baca289e193548608b82801, 0x0606c4a02ea734cc32acd2b02bc28b99cb3e287e85a763af267492ab572e99ab3f370d275cec1da1aaa9075ff05f79be⟩
theorem bnElS {H : H5} (hH : H = H5.real) {n : Nat} (hn : n < 18446744073709551616) : Sp 100 [.s .u64 (n : Int), .ref [.ref (R4 H bnP) 0] 0] (el4 H bnP (fo bnP n).val) := by
  have h1 := smallS4 hH hn
  have h2 := inF4 hH bnPr (a := n) (Nat.lt_trans hn (by decide))
  generalize (fo bnP n).val = q at *
  refine mk Tryz.func100 rfl rfl L0 R1 (by decide +kernel) fun A S hA hS => ?_
  unfold bodyOf Tryz.f100
  cbv
  refine ACall.mk _ (cf hS h1) ?_
  cbv
  refine ACall.mk _ (cf hS h2) ?_
  cbv
def RBn : Nat → Md := fun r => match r with | 5 => .all | _ => .mid
def RBls : Nat → Md := fun r => match r with | 3 => .all | _ => .mid
theorem BnS {H : H5} (hH : H = H5.real) {c : Cu bnP} (hc : c = bnC) : Sp 28 [] (.ref (Cc4 H c) 0) := by
  have hl := H5.hlim hH
  have h1 := BnPS hH
  have h2 := MakeS4 hH bnPr.toMod
  have h3 : Sp 105 [] (u4 H.lim c.r) := by rw [hc]; exact BnRS hH
  have sx : Sp 102 [.s .u64 ((1 : Nat) : Int)] (u4 H.lim c.x1) := by rw [hc]; exact smallS4 hH (by decide)
  have sy : Sp 102 [.s .u64 ((2 : Nat) : Int)] (u4 H.lim c.y1) := by rw [hc]; exact smallS4 hH (by decide)
  have hq1 : c.one = fo bnP 1 := by rw [hc]; rfl
  obtain ⟨q0, hq0⟩ : ∃ q, q = fo bnP 0 := ⟨_, rfl⟩
  obtain ⟨q9, hq9⟩ : ∃ q, q = fo bnP 9 := ⟨_, rfl⟩
  have hb1 : c.b1 = fo bnP 3 := by rw [hc]; rfl
  have el1 : Sp 100 [.s .u64 ((1 : Nat) : Int), .ref [.ref (R4 H bnP) 0] 0] (el4 H bnP c.one.val) := by rw [hq1]; exact bnElS hH (by decide)
  have el0 : Sp 100 [.s .u64 ((0 : Nat) : Int), .ref [.ref (R4 H bnP) 0] 0] (el4 H bnP q0.val) := by rw [hq0]; exact bnElS hH (by decide)
  have el9 : Sp 100 [.s .u64 ((9 : Nat) : Int), .ref [.ref (R4 H bnP) 0] 0] (el4 H bnP q9.val) := by rw [hq9]; exact bnElS hH (by decide)
  have el3 : Sp 100 [.s .u64 ((3 : Nat) : Int), .ref [.ref (R4 H bnP) 0] 0] (el4 H bnP c.b1.val) := by rw [hb1]; exact bnElS hH (by decide)
  have iv : Sp 104 _ _ := (ok2_4 hH bnPr).inv ⟨q9, c.one⟩
  have ml : Sp 103 _ _ := (ok2_4 hH bnPr).mul ⟨c.b1, q0⟩ (Cv.inv2 ⟨q9, c.one⟩)
  change Sp _ _ (Et4 (K2_4 H bnP) (Cv.inv2 ⟨q9, c.one⟩)) at iv
  have e2 : (K2_4 H bnP).O.mul ⟨c.b1, q0⟩ (Cv.inv2 ⟨q9, c.one⟩) = c.b2 := by rw [hb1, hq0, hq1, hq9, hc]; rfl
  rw [e2] at ml
  generalize Cv.inv2 ⟨q9, c.one⟩ = i9 at *
  clear hq1 hq0 hq9
  refine mk Tryz.func28 rfl rfl L0 RBn (by decide +kernel) ?_
  intro A S hA hS
  unfold bodyOf Tryz.f28
  cbv
  refine ACall.mk _ (cf hS h1) ?_
  cbv
  refine ACall.mk _ (cf hS h2) ?_
  cbv
  refine ACall.mk _ (cg hS el3 (by first | (cbv; done) | (cbv; exact rfl) | (cbv; exact ⟨rfl, trivial⟩))) ?_
  cbv
  refine ACall.mk _ (cg hS el0 (by first | (cbv; done) | (cbv; exact rfl) | (cbv; exact ⟨rfl, trivial⟩))) ?_
  cbv
  refine ACall.mk _ (cg hS el9 (by first | (cbv; done) | (cbv; exact rfl) | (cbv; exact ⟨rfl, trivial⟩))) ?_
  cbv
  refine ACall.mk _ (cg hS el1 (by first | (cbv; done) | (cbv; exact rfl) | (cbv; exact ⟨rfl, trivial⟩))) ?_
  cbv
  refine ACall.mk _ (cf hS iv) ?_
  cbv
  refine ACall.mk _ (cf hS ml) ?_
  cbv
  refine ACall.mk _ (cg hS el1 (by first | (cbv; done) | (cbv; exact rfl) | (cbv; exact ⟨rfl, trivial⟩))) ?_
  cbv
  refine ACall.mk _ (cf hS h3) ?_
  cbv
  refine ACall.mk _ (cg hS el3 (by first | (cbv; done) | (cbv; exact rfl) | (cbv; exact ⟨rfl, trivial⟩))) ?_
  cbv
  refine ACall.mk _ (cg hS sx (by first | (cbv; done) | (cbv; exact rfl) | (cbv; exact ⟨rfl, trivial⟩))) ?_
  cbv
  refine ACall.mk _ (cg hS sy (by first | (cbv; done) | (cbv; exact rfl) | (cbv; exact ⟨rfl, trivial⟩))) ?_
  cbv
  refine ACall.mk _ (cf hS (numberS4 hl _ (by decide +kernel) (by decide +kernel))) ?_
  rw [show numB (hexB _) 32 = c.xa from (by rw [hc]; decide +kernel)]
  cbv
  refine ACall.mk _ (cf hS (numberS4 hl _ (by decide +kernel) (by decide +kernel))) ?_
  rw [show numB (hexB _) 32 = c.xb from (by rw [hc]; decide +kernel)]
  cbv
  refine ACall.mk _ (cf hS (numberS4 hl _ (by decide +kernel) (by decide +kernel))) ?_
  rw [show numB (hexB _) 32 = c.ya from (by rw [hc]; decide +kernel)]
  cbv
  refine ACall.mk _ (cf hS (numberS4 hl _ (by decide +kernel) (by decide +kernel))) ?_
  rw [show numB (hexB _) 32 = c.yb from (by rw [hc]; decide +kernel)]
  cbv
theorem BlsS {H : H5} (hH : H = H5.real) {c : Cu blsP} (hc : c = blsC) : Sp 13 [] (.ref (Cc6 H c) 0) := by
  have hl := H5.hlim hH
  have h1 := BlsPS hH
  have h2 := MakeS6 hH blsPr.toMod
  have h3 : Sp 75 [] (u4 H.lim c.r) := by rw [hc]; exact BlsRS hH
  have hq1 : c.one = fo blsP 1 := by rw [hc]; rfl
  have in4 : Sp 73 [.ref (R6 H blsP) 0, u6 H.lim 4] (el6 H blsP c.b1.val) := by rw [hc]; exact inF6 hH blsPr (a := 4) (by decide)
  have in1 : Sp 73 [.ref (R6 H blsP) 0, u6 H.lim 1] (el6 H blsP c.one.val) := by rw [hq1]; exact inF6 hH blsPr (a := 1) (by decide)
  have ha : c.b1 = c.b2.a := by rw [hc]; rfl
  have hb : c.b1 = c.b2.b := by rw [hc]; rfl
  have sm := fun n (hn : n < 18446744073709551616) => smallS6 hH hn
  clear hq1
  refine mk Tryz.func13 rfl rfl L0 RBls (by decide +kernel) ?_
  intro A S hA hS
  unfold bodyOf Tryz.f13
  cbv
  refine ACall.mk _ (cf hS h1) ?_
  cbv
  refine ACall.mk _ (cf hS h2) ?_
  cbv
  refine ACall.mk _ (cg hS (sm 4 (by decide)) (by first | (cbv; done) | (cbv; exact rfl) | (cbv; exact ⟨rfl, trivial⟩))) ?_
  cbv
  refine ACall.mk _ (cf hS in4) ?_
  cbv
  refine ACall.mk _ (cg hS (sm 1 (by decide)) (by first | (cbv; done) | (cbv; exact rfl) | (cbv; exact ⟨rfl, trivial⟩))) ?_
  cbv
  refine ACall.mk _ (cf hS in1) ?_
  cbv
  refine ACall.mk _ (cf hS h3) ?_
  cbv
  refine ACall.mk _ (cf hS (numberS6 hl _ (by decide +kernel) (by decide +kernel))) ?_
  rw [show numB (hexB _) 48 = c.x1 from (by rw [hc]; decide +kernel)]
  cbv
  refine ACall.mk _ (cf hS (numberS6 hl _ (by decide +kernel) (by decide +kernel))) ?_
  rw [show numB (hexB _) 48 = c.y1 from (by rw [hc]; decide +kernel)]
  cbv
  refine ACall.mk _ (cf hS (numberS6 hl _ (by decide +kernel) (by decide +kernel))) ?_
  rw [show numB (hexB _) 48 = c.xa from (by rw [hc]; decide +kernel)]
  cbv
  refine ACall.mk _ (cf hS (numberS6 hl _ (by decide +kernel) (by decide +kernel))) ?_
  rw [show numB (hexB _) 48 = c.xb from (by rw [hc]; decide +kernel)]
  cbv
  refine ACall.mk _ (cf hS (numberS6 hl _ (by decide +kernel) (by decide +kernel))) ?_
  rw [show numB (hexB _) 48 = c.ya from (by rw [hc]; decide +kernel)]
  cbv
  refine ACall.mk _ (cf hS (numberS6 hl _ (by decide +kernel) (by decide +kernel))) ?_
  rw [show numB (hexB _) 48 = c.yb from (by rw [hc]; decide +kernel)]
  cbv
  exact ⟨congrArg (fun q : Fin blsP => H.lim (H.mf 384 blsP q.val) 0) ha, congrArg (fun q : Fin blsP => H.lim (H.mf 384 blsP q.val) 1) ha, congrArg (fun q : Fin blsP => H.lim (H.mf 384 blsP q.val) 2) ha, congrArg (fun q : Fin blsP => H.lim (H.mf 384 blsP q.val) 3) ha, congrArg (fun q : Fin blsP => H.lim (H.mf 384 blsP q.val) 4) ha, congrArg (fun q : Fin blsP => H.lim (H.mf 384 blsP q.val) 5) ha, congrArg (fun q : Fin blsP => H.lim (H.mf 384 blsP q.val) 0) hb, congrArg (fun q : Fin blsP => H.lim (H.mf 384 blsP q.val) 1) hb, congrArg (fun q : Fin blsP => H.lim (H.mf 384 blsP q.val) 2) hb, congrArg (fun q : Fin blsP => H.lim (H.mf 384 blsP q.val) 3) hb, congrArg (fun q : Fin blsP => H.lim (H.mf 384 blsP q.val) 4) hb, congrArg (fun q : Fin blsP => H.lim (H.mf 384 blsP q.val) 5) hb, trivial⟩
end Go.Proofs.YtmholgclgamnnaaGreat
end
section
set_option linter.unusedVariables false
set_option linter.unusedSectionVars false
set_option linter.unusedSimpArgs false
namespace Go.Proofs.YtmholgclgamnnaaGreat
open Go Eng
set_option maxRecDepth 100000
set_option exponentiation.threshold 2000
set_option maxHeartbeats 4000000
/-- A point's coordinates as numbers. -/
structure PtA where
  x : Nat
  y : Nat
  inf : Bool
structure PtB where
  xa : Nat
  xb : Nat
  ya : Nat
  yb : Nat
  inf : Bool
def RDn : Nat → Md := fun r => match r with | 4 => .res [] | _ => .mid
section
variable {p : Nat} [NeZero p]
/-- Points and numbers. -/
def ptOf (p : Nat) [NeZero p] (P : PtA) : Cv.Pt (Fin p) := if P.inf then none else some (fo p P.x, fo p P.y)
def ofPt : Cv.Pt (Fin p) → PtA
  | none => ⟨0, 0, true⟩
  | some (x, y) => ⟨x.val, y.val, false⟩
theorem i_not {A : Ar} (hA : A = Ar.real) {t s : Bool} (h : t = s) : A.not t = !s := by rw [h, hA]; rfl
def P1_4 (H : H5) (P : PtA) : AVal := .agg [.s .u64 (H.lim P.x 0), .s .u64 (H.lim P.x 1), .s .u64 (H.lim P.x 2), .s .u64 (H.lim P.x 3), .s .u64 (H.lim P.y 0), .s .u64 (H.lim P.y 1), .s .u64 (H.lim P.y 2), .s .u64 (H.lim P.y 3), .sb P.inf]
def P2_4 (H : H5) (P : PtB) : AVal := .agg [.s .u64 (H.lim P.xa 0), .s .u64 (H.lim P.xa 1), .s .u64 (H.lim P.xa 2), .s .u64 (H.lim P.xa 3), .s .u64 (H.lim P.xb 0), .s .u64 (H.lim P.xb 1), .s .u64 (H.lim P.xb 2), .s .u64 (H.lim P.xb 3), .s .u64 (H.lim P.ya 0), .s .u64 (H.lim P.ya 1), .s .u64 (H.lim P.ya 2), .s .u64 (H.lim P.ya 3), .s .u64 (H.lim P.yb 0), .s .u64 (H.lim P.yb 1), .s .u64 (H.lim P.yb 2), .s .u64 (H.lim P.yb 3), .sb P.inf]
theorem lim04 {H : H5} (hH : H = H5.real) : ∀ i, H.lim 0 i = 0 := fun i => by
  rw [hH]; show ((0 / 2 ^ (64 * i) % 2 ^ 64 : Nat) : Int) = 0; rw [Nat.zero_div]; rfl
theorem nz4 {A : Ar} (hA : A = Ar.real) {H : H5} (hH : H = H5.real) {a : Nat} (ha : a < 2 ^ 256) : A.eqs [(.s .u64 (H.lim a 0), .i .u64 0), (.s .u64 (H.lim a 1), .i .u64 0), (.s .u64 (H.lim a 2), .i .u64 0), (.s .u64 (H.lim a 3), .i .u64 0)] = decide (a = 0) := by
  have h0 : ∀ x : Int, leafEq (.s .u64 x, .i .u64 0) = (x == 0) := fun x => rfl
  have l0 := lim04 hH
  refine eqs_dec hA ⟨fun h => ?_, fun h => ?_⟩
  · simp only [List.all_cons, List.all_nil, h0, beq_iff_eq, Bool.and_eq_true, and_true] at h
    obtain ⟨h0, h1, h2, h3⟩ := h
    exact lim_inj4 (H5.hlim hH) ha (by decide) ⟨h0.trans (l0 0).symm, h1.trans (l0 1).symm, h2.trans (l0 2).symm, h3.trans (l0 3).symm⟩
  · subst h
    simp only [List.all_cons, List.all_nil, h0, beq_iff_eq, Bool.and_eq_true, and_true]
    exact ⟨l0 0, l0 1, l0 2, l0 3⟩
theorem CisS4 {H : H5} (c : Cu p) : Sp 108 [.ref (Cc4 H c) 0] (.b true) := by
  refine mk Tryz.func108 rfl rfl L0 R1 (by decide +kernel) fun A S hA hS => ?_
  unfold bodyOf Tryz.f108
  cbv
theorem base1S4 {H : H5} (c : Cu p) : Sp 44 [.ref (Cc4 H c) 0] (P1_4 H ⟨c.x1, c.y1, false⟩) := by
  have h := CisS4 (H := H) c
  refine mk Tryz.func44 rfl rfl L0 R1 (by decide +kernel) fun A S hA hS => ?_
  unfold bodyOf Tryz.f44
  cbv
  refine ACall.mk _ (cf hS h) ?_
  cbv
theorem up1S4 {H : H5} (hH : H = H5.real) (hp : PrM 256 p) {c : Cu p} (h1c : c.one = fo p 1) (P : PtA) (hx : P.x < 2 ^ 256) (hy : P.y < 2 ^ 256) : Sp 113 [.ref (Cc4 H c) 0, P1_4 H P] (Jb4 (K1_4 H p) (Cv.up (K1_4 H p).O (ptOf p P))) := by
  obtain ⟨x, y, inf⟩ := P
  have h1 := inF4 hH hp hx
  have h2 := inF4 hH hp hy
  have z := mf_zero4 (p := p) hH
  cases inf
  · refine mk Tryz.func113 rfl rfl L0 R1 (by decide +kernel) fun A S hA hS => ?_
    have e : Cv.up (K1_4 H p).O (ptOf p ⟨x, y, false⟩) = ⟨fo p x, fo p y, c.one⟩ := by rw [h1c]; rfl
    rw [e]
    generalize fo p x = u at *
    generalize fo p y = v at *
    unfold bodyOf Tryz.f113
    cbv
    refine ABr.f rfl ?_
    cbv
    refine ACall.mk _ (cf hS h1) ?_
    cbv
    refine ACall.mk _ (cf hS h2) ?_
    cbv
  · refine mk Tryz.func113 rfl rfl L0 R1 (by decide +kernel) fun A S hA hS => ?_
    have e : Cv.up (K1_4 H p).O (ptOf p ⟨x, y, true⟩) = ⟨0, 0, 0⟩ := rfl
    rw [e]
    generalize (0 : Fin p) = o at *
    unfold bodyOf Tryz.f113
    cbv
    refine ABr.t rfl ?_
    cbv
    exact ⟨(z 0).symm, (z 1).symm, (z 2).symm, (z 3).symm, (z 0).symm, (z 1).symm, (z 2).symm, (z 3).symm, (z 0).symm, (z 1).symm, (z 2).symm, (z 3).symm⟩
theorem outF4 {H : H5} (hH : H = H5.real) (hp : PrM 256 p) (a : Fin p) : Sp 183 [.ref (R4 H p) 0, el4 H p a.val] (u4 H.lim a.val) := OutS4 hH hp.toMod a.isLt
theorem down1S4 {H : H5} (hH : H = H5.real) (hp : PrM 256 p) (c : Cu p) (q : Cv.Jac (Fin p)) : Sp 115 [.ref (Cc4 H c) 0, Jb4 (K1_4 H p) q] (P1_4 H (ofPt (Cv.down (K1_4 H p).O q))) := by
  have hK := ok1_4 hH hp
  have fl := flatb4 hK c.b1 q
  have l0 := lim04 hH
  obtain ⟨qx, qy, qz⟩ := q
  dsimp only at fl
  unfold Cv.down
  dsimp only
  by_cases h : qz = (K1_4 H p).O.zero
  · rw [if_pos h]
    have hz := fun A hA => (hK.eqz (A := A) hA qz).trans (decide_eq_true h)
    refine mk Tryz.func115 rfl rfl L0 RDn (by decide +kernel) fun A S hA hS => ?_
    have hz := hz A hA
    unfold bodyOf Tryz.f115
    cbv
    refine ABr.t hz ?_
    cbv
    exact ⟨(l0 0).symm, (l0 1).symm, (l0 2).symm, (l0 3).symm, (l0 0).symm, (l0 1).symm, (l0 2).symm, (l0 3).symm, trivial⟩
  · rw [if_neg h]
    have hz := fun A hA => (hK.eqz (A := A) hA qz).trans (decide_eq_false h)
    generalize (K1_4 H p).O.mul qx ((K1_4 H p).O.mul ((K1_4 H p).O.inv qz) ((K1_4 H p).O.inv qz)) = u at *
    generalize (K1_4 H p).O.mul ((K1_4 H p).O.mul qy ((K1_4 H p).O.mul ((K1_4 H p).O.inv qz) ((K1_4 H p).O.inv qz))) ((K1_4 H p).O.inv qz) = v at *
    have o1 := outF4 hH hp u
    have o2 := outF4 hH hp v
    clear hK
    refine mk Tryz.func115 rfl rfl L0 RDn (by decide +kernel) fun A S hA hS => ?_
    have hz := hz A hA
    unfold bodyOf Tryz.f115
    cbv
    refine ABr.f hz ?_
    cbv
    refine ACall.mk _ (cf hS fl) ?_
    cbv
    refine ACall.mk _ (cf hS o1) ?_
    cbv
    refine ACall.mk _ (cf hS o2) ?_
    cbv
def P1_6 (H : H5) (P : PtA) : AVal := .agg [.s .u64 (H.lim P.x 0), .s .u64 (H.lim P.x 1), .s .u64 (H.lim P.x 2), .s .u64 (H.lim P.x 3), .s .u64 (H.lim P.x 4), .s .u64 (H.lim P.x 5), .s .u64 (H.lim P.y 0), .s .u64 (H.lim P.y 1), .s .u64 (H.lim P.y 2), .s .u64 (H.lim P.y 3), .s .u64 (H.lim P.y 4), .s .u64 (H.lim P.y 5), .sb P.inf]
theorem lim06 {H : H5} (hH : H = H5.real) : ∀ i, H.lim 0 i = 0 := fun i => by
  rw [hH]; show ((0 / 2 ^ (64 * i) % 2 ^ 64 : Nat) : Int) = 0; rw [Nat.zero_div]; rfl
theorem nz6 {A : Ar} (hA : A = Ar.real) {H : H5} (hH : H = H5.real) {a : Nat} (ha : a < 2 ^ 384) : A.eqs [(.s .u64 (H.lim a 0), .i .u64 0), (.s .u64 (H.lim a 1), .i .u64 0), (.s .u64 (H.lim a 2), .i .u64 0), (.s .u64 (H.lim a 3), .i .u64 0), (.s .u64 (H.lim a 4), .i .u64 0), (.s .u64 (H.lim a 5), .i .u64 0)] = decide (a = 0) := by
  have h0 : ∀ x : Int, leafEq (.s .u64 x, .i .u64 0) = (x == 0) := fun x => rfl
  have l0 := lim06 hH
  refine eqs_dec hA ⟨fun h => ?_, fun h => ?_⟩
  · simp only [List.all_cons, List.all_nil, h0, beq_iff_eq, Bool.and_eq_true, and_true] at h
    obtain ⟨h0, h1, h2, h3, h4, h5⟩ := h
    exact lim_inj6 (H5.hlim hH) ha (by decide) ⟨h0.trans (l0 0).symm, h1.trans (l0 1).symm, h2.trans (l0 2).symm, h3.trans (l0 3).symm, h4.trans (l0 4).symm, h5.trans (l0 5).symm⟩
  · subst h
    simp only [List.all_cons, List.all_nil, h0, beq_iff_eq, Bool.and_eq_true, and_true]
    exact ⟨l0 0, l0 1, l0 2, l0 3, l0 4, l0 5⟩
theorem CisS6 {H : H5} (c : Cu p) : Sp 82 [.ref (Cc6 H c) 0] (.b true) := by
  refine mk Tryz.func82 rfl rfl L0 R1 (by decide +kernel) fun A S hA hS => ?_
  unfold bodyOf Tryz.f82
  cbv
theorem up1S6 {H : H5} (hH : H = H5.real) (hp : PrM 384 p) {c : Cu p} (h1c : c.one = fo p 1) (P : PtA) (hx : P.x < 2 ^ 384) (hy : P.y < 2 ^ 384) : Sp 92 [.ref (Cc6 H c) 0, P1_6 H P] (Jb6 (K1_6 H p) (Cv.up (K1_6 H p).O (ptOf p P))) := by
  obtain ⟨x, y, inf⟩ := P
  have h1 := inF6 hH hp hx
  have h2 := inF6 hH hp hy
  have z := mf_zero6 (p := p) hH
  cases inf
  · refine mk Tryz.func92 rfl rfl L0 R1 (by decide +kernel) fun A S hA hS => ?_
    have e : Cv.up (K1_6 H p).O (ptOf p ⟨x, y, false⟩) = ⟨fo p x, fo p y, c.one⟩ := by rw [h1c]; rfl
    rw [e]
    generalize fo p x = u at *
    generalize fo p y = v at *
    unfold bodyOf Tryz.f92
    cbv
    refine ABr.f rfl ?_
    cbv
    refine ACall.mk _ (cf hS h1) ?_
    cbv
    refine ACall.mk _ (cf hS h2) ?_
    cbv
  · refine mk Tryz.func92 rfl rfl L0 R1 (by decide +kernel) fun A S hA hS => ?_
    have e : Cv.up (K1_6 H p).O (ptOf p ⟨x, y, true⟩) = ⟨0, 0, 0⟩ := rfl
    rw [e]
    generalize (0 : Fin p) = o at *
    unfold bodyOf Tryz.f92
    cbv
    refine ABr.t rfl ?_
    cbv
    exact ⟨(z 0).symm, (z 1).symm, (z 2).symm, (z 3).symm, (z 4).symm, (z 5).symm, (z 0).symm, (z 1).symm, (z 2).symm, (z 3).symm, (z 4).symm, (z 5).symm, (z 0).symm, (z 1).symm, (z 2).symm, (z 3).symm, (z 4).symm, (z 5).symm⟩
theorem outF6 {H : H5} (hH : H = H5.real) (hp : PrM 384 p) (a : Fin p) : Sp 146 [.ref (R6 H p) 0, el6 H p a.val] (u6 H.lim a.val) := OutS6 hH hp.toMod a.isLt
end
end Go.Proofs.YtmholgclgamnnaaGreat
end
