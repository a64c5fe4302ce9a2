import Derived.Test.YtmholgclgamnnaaGreatQYDL
import Derived.Test.YtmholgclgamnnaaGreatQYDB
import Derived.Test.YtmholgclgamnnaaGreatQYGG
import Derived.Test.YtmholgclgamnnaaGreatQYyXCGroupyGH
section
set_option linter.unusedVariables false
set_option linter.unusedSectionVars false
set_option linter.unusedSimpArgs false
namespace Go.Proofs.YtmholgclgamnnaaGreat
open Go Eng
set_option maxRecDepth 100000
set_option exponentiation.threshold 2000
section
variable {p : Nat} [NeZero p]
theorem pt_of (Q : Cv.Pt (Fin p)) : ptOf p (ofPt Q) = Q := by
  obtain _ | ⟨x, y⟩ := Q
  · rfl
  · show (if false = true then none else some (fo p x.val, fo p y.val)) = _
    rw [if_neg (by simp), fo_val, fo_val]
theorem pt_of2 (Q : Cv.Pt (Cv.F2 p)) : ptOf2 p (ofPt2 Q) = Q := by
  obtain _ | ⟨x, y⟩ := Q
  · rfl
  · show (if false = true then none else some ((⟨fo p x.a.val, fo p x.b.val⟩ : Cv.F2 p), (⟨fo p y.a.val, fo p y.b.val⟩ : Cv.F2 p))) = _
    rw [if_neg (by simp), fo_val, fo_val, fo_val, fo_val]
theorem good_of {b : Fin p} {Q : Cv.Pt (Fin p)} (h : Cv.onC (Cv.ops1 Cv.inv1) b Q) : good1 b (ofPt Q) = 0 := by
  obtain _ | ⟨x, y⟩ := Q
  · unfold good1
    rw [if_pos (show (ofPt (none : Cv.Pt (Fin p))).inf = true from rfl)]
    exact if_pos ⟨rfl, rfl⟩
  · unfold good1
    rw [if_neg (show ¬ (ofPt (some (x, y))).inf = true from by show ¬ false = true; simp), if_pos (show (ofPt (some (x, y))).x < p ∧ (ofPt (some (x, y))).y < p from ⟨x.isLt, y.isLt⟩)]
    show (if fo p y.val * fo p y.val = fo p x.val * fo p x.val * fo p x.val + b then 0 else 71) = 0
    rw [fo_val, fo_val]
    exact if_pos h
theorem good_of2 {b : Cv.F2 p} {Q : Cv.Pt (Cv.F2 p)} (h : Cv.onC (Cv.ops2 Cv.inv2) b Q) : good2 b (ofPt2 Q) = 0 := by
  obtain _ | ⟨x, y⟩ := Q
  · unfold good2
    rw [if_pos (show (ofPt2 (none : Cv.Pt (Cv.F2 p))).inf = true from rfl)]
    exact if_pos ⟨⟨rfl, rfl⟩, rfl, rfl⟩
  · unfold good2
    rw [if_neg (show ¬ (ofPt2 (some (x, y))).inf = true from by show ¬ false = true; simp), if_pos (show (ofPt2 (some (x, y))).xa < p ∧ (ofPt2 (some (x, y))).xb < p ∧ (ofPt2 (some (x, y))).ya < p ∧ (ofPt2 (some (x, y))).yb < p from ⟨x.a.isLt, x.b.isLt, y.a.isLt, y.b.isLt⟩)]
    show (if (Cv.ops2 Cv.inv2).mul ⟨fo p y.a.val, fo p y.b.val⟩ ⟨fo p y.a.val, fo p y.b.val⟩ = (Cv.ops2 Cv.inv2).add ((Cv.ops2 Cv.inv2).mul ((Cv.ops2 Cv.inv2).mul ⟨fo p x.a.val, fo p x.b.val⟩ ⟨fo p x.a.val, fo p x.b.val⟩) ⟨fo p x.a.val, fo p x.b.val⟩) b then 0 else 71) = 0
    rw [fo_val, fo_val, fo_val, fo_val]
    exact if_pos h
/-- Multiples of a good point, added. -/
theorem group1 {n : Nat} (hp : PrM n p) {b : Fin p} (N : Gp.No2 (Cv.ops1 (Cv.inv1 (p := p))) b) {P : PtA} (hP : good1 b P = 0) {k l : Nat} (hkl : k + l < 2 ^ 256) :
    addP b (mulP b P k).1 (mulP b P l).1 = mulP b P (k + l) ∧ (mulP b P k).2 = 0 := by
  have F := Gp.fd1 hp.pr hp.two
  have L := laws1p hp
  have hA := Cv.add1 Cv.inv1 (one_ne hp) (fun a h => Cv.inv1_ok hp.pr hp.two a h) b
  have hon := good1_on hP
  have key : ∀ j, j < 2 ^ 256 → mulP b P j = (ofPt (Gp.mn (Cv.ops1 Cv.inv1) (ptOf p P) j), 0) := fun j hj => by
    unfold mulP
    rw [if_neg (fun h => h hP)]
    generalize ptOf p P = Q at *
    obtain _ | ⟨x, y⟩ := Q
    · rw [(down_times L none j).1]
      have hm : ∀ j, Gp.mn (Cv.ops1 Cv.inv1) (none : Cv.Pt (Fin p)) j = none := fun j => by
        induction j with
        | zero => rfl
        | succ m ih => show Cv.sumR _ (Gp.mn _ _ m) none = none; rw [ih]; rfl
      rw [hm]; rfl
    · have := Gp.tm_mn F L N hA hon hj 256 (Nat.le_refl _)
      rw [Nat.sub_self, Nat.pow_zero, Nat.div_one] at this
      show (ofPt (Cv.down (Cv.ops1 Cv.inv1) (Cv.tm (Cv.ops1 Cv.inv1) ⟨x, y, (Cv.ops1 Cv.inv1).one⟩ j 256 256)), 0) = _
      rw [this]
  have ok := fun j => Gp.mn_on F L N hA hon j
  rw [key k (by omega), key l (by omega), key (k + l) hkl]
  refine ⟨?_, rfl⟩
  unfold addP
  dsimp only
  rw [if_neg (fun h => h (good_of (ok k))), if_neg (fun h => h (good_of (ok l))), pt_of, pt_of, Gp.mn_add F L N hA hon]
theorem group2 {n : Nat} (hp : PrM n p) {b : Cv.F2 p} (N : Gp.No2 (Cv.ops2 (Cv.inv2 (p := p))) b) {P : PtB} (hP : good2 b P = 0) {k l : Nat} (hkl : k + l < 2 ^ 256) :
    addQ b (mulQ b P k).1 (mulQ b P l).1 = mulQ b P (k + l) ∧ (mulQ b P k).2 = 0 := by
  have F := Gp.fd2 hp.pr hp.two hp.four
  have L := laws2p hp
  have hA := Cv.add2 Cv.inv2 (one_ne hp) (fun a h => Cv.inv2_ok hp.pr hp.two hp.four a h) b
  have hon := good2_on hP
  have key : ∀ j, j < 2 ^ 256 → mulQ b P j = (ofPt2 (Gp.mn (Cv.ops2 Cv.inv2) (ptOf2 p P) j), 0) := fun j hj => by
    unfold mulQ
    rw [if_neg (fun h => h hP)]
    generalize ptOf2 p P = Q at *
    obtain _ | ⟨x, y⟩ := Q
    · rw [(down_times L none j).1]
      have hm : ∀ j, Gp.mn (Cv.ops2 Cv.inv2) (none : Cv.Pt (Cv.F2 p)) j = none := fun j => by
        induction j with
        | zero => rfl
        | succ m ih => show Cv.sumR _ (Gp.mn _ _ m) none = none; rw [ih]; rfl
      rw [hm]; rfl
    · have := Gp.tm_mn F L N hA hon hj 256 (Nat.le_refl _)
      rw [Nat.sub_self, Nat.pow_zero, Nat.div_one] at this
      show (ofPt2 (Cv.down (Cv.ops2 Cv.inv2) (Cv.tm (Cv.ops2 Cv.inv2) ⟨x, y, (Cv.ops2 Cv.inv2).one⟩ j 256 256)), 0) = _
      rw [this]
  have ok := fun j => Gp.mn_on F L N hA hon j
  rw [key k (by omega), key l (by omega), key (k + l) hkl]
  refine ⟨?_, rfl⟩
  unfold addQ
  dsimp only
  rw [if_neg (fun h => h (good_of2 (ok k))), if_neg (fun h => h (good_of2 (ok l))), pt_of2, pt_of2, Gp.mn_add F L N hA hon]
end
theorem no2_bn : Gp.No2 (Cv.ops1 (Cv.inv1 (p := bnP))) (fo bnP 3) := Gp.no2_1 (f := 256) bnPr.pr (by decide +kernel) (by decide +kernel) (by decide +kernel) (by decide +kernel)
theorem no2_bls : Gp.No2 (Cv.ops1 (Cv.inv1 (p := blsP))) (fo blsP 4) := Gp.no2_1 (f := 384) blsPr.pr (by decide +kernel) (by decide +kernel) (by decide +kernel) (by decide +kernel)
theorem no2_bn2 : Gp.No2 (Cv.ops2 (Cv.inv2 (p := bnP))) ⟨fo bnP 0x2b149d40ceb8aaae81be18991be06ac3b5b4c5e559dbefa33267e6dc24a138e5, fo bnP 0x009713b03af0fed4cd2cafadeed8fdf4a74fa084e52d1852e4a2bd0685c315d2⟩ := Gp.no2_2 (f := 256) bnPr.pr (by decide +kernel) (by decide +kernel) (by decide +kernel) (by decide +kernel)
end Go.Proofs.YtmholgclgamnnaaGreat
end
section
set_option linter.unusedVariables false
set_option linter.unusedSectionVars false
set_option linter.unusedSimpArgs false
namespace Go.Proofs.YtmholgclgamnnaaGreat
open Go Eng
set_option maxRecDepth 100000
set_option exponentiation.threshold 2000
set_option maxHeartbeats 4000000
theorem lim_two {H : H5} (hH : H = H5.real) {k m : Nat} (hk : k < 18446744073709551616) (hm : m < 18446744073709551616) : H.lim (k + 18446744073709551616 * m) 0 = k ∧ H.lim (k + 18446744073709551616 * m) 1 = m ∧ H.lim (k + 18446744073709551616 * m) 2 = 0 ∧ H.lim (k + 18446744073709551616 * m) 3 = 0 := by
  have hlt : k + 18446744073709551616 * m < 2 ^ (64 * 2) := by
    have : (2 : Nat) ^ (64 * 2) = 18446744073709551616 * 18446744073709551616 := by decide
    rw [this]
    have := Nat.mul_le_mul_left 18446744073709551616 (show m + 1 ≤ 18446744073709551616 by omega)
    omega
  refine ⟨?_, ?_, lim_top hH hlt 2 (by decide), lim_top hH hlt 3 (by decide)⟩
  · rw [hH]
    show (((k + 18446744073709551616 * m) / 2 ^ (64 * 0) % 2 ^ 64 : Nat) : Int) = k
    congr 1
    rw [Nat.mul_zero, Nat.pow_zero, Nat.div_one]
    show (k + 18446744073709551616 * m) % 18446744073709551616 = k
    rw [Nat.add_mul_mod_self_left, Nat.mod_eq_of_lt hk]
  · rw [hH]
    show (((k + 18446744073709551616 * m) / 2 ^ (64 * 1) % 2 ^ 64 : Nat) : Int) = m
    congr 1
    show (k + 18446744073709551616 * m) / 18446744073709551616 % 18446744073709551616 = m
    rw [Nat.add_mul_div_left _ _ (by decide), Nat.div_eq_of_lt hk, Nat.zero_add, Nat.mod_eq_of_lt hm]
theorem eqP14 {A : Ar} (hA : A = Ar.real) {H : H5} (x : Nat) (y : Nat) (inf : Bool) : A.eqs [(.s .u64 (H.lim x 0), .s .u64 (H.lim x 0)), (.s .u64 (H.lim x 1), .s .u64 (H.lim x 1)), (.s .u64 (H.lim x 2), .s .u64 (H.lim x 2)), (.s .u64 (H.lim x 3), .s .u64 (H.lim x 3)), (.s .u64 (H.lim y 0), .s .u64 (H.lim y 0)), (.s .u64 (H.lim y 1), .s .u64 (H.lim y 1)), (.s .u64 (H.lim y 2), .s .u64 (H.lim y 2)), (.s .u64 (H.lim y 3), .s .u64 (H.lim y 3)), (.sb inf, .sb inf)] = true := by
  have hs : ∀ x : Int, leafEq (.s .u64 x, .s .u64 x) = true := fun x => beq_self_eq_true x
  have hb : leafEq (.sb inf, .sb inf) = true := by cases inf <;> rfl
  rw [eqs_real hA]
  simp only [List.all_cons, List.all_nil, hs, hb, Bool.and_self]
theorem eqP24 {A : Ar} (hA : A = Ar.real) {H : H5} (xa : Nat) (xb : Nat) (ya : Nat) (yb : Nat) (inf : Bool) : A.eqs [(.s .u64 (H.lim xa 0), .s .u64 (H.lim xa 0)), (.s .u64 (H.lim xa 1), .s .u64 (H.lim xa 1)), (.s .u64 (H.lim xa 2), .s .u64 (H.lim xa 2)), (.s .u64 (H.lim xa 3), .s .u64 (H.lim xa 3)), (.s .u64 (H.lim xb 0), .s .u64 (H.lim xb 0)), (.s .u64 (H.lim xb 1), .s .u64 (H.lim xb 1)), (.s .u64 (H.lim xb 2), .s .u64 (H.lim xb 2)), (.s .u64 (H.lim xb 3), .s .u64 (H.lim xb 3)), (.s .u64 (H.lim ya 0), .s .u64 (H.lim ya 0)), (.s .u64 (H.lim ya 1), .s .u64 (H.lim ya 1)), (.s .u64 (H.lim ya 2), .s .u64 (H.lim ya 2)), (.s .u64 (H.lim ya 3), .s .u64 (H.lim ya 3)), (.s .u64 (H.lim yb 0), .s .u64 (H.lim yb 0)), (.s .u64 (H.lim yb 1), .s .u64 (H.lim yb 1)), (.s .u64 (H.lim yb 2), .s .u64 (H.lim yb 2)), (.s .u64 (H.lim yb 3), .s .u64 (H.lim yb 3)), (.sb inf, .sb inf)] = true := by
  have hs : ∀ x : Int, leafEq (.s .u64 x, .s .u64 x) = true := fun x => beq_self_eq_true x
  have hb : leafEq (.sb inf, .sb inf) = true := by cases inf <;> rfl
  rw [eqs_real hA]
  simp only [List.all_cons, List.all_nil, hs, hb, Bool.and_self]
theorem mul_lt1 {n p : Nat} [NeZero p] (hp : PrM n p) (b : Fin p) (P : PtA) (k : Nat) : (mulP b P k).1.x < 2 ^ n ∧ (mulP b P k).1.y < 2 ^ n := by rw [mulP_eq hp]; exact res_lt1 hp _ _
theorem mul_lt2 {n p : Nat} [NeZero p] (hp : PrM n p) (b : Cv.F2 p) (P : PtB) (k : Nat) : (mulQ b P k).1.xa < 2 ^ n ∧ (mulQ b P k).1.xb < 2 ^ n ∧ (mulQ b P k).1.ya < 2 ^ n ∧ (mulQ b P k).1.yb < 2 ^ n := by rw [mulQ_eq hp]; exact res_lt2 hp _ _
theorem inf_grp1 {p : Nat} [NeZero p] {b : Fin p} {P : PtA} {r : Nat} (hP : good1 b P = 0) (h : grpP b P r = 0) : mulP b P r = (⟨0, 0, true⟩, 0) := by
  unfold grpP at h
  unfold mulP
  rw [if_neg (fun h => h hP)] at h ⊢
  unfold Cv.down
  split at h
  · next hz =>
    have hz : (Cv.tm (Cv.ops1 Cv.inv1) (Cv.up (Cv.ops1 Cv.inv1) (ptOf p P)) r 256 256).z = (Cv.ops1 Cv.inv1).zero := hz
    rw [if_pos hz]; rfl
  · cases h
theorem grp_one {n p : Nat} [NeZero p] (hp : PrM n p) {b : Fin p} (N : Gp.No2 (Cv.ops1 (Cv.inv1 (p := p))) b) {P : PtA} (hP : good1 b P = 0) {x y : Nat} (h : x + y < 2 ^ 256) :
    ∃ X Y Z : PtA, mulP b P x = (X, 0) ∧ mulP b P y = (Y, 0) ∧ mulP b P (x + y) = (Z, 0) ∧ addP b X Y = (Z, 0) ∧ (X.x < 2 ^ n ∧ X.y < 2 ^ n) ∧ (Y.x < 2 ^ n ∧ Y.y < 2 ^ n) := by
  have g := group1 hp N hP h
  have gx := group1 hp N hP (k := x) (l := 0) (by omega)
  have gy := group1 hp N hP (k := y) (l := 0) (by omega)
  have gz := group1 hp N hP (k := x + y) (l := 0) (by omega)
  refine ⟨(mulP b P x).1, (mulP b P y).1, (mulP b P (x + y)).1, Prod.ext rfl gx.2, Prod.ext rfl gy.2, Prod.ext rfl gz.2, g.1.trans (Prod.ext rfl gz.2), mul_lt1 hp b P x, mul_lt1 hp b P y⟩
theorem grp_two {n p : Nat} [NeZero p] (hp : PrM n p) {b : Cv.F2 p} (N : Gp.No2 (Cv.ops2 (Cv.inv2 (p := p))) b) {P : PtB} (hP : good2 b P = 0) {x y : Nat} (h : x + y < 2 ^ 256) :
    ∃ X Y Z : PtB, mulQ b P x = (X, 0) ∧ mulQ b P y = (Y, 0) ∧ mulQ b P (x + y) = (Z, 0) ∧ addQ b X Y = (Z, 0) ∧ (X.xa < 2 ^ n ∧ X.xb < 2 ^ n ∧ X.ya < 2 ^ n ∧ X.yb < 2 ^ n) ∧ (Y.xa < 2 ^ n ∧ Y.xb < 2 ^ n ∧ Y.ya < 2 ^ n ∧ Y.yb < 2 ^ n) := by
  have g := group2 hp N hP h
  have gx := group2 hp N hP (k := x) (l := 0) (by omega)
  have gy := group2 hp N hP (k := y) (l := 0) (by omega)
  have gz := group2 hp N hP (k := x + y) (l := 0) (by omega)
  refine ⟨(mulQ b P x).1, (mulQ b P y).1, (mulQ b P (x + y)).1, Prod.ext rfl gx.2, Prod.ext rfl gy.2, Prod.ext rfl gz.2, g.1.trans (Prod.ext rfl gz.2), mul_lt2 hp b P x, mul_lt2 hp b P y⟩
theorem bn_good2 : good2 bnC.b2 ⟨bnC.xa, bnC.xb, bnC.ya, bnC.yb, false⟩ = 0 := by
  have e : bnC.b2 = bnB2 := rfl
  rw [e, bnB2_eq]
  decide +kernel
theorem no2_bn2' : Gp.No2 (Cv.ops2 (Cv.inv2 (p := bnP))) bnC.b2 := by
  have e : bnC.b2 = bnB2 := rfl
  rw [e, bnB2_eq]
  exact no2_bn2
theorem lw_group {H : H5} (hH : H = H5.real) (k l m : Nat) (hk : k < 18446744073709551616) (hl : l < 18446744073709551616) (hm : m < 18446744073709551616) : Sp 7 [.s .u64 (k : Int), .s .u64 (l : Int), .s .u64 (m : Int)] (.sb true) := by
  obtain ⟨m2, hm2⟩ : ∃ m2, m2 = m / 2 := ⟨_, rfl⟩
  have hm2l : m2 < 18446744073709551616 := by omega
  have hWW : (2 : Nat) ^ (64 * 2) = 18446744073709551616 * 18446744073709551616 := by decide
  have hx0 := Nat.mul_le_mul_left 18446744073709551616 (show m + 1 ≤ 18446744073709551616 by omega)
  have hy0 := Nat.mul_le_mul_left 18446744073709551616 (show m2 + 1 ≤ 18446744073709551616 by omega)
  have lx := lim_two hH hk hm
  have ly := lim_two hH hl hm2l
  obtain ⟨x, hx⟩ : ∃ x, x = k + 18446744073709551616 * m := ⟨_, rfl⟩
  obtain ⟨y, hy⟩ : ∃ y, y = l + 18446744073709551616 * m2 := ⟨_, rfl⟩
  rw [← hx] at lx
  rw [← hy] at ly
  have hxl : x < 18446744073709551616 * 18446744073709551616 := by rw [hx]; omega
  have hyl : y < 18446744073709551616 * 18446744073709551616 := by rw [hy]; omega
  have hbig : 18446744073709551616 * 18446744073709551616 + 18446744073709551616 * 18446744073709551616 < 2 ^ 256 := by decide
  clear hx hy hx0 hy0
  have hz : x + y < 2 ^ 256 := Nat.lt_trans (Nat.add_lt_add hxl hyl) hbig
  have hx256 : x < 2 ^ 256 := by omega
  have hy256 : y < 2 ^ 256 := by omega
  have kA := rAdd4 (H5.hlim hH) x y (x + y) 0 hx256 hy256 (Nat.mod_eq_of_lt hz).symm (Nat.div_eq_of_lt hz).symm
  obtain ⟨c, hc⟩ : ∃ c, c = bnC := ⟨_, rfl⟩
  obtain ⟨d, hd⟩ : ∃ d, d = blsC := ⟨_, rfl⟩
  have aw := awakeS
  have k1 := BnS hH hc
  have k2 := BlsS hH hd
  have kn := rBnRS hH
  have ko := rBlsRS hH
  have hpx1 : c.x1 < 2 ^ 256 := by rw [hc]; decide
  have hpy1 : c.y1 < 2 ^ 256 := by rw [hc]; decide
  have bp := base1S4 (H := H) c
  obtain ⟨Xp, Yp, Zp, exp, eyp, ezp, eap, hXp, hYp⟩ := grp_one bnPr (b := c.b1) (P := ⟨c.x1, c.y1, false⟩) (by rw [hc]; exact no2_bn) (by rw [hc]; exact (show good1 bnC.b1 ⟨bnC.x1, bnC.y1, false⟩ = 0 by decide +kernel)) hz
  have mxp := mulS1_4 hH bnPr (c := c) (by rw [hc]; rfl) ⟨c.x1, c.y1, false⟩ hpx1 hpy1 x hx256
  rw [exp] at mxp
  have myp := mulS1_4 hH bnPr (c := c) (by rw [hc]; rfl) ⟨c.x1, c.y1, false⟩ hpx1 hpy1 y hy256
  rw [eyp] at myp
  have mzp := mulS1_4 hH bnPr (c := c) (by rw [hc]; rfl) ⟨c.x1, c.y1, false⟩ hpx1 hpy1 (x + y) hz
  rw [ezp] at mzp
  have map := addS1_4 hH bnPr (c := c) (by rw [hc]; rfl) Xp Yp hXp.1 hXp.2 hYp.1 hYp.2
  rw [eap] at map
  have mip := mulS1_4 hH bnPr (c := c) (by rw [hc]; rfl) ⟨c.x1, c.y1, false⟩ hpx1 hpy1 c.r (by rw [hc]; decide)
  have eip : mulP c.b1 ⟨c.x1, c.y1, false⟩ c.r = (⟨0, 0, true⟩, 0) := by rw [hc]; exact inf_grp1 (show good1 bnC.b1 ⟨bnC.x1, bnC.y1, false⟩ = 0 by decide +kernel) bn_grp1
  rw [eip] at mip
  clear exp eyp ezp eap hXp hYp eip
  have hqx1 : d.x1 < 2 ^ 384 := by rw [hd]; decide
  have hqy1 : d.y1 < 2 ^ 384 := by rw [hd]; decide
  have bq := base1S6 (H := H) d
  obtain ⟨Xq, Yq, Zq, exq, eyq, ezq, eaq, hXq, hYq⟩ := grp_one blsPr (b := d.b1) (P := ⟨d.x1, d.y1, false⟩) (by rw [hd]; exact no2_bls) (by rw [hd]; exact (show good1 blsC.b1 ⟨blsC.x1, blsC.y1, false⟩ = 0 by decide +kernel)) hz
  have mxq := mulS1_6 hH blsPr (c := d) (by rw [hd]; rfl) ⟨d.x1, d.y1, false⟩ hqx1 hqy1 x hx256
  rw [exq] at mxq
  have myq := mulS1_6 hH blsPr (c := d) (by rw [hd]; rfl) ⟨d.x1, d.y1, false⟩ hqx1 hqy1 y hy256
  rw [eyq] at myq
  have mzq := mulS1_6 hH blsPr (c := d) (by rw [hd]; rfl) ⟨d.x1, d.y1, false⟩ hqx1 hqy1 (x + y) hz
  rw [ezq] at mzq
  have maq := addS1_6 hH blsPr (c := d) (by rw [hd]; rfl) Xq Yq hXq.1 hXq.2 hYq.1 hYq.2
  rw [eaq] at maq
  have miq := mulS1_6 hH blsPr (c := d) (by rw [hd]; rfl) ⟨d.x1, d.y1, false⟩ hqx1 hqy1 d.r (by rw [hd]; decide)
  have eiq : mulP d.b1 ⟨d.x1, d.y1, false⟩ d.r = (⟨0, 0, true⟩, 0) := by rw [hd]; exact inf_grp1 (show good1 blsC.b1 ⟨blsC.x1, blsC.y1, false⟩ = 0 by decide +kernel) bls_grp1
  rw [eiq] at miq
  clear exq eyq ezq eaq hXq hYq eiq
  have hrxa : c.xa < 2 ^ 256 := by rw [hc]; decide
  have hrxb : c.xb < 2 ^ 256 := by rw [hc]; decide
  have hrya : c.ya < 2 ^ 256 := by rw [hc]; decide
  have hryb : c.yb < 2 ^ 256 := by rw [hc]; decide
  have br := base2S4 (H := H) c
  obtain ⟨Xr, Yr, Zr, exr, eyr, ezr, ear, hXr, hYr⟩ := grp_two bnPr (b := c.b2) (P := ⟨c.xa, c.xb, c.ya, c.yb, false⟩) (by rw [hc]; exact no2_bn2') (by rw [hc]; exact bn_good2) hz
  have mxr := mulS2_4 hH bnPr (c := c) (by rw [hc]; rfl) ⟨c.xa, c.xb, c.ya, c.yb, false⟩ hrxa hrxb hrya hryb x hx256
  rw [exr] at mxr
  have myr := mulS2_4 hH bnPr (c := c) (by rw [hc]; rfl) ⟨c.xa, c.xb, c.ya, c.yb, false⟩ hrxa hrxb hrya hryb y hy256
  rw [eyr] at myr
  have mzr := mulS2_4 hH bnPr (c := c) (by rw [hc]; rfl) ⟨c.xa, c.xb, c.ya, c.yb, false⟩ hrxa hrxb hrya hryb (x + y) hz
  rw [ezr] at mzr
  have mar := addS2_4 hH bnPr (c := c) (by rw [hc]; rfl) Xr Yr hXr.1 hXr.2.1 hXr.2.2.1 hXr.2.2.2 hYr.1 hYr.2.1 hYr.2.2.1 hYr.2.2.2
  rw [ear] at mar
  clear exr eyr ezr ear hXr hYr 
  rw [show bnR = c.r by rw [hc]; rfl] at kn
  rw [show blsR = d.r by rw [hd]; rfl] at ko
  clear hc hd
  generalize x + y = w at *
  refine mk Tryz.func7 rfl rfl L0 R1 (by decide +kernel) fun A S hA hS => ?_
  have hsh : (m2 : Int) = A.bin .shr .u64 (m : Int) 1 := by rw [hA, hm2]; exact (u_shr m 1 (by omega)).symm
  obtain ⟨lx0, lx1, lx2, lx3⟩ := lx
  obtain ⟨ly0, ly1, ly2, ly3⟩ := ly
  rw [hsh] at ly1
  have ux : u4 H.lim x = .agg [.s .u64 (k : Int), .s .u64 (m : Int), .s .u64 0, .s .u64 0] := by unfold u4; rw [lx0, lx1, lx2, lx3]
  have uy : u4 H.lim y = .agg [.s .u64 (l : Int), .s .u64 (A.bin .shr .u64 (m : Int) 1), .s .u64 0, .s .u64 0] := by unfold u4; rw [ly0, ly1, ly2, ly3]
  have wx : ws4 H.lim x = [.s .u64 (k : Int), .s .u64 (m : Int), .s .u64 0, .s .u64 0] := by unfold ws4; rw [lx0, lx1, lx2, lx3]
  have wy : ws4 H.lim y = [.s .u64 (l : Int), .s .u64 (A.bin .shr .u64 (m : Int) 1), .s .u64 0, .s .u64 0] := by unfold ws4; rw [ly0, ly1, ly2, ly3]
  rw [ux] at mxp mxq mxr
  rw [uy] at myp myq myr
  rw [wx, wy] at kA
  clear lx0 lx1 lx2 lx3 ly0 ly1 ly2 ly3 ux uy wx wy hsh hm2 hm2l
  have ok0 : A.cmp .neq ((0 : Nat) : Int) 0 = false := i_ne hA
  have ok1 : A.cmp .eql ((0 : Nat) : Int) 0 = true := i_eq hA
  have q1 := eqP14 hA (H := H) Zp.x Zp.y Zp.inf
  have q2 := eqP16 hA (H := H) Zq.x Zq.y Zq.inf
  have q3 := eqP24 hA (H := H) Zr.xa Zr.xb Zr.ya Zr.yb Zr.inf
  have n1 := i_not hA q1
  have n2 := i_not hA q2
  unfold bodyOf Tryz.f7
  cbv
  repeat (first
    | (refine ABr.t (by assumption) ?_; cbv)
    | (refine ABr.f (by assumption) ?_; cbv)
    | (refine ABr.t rfl ?_; cbv)
    | (refine ABr.f rfl ?_; cbv)
    | (refine ACall.mk _ (cf hS aw) ?_; cbv)
    | (refine ACall.mk _ (cf hS k1) ?_; cbv)
    | (refine ACall.mk _ (cf hS k2) ?_; cbv)
    | (refine ACall.mk _ (cf hS bp) ?_; cbv)
    | (refine ACall.mk _ (cf hS bq) ?_; cbv)
    | (refine ACall.mk _ (cf hS br) ?_; cbv)
    | (refine ACall.mk _ (cg hS kA ?_) ?_; (focus (cbv; done)); cbv)
    | (refine ACall.mk _ (cg hS mxp ?_) ?_; (focus (cbv; done)); cbv)
    | (refine ACall.mk _ (cg hS mxq ?_) ?_; (focus (cbv; done)); cbv)
    | (refine ACall.mk _ (cg hS mxr ?_) ?_; (focus (cbv; done)); cbv)
    | (refine ACall.mk _ (cg hS myp ?_) ?_; (focus (cbv; done)); cbv)
    | (refine ACall.mk _ (cg hS myq ?_) ?_; (focus (cbv; done)); cbv)
    | (refine ACall.mk _ (cg hS myr ?_) ?_; (focus (cbv; done)); cbv)
    | (refine ACall.mk _ (cf hS map) ?_; cbv)
    | (refine ACall.mk _ (cf hS maq) ?_; cbv)
    | (refine ACall.mk _ (cf hS mar) ?_; cbv)
    | (refine ACall.mk _ (cf hS mzp) ?_; cbv)
    | (refine ACall.mk _ (cf hS mzq) ?_; cbv)
    | (refine ACall.mk _ (cf hS mzr) ?_; cbv)
    | (refine ACall.mk _ (cf hS kn) ?_; cbv)
    | (refine ACall.mk _ (cf hS ko) ?_; cbv)
    | (refine ACall.mk _ (cf hS mip) ?_; cbv)
    | (refine ACall.mk _ (cf hS miq) ?_; cbv))
end Go.Proofs.YtmholgclgamnnaaGreat
end
