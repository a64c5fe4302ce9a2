import Derived.Test.YtmholgclgamnnaaGreatQZCF
set_option linter.unusedVariables false
set_option linter.unusedSectionVars false
set_option linter.unusedSimpArgs false
namespace Go.Proofs.YtmholgclgamnnaaGreat
open Go Eng
set_option maxRecDepth 100000
set_option exponentiation.threshold 2000
set_option maxHeartbeats 4000000
section
variable {p : Nat} [NeZero p]
theorem AddF4 {H : H5} (hH : H = H5.real) (hp : PrM 256 p) (a c : Fin p) : Sp 176 [.ref (R4 H p) 0, el4 H p a.val, el4 H p c.val] (el4 H p (a + c).val) := by
  have h := AddS4 hH hp.toMod (a := a.val) (b := c.val)
  have e : H.add p a.val c.val = (a + c).val := by rw [hH]; exact (Fin.val_add a c).symm
  rw [e] at h; exact h
theorem SubF4 {H : H5} (hH : H = H5.real) (hp : PrM 256 p) (a c : Fin p) : Sp 174 [.ref (R4 H p) 0, el4 H p a.val, el4 H p c.val] (el4 H p (a - c).val) := by
  have h := SubS4 hH hp.toMod c.isLt (a := a.val) (b := c.val)
  have e : H.sub p a.val c.val = (a - c).val := by rw [hH]; exact fin_sub a c
  rw [e] at h; exact h
theorem MulF4 {H : H5} (hH : H = H5.real) (hp : PrM 256 p) (a c : Fin p) : Sp 175 [.ref (R4 H p) 0, el4 H p a.val, el4 H p c.val] (el4 H p (a * c).val) := by
  have h := MulS4 hH hp.toMod (a := a.val) (b := c.val)
  have e : H.mul p a.val c.val = (a * c).val := by rw [hH]; exact (Fin.val_mul a c).symm
  rw [e] at h; exact h
theorem NegF4 {H : H5} (hH : H = H5.real) (hp : PrM 256 p) (a : Fin p) : Sp 178 [.ref (R4 H p) 0, el4 H p a.val] (el4 H p (0 - a).val) := by
  have h := NegS4 hH hp.toMod a.isLt
  have e : H.sub p 0 a.val = (0 - a).val := by rw [hH]; exact fin_sub 0 a
  rw [e] at h; exact h
theorem InvF4 {H : H5} (hH : H = H5.real) (hp : PrM 256 p) (a : Fin p) : Sp 177 [.ref (R4 H p) 0, el4 H p a.val] (el4 H p (Cv.inv1 a).val) := by
  have h := InvS4 hH hp.toMod a.isLt
  have e : H.pow p a.val (p - 2) = (Cv.inv1 a).val := by rw [hH]; rfl
  rw [e] at h; exact h
/-- The pair's cells. -/
def el2_4 (H : H5) (p a b : Nat) : AVal := .agg [.s .u64 (H.lim (H.mf 256 p a) 0), .s .u64 (H.lim (H.mf 256 p a) 1), .s .u64 (H.lim (H.mf 256 p a) 2), .s .u64 (H.lim (H.mf 256 p a) 3), .s .u64 (H.lim (H.mf 256 p b) 0), .s .u64 (H.lim (H.mf 256 p b) 1), .s .u64 (H.lim (H.mf 256 p b) 2), .s .u64 (H.lim (H.mf 256 p b) 3)]
theorem add2_4 {H : H5} (hH : H = H5.real) (hp : PrM 256 p) (a b c d : Fin p) : Sp 260 [.agg [.ref (R4 H p) 0], el2_4 H p a.val b.val, el2_4 H p c.val d.val] (el2_4 H p (a + c).val (b + d).val) := by
  have h1 := AddF4 hH hp a c
  have h2 := AddF4 hH hp b d
  generalize a + c = x at *
  generalize b + d = y at *
  refine mk Tryz.func260 rfl rfl L0 R1 (by decide +kernel) fun A S hA hS => ?_
  unfold bodyOf Tryz.f260
  cbv
  refine ACall.mk _ (cf hS h1) ?_
  cbv
  refine ACall.mk _ (cf hS h2) ?_
  cbv
theorem sub2_4 {H : H5} (hH : H = H5.real) (hp : PrM 256 p) (a b c d : Fin p) : Sp 261 [.agg [.ref (R4 H p) 0], el2_4 H p a.val b.val, el2_4 H p c.val d.val] (el2_4 H p (a - c).val (b - d).val) := by
  have h1 := SubF4 hH hp a c
  have h2 := SubF4 hH hp b d
  generalize a - c = x at *
  generalize b - d = y at *
  refine mk Tryz.func261 rfl rfl L0 R1 (by decide +kernel) fun A S hA hS => ?_
  unfold bodyOf Tryz.f261
  cbv
  refine ACall.mk _ (cf hS h1) ?_
  cbv
  refine ACall.mk _ (cf hS h2) ?_
  cbv
theorem mul2_4 {H : H5} (hH : H = H5.real) (hp : PrM 256 p) (a b c d : Fin p) : Sp 103 [.agg [.ref (R4 H p) 0], el2_4 H p a.val b.val, el2_4 H p c.val d.val] (el2_4 H p (a * c - b * d).val (a * d + b * c).val) := by
  have h1 := MulF4 hH hp a c
  have h2 := MulF4 hH hp b d
  have h3 := MulF4 hH hp a d
  have h4 := MulF4 hH hp b c
  generalize a * c = x at *
  generalize b * d = y at *
  generalize a * d = z at *
  generalize b * c = w at *
  have h5 := SubF4 hH hp x y
  have h6 := AddF4 hH hp z w
  generalize x - y = u at *
  generalize z + w = v at *
  refine mk Tryz.func103 rfl rfl L0 R1 (by decide +kernel) fun A S hA hS => ?_
  unfold bodyOf Tryz.f103
  cbv
  refine ACall.mk _ (cf hS h1) ?_
  cbv
  refine ACall.mk _ (cf hS h2) ?_
  cbv
  refine ACall.mk _ (cf hS h5) ?_
  cbv
  refine ACall.mk _ (cf hS h3) ?_
  cbv
  refine ACall.mk _ (cf hS h4) ?_
  cbv
  refine ACall.mk _ (cf hS h6) ?_
  cbv
theorem inv2_4 {H : H5} (hH : H = H5.real) (hp : PrM 256 p) (a b : Fin p) : Sp 104 [.agg [.ref (R4 H p) 0], el2_4 H p a.val b.val] (el2_4 H p (a * Cv.inv1 (a * a + b * b)).val (0 - b * Cv.inv1 (a * a + b * b)).val) := by
  have h1 := MulF4 hH hp a a
  have h2 := MulF4 hH hp b b
  generalize a * a = x at *
  generalize b * b = y at *
  have h3 := AddF4 hH hp x y
  generalize x + y = z at *
  have h4 := InvF4 hH hp z
  generalize Cv.inv1 z = i at *
  have h5 := MulF4 hH hp a i
  have h6 := MulF4 hH hp b i
  generalize a * i = u at *
  generalize b * i = v at *
  have h7 := NegF4 hH hp v
  generalize 0 - v = w at *
  refine mk Tryz.func104 rfl rfl L0 R1 (by decide +kernel) fun A S hA hS => ?_
  unfold bodyOf Tryz.f104
  cbv
  refine ACall.mk _ (cf hS h1) ?_
  cbv
  refine ACall.mk _ (cf hS h2) ?_
  cbv
  refine ACall.mk _ (cf hS h3) ?_
  cbv
  refine ACall.mk _ (cf hS h4) ?_
  cbv
  refine ACall.mk _ (cf hS h5) ?_
  cbv
  refine ACall.mk _ (cf hS h6) ?_
  cbv
  refine ACall.mk _ (cf hS h7) ?_
  cbv
theorem ok2_4 {H : H5} (hH : H = H5.real) (hp : PrM 256 p) : Okt4 (K2_4 H p) (R4 H p) where
  add x y := add2_4 hH hp x.a x.b y.a y.b
  sub x y := sub2_4 hH hp x.a x.b y.a y.b
  mul x y := mul2_4 hH hp x.a x.b y.a y.b
  inv x := inv2_4 hH hp x.a x.b
  zero i hi := by
    show (if i < 4 then _ else _) = (0 : Int)
    split
    · exact mf_zero4 hH i
    · exact mf_zero4 hH _
  sim := simR4 H p
  inj x y h := by
    obtain ⟨xa, xb⟩ := x
    obtain ⟨ya, yb⟩ := y
    have e1 := el_inj4 hH hp xa ya
    have e2 := el_inj4 hH hp xb yb
    obtain ⟨h0, h1, h2, h3, h4, h5, h6, h7⟩ := h
    rw [e1 ⟨h0, h1, h2, h3⟩, e2 ⟨h4, h5, h6, h7⟩]
theorem AddF6 {H : H5} (hH : H = H5.real) (hp : PrM 384 p) (a c : Fin p) : Sp 144 [.ref (R6 H p) 0, el6 H p a.val, el6 H p c.val] (el6 H p (a + c).val) := by
  have h := AddS6 hH hp.toMod (a := a.val) (b := c.val)
  have e : H.add p a.val c.val = (a + c).val := by rw [hH]; exact (Fin.val_add a c).symm
  rw [e] at h; exact h
theorem SubF6 {H : H5} (hH : H = H5.real) (hp : PrM 384 p) (a c : Fin p) : Sp 218 [.ref (R6 H p) 0, el6 H p a.val, el6 H p c.val] (el6 H p (a - c).val) := by
  have h := SubS6 hH hp.toMod c.isLt (a := a.val) (b := c.val)
  have e : H.sub p a.val c.val = (a - c).val := by rw [hH]; exact fin_sub a c
  rw [e] at h; exact h
theorem MulF6 {H : H5} (hH : H = H5.real) (hp : PrM 384 p) (a c : Fin p) : Sp 145 [.ref (R6 H p) 0, el6 H p a.val, el6 H p c.val] (el6 H p (a * c).val) := by
  have h := MulS6 hH hp.toMod (a := a.val) (b := c.val)
  have e : H.mul p a.val c.val = (a * c).val := by rw [hH]; exact (Fin.val_mul a c).symm
  rw [e] at h; exact h
theorem NegF6 {H : H5} (hH : H = H5.real) (hp : PrM 384 p) (a : Fin p) : Sp 196 [.ref (R6 H p) 0, el6 H p a.val] (el6 H p (0 - a).val) := by
  have h := NegS6 hH hp.toMod a.isLt
  have e : H.sub p 0 a.val = (0 - a).val := by rw [hH]; exact fin_sub 0 a
  rw [e] at h; exact h
theorem InvF6 {H : H5} (hH : H = H5.real) (hp : PrM 384 p) (a : Fin p) : Sp 248 [.ref (R6 H p) 0, el6 H p a.val] (el6 H p (Cv.inv1 a).val) := by
  have h := InvS6 hH hp.toMod a.isLt
  have e : H.pow p a.val (p - 2) = (Cv.inv1 a).val := by rw [hH]; rfl
  rw [e] at h; exact h
/-- The pair's cells. -/
def el2_6 (H : H5) (p a b : Nat) : AVal := .agg [.s .u64 (H.lim (H.mf 384 p a) 0), .s .u64 (H.lim (H.mf 384 p a) 1), .s .u64 (H.lim (H.mf 384 p a) 2), .s .u64 (H.lim (H.mf 384 p a) 3), .s .u64 (H.lim (H.mf 384 p a) 4), .s .u64 (H.lim (H.mf 384 p a) 5), .s .u64 (H.lim (H.mf 384 p b) 0), .s .u64 (H.lim (H.mf 384 p b) 1), .s .u64 (H.lim (H.mf 384 p b) 2), .s .u64 (H.lim (H.mf 384 p b) 3), .s .u64 (H.lim (H.mf 384 p b) 4), .s .u64 (H.lim (H.mf 384 p b) 5)]
theorem add2_6 {H : H5} (hH : H = H5.real) (hp : PrM 384 p) (a b c d : Fin p) : Sp 256 [.agg [.ref (R6 H p) 0], el2_6 H p a.val b.val, el2_6 H p c.val d.val] (el2_6 H p (a + c).val (b + d).val) := by
  have h1 := AddF6 hH hp a c
  have h2 := AddF6 hH hp b d
  generalize a + c = x at *
  generalize b + d = y at *
  refine mk Tryz.func256 rfl rfl L0 R1 (by decide +kernel) fun A S hA hS => ?_
  unfold bodyOf Tryz.f256
  cbv
  refine ACall.mk _ (cf hS h1) ?_
  cbv
  refine ACall.mk _ (cf hS h2) ?_
  cbv
theorem sub2_6 {H : H5} (hH : H = H5.real) (hp : PrM 384 p) (a b c d : Fin p) : Sp 259 [.agg [.ref (R6 H p) 0], el2_6 H p a.val b.val, el2_6 H p c.val d.val] (el2_6 H p (a - c).val (b - d).val) := by
  have h1 := SubF6 hH hp a c
  have h2 := SubF6 hH hp b d
  generalize a - c = x at *
  generalize b - d = y at *
  refine mk Tryz.func259 rfl rfl L0 R1 (by decide +kernel) fun A S hA hS => ?_
  unfold bodyOf Tryz.f259
  cbv
  refine ACall.mk _ (cf hS h1) ?_
  cbv
  refine ACall.mk _ (cf hS h2) ?_
  cbv
theorem mul2_6 {H : H5} (hH : H = H5.real) (hp : PrM 384 p) (a b c d : Fin p) : Sp 258 [.agg [.ref (R6 H p) 0], el2_6 H p a.val b.val, el2_6 H p c.val d.val] (el2_6 H p (a * c - b * d).val (a * d + b * c).val) := by
  have h1 := MulF6 hH hp a c
  have h2 := MulF6 hH hp b d
  have h3 := MulF6 hH hp a d
  have h4 := MulF6 hH hp b c
  generalize a * c = x at *
  generalize b * d = y at *
  generalize a * d = z at *
  generalize b * c = w at *
  have h5 := SubF6 hH hp x y
  have h6 := AddF6 hH hp z w
  generalize x - y = u at *
  generalize z + w = v at *
  refine mk Tryz.func258 rfl rfl L0 R1 (by decide +kernel) fun A S hA hS => ?_
  unfold bodyOf Tryz.f258
  cbv
  refine ACall.mk _ (cf hS h1) ?_
  cbv
  refine ACall.mk _ (cf hS h2) ?_
  cbv
  refine ACall.mk _ (cf hS h5) ?_
  cbv
  refine ACall.mk _ (cf hS h3) ?_
  cbv
  refine ACall.mk _ (cf hS h4) ?_
  cbv
  refine ACall.mk _ (cf hS h6) ?_
  cbv
theorem inv2_6 {H : H5} (hH : H = H5.real) (hp : PrM 384 p) (a b : Fin p) : Sp 257 [.agg [.ref (R6 H p) 0], el2_6 H p a.val b.val] (el2_6 H p (a * Cv.inv1 (a * a + b * b)).val (0 - b * Cv.inv1 (a * a + b * b)).val) := by
  have h1 := MulF6 hH hp a a
  have h2 := MulF6 hH hp b b
  generalize a * a = x at *
  generalize b * b = y at *
  have h3 := AddF6 hH hp x y
  generalize x + y = z at *
  have h4 := InvF6 hH hp z
  generalize Cv.inv1 z = i at *
  have h5 := MulF6 hH hp a i
  have h6 := MulF6 hH hp b i
  generalize a * i = u at *
  generalize b * i = v at *
  have h7 := NegF6 hH hp v
  generalize 0 - v = w at *
  refine mk Tryz.func257 rfl rfl L0 R1 (by decide +kernel) fun A S hA hS => ?_
  unfold bodyOf Tryz.f257
  cbv
  refine ACall.mk _ (cf hS h1) ?_
  cbv
  refine ACall.mk _ (cf hS h2) ?_
  cbv
  refine ACall.mk _ (cf hS h3) ?_
  cbv
  refine ACall.mk _ (cf hS h4) ?_
  cbv
  refine ACall.mk _ (cf hS h5) ?_
  cbv
  refine ACall.mk _ (cf hS h6) ?_
  cbv
  refine ACall.mk _ (cf hS h7) ?_
  cbv
theorem ok2_6 {H : H5} (hH : H = H5.real) (hp : PrM 384 p) : Okt6 (K2_6 H p) (R6 H p) where
  add x y := add2_6 hH hp x.a x.b y.a y.b
  sub x y := sub2_6 hH hp x.a x.b y.a y.b
  mul x y := mul2_6 hH hp x.a x.b y.a y.b
  inv x := inv2_6 hH hp x.a x.b
  zero i hi := by
    show (if i < 6 then _ else _) = (0 : Int)
    split
    · exact mf_zero6 hH i
    · exact mf_zero6 hH _
  sim := simR6 H p
  inj x y h := by
    obtain ⟨xa, xb⟩ := x
    obtain ⟨ya, yb⟩ := y
    have e1 := el_inj6 hH hp xa ya
    have e2 := el_inj6 hH hp xb yb
    obtain ⟨h0, h1, h2, h3, h4, h5, h6, h7, h8, h9, h10, h11⟩ := h
    rw [e1 ⟨h0, h1, h2, h3, h4, h5⟩, e2 ⟨h6, h7, h8, h9, h10, h11⟩]
end
end Go.Proofs.YtmholgclgamnnaaGreat
