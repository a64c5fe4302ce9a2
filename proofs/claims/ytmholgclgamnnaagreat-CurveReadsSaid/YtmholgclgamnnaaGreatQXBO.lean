import Derived.Test.YtmholgclgamnnaaGreatQXN
import Derived.Test.YtmholgclgamnnaaGreatQXU
import Derived.Test.YtmholgclgamnnaaGreatQXF
set_option linter.unusedVariables false
set_option linter.unusedSimpArgs false
set_option linter.unusedSectionVars false
set_option maxRecDepth 100000
set_option exponentiation.threshold 2000
set_option maxHeartbeats 4000000
section
namespace Go.Proofs.YtmholgclgamnnaaGreat
open Go Eng
structure PrM (b p : Nat) : Prop extends Mod b p where
 pr : NT.Pr p
 two : 2 < p
 four : p % 4 = 3
theorem PrM.ne {b p : Nat} (h : PrM b p) : (1 : Nat) % p = 1 := Nat.mod_eq_of_lt h.one
section
variable {p : Nat} [NeZero p]
theorem fin_sub (a c : Fin p) : (a.val + p - c.val) % p = (a - c).val := by
 rw [Fin.sub_def]
 show _ = (p - c.val + a.val) % p
 have := c.isLt
 congr 1
 omega
def K1_4 (H : H5) (p : Nat) [NeZero p] : Kd (Fin p) := ⟨Cv.ops1 Cv.inv1, fun a i => H.lim (H.mf 256 p a.val) i⟩
def K2_4 (H : H5) (p : Nat) [NeZero p] : Kd (Cv.F2 p) := ⟨Cv.ops2 Cv.inv2, fun a i => if i < 4 then H.lim (H.mf 256 p a.a.val) i else H.lim (H.mf 256 p a.b.val) (i - 4)⟩
theorem simR4 (H : H5) (m : Nat) : ∀ d, simL (simD (d + 1)) (R4 H m) (R4 H m) := by
 intro d
 unfold R4 ring4
 simp [simL, simD, onlyIf]
theorem add1_4 {H : H5} (hH : H = H5.real) (hp : PrM 256 p) (a c : Fin p) : Sp 262 [.agg [.ref (R4 H p) 0], el4 H p a.val, el4 H p c.val] (el4 H p (a + c).val) := by
 have h := AddS4 hH hp.toMod (a := a.val) (b := c.val)
 have e : H.add p a.val c.val = (a + c).val := by rw [hH]; exact (Fin.val_add a c).symm
 rw [e] at h
 refine mk Tryz.func262 rfl rfl L0 R1 (by decide +kernel) fun A S hA hS => ?_
 unfold bodyOf Tryz.f262
 cbv
 refine aF hS h ?_
 cbv
theorem sub1_4 {H : H5} (hH : H = H5.real) (hp : PrM 256 p) (a c : Fin p) : Sp 265 [.agg [.ref (R4 H p) 0], el4 H p a.val, el4 H p c.val] (el4 H p (a - c).val) := by
 have h := SubS4 hH hp.toMod c.isLt (a := a.val) (b := c.val)
 have e : H.sub p a.val c.val = (a - c).val := by rw [hH]; exact fin_sub a c
 rw [e] at h
 refine mk Tryz.func265 rfl rfl L0 R1 (by decide +kernel) fun A S hA hS => ?_
 unfold bodyOf Tryz.f265
 cbv
 refine aF hS h ?_
 cbv
theorem mul1_4 {H : H5} (hH : H = H5.real) (hp : PrM 256 p) (a c : Fin p) : Sp 264 [.agg [.ref (R4 H p) 0], el4 H p a.val, el4 H p c.val] (el4 H p (a * c).val) := by
 have h := MulS4 hH hp.toMod (a := a.val) (b := c.val)
 have e : H.mul p a.val c.val = (a * c).val := by rw [hH]; exact (Fin.val_mul a c).symm
 rw [e] at h
 refine mk Tryz.func264 rfl rfl L0 R1 (by decide +kernel) fun A S hA hS => ?_
 unfold bodyOf Tryz.f264
 cbv
 refine aF hS h ?_
 cbv
theorem inv1_4 {H : H5} (hH : H = H5.real) (hp : PrM 256 p) (a : Fin p) : Sp 263 [.agg [.ref (R4 H p) 0], el4 H p a.val] (el4 H p (Cv.inv1 a).val) := by
 have h := InvS4 hH hp.toMod a.isLt
 have e : H.pow p a.val (p - 2) = (Cv.inv1 a).val := by rw [hH]; rfl
 rw [e] at h
 refine mk Tryz.func263 rfl rfl L0 R1 (by decide +kernel) fun A S hA hS => ?_
 unfold bodyOf Tryz.f263
 cbv
 refine aF hS h ?_
 cbv
theorem mf_zero4 {H : H5} (hH : H = H5.real) : ∀ i, H.lim (H.mf 256 p ((0 : Fin p).val)) i = 0 := by
 intro i
 rw [hH, Cv.val_zero]
 show limR (0 * 2 ^ 256 % p) i = 0
 rw [Nat.zero_mul, Nat.zero_mod]
 unfold limR
 rw [Nat.zero_div]; rfl
theorem el_inj4 {H : H5} (hH : H = H5.real) (hp : PrM 256 p) (a c : Fin p) (h : H.lim (H.mf 256 p a.val) 0 = H.lim (H.mf 256 p c.val) 0 ∧ H.lim (H.mf 256 p a.val) 1 = H.lim (H.mf 256 p c.val) 1 ∧ H.lim (H.mf 256 p a.val) 2 = H.lim (H.mf 256 p c.val) 2 ∧ H.lim (H.mf 256 p a.val) 3 = H.lim (H.mf 256 p c.val) 3) : a = c := by
 have hl := H5.hlim hH
 have h1 : ∀ x : Fin p, H.mf 256 p x.val < 2 ^ 256 := fun x => by rw [hH]; exact Nat.lt_trans (mf_lt hp.pos) hp.lt
 have e := lim_inj4 hl (h1 a) (h1 c) h
 rw [hH] at e
 exact Fin.ext (mf_inj hp.odd a.isLt c.isLt e)
theorem ok1_4 {H : H5} (hH : H = H5.real) (hp : PrM 256 p) : Okb4 (K1_4 H p) (R4 H p) where
 add := add1_4 hH hp
 sub := sub1_4 hH hp
 mul := mul1_4 hH hp
 inv := inv1_4 hH hp
 zero i _ := mf_zero4 hH i
 sim := simR4 H p
 inj a c h := el_inj4 hH hp a c h
def K1_6 (H : H5) (p : Nat) [NeZero p] : Kd (Fin p) := ⟨Cv.ops1 Cv.inv1, fun a i => H.lim (H.mf 384 p a.val) i⟩
def K2_6 (H : H5) (p : Nat) [NeZero p] : Kd (Cv.F2 p) := ⟨Cv.ops2 Cv.inv2, fun a i => if i < 6 then H.lim (H.mf 384 p a.a.val) i else H.lim (H.mf 384 p a.b.val) (i - 6)⟩
theorem simR6 (H : H5) (m : Nat) : ∀ d, simL (simD (d + 1)) (R6 H m) (R6 H m) := by
 intro d
 unfold R6 ring6
 simp [simL, simD, onlyIf]
theorem add1_6 {H : H5} (hH : H = H5.real) (hp : PrM 384 p) (a c : Fin p) : Sp 251 [.agg [.ref (R6 H p) 0], el6 H p a.val, el6 H p c.val] (el6 H p (a + c).val) := by
 have h := AddS6 hH hp.toMod (a := a.val) (b := c.val)
 have e : H.add p a.val c.val = (a + c).val := by rw [hH]; exact (Fin.val_add a c).symm
 rw [e] at h
 refine mk Tryz.func251 rfl rfl L0 R1 (by decide +kernel) fun A S hA hS => ?_
 unfold bodyOf Tryz.f251
 cbv
 refine aF hS h ?_
 cbv
theorem sub1_6 {H : H5} (hH : H = H5.real) (hp : PrM 384 p) (a c : Fin p) : Sp 254 [.agg [.ref (R6 H p) 0], el6 H p a.val, el6 H p c.val] (el6 H p (a - c).val) := by
 have h := SubS6 hH hp.toMod c.isLt (a := a.val) (b := c.val)
 have e : H.sub p a.val c.val = (a - c).val := by rw [hH]; exact fin_sub a c
 rw [e] at h
 refine mk Tryz.func254 rfl rfl L0 R1 (by decide +kernel) fun A S hA hS => ?_
 unfold bodyOf Tryz.f254
 cbv
 refine aF hS h ?_
 cbv
theorem mul1_6 {H : H5} (hH : H = H5.real) (hp : PrM 384 p) (a c : Fin p) : Sp 253 [.agg [.ref (R6 H p) 0], el6 H p a.val, el6 H p c.val] (el6 H p (a * c).val) := by
 have h := MulS6 hH hp.toMod (a := a.val) (b := c.val)
 have e : H.mul p a.val c.val = (a * c).val := by rw [hH]; exact (Fin.val_mul a c).symm
 rw [e] at h
 refine mk Tryz.func253 rfl rfl L0 R1 (by decide +kernel) fun A S hA hS => ?_
 unfold bodyOf Tryz.f253
 cbv
 refine aF hS h ?_
 cbv
theorem inv1_6 {H : H5} (hH : H = H5.real) (hp : PrM 384 p) (a : Fin p) : Sp 252 [.agg [.ref (R6 H p) 0], el6 H p a.val] (el6 H p (Cv.inv1 a).val) := by
 have h := InvS6 hH hp.toMod a.isLt
 have e : H.pow p a.val (p - 2) = (Cv.inv1 a).val := by rw [hH]; rfl
 rw [e] at h
 refine mk Tryz.func252 rfl rfl L0 R1 (by decide +kernel) fun A S hA hS => ?_
 unfold bodyOf Tryz.f252
 cbv
 refine aF hS h ?_
 cbv
theorem mf_zero6 {H : H5} (hH : H = H5.real) : ∀ i, H.lim (H.mf 384 p ((0 : Fin p).val)) i = 0 := by
 intro i
 rw [hH, Cv.val_zero]
 show limR (0 * 2 ^ 384 % p) i = 0
 rw [Nat.zero_mul, Nat.zero_mod]
 unfold limR
 rw [Nat.zero_div]; rfl
theorem el_inj6 {H : H5} (hH : H = H5.real) (hp : PrM 384 p) (a c : Fin p) (h : H.lim (H.mf 384 p a.val) 0 = H.lim (H.mf 384 p c.val) 0 ∧ H.lim (H.mf 384 p a.val) 1 = H.lim (H.mf 384 p c.val) 1 ∧ H.lim (H.mf 384 p a.val) 2 = H.lim (H.mf 384 p c.val) 2 ∧ H.lim (H.mf 384 p a.val) 3 = H.lim (H.mf 384 p c.val) 3 ∧ H.lim (H.mf 384 p a.val) 4 = H.lim (H.mf 384 p c.val) 4 ∧ H.lim (H.mf 384 p a.val) 5 = H.lim (H.mf 384 p c.val) 5) : a = c := by
 have hl := H5.hlim hH
 have h1 : ∀ x : Fin p, H.mf 384 p x.val < 2 ^ 384 := fun x => by rw [hH]; exact Nat.lt_trans (mf_lt hp.pos) hp.lt
 have e := lim_inj6 hl (h1 a) (h1 c) h
 rw [hH] at e
 exact Fin.ext (mf_inj hp.odd a.isLt c.isLt e)
theorem ok1_6 {H : H5} (hH : H = H5.real) (hp : PrM 384 p) : Okb6 (K1_6 H p) (R6 H p) where
 add := add1_6 hH hp
 sub := sub1_6 hH hp
 mul := mul1_6 hH hp
 inv := inv1_6 hH hp
 zero i _ := mf_zero6 hH i
 sim := simR6 H p
 inj a c h := el_inj6 hH hp a c h
end
section
variable {p : Nat} [NeZero p]
theorem AddF4 {H : H5} (hH : H = H5.real) (hp : PrM 256 p) (a c : Fin p) : Sp 176 [.ref (R4 H p) 0, el4 H p a.val, el4 H p c.val] (el4 H p (a + c).val) := by
 have h := AddS4 hH hp.toMod (a := a.val) (b := c.val)
 have e : H.add p a.val c.val = (a + c).val := by rw [hH]; exact (Fin.val_add a c).symm
 rw [e] at h; exact h
theorem SubF4 {H : H5} (hH : H = H5.real) (hp : PrM 256 p) (a c : Fin p) : Sp 174 [.ref (R4 H p) 0, el4 H p a.val, el4 H p c.val] (el4 H p (a - c).val) := by
 have h := SubS4 hH hp.toMod c.isLt (a := a.val) (b := c.val)
 have e : H.sub p a.val c.val = (a - c).val := by rw [hH]; exact fin_sub a c
 rw [e] at h; exact h
theorem MulF4 {H : H5} (hH : H = H5.real) (hp : PrM 256 p) (a c : Fin p) : Sp 175 [.ref (R4 H p) 0, el4 H p a.val, el4 H p c.val] (el4 H p (a * c).val) := by
 have h := MulS4 hH hp.toMod (a := a.val) (b := c.val)
 have e : H.mul p a.val c.val = (a * c).val := by rw [hH]; exact (Fin.val_mul a c).symm
 rw [e] at h; exact h
theorem NegF4 {H : H5} (hH : H = H5.real) (hp : PrM 256 p) (a : Fin p) : Sp 178 [.ref (R4 H p) 0, el4 H p a.val] (el4 H p (0 - a).val) := by
 have h := NegS4 hH hp.toMod a.isLt
 have e : H.sub p 0 a.val = (0 - a).val := by rw [hH]; exact fin_sub 0 a
 rw [e] at h; exact h
theorem InvF4 {H : H5} (hH : H = H5.real) (hp : PrM 256 p) (a : Fin p) : Sp 177 [.ref (R4 H p) 0, el4 H p a.val] (el4 H p (Cv.inv1 a).val) := by
 have h := InvS4 hH hp.toMod a.isLt
 have e : H.pow p a.val (p - 2) = (Cv.inv1 a).val := by rw [hH]; rfl
 rw [e] at h; exact h
def el2_4 (H : H5) (p a b : Nat) : AVal := .agg [.s .u64 (H.lim (H.mf 256 p a) 0), .s .u64 (H.lim (H.mf 256 p a) 1), .s .u64 (H.lim (H.mf 256 p a) 2), .s .u64 (H.lim (H.mf 256 p a) 3), .s .u64 (H.lim (H.mf 256 p b) 0), .s .u64 (H.lim (H.mf 256 p b) 1), .s .u64 (H.lim (H.mf 256 p b) 2), .s .u64 (H.lim (H.mf 256 p b) 3)]
theorem add2_4 {H : H5} (hH : H = H5.real) (hp : PrM 256 p) (a b c d : Fin p) : Sp 260 [.agg [.ref (R4 H p) 0], el2_4 H p a.val b.val, el2_4 H p c.val d.val] (el2_4 H p (a + c).val (b + d).val) := by
 have h1 := AddF4 hH hp a c
 have h2 := AddF4 hH hp b d
 generalize a + c = x at *
 generalize b + d = y at *
 refine mk Tryz.func260 rfl rfl L0 R1 (by decide +kernel) fun A S hA hS => ?_
 unfold bodyOf Tryz.f260
 cbv
 refine aF hS h1 ?_
 cbv
 refine aF hS h2 ?_
 cbv
theorem sub2_4 {H : H5} (hH : H = H5.real) (hp : PrM 256 p) (a b c d : Fin p) : Sp 261 [.agg [.ref (R4 H p) 0], el2_4 H p a.val b.val, el2_4 H p c.val d.val] (el2_4 H p (a - c).val (b - d).val) := by
 have h1 := SubF4 hH hp a c
 have h2 := SubF4 hH hp b d
 generalize a - c = x at *
 generalize b - d = y at *
 refine mk Tryz.func261 rfl rfl L0 R1 (by decide +kernel) fun A S hA hS => ?_
 unfold bodyOf Tryz.f261
 cbv
 refine aF hS h1 ?_
 cbv
 refine aF hS h2 ?_
 cbv
theorem mul2_4 {H : H5} (hH : H = H5.real) (hp : PrM 256 p) (a b c d : Fin p) : Sp 103 [.agg [.ref (R4 H p) 0], el2_4 H p a.val b.val, el2_4 H p c.val d.val] (el2_4 H p (a * c - b * d).val (a * d + b * c).val) := by
 have h1 := MulF4 hH hp a c
 have h2 := MulF4 hH hp b d
 have h3 := MulF4 hH hp a d
 have h4 := MulF4 hH hp b c
 generalize a * c = x at *
 generalize b * d = y at *
 generalize a * d = z at *
 generalize b * c = w at *
 have h5 := SubF4 hH hp x y
 have h6 := AddF4 hH hp z w
 generalize x - y = u at *
 generalize z + w = v at *
 refine mk Tryz.func103 rfl rfl L0 R1 (by decide +kernel) fun A S hA hS => ?_
 unfold bodyOf Tryz.f103
 cbv
 refine aF hS h1 ?_
 cbv
 refine aF hS h2 ?_
 cbv
 refine aF hS h5 ?_
 cbv
 refine aF hS h3 ?_
 cbv
 refine aF hS h4 ?_
 cbv
 refine aF hS h6 ?_
 cbv
theorem inv2_4 {H : H5} (hH : H = H5.real) (hp : PrM 256 p) (a b : Fin p) : Sp 104 [.agg [.ref (R4 H p) 0], el2_4 H p a.val b.val] (el2_4 H p (a * Cv.inv1 (a * a + b * b)).val (0 - b * Cv.inv1 (a * a + b * b)).val) := by
 have h1 := MulF4 hH hp a a
 have h2 := MulF4 hH hp b b
 generalize a * a = x at *
 generalize b * b = y at *
 have h3 := AddF4 hH hp x y
 generalize x + y = z at *
 have h4 := InvF4 hH hp z
 generalize Cv.inv1 z = i at *
 have h5 := MulF4 hH hp a i
 have h6 := MulF4 hH hp b i
 generalize a * i = u at *
 generalize b * i = v at *
 have h7 := NegF4 hH hp v
 generalize 0 - v = w at *
 refine mk Tryz.func104 rfl rfl L0 R1 (by decide +kernel) fun A S hA hS => ?_
 unfold bodyOf Tryz.f104
 cbv
 refine aF hS h1 ?_
 cbv
 refine aF hS h2 ?_
 cbv
 refine aF hS h3 ?_
 cbv
 refine aF hS h4 ?_
 cbv
 refine aF hS h5 ?_
 cbv
 refine aF hS h6 ?_
 cbv
 refine aF hS h7 ?_
 cbv
theorem ok2_4 {H : H5} (hH : H = H5.real) (hp : PrM 256 p) : Okt4 (K2_4 H p) (R4 H p) where
 add x y := add2_4 hH hp x.a x.b y.a y.b
 sub x y := sub2_4 hH hp x.a x.b y.a y.b
 mul x y := mul2_4 hH hp x.a x.b y.a y.b
 inv x := inv2_4 hH hp x.a x.b
 zero i hi := by
   show (if i < 4 then _ else _) = (0 : Int)
   split
   . exact mf_zero4 hH i
   . exact mf_zero4 hH _
 sim := simR4 H p
 inj x y h := by
   obtain ⟨xa, xb⟩ := x
   obtain ⟨ya, yb⟩ := y
   have e1 := el_inj4 hH hp xa ya
   have e2 := el_inj4 hH hp xb yb
   obtain ⟨h0, h1, h2, h3, h4, h5, h6, h7⟩ := h
   rw [e1 ⟨h0, h1, h2, h3⟩, e2 ⟨h4, h5, h6, h7⟩]
theorem AddF6 {H : H5} (hH : H = H5.real) (hp : PrM 384 p) (a c : Fin p) : Sp 144 [.ref (R6 H p) 0, el6 H p a.val, el6 H p c.val] (el6 H p (a + c).val) := by
 have h := AddS6 hH hp.toMod (a := a.val) (b := c.val)
 have e : H.add p a.val c.val = (a + c).val := by rw [hH]; exact (Fin.val_add a c).symm
 rw [e] at h; exact h
theorem MulF6 {H : H5} (hH : H = H5.real) (hp : PrM 384 p) (a c : Fin p) : Sp 145 [.ref (R6 H p) 0, el6 H p a.val, el6 H p c.val] (el6 H p (a * c).val) := by
 have h := MulS6 hH hp.toMod (a := a.val) (b := c.val)
 have e : H.mul p a.val c.val = (a * c).val := by rw [hH]; exact (Fin.val_mul a c).symm
 rw [e] at h; exact h
theorem NegF6 {H : H5} (hH : H = H5.real) (hp : PrM 384 p) (a : Fin p) : Sp 196 [.ref (R6 H p) 0, el6 H p a.val] (el6 H p (0 - a).val) := by
 have h := NegS6 hH hp.toMod a.isLt
 have e : H.sub p 0 a.val = (0 - a).val := by rw [hH]; exact fin_sub 0 a
 rw [e] at h; exact h
end
theorem gtw {A : Ar} (hA : A = Ar.real) {x y : Int} : A.cmp .gtr x y = decide (x > y) := by rw [hA]; rfl
theorem wrap_byte {A : Ar} (hA : A = Ar.real) {x : Nat} (h : x < 256) : A.wrap .u64 (x : Int) = (x : Int) := by
 rw [hA]; exact (wrap_u64 _).trans (by omega)
theorem ws_get4 {A : Ar} (hA : A = Ar.real) (lim : Lim) (v j : Nat) (hj : j < 4) : lsub (ws4 lim v) (A.offs 0 j 1) 1 = some [.s .u64 (lim v j)] := by
 subst hA
 rcases (by omega : j = 0 ∨ j = 1 ∨ j = 2 ∨ j = 3) with rfl | rfl | rfl | rfl
 all_goals rfl
theorem ws_put4 {A : Ar} (hA : A = Ar.real) (lim : Lim) (v v' j : Nat) (hj : j < 4) {x : Int} (hx : x = lim v' j) (h : ∀ m, m ≠ j → lim v' m = lim v m) : lput (ws4 lim v) (A.offs 0 j 1) [.s .u64 x] = some (ws4 lim v') := by
 subst hA
 subst hx
 have h0 := h 0
 have h1 := h 1
 have h2 := h 2
 have h3 := h 3
 clear h
 rcases (by omega : j = 0 ∨ j = 1 ∨ j = 2 ∨ j = 3) with rfl | rfl | rfl | rfl
 all_goals
   unfold ws4
   try rw [h0 (by decide)]
   try rw [h1 (by decide)]
   try rw [h2 (by decide)]
   try rw [h3 (by decide)]
   rfl
theorem rBig4 {lim : Lim} (hl : lim = limR) {row : List AVal} {bs : Nat → Nat} {k : Nat} (hrow : IsRowB row bs k) (hk : k ≤ 8 * 4) : Sp 149 [.lst true k row, .i .i64 4] (.tup [.new false 4 1 (ws4 lim (numB bs k)), .i .i64 0]) := by
 have hz : ∀ j, lim 0 j = 0 := fun j => by rw [hl]; unfold limR; rw [Nat.zero_div]; rfl
 obtain ⟨t, ht⟩ : ∃ t, t = numB bs k := ⟨_, rfl⟩
 obtain ⟨N, hN⟩ : ∃ N : Nat → Nat, N = fun i => t % 2 ^ (8 * i) := ⟨_, rfl⟩
 have hN0 : N 0 = 0 := by rw [hN]; show t % 2 ^ 0 = 0; rw [Nat.pow_zero, Nat.mod_one]
 have hNk : N k = t := by rw [hN, ht]; exact Nat.mod_eq_of_lt (Vb_lt k fun j _ => hrow.2.2 _)
 have hstep : ∀ i, i < k → lim (N (i + 1)) (i / 8) = lim (N i) (i / 8) + (bs (k - 1 - i) * 2 ^ (8 * (i % 8)) : Nat) ∧ (∀ j, j ≠ i / 8 → lim (N (i + 1)) j = lim (N i) j) ∧ (lim (N i) (i / 8)).toNat / 2 ^ (8 * (i % 8)) % 256 = 0 := by
   intro i hi
   have e : N (i + 1) = N i + bs (k - 1 - i) * 2 ^ (8 * i) := by
     rw [hN]; show t % 2 ^ (8 * (i + 1)) = t % 2 ^ (8 * i) + _
     rw [mod_byte, ht]
     congr 2
     exact Vb_dig k (fun j _ => hrow.2.2 _) i hi
   rw [e, hl]
   refine limR_byte (hrow.2.2 _) ?_
   rw [hN]; show t % 2 ^ (8 * i) / 2 ^ (8 * i) % 256 = 0
   rw [Nat.div_eq_of_lt (Nat.mod_lt _ (Nat.two_pow_pos _)), Nat.zero_mod]
 have le := fun x i => lim_range hl x i
 rw [← ht]
 clear hN ht
 refine mk Tryz.func149 rfl rfl LN R0 (by decide +kernel) ?_
 intro A S hA hS
 unfold bodyOf Tryz.f149
 cbv
 have hlen : A.len k = (k : Int) := a_len hA k
 have hc : A.cmp .gtr (A.len k) ((8 * 4 : Nat) : Int) = false := by rw [hlen]; exact (gtw hA).trans (decide_eq_false (by omega))
 refine ABr.f hc ?_
 cbv
 refine .inv (α := Nat) (fun i => ⟨[.lst true k row, .i .i64 4, .any, .any, .any, .i .i64 0, .osl false 0 0 4 1, .any, .any, .any, .any, .any, .any, .any, .any, .any, .any, .any, .s .i64 (A.len k), .s .i64 (i : Nat), .any, .any, .any, .any, .any, .any, .any, .any, .any, .any, .any, .any, .any, .any, .any, .any, .any, .any, .any, .any, .any, .any, .any, .any, .any], [⟨true, true, ws4 lim (N i)⟩]⟩) (fun i => i ≤ k) (fun i => k - i) 0 ?_ (Nat.zero_le _) ?_
 . rw [hN0]
   cbv
   repeat' (first | exact rfl | exact (hz _).symm | exact trivial | constructor)
 intro i hi
 have hlen : A.len k = (k : Int) := a_len hA k
 by_cases h : i < k
 . have hlt : A.cmp .lss (i : Int) (A.len k) = true := by rw [hlen]; exact (i_lt hA).trans (decide_eq_true (by omega))
   have hix : A.bin .sub .i64 (A.bin .sub .i64 (A.len k) 1) (i : Int) = ((k - 1 - i : Nat) : Int) := e_sub hA (e_sub hA hlen rfl rfl (by omega)) rfl (by omega) (by omega)
   have hjx : k - 1 - i < k := by omega
   have hquo : A.bin .quo .i64 (i : Int) 8 = ((i / 8 : Nat) : Int) := e_quo hA rfl rfl (by omega) (by omega) (by omega) (by omega)
   have hrem : A.wrap .u64 (A.bin .mul .i64 8 (A.bin .rem .i64 (i : Int) 8)) = ((8 * (i % 8) : Nat) : Int) := wrap_small hA (e_mul hA rfl (e_rem hA rfl rfl (z := ((i % 8 : Nat) : Int)) (by omega) (by omega)) (by omega) (by omega)) (by omega)
   have hok : A.okb .shl (A.wrap .u64 (A.bin .mul .i64 8 (A.bin .rem .i64 (i : Int) 8))) = true := by rw [hrem]; exact (a_okbS hA (by omega)).2
   have hnext : A.bin .add .i64 (i : Int) 1 = ((i + 1 : Nat) : Int) := e_add hA rfl rfl (by omega) (by omega)
   obtain ⟨w1, w2, w3⟩ := hstep i h
   have hor := orb hA (le (N i) (i / 8)) hrem (by omega) (hrow.2.2 (k - 1 - i)) w3
   rw [← w1, ← wrap_byte hA (hrow.2.2 (k - 1 - i))] at hor
   have hq : i / 8 < 4 := by omega
   have hget := ws_get4 hA lim (N i) (i / 8) hq
   have hput := ws_put4 hA lim (N i) (N (i + 1)) (i / 8) hq hor w2
   have hrd := hrow.2.1 _ hjx
   have hdec : k - (i + 1) < k - i := by omega
   have hle : i + 1 ≤ k := h
   obtain ⟨nx, hnx⟩ : ∃ nx, nx = i + 1 := ⟨_, rfl⟩
   rw [← hnx] at hnext hput hdec hle
   clear w1 w2 w3 hor hstep hrem hN0 hNk
   generalize i / 8 = q at *
   generalize k - 1 - i = jx at *
   cbv
   refine ABr.t hlt ?_
   cbv
   refine .sym q hquo hq ?_
   cbv
   refine .mk _ hget ?_
   cbv
   refine .mk _ hix hjx ?_
   cbv
   refine .mk _ hrd ?_
   cbv
   refine .mk hok ?_
   cbv
   refine .sym q hquo hq ?_
   cbv
   refine .mk _ hput ?_
   cbv
   refine ⟨nx, ?_, hle, hdec⟩
   cbv
   repeat' (first | exact hnext | exact trivial | exact rfl | constructor)
 . have hlt : A.cmp .lss (i : Int) (A.len k) = false := by rw [hlen]; exact (i_lt hA).trans (decide_eq_false (by omega))
   obtain rfl : i = k := by omega
   rw [← hNk]
   cbv
   refine ABr.f hlt ?_
   cbv
theorem ws_get6 {A : Ar} (hA : A = Ar.real) (lim : Lim) (v j : Nat) (hj : j < 6) : lsub (ws6 lim v) (A.offs 0 j 1) 1 = some [.s .u64 (lim v j)] := by
 subst hA
 rcases (by omega : j = 0 ∨ j = 1 ∨ j = 2 ∨ j = 3 ∨ j = 4 ∨ j = 5) with rfl | rfl | rfl | rfl | rfl | rfl
 all_goals rfl
theorem ws_put6 {A : Ar} (hA : A = Ar.real) (lim : Lim) (v v' j : Nat) (hj : j < 6) {x : Int} (hx : x = lim v' j) (h : ∀ m, m ≠ j → lim v' m = lim v m) : lput (ws6 lim v) (A.offs 0 j 1) [.s .u64 x] = some (ws6 lim v') := by
 subst hA
 subst hx
 have h0 := h 0
 have h1 := h 1
 have h2 := h 2
 have h3 := h 3
 have h4 := h 4
 have h5 := h 5
 clear h
 rcases (by omega : j = 0 ∨ j = 1 ∨ j = 2 ∨ j = 3 ∨ j = 4 ∨ j = 5) with rfl | rfl | rfl | rfl | rfl | rfl
 all_goals
   unfold ws6
   try rw [h0 (by decide)]
   try rw [h1 (by decide)]
   try rw [h2 (by decide)]
   try rw [h3 (by decide)]
   try rw [h4 (by decide)]
   try rw [h5 (by decide)]
   rfl
theorem rBig6 {lim : Lim} (hl : lim = limR) {row : List AVal} {bs : Nat → Nat} {k : Nat} (hrow : IsRowB row bs k) (hk : k ≤ 8 * 6) : Sp 149 [.lst true k row, .i .i64 6] (.tup [.new false 6 1 (ws6 lim (numB bs k)), .i .i64 0]) := by
 have hz : ∀ j, lim 0 j = 0 := fun j => by rw [hl]; unfold limR; rw [Nat.zero_div]; rfl
 obtain ⟨t, ht⟩ : ∃ t, t = numB bs k := ⟨_, rfl⟩
 obtain ⟨N, hN⟩ : ∃ N : Nat → Nat, N = fun i => t % 2 ^ (8 * i) := ⟨_, rfl⟩
 have hN0 : N 0 = 0 := by rw [hN]; show t % 2 ^ 0 = 0; rw [Nat.pow_zero, Nat.mod_one]
 have hNk : N k = t := by rw [hN, ht]; exact Nat.mod_eq_of_lt (Vb_lt k fun j _ => hrow.2.2 _)
 have hstep : ∀ i, i < k → lim (N (i + 1)) (i / 8) = lim (N i) (i / 8) + (bs (k - 1 - i) * 2 ^ (8 * (i % 8)) : Nat) ∧ (∀ j, j ≠ i / 8 → lim (N (i + 1)) j = lim (N i) j) ∧ (lim (N i) (i / 8)).toNat / 2 ^ (8 * (i % 8)) % 256 = 0 := by
   intro i hi
   have e : N (i + 1) = N i + bs (k - 1 - i) * 2 ^ (8 * i) := by
     rw [hN]; show t % 2 ^ (8 * (i + 1)) = t % 2 ^ (8 * i) + _
     rw [mod_byte, ht]
     congr 2
     exact Vb_dig k (fun j _ => hrow.2.2 _) i hi
   rw [e, hl]
   refine limR_byte (hrow.2.2 _) ?_
   rw [hN]; show t % 2 ^ (8 * i) / 2 ^ (8 * i) % 256 = 0
   rw [Nat.div_eq_of_lt (Nat.mod_lt _ (Nat.two_pow_pos _)), Nat.zero_mod]
 have le := fun x i => lim_range hl x i
 rw [← ht]
 clear hN ht
 refine mk Tryz.func149 rfl rfl LN R0 (by decide +kernel) ?_
 intro A S hA hS
 unfold bodyOf Tryz.f149
 cbv
 have hlen : A.len k = (k : Int) := a_len hA k
 have hc : A.cmp .gtr (A.len k) ((8 * 6 : Nat) : Int) = false := by rw [hlen]; exact (gtw hA).trans (decide_eq_false (by omega))
 refine ABr.f hc ?_
 cbv
 refine .inv (α := Nat) (fun i => ⟨[.lst true k row, .i .i64 6, .any, .any, .any, .i .i64 0, .osl false 0 0 6 1, .any, .any, .any, .any, .any, .any, .any, .any, .any, .any, .any, .s .i64 (A.len k), .s .i64 (i : Nat), .any, .any, .any, .any, .any, .any, .any, .any, .any, .any, .any, .any, .any, .any, .any, .any, .any, .any, .any, .any, .any, .any, .any, .any, .any], [⟨true, true, ws6 lim (N i)⟩]⟩) (fun i => i ≤ k) (fun i => k - i) 0 ?_ (Nat.zero_le _) ?_
 . rw [hN0]
   cbv
   repeat' (first | exact rfl | exact (hz _).symm | exact trivial | constructor)
 intro i hi
 have hlen : A.len k = (k : Int) := a_len hA k
 by_cases h : i < k
 . have hlt : A.cmp .lss (i : Int) (A.len k) = true := by rw [hlen]; exact (i_lt hA).trans (decide_eq_true (by omega))
   have hix : A.bin .sub .i64 (A.bin .sub .i64 (A.len k) 1) (i : Int) = ((k - 1 - i : Nat) : Int) := e_sub hA (e_sub hA hlen rfl rfl (by omega)) rfl (by omega) (by omega)
   have hjx : k - 1 - i < k := by omega
   have hquo : A.bin .quo .i64 (i : Int) 8 = ((i / 8 : Nat) : Int) := e_quo hA rfl rfl (by omega) (by omega) (by omega) (by omega)
   have hrem : A.wrap .u64 (A.bin .mul .i64 8 (A.bin .rem .i64 (i : Int) 8)) = ((8 * (i % 8) : Nat) : Int) := wrap_small hA (e_mul hA rfl (e_rem hA rfl rfl (z := ((i % 8 : Nat) : Int)) (by omega) (by omega)) (by omega) (by omega)) (by omega)
   have hok : A.okb .shl (A.wrap .u64 (A.bin .mul .i64 8 (A.bin .rem .i64 (i : Int) 8))) = true := by rw [hrem]; exact (a_okbS hA (by omega)).2
   have hnext : A.bin .add .i64 (i : Int) 1 = ((i + 1 : Nat) : Int) := e_add hA rfl rfl (by omega) (by omega)
   obtain ⟨w1, w2, w3⟩ := hstep i h
   have hor := orb hA (le (N i) (i / 8)) hrem (by omega) (hrow.2.2 (k - 1 - i)) w3
   rw [← w1, ← wrap_byte hA (hrow.2.2 (k - 1 - i))] at hor
   have hq : i / 8 < 6 := by omega
   have hget := ws_get6 hA lim (N i) (i / 8) hq
   have hput := ws_put6 hA lim (N i) (N (i + 1)) (i / 8) hq hor w2
   have hrd := hrow.2.1 _ hjx
   have hdec : k - (i + 1) < k - i := by omega
   have hle : i + 1 ≤ k := h
   obtain ⟨nx, hnx⟩ : ∃ nx, nx = i + 1 := ⟨_, rfl⟩
   rw [← hnx] at hnext hput hdec hle
   clear w1 w2 w3 hor hstep hrem hN0 hNk
   generalize i / 8 = q at *
   generalize k - 1 - i = jx at *
   cbv
   refine ABr.t hlt ?_
   cbv
   refine .sym q hquo hq ?_
   cbv
   refine .mk _ hget ?_
   cbv
   refine .mk _ hix hjx ?_
   cbv
   refine .mk _ hrd ?_
   cbv
   refine .mk hok ?_
   cbv
   refine .sym q hquo hq ?_
   cbv
   refine .mk _ hput ?_
   cbv
   refine ⟨nx, ?_, hle, hdec⟩
   cbv
   repeat' (first | exact hnext | exact trivial | exact rfl | constructor)
 . have hlt : A.cmp .lss (i : Int) (A.len k) = false := by rw [hlen]; exact (i_lt hA).trans (decide_eq_false (by omega))
   obtain rfl : i = k := by omega
   rw [← hNk]
   cbv
   refine ABr.f hlt ?_
   cbv
theorem bigS4 {lim : Lim} (hl : lim = limR) {row : List AVal} {bs : Nat → Nat} {k : Nat} (hrow : IsRowB row bs k) (hk : k ≤ 8 * 4) : Sp 179 [.lst true k row] (.tup [u4 lim (numB bs k), .i .i64 0]) := by
 have hz : ∀ j, lim 0 j = 0 := fun j => by rw [hl]; unfold limR; rw [Nat.zero_div]; rfl
 obtain ⟨t, ht⟩ : ∃ t, t = numB bs k := ⟨_, rfl⟩
 obtain ⟨N, hN⟩ : ∃ N : Nat → Nat, N = fun i => 2 ^ (8 * (k - i)) * (t / 2 ^ (8 * (k - i))) := ⟨_, rfl⟩
 have hN0 : N 0 = 0 := by
   rw [hN]; show 2 ^ (8 * (k - 0)) * (t / 2 ^ (8 * (k - 0))) = 0
   rw [Nat.sub_zero, Nat.div_eq_of_lt (by rw [ht]; exact Vb_lt k fun j _ => hrow.2.2 _), Nat.mul_zero]
 have hNk : N k = t := by
   rw [hN]; show 2 ^ (8 * (k - k)) * (t / 2 ^ (8 * (k - k))) = t
   rw [Nat.sub_self, Nat.mul_zero, Nat.pow_zero, Nat.div_one, Nat.one_mul]
 have hstep : ∀ i, i < k → ∀ p, p = k - 1 - i → lim (N (i + 1)) (p / 8) = lim (N i) (p / 8) + (bs i * 2 ^ (8 * (p % 8)) : Nat) ∧ (∀ j, j ≠ p / 8 → lim (N (i + 1)) j = lim (N i) j) ∧ (lim (N i) (p / 8)).toNat / 2 ^ (8 * (p % 8)) % 256 = 0 := by
   intro i hi p hp
   have hdig : t / 2 ^ (8 * p) % 256 = bs i := by
     rw [ht]; exact (Vb_dig k (fun j _ => hrow.2.2 _) p (by omega)).trans (congrArg bs (by omega))
   have e : N (i + 1) = N i + bs i * 2 ^ (8 * p) := by
     rw [hN]; show 2 ^ (8 * (k - (i + 1))) * (t / 2 ^ (8 * (k - (i + 1)))) = 2 ^ (8 * (k - i)) * (t / 2 ^ (8 * (k - i))) + _
     rw [show k - (i + 1) = p by omega, show k - i = p + 1 by omega, top_byte, hdig]
   rw [e, hl]
   refine limR_byte (hrow.2.2 _) ?_
   rw [hN]; show 2 ^ (8 * (k - i)) * (t / 2 ^ (8 * (k - i))) / 2 ^ (8 * p) % 256 = 0
   rw [show k - i = p + 1 by omega, show 2 ^ (8 * (p + 1)) * (t / 2 ^ (8 * (p + 1))) = 2 ^ (8 * p) * (256 * (t / 2 ^ (8 * (p + 1)))) by
     rw [show 8 * (p + 1) = 8 * p + 8 by omega, Nat.pow_add, Nat.mul_assoc], Nat.mul_div_cancel_left _ (Nat.two_pow_pos _), Nat.mul_mod_right]
 have le := fun x i => lim_range hl x i
 rw [← ht]
 clear hN ht
 refine mk Tryz.func179 rfl rfl LN R0 (by decide +kernel) ?_
 intro A S hA hS
 unfold bodyOf Tryz.f179
 cbv
 have hlen : A.len k = (k : Int) := a_len hA k
 have hc : A.cmp .gtr (A.len k) ((8 * 4 : Nat) : Int) = false := by rw [hlen]; exact (gtw hA).trans (decide_eq_false (by omega))
 refine ABr.f hc ?_
 cbv
 refine .inv (α := Nat) (fun i => ⟨[.lst true k row, .any, .own 0 0, .i .i64 0, .own 1 0, .any, .any, .any, .any, .any, .any, .any, .any, .any, .any, .lst true k row, .s .i64 (A.len k), .s .i64 (i : Nat), .any, .any, .any, .any, .any, .any, .any, .any, .any, .any, .any, .any, .any, .any, .any, .any, .any, .any, .any, .any, .any, .any, .any], [⟨true, true, [.i .u64 0, .i .u64 0, .i .u64 0, .i .u64 0]⟩, ⟨true, true, ws4 lim (N i)⟩]⟩) (fun i => i ≤ k) (fun i => k - i) 0 ?_ (Nat.zero_le _) ?_
 . rw [hN0]
   cbv
   repeat' (first | exact rfl | exact (hz _).symm | exact trivial | constructor)
 intro i hi
 have hlen : A.len k = (k : Int) := a_len hA k
 by_cases h : i < k
 . have hlt : A.cmp .lss (i : Int) (A.len k) = true := by rw [hlen]; exact (i_lt hA).trans (decide_eq_true (by omega))
   have hix : A.bin .sub .i64 (A.bin .sub .i64 (A.len k) 1) (i : Int) = ((k - 1 - i : Nat) : Int) := e_sub hA (e_sub hA hlen rfl rfl (by omega)) rfl (by omega) (by omega)
   obtain ⟨p, hp⟩ : ∃ p, p = k - 1 - i := ⟨_, rfl⟩
   rw [← hp] at hix
   have hquo : A.bin .quo .i64 (A.bin .sub .i64 (A.bin .sub .i64 (A.len k) 1) (i : Int)) 8 = ((p / 8 : Nat) : Int) := e_quo hA hix rfl (by omega) (by omega) (by omega) (by omega)
   have hrem : A.bin .mul .i64 8 (A.bin .rem .i64 (A.bin .sub .i64 (A.bin .sub .i64 (A.len k) 1) (i : Int)) 8) = ((8 * (p % 8) : Nat) : Int) := e_mul hA rfl (e_rem hA hix rfl (z := ((p % 8 : Nat) : Int)) (by omega) (by omega)) (by omega) (by omega)
   have hok : A.okb .shl (A.bin .mul .i64 8 (A.bin .rem .i64 (A.bin .sub .i64 (A.bin .sub .i64 (A.len k) 1) (i : Int)) 8)) = true := by rw [hrem]; exact (a_okbS hA (by omega)).2
   have hnext : A.bin .add .i64 (i : Int) 1 = ((i + 1 : Nat) : Int) := e_add hA rfl rfl (by omega) (by omega)
   obtain ⟨w1, w2, w3⟩ := hstep i h p hp
   have hor := orb hA (le (N i) (p / 8)) hrem (by omega) (hrow.2.2 i) w3
   rw [← w1, ← wrap_byte hA (hrow.2.2 i)] at hor
   have hq : p / 8 < 4 := by omega
   have hget := ws_get4 hA lim (N i) (p / 8) hq
   have hput := ws_put4 hA lim (N i) (N (i + 1)) (p / 8) hq hor w2
   have hrd := hrow.2.1 i h
   have hdec : k - (i + 1) < k - i := by omega
   have hle : i + 1 ≤ k := h
   obtain ⟨nx, hnx⟩ : ∃ nx, nx = i + 1 := ⟨_, rfl⟩
   rw [← hnx] at hnext hput hdec hle
   clear w1 w2 w3 hor hstep hrem hN0 hNk hix hp
   generalize p / 8 = q at *
   cbv
   refine ABr.t hlt ?_
   cbv
   refine .mk i rfl h ?_
   cbv
   refine .mk _ hrd ?_
   cbv
   refine .sym q hquo hq ?_
   cbv
   refine .mk _ hget ?_
   cbv
   refine .mk hok ?_
   cbv
   refine .sym q hquo hq ?_
   cbv
   refine .mk _ hput ?_
   cbv
   refine ⟨nx, ?_, hle, hdec⟩
   cbv
   repeat' (first | exact hnext | exact trivial | exact rfl | constructor)
 . have hlt : A.cmp .lss (i : Int) (A.len k) = false := by rw [hlen]; exact (i_lt hA).trans (decide_eq_false (by omega))
   obtain rfl : i = k := by omega
   rw [← hNk]
   cbv
   refine ABr.f hlt ?_
   cbv
theorem bigS6 {lim : Lim} (hl : lim = limR) {row : List AVal} {bs : Nat → Nat} {k : Nat} (hrow : IsRowB row bs k) (hk : k ≤ 8 * 6) : Sp 142 [.lst true k row] (.tup [u6 lim (numB bs k), .i .i64 0]) := by
 have hz : ∀ j, lim 0 j = 0 := fun j => by rw [hl]; unfold limR; rw [Nat.zero_div]; rfl
 obtain ⟨t, ht⟩ : ∃ t, t = numB bs k := ⟨_, rfl⟩
 obtain ⟨N, hN⟩ : ∃ N : Nat → Nat, N = fun i => 2 ^ (8 * (k - i)) * (t / 2 ^ (8 * (k - i))) := ⟨_, rfl⟩
 have hN0 : N 0 = 0 := by
   rw [hN]; show 2 ^ (8 * (k - 0)) * (t / 2 ^ (8 * (k - 0))) = 0
   rw [Nat.sub_zero, Nat.div_eq_of_lt (by rw [ht]; exact Vb_lt k fun j _ => hrow.2.2 _), Nat.mul_zero]
 have hNk : N k = t := by
   rw [hN]; show 2 ^ (8 * (k - k)) * (t / 2 ^ (8 * (k - k))) = t
   rw [Nat.sub_self, Nat.mul_zero, Nat.pow_zero, Nat.div_one, Nat.one_mul]
 have hstep : ∀ i, i < k → ∀ p, p = k - 1 - i → lim (N (i + 1)) (p / 8) = lim (N i) (p / 8) + (bs i * 2 ^ (8 * (p % 8)) : Nat) ∧ (∀ j, j ≠ p / 8 → lim (N (i + 1)) j = lim (N i) j) ∧ (lim (N i) (p / 8)).toNat / 2 ^ (8 * (p % 8)) % 256 = 0 := by
   intro i hi p hp
   have hdig : t / 2 ^ (8 * p) % 256 = bs i := by
     rw [ht]; exact (Vb_dig k (fun j _ => hrow.2.2 _) p (by omega)).trans (congrArg bs (by omega))
   have e : N (i + 1) = N i + bs i * 2 ^ (8 * p) := by
     rw [hN]; show 2 ^ (8 * (k - (i + 1))) * (t / 2 ^ (8 * (k - (i + 1)))) = 2 ^ (8 * (k - i)) * (t / 2 ^ (8 * (k - i))) + _
     rw [show k - (i + 1) = p by omega, show k - i = p + 1 by omega, top_byte, hdig]
   rw [e, hl]
   refine limR_byte (hrow.2.2 _) ?_
   rw [hN]; show 2 ^ (8 * (k - i)) * (t / 2 ^ (8 * (k - i))) / 2 ^ (8 * p) % 256 = 0
   rw [show k - i = p + 1 by omega, show 2 ^ (8 * (p + 1)) * (t / 2 ^ (8 * (p + 1))) = 2 ^ (8 * p) * (256 * (t / 2 ^ (8 * (p + 1)))) by
     rw [show 8 * (p + 1) = 8 * p + 8 by omega, Nat.pow_add, Nat.mul_assoc], Nat.mul_div_cancel_left _ (Nat.two_pow_pos _), Nat.mul_mod_right]
 have le := fun x i => lim_range hl x i
 rw [← ht]
 clear hN ht
 refine mk Tryz.func142 rfl rfl LN R0 (by decide +kernel) ?_
 intro A S hA hS
 unfold bodyOf Tryz.f142
 cbv
 have hlen : A.len k = (k : Int) := a_len hA k
 have hc : A.cmp .gtr (A.len k) ((8 * 6 : Nat) : Int) = false := by rw [hlen]; exact (gtw hA).trans (decide_eq_false (by omega))
 refine ABr.f hc ?_
 cbv
 refine .inv (α := Nat) (fun i => ⟨[.lst true k row, .any, .own 0 0, .i .i64 0, .own 1 0, .any, .any, .any, .any, .any, .any, .any, .any, .any, .any, .lst true k row, .s .i64 (A.len k), .s .i64 (i : Nat), .any, .any, .any, .any, .any, .any, .any, .any, .any, .any, .any, .any, .any, .any, .any, .any, .any, .any, .any, .any, .any, .any, .any], [⟨true, true, [.i .u64 0, .i .u64 0, .i .u64 0, .i .u64 0, .i .u64 0, .i .u64 0]⟩, ⟨true, true, ws6 lim (N i)⟩]⟩) (fun i => i ≤ k) (fun i => k - i) 0 ?_ (Nat.zero_le _) ?_
 . rw [hN0]
   cbv
   repeat' (first | exact rfl | exact (hz _).symm | exact trivial | constructor)
 intro i hi
 have hlen : A.len k = (k : Int) := a_len hA k
 by_cases h : i < k
 . have hlt : A.cmp .lss (i : Int) (A.len k) = true := by rw [hlen]; exact (i_lt hA).trans (decide_eq_true (by omega))
   have hix : A.bin .sub .i64 (A.bin .sub .i64 (A.len k) 1) (i : Int) = ((k - 1 - i : Nat) : Int) := e_sub hA (e_sub hA hlen rfl rfl (by omega)) rfl (by omega) (by omega)
   obtain ⟨p, hp⟩ : ∃ p, p = k - 1 - i := ⟨_, rfl⟩
   rw [← hp] at hix
   have hquo : A.bin .quo .i64 (A.bin .sub .i64 (A.bin .sub .i64 (A.len k) 1) (i : Int)) 8 = ((p / 8 : Nat) : Int) := e_quo hA hix rfl (by omega) (by omega) (by omega) (by omega)
   have hrem : A.bin .mul .i64 8 (A.bin .rem .i64 (A.bin .sub .i64 (A.bin .sub .i64 (A.len k) 1) (i : Int)) 8) = ((8 * (p % 8) : Nat) : Int) := e_mul hA rfl (e_rem hA hix rfl (z := ((p % 8 : Nat) : Int)) (by omega) (by omega)) (by omega) (by omega)
   have hok : A.okb .shl (A.bin .mul .i64 8 (A.bin .rem .i64 (A.bin .sub .i64 (A.bin .sub .i64 (A.len k) 1) (i : Int)) 8)) = true := by rw [hrem]; exact (a_okbS hA (by omega)).2
   have hnext : A.bin .add .i64 (i : Int) 1 = ((i + 1 : Nat) : Int) := e_add hA rfl rfl (by omega) (by omega)
   obtain ⟨w1, w2, w3⟩ := hstep i h p hp
   have hor := orb hA (le (N i) (p / 8)) hrem (by omega) (hrow.2.2 i) w3
   rw [← w1, ← wrap_byte hA (hrow.2.2 i)] at hor
   have hq : p / 8 < 6 := by omega
   have hget := ws_get6 hA lim (N i) (p / 8) hq
   have hput := ws_put6 hA lim (N i) (N (i + 1)) (p / 8) hq hor w2
   have hrd := hrow.2.1 i h
   have hdec : k - (i + 1) < k - i := by omega
   have hle : i + 1 ≤ k := h
   obtain ⟨nx, hnx⟩ : ∃ nx, nx = i + 1 := ⟨_, rfl⟩
   rw [← hnx] at hnext hput hdec hle
   clear w1 w2 w3 hor hstep hrem hN0 hNk hix hp
   generalize p / 8 = q at *
   cbv
   refine ABr.t hlt ?_
   cbv
   refine .mk i rfl h ?_
   cbv
   refine .mk _ hrd ?_
   cbv
   refine .sym q hquo hq ?_
   cbv
   refine .mk _ hget ?_
   cbv
   refine .mk hok ?_
   cbv
   refine .sym q hquo hq ?_
   cbv
   refine .mk _ hput ?_
   cbv
   refine ⟨nx, ?_, hle, hdec⟩
   cbv
   repeat' (first | exact hnext | exact trivial | exact rfl | constructor)
 . have hlt : A.cmp .lss (i : Int) (A.len k) = false := by rw [hlen]; exact (i_lt hA).trans (decide_eq_false (by omega))
   obtain rfl : i = k := by omega
   rw [← hNk]
   cbv
   refine ABr.f hlt ?_
   cbv
end Go.Proofs.YtmholgclgamnnaaGreat
end
