import Derived.Test.YtkhipnhdbaahcaaQAKB
import Derived.Test.YtkhipnhdbaahcaaQAKG
set_option linter.unusedVariables false
set_option linter.unusedSimpArgs false
set_option linter.unusedSectionVars false
set_option maxRecDepth 100000
set_option exponentiation.threshold 2000
set_option maxHeartbeats 4000000
section
namespace Go.Proofs.Ytkhipnhdbaahcaa
open Go Eng
def addrF (x y j : Nat) : Nat := if j < 32 then x / 2 ^ (8 * (31 - j)) % 256 else if j < 64 then y / 2 ^ (8 * (63 - j)) % 256 else 0
theorem addrF_lt (x y j : Nat) : addrF x y j < 256 := by
 unfold addrF
 split
 . exact Nat.mod_lt _ (by decide)
 . split
   . exact Nat.mod_lt _ (by decide)
   . decide
theorem lst_ge (l : List Nat) (j : Nat) (h : l.length ≤ j) : Kk.lst l j = 0 := by
 unfold Kk.lst
 rw [List.getD_eq_getElem?_getD, List.getElem?_eq_none h]; rfl
theorem addrF_base : addrF Sk.gx Sk.gy = Kk.lst Kk.in_base := by
 have h : ∀ j, j < 64 → addrF Sk.gx Sk.gy j = Kk.lst Kk.in_base j := by decide +kernel
 funext j
 by_cases hj : j < 64
 . exact h j hj
 . have e : Kk.in_base.length = 64 := by decide +kernel
   rw [lst_ge _ j (by omega)]
   unfold addrF
   rw [if_neg (by omega), if_neg hj]
def RAdr : Nat → Md := fun r => match r with | 3 => .res [] | 4 => .apr | _ => .mid
section
variable {H : H5} {k : Kf Sk.pS} {r : List AVal} {kn : Kf Sk.nS} {rn : List AVal} {m n : Nat} (hs : Sec H k r kn rn m n)
include hs
theorem Sec.wbytes (x : Fin Sk.pS) (B : Nat → Int) (hB : ∀ j, j < 32 → B j = ((x.val / 2 ^ (8 * (31 - j)) % 256 : Nat) : Int)) : Sp 69 [Uf k x] (.agg [.s .u8 (B 0), .s .u8 (B 1), .s .u8 (B 2), .s .u8 (B 3), .s .u8 (B 4), .s .u8 (B 5), .s .u8 (B 6), .s .u8 (B 7), .s .u8 (B 8), .s .u8 (B 9), .s .u8 (B 10), .s .u8 (B 11), .s .u8 (B 12), .s .u8 (B 13), .s .u8 (B 14), .s .u8 (B 15), .s .u8 (B 16), .s .u8 (B 17), .s .u8 (B 18), .s .u8 (B 19), .s .u8 (B 20), .s .u8 (B 21), .s .u8 (B 22), .s .u8 (B 23), .s .u8 (B 24), .s .u8 (B 25), .s .u8 (B 26), .s .u8 (B 27), .s .u8 (B 28), .s .u8 (B 29), .s .u8 (B 30), .s .u8 (B 31)]) := by
 have c := wBytesS (H5.hlim hs.hH) x.val B hB
 unfold Uf
 rw [hs.uv, hs.uv, hs.uv, hs.uv]
 exact c
theorem Sec.address (px py : Fin Sk.pS) (hP : onS (some (px, py))) (h : Nat → Int) (hh : h = fun j => ((Kk.hash (addrF px.val py.val) 64 j : Nat) : Int)) : Sp 38 [Pf k (some (px, py))] (.tup [.agg [.s .u8 (h 12), .s .u8 (h 13), .s .u8 (h 14), .s .u8 (h 15), .s .u8 (h 16), .s .u8 (h 17), .s .u8 (h 18), .s .u8 (h 19), .s .u8 (h 20), .s .u8 (h 21), .s .u8 (h 22), .s .u8 (h 23), .s .u8 (h 24), .s .u8 (h 25), .s .u8 (h 26), .s .u8 (h 27), .s .u8 (h 28), .s .u8 (h 29), .s .u8 (h 30), .s .u8 (h 31)], .i .i64 0]) := by
 have gp := hs.goodP _ hP
 obtain ⟨F, hF⟩ : ∃ F : Nat → Int, F = fun j => ((addrF px.val py.val j : Nat) : Int) := ⟨_, rfl⟩
 have bx := hs.wbytes px F (fun j hj => by rw [hF]; dsimp only; unfold addrF; rw [if_pos hj])
 have by_ := hs.wbytes py (fun j => F (32 + j)) (fun j hj => by rw [hF]; dsimp only; unfold addrF; rw [if_neg (by omega), if_pos (by omega), show 63 - (32 + j) = 31 - j by omega])
 have ck := keccak64 (addrF px.val py.val) (addrF_lt _ _) F h hF hh
 unfold Uf at bx by_
 dsimp only [Nat.reduceAdd] at by_
 clear hF hh
 refine mk Try.func38 rfl rfl L0 RAdr (by decide +kernel) fun A S hA hS => ?_
 have nt := not_t hA
 unfold bodyOf Try.f38
 cbv
 repeat ((first | refine ABr.t (by first | assumption | rfl) ?_ | refine ABr.f (by first | assumption | rfl) ?_ | refine aF hS gp ?_ | refine aF hS bx ?_ | refine aF hS by_ ?_); cbv)
 refine aF hS ck ?_
 cbv
end
theorem rt_no (c : Fin Sk.pS) (e v : Nat) (he : e < 2 ^ 256) (h : NT.pm Sk.pS 256 c.val e = v) (hv : v * v % Sk.pS ≠ c.val) (y : Fin Sk.pS) (hy : y.val = c.val ^ e % Sk.pS) : y * y ≠ c := by
 intro e1
 rw [← NT.pm_eq Sk.pS 256 c.val e he, h] at hy
 apply hv
 have e2 := congrArg Fin.val e1
 rw [Fin.val_mul, hy] at e2
 exact e2
theorem rtS_val (c : Fin Sk.pS) : (rtS c).val = c.val ^ ((Sk.pS + 1) / 4) % Sk.pS := rfl
theorem cv5 : (cvS 5).val = 132 := by decide +kernel
theorem lift5 (y : Fin Sk.pS) (hy : y = rtS (cvS 5)) : y * y ≠ cvS 5 := by
 refine rt_no (cvS 5) ((Sk.pS + 1) / 4) 23991821008281484097053715379747718372991279943638939452345024967188278261434 (by decide) (by rw [cv5]; decide +kernel) (by rw [cv5]; decide +kernel) y ?_
 rw [hy]; exact rtS_val _
theorem mn1 (P : Cv.Pt (Fin Sk.pS)) : Gp.mn Sk.O P 1 = P := by
 show Cv.sumR Sk.O none P = P
 rfl
section
variable {H : H5} {k : Kf Sk.pS} {r : List AVal} {kn : Kf Sk.nS} {rn : List AVal} {m n : Nat} (hs : Sec H k r kn rn m n) (hr : RootK H k r)
include hs
theorem Sec.lim_small (a : Nat) (h : a < 2 ^ 64) : H.lim a 0 = (a : Int) ∧ ∀ i, i < 3 → H.lim a (i + 1) = 0 := by
 rw [hs.hH]
 refine ⟨?_, fun i hi => ?_⟩
 . show ((a / 2 ^ (64 * 0) % 2 ^ 64 : Nat) : Int) = a
   rw [Nat.mul_zero, Nat.pow_zero, Nat.div_one, Nat.mod_eq_of_lt h]
 . show ((a / 2 ^ (64 * (i + 1)) % 2 ^ 64 : Nat) : Int) = 0
   rw [Nat.div_eq_of_lt (Nat.lt_of_lt_of_le h (Nat.pow_le_pow_right (n := 2) (i := 64) (by decide) (by omega)))]; rfl
theorem Sec.refBase : Sp 40 [] (Pf k Sk.G) := by
 have vx := hs.v_fs (x := Sk.gx) (by decide)
 have vy := hs.v_fs (x := Sk.gy) (by decide)
 have ex : ∀ i, i < 4 → H.lim Sk.gx i = limR Sk.gx i := fun i _ => by rw [hs.hH]; rfl
 have ey : ∀ i, i < 4 → H.lim Sk.gy i = limR Sk.gy i := fun i _ => by rw [hs.hH]; rfl
 have x0 : (6481385041966929816 : Int) = k.v (Sk.fs Sk.gx) 0 := by rw [vx, ex 0 (by decide)]; decide
 have x1 : (188021827762530521 : Int) = k.v (Sk.fs Sk.gx) 1 := by rw [vx, ex 1 (by decide)]; decide
 have x2 : (6170039885052185351 : Int) = k.v (Sk.fs Sk.gx) 2 := by rw [vx, ex 2 (by decide)]; decide
 have x3 : (8772561819708210092 : Int) = k.v (Sk.fs Sk.gx) 3 := by rw [vx, ex 3 (by decide)]; decide
 have y0 : (11261198710074299576 : Int) = k.v (Sk.fs Sk.gy) 0 := by rw [vy, ey 0 (by decide)]; decide
 have y1 : (18237243440184513561 : Int) = k.v (Sk.fs Sk.gy) 1 := by rw [vy, ey 1 (by decide)]; decide
 have y2 : (6747795201694173352 : Int) = k.v (Sk.fs Sk.gy) 2 := by rw [vy, ey 2 (by decide)]; decide
 have y3 : (5204712524664259685 : Int) = k.v (Sk.fs Sk.gy) 3 := by rw [vy, ey 3 (by decide)]; decide
 clear vx vy ex ey
 have eG : Sk.G = some (Sk.fs Sk.gx, Sk.fs Sk.gy) := rfl
 rw [eG]
 generalize Sk.fs Sk.gx = gx at *
 generalize Sk.fs Sk.gy = gy at *
 refine mk Try.func40 rfl rfl L0 R1 (by decide +kernel) fun A S hA hS => ?_
 unfold bodyOf Try.f40
 cbv
 repeat' (first | exact x0 | exact x1 | exact x2 | exact x3 | exact y0 | exact y1 | exact y2 | exact y3 | exact rfl | exact trivial | constructor)
include hr
theorem Sec.awake : Sp 16 [] (.b true) := by
 have cp := (hs.public 1 (by decide)).1 ⟨by decide, by decide⟩
 rw [mn1] at cp
 have cb := hs.refBase
 obtain ⟨h, hh⟩ : ∃ h : Nat → Int, h = fun j => ((Kk.hash (addrF (Sk.fs Sk.gx).val (Sk.fs Sk.gy).val) 64 j : Nat) : Int) := ⟨_, rfl⟩
 have ca := hs.address (Sk.fs Sk.gx) (Sk.fs Sk.gy) Sk.onG h hh
 have e : addrF (Sk.fs Sk.gx).val (Sk.fs Sk.gy).val = Kk.lst Kk.in_base := by
   rw [fs_val (by decide), fs_val (by decide)]; exact addrF_base
 rw [e] at hh
 have h12 : h 12 = 126 := by rw [hh]; exact congrArg Int.ofNat Kk.base_b12
 have h13 : h 13 = 95 := by rw [hh]; exact congrArg Int.ofNat Kk.base_b13
 have h31 : h 31 = 223 := by rw [hh]; exact congrArg Int.ofNat Kk.base_b31
 have cl := hs.liftNone hr (x := 5) (by decide) _ rfl (lift5 _ rfl) 0 (by decide) 0 rfl
 obtain ⟨a0, as_⟩ := hs.lim_small 1 (by decide)
 obtain ⟨b0, bs_⟩ := hs.lim_small 5 (by decide)
 have a1 := as_ 0 (by decide)
 have a2 := as_ 1 (by decide)
 have a3 := as_ 2 (by decide)
 have b1 := bs_ 0 (by decide)
 have b2 := bs_ 1 (by decide)
 have b3 := bs_ 2 (by decide)
 clear hh e as_ bs_ hr
 have eG : Sk.G = some (Sk.fs Sk.gx, Sk.fs Sk.gy) := rfl
 rw [eG] at cb cp
 generalize Sk.fs Sk.gx = gx at *
 generalize Sk.fs Sk.gy = gy at *
 refine mk Try.func16 rfl rfl L0 R1 (by decide +kernel) fun A S hA hS => ?_
 have t12 : A.eqs [(.s .u8 (h 12), .i .u8 126)] = true := by rw [hA, h12]; rfl
 have t13 : A.eqs [(.s .u8 (h 13), .i .u8 95)] = true := by rw [hA, h13]; rfl
 have t31 : A.eqs [(.s .u8 (h 31), .i .u8 223)] = true := by rw [hA, h31]; rfl
 have u12 : A.cmp .eql (h 12) 126 = true := by rw [hA, h12]; rfl
 have u13 : A.cmp .eql (h 13) 95 = true := by rw [hA, h13]; rfl
 have u31 : A.cmp .eql (h 31) 223 = true := by rw [hA, h31]; rfl
 have eg : A.eqs [(.s .u64 (k.v gx 0), .s .u64 (k.v gx 0)), (.s .u64 (k.v gx 1), .s .u64 (k.v gx 1)), (.s .u64 (k.v gx 2), .s .u64 (k.v gx 2)), (.s .u64 (k.v gx 3), .s .u64 (k.v gx 3)), (.s .u64 (k.v gy 0), .s .u64 (k.v gy 0)), (.s .u64 (k.v gy 1), .s .u64 (k.v gy 1)), (.s .u64 (k.v gy 2), .s .u64 (k.v gy 2)), (.s .u64 (k.v gy 3), .s .u64 (k.v gy 3)), (.b false, .b false)] = true := by
   rw [hA]; show List.all _ _ = true; simp [leafEq]
 unfold bodyOf Try.f16
 cbv
 refine aG hS cp ?_ ?_
 . cbv
   repeat' (first | exact a0.symm | exact a1.symm | exact a2.symm | exact a3.symm | exact rfl | exact trivial | constructor)
 cbv
 repeat ((first | refine ABr.t (by first | assumption | rfl) ?_ | refine ABr.f (by first | assumption | rfl) ?_ | refine aF hS ca ?_); cbv)
 refine aG hS cl ?_ ?_
 . cbv
   repeat' (first | exact b0.symm | exact b1.symm | exact b2.symm | exact b3.symm | exact rfl | exact trivial | constructor)
 cbv
 repeat ((first | refine ABr.t (by first | assumption | rfl) ?_ | refine ABr.f (by first | assumption | rfl) ?_ | refine aF hS cb ?_); cbv)
end
theorem fin_sq (y : Fin Sk.pS) : (0 - y) * (0 - y) = y * y := by grind
theorem fin_nn (y : Fin Sk.pS) : 0 - (0 - y) = y := by grind
theorem pick_sq (y : Fin Sk.pS) (o : Nat) : pickS y o * pickS y o = y * y := by
 unfold pickS
 split
 . rfl
 . exact fin_sq y
theorem pick_on {a : Nat} {y : Fin Sk.pS} (hc : y * y = cvS a) (o : Nat) : onS (some (Sk.fs a, pickS y o)) := (pick_sq y o).trans hc
theorem pick_flip (y : Fin Sk.pS) (o : Nat) (ho : o ≤ 1) : pickS y (1 - o) = 0 - pickS y o := by
 unfold pickS
 by_cases h : y.val % 2 = o
 . rw [if_pos h, if_neg (by omega)]
 . rw [if_neg h, if_pos (by omega), fin_nn]
theorem nf_val (w : Fin Sk.nS) : Sk.nf w.val = w := Fin.ext (Nat.mod_eq_of_lt w.isLt)
theorem inv_ok {a : Fin Sk.nS} (h : a ≠ 0) : a * Cv.inv1 a = 1 := Cv.inv1_ok Sk.nPr (by decide) a h
theorem nf_ne {a : Nat} (h : a ≠ 0 ∧ a < Sk.nS) : Sk.nf a ≠ 0 := fun e => by
 have := congrArg Fin.val e
 rw [Cv.val_zero] at this
 have e2 : a % Sk.nS = 0 := this
 rw [Nat.mod_eq_of_lt h.2] at e2
 exact h.1 e2
theorem mn_mF (q w : Fin Sk.nS) : Gp.mn Sk.O (Sk.mF q) w.val = Sk.mF (q * w) := by rw [Sk.mF_mul, nf_val]
theorem sum_mF (u q w : Fin Sk.nS) : Cv.sumR Sk.O (Gp.mn Sk.O Sk.G u.val) (Gp.mn Sk.O (Sk.mF q) w.val) = Sk.mF (u + q * w) := by
 rw [mn_mF]; exact Sk.mF_add u (q * w)
theorem provesPt {z a b : Fin Sk.nS} (ha : a ≠ 0) (hb : b ≠ 0) {Q : Cv.Pt (Fin Sk.pS)} (hQ : onS Q) {R : Cv.Pt (Fin Sk.pS)}
   (hR : R = Cv.sumR Sk.O (Gp.mn Sk.O Sk.G (0 - z * Cv.inv1 a).val) (Gp.mn Sk.O Q (b * Cv.inv1 a).val)) :
   onS R ∧ Cv.sumR Sk.O (Gp.mn Sk.O Sk.G (z * Cv.inv1 b).val) (Gp.mn Sk.O R (a * Cv.inv1 b).val) = Q := by
 obtain ⟨q, rfl⟩ := Sk.mF_all hQ
 rw [sum_mF] at hR
 subst hR
 refine ⟨Sk.mF_on _, ?_⟩
 rw [sum_mF, Sk.proves (d := 0 - z * Cv.inv1 a + q * (b * Cv.inv1 a)) rfl (inv_ok ha) (inv_ok hb)]
theorem otherPt {z a b : Fin Sk.nS} (ha : a ≠ 0) (hb : b ≠ 0) {Q : Cv.Pt (Fin Sk.pS)} (hQ : onS Q) (hn : Q ≠ none) :
   Cv.sumR Sk.O (Gp.mn Sk.O Sk.G (0 - z * Cv.inv1 a).val) (Gp.mn Sk.O (Gp.ngp Sk.O Q) (b * Cv.inv1 a).val) ≠ Cv.sumR Sk.O (Gp.mn Sk.O Sk.G (0 - z * Cv.inv1 a).val) (Gp.mn Sk.O Q (b * Cv.inv1 a).val) := by
 obtain ⟨q, rfl⟩ := Sk.mF_all hQ
 rw [Sk.mF_neg, sum_mF, sum_mF]
 intro e
 have hq : q ≠ 0 := fun h => hn (by rw [h]; exact Sk.mF_zero)
 exact Sk.parity (inv_ok ha) hb hq (Sk.mF_inj e).symm
theorem pt_ne {A : Ar} (hA : A = Ar.real) {p : Nat} {k : Kf p} {r : List AVal} [NeZero p] (hK : OkF k r) (x y u v : Fin p) (h : (some (x, y) : Cv.Pt (Fin p)) ≠ some (u, v)) :
   A.eqs [(.s .u64 (k.v x 0), .s .u64 (k.v u 0)), (.s .u64 (k.v x 1), .s .u64 (k.v u 1)), (.s .u64 (k.v x 2), .s .u64 (k.v u 2)), (.s .u64 (k.v x 3), .s .u64 (k.v u 3)), (.s .u64 (k.v y 0), .s .u64 (k.v v 0)), (.s .u64 (k.v y 1), .s .u64 (k.v v 1)), (.s .u64 (k.v y 2), .s .u64 (k.v v 2)), (.s .u64 (k.v y 3), .s .u64 (k.v v 3)), (.b false, .b false)] = false := by
 have h0 : ∀ x y : Int, leafEq (.s .u64 x, .s .u64 y) = (x == y) := fun x y => rfl
 rw [hA]
 show List.all _ _ = false
 refine Bool.eq_false_iff.2 fun e => h ?_
 simp only [List.all_cons, List.all_nil, h0, beq_iff_eq, Bool.and_eq_true, and_true] at e
 obtain ⟨a0, a1, a2, a3, b0, b1, b2, b3, _⟩ := e
 rw [hK.injv x u ⟨a0, a1, a2, a3⟩, hK.injv y v ⟨b0, b1, b2, b3⟩]
section
variable {H : H5} {k : Kf Sk.pS} {r : List AVal} {kn : Kf Sk.nS} {rn : List AVal} {m n : Nat} (hs : Sec H k r kn rn m n) (hr : RootK H k r)
include hs hr
theorem Sec.provesNo (F : Nat → Int) (a b : Nat) (oi : Int) (c : Sp 17 [.agg (hsh F), sgn9 H.lim a b oi] (.tup [zPt, .i .i64 62])) : Sp 5 [.agg (hsh F), sgn9 H.lim a b oi] (.sb true) := by
 have cw := hs.awake hr
 clear hr
 refine mk Try.func5 rfl rfl L0 R1 (by decide +kernel) fun A S hA hS => ?_
 have nt := not_t hA
 unfold bodyOf Try.f5
 cbv
 repeat ((first | refine ABr.t (by first | assumption | rfl) ?_ | refine ABr.f (by first | assumption | rfl) ?_ | refine aF hS cw ?_ | refine aF hS c ?_); cbv)
theorem Sec.provesYes (h : Nat → Nat) (hh : ∀ j, h j < 256) (F : Nat → Int) (hF : F = fun j => ((h j : Nat) : Int)) (a b : Nat) (ha : a ≠ 0 ∧ a < Sk.nS) (hb : b ≠ 0 ∧ b < Sk.nS) (o : Nat) (ho : o ≤ 1) (oi : Int) (hoi : oi = (o : Int)) (y : Fin Sk.pS) (hy : y = rtS (cvS a)) (hc : y * y = cvS a) : Sp 5 [.agg (hsh F), sgn9 H.lim a b oi] (.sb true) := by
 obtain ⟨oj, hoj⟩ : ∃ oj : Int, oj = ((1 - o : Nat) : Int) := ⟨_, rfl⟩
 have hQ := pick_on hc o
 have hQ' := pick_on hc (1 - o)
 obtain ⟨R, hR⟩ : ∃ R, R = Cv.sumR Sk.O (Gp.mn Sk.O Sk.G (0 - Sk.nf (rdN h) * Cv.inv1 (Sk.nf a)).val) (Gp.mn Sk.O (some (Sk.fs a, pickS y o)) (Sk.nf b * Cv.inv1 (Sk.nf a)).val) := ⟨_, rfl⟩
 obtain ⟨T, hT⟩ : ∃ T, T = Cv.sumR Sk.O (Gp.mn Sk.O Sk.G (0 - Sk.nf (rdN h) * Cv.inv1 (Sk.nf a)).val) (Gp.mn Sk.O (some (Sk.fs a, pickS y (1 - o))) (Sk.nf b * Cv.inv1 (Sk.nf a)).val) := ⟨_, rfl⟩
 have c1 := hs.recGood hr h hh F hF a b ha hb o ho oi hoi y hy hc R hR hQ
 have c2 := hs.recGood hr h hh F hF a b ha hb (1 - o) (by omega) oj hoj y hy hc T hT hQ'
 by_cases hn : R = none
 . exact hs.provesNo hr F a b oi (c1.1 hn)
 . have c1 := c1.2 hn
   have hne : T ≠ R := by
     rw [hT, hR, pick_flip y o ho]
     exact otherPt (nf_ne ha) (nf_ne hb) hQ (by intro e; cases e)
   obtain ⟨hRon, hv⟩ := provesPt (nf_ne ha) (nf_ne hb) hQ hR
   clear hR hT
   rcases R with _ | ⟨x, yy⟩
   . exact absurd rfl hn
   have gp := hs.goodP _ hRon
   have cv := hs.verifyGood x yy hRon h hh F hF a b ha hb _ hv.symm true (decide_eq_true (by
     rw [fs_val (Nat.lt_trans ha.2 (by decide))]; exact Nat.mod_eq_of_lt ha.2)).symm
   have cw := hs.awake hr
   have hsub : ∀ (A : Ar) (hA : A = Ar.real), A.bin .sub .i64 1 oi = oj := fun A hA => by
     rw [hA, hoi, hoj]
     rcases (by omega : o = 0 ∨ o = 1) with e | e <;> subst e <;> rfl
   clear hQ hQ' hc hy hr hv hF hh hoi hoj ho
   have hKK := hs.ok
   rcases T with _ | ⟨u, v⟩
   . have c2 := c2.1 rfl
     refine mk Try.func5 rfl rfl L0 R1 (by decide +kernel) fun A S hA hS => ?_
     have nt := not_t hA
     have hsub := hsub A hA
     unfold bodyOf Try.f5
     cbv
     repeat ((first | refine ABr.t (by first | assumption | rfl) ?_ | refine ABr.f (by first | assumption | rfl) ?_ | refine aF hS cw ?_ | refine aF hS c1 ?_ | refine aF hS gp ?_ | refine aF hS cv ?_); cbv)
     refine aG hS c2 ?_ ?_
     . cbv
       repeat' (first | exact hsub | exact rfl | exact trivial | constructor)
     cbv
     repeat ((first | refine ABr.t (by first | assumption | rfl) ?_ | refine ABr.f (by first | assumption | rfl) ?_ | refine aF hS cw ?_); cbv)
   . have c2 := c2.2 (by intro e; cases e)
     refine mk Try.func5 rfl rfl L0 R1 (by decide +kernel) fun A S hA hS => ?_
     have nt := not_t hA
     have hsub := hsub A hA
     have hne := pt_ne hA hKK u v x yy hne
     have hnn : A.not (A.eqs [(.s .u64 (k.v u 0), .s .u64 (k.v x 0)), (.s .u64 (k.v u 1), .s .u64 (k.v x 1)), (.s .u64 (k.v u 2), .s .u64 (k.v x 2)), (.s .u64 (k.v u 3), .s .u64 (k.v x 3)), (.s .u64 (k.v v 0), .s .u64 (k.v yy 0)), (.s .u64 (k.v v 1), .s .u64 (k.v yy 1)), (.s .u64 (k.v v 2), .s .u64 (k.v yy 2)), (.s .u64 (k.v v 3), .s .u64 (k.v yy 3)), (.b false, .b false)]) = true := by rw [hne]; exact not_f hA
     unfold bodyOf Try.f5
     cbv
     repeat ((first | refine ABr.t (by first | assumption | rfl) ?_ | refine ABr.f (by first | assumption | rfl) ?_ | refine aF hS cw ?_ | refine aF hS c1 ?_ | refine aF hS gp ?_ | refine aF hS cv ?_); cbv)
     refine aG hS c2 ?_ ?_
     . cbv
       repeat' (first | exact hsub | exact rfl | exact trivial | constructor)
     cbv
     repeat ((first | refine ABr.t (by first | assumption | rfl) ?_ | refine ABr.f (by first | assumption | rfl) ?_ | refine aF hS cw ?_); cbv)
     exact hnn
end
theorem lw_proves {H : H5} (hH : H = H5.real) (h : Nat → Nat) (a b : Nat) (oi : Int) (hh : ∀ j, h j < 256) (ha : a < 2 ^ 256) (hb : b < 2 ^ 256) : Sp 5 [.agg (hsh fun j => ((h j : Nat) : Int)), sgn9 H.lim a b oi] (.sb true) := by
 have hs := sec H hH
 have hr := rootK H hH
 by_cases c : (oi = 0 ∨ oi = 1) ∧ (a ≠ 0 ∧ a < Sk.nS) ∧ (b ≠ 0 ∧ b < Sk.nS)
 . obtain ⟨co, ca, cb⟩ := c
   obtain ⟨y, hy⟩ : ∃ y, y = rtS (cvS a) := ⟨_, rfl⟩
   by_cases hc : y * y = cvS a
   . rcases co with e | e
     . exact hs.provesYes hr h hh _ rfl a b ca cb 0 (by decide) oi e y hy hc
     . exact hs.provesYes hr h hh _ rfl a b ca cb 1 (by decide) oi e y hy hc
   . exact hs.provesNo hr _ a b oi (hs.recNone hr _ a b ca cb oi co y hy hc)
 . exact hs.provesNo hr _ a b oi (hs.recBad _ a b ha hb oi c)
end Go.Proofs.Ytkhipnhdbaahcaa
end
