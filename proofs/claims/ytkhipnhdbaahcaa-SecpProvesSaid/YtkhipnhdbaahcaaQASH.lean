import Derived.Test.YtkhipnhdbaahcaaQASE
import Derived.Test.YtkhipnhdbaahcaaQASC
set_option linter.unusedVariables false
set_option linter.unusedSimpArgs false
set_option linter.unusedSectionVars false
set_option maxRecDepth 100000
set_option exponentiation.threshold 2000
set_option maxHeartbeats 4000000
section
namespace Go.Proofs.Ytkhipnhdbaahcaa
open Go Eng
structure Sec (H : H5) (k : Kf Sk.pS) (r : List AVal) (kn : Kf Sk.nS) (rn : List AVal) (m n : Nat) : Prop where
 mk_ ::
 hH : H = H5.real
 ok : OkF k r
 okn : OkF kn rn
 prime : Sp 51 [] (.ref r 0)
 order : Sp 42 [] (.ref rn 0)
 sp : Sp 50 [] (u4 H.lim m)
 sn : Sp 54 [] (u4 H.lim n)
 hm : m = Sk.pS
 hn : n = Sk.nS
 uv : ∀ (a : Fin Sk.pS) i, k.v a i = H.lim a.val i
 un : ∀ (a : Fin Sk.nS) i, kn.v a i = H.lim a.val i
 o : k.O = Sk.O
 on : kn.O = Cv.ops1 Cv.inv1
theorem sec (H : H5) (hH : H = H5.real) : Sec H (Kof H Sk.pS) (R4 H Sk.pS) (Kof H Sk.nS) (R4 H Sk.nS) Sk.pS Sk.nS where
 hH := hH
 ok := okF hH prP
 okn := okF hH prN
 prime := by
   have cp := SecpPS hH
   have cm := MakeS4 hH prP.toMod
   rw [show secpP = Sk.pS from rfl] at cp
   have s := simRF H Sk.pS 10
   generalize Sk.pS = m at *
   generalize R4 H m = r at *
   refine mk Try.func51 rfl rfl L0 R1 (by decide +kernel) fun A S hA hS => ?_
   unfold bodyOf Try.f51
   cbv
   refine aF hS cp ?_
   cbv
   refine aF hS cm ?_
   cbv
   unfold simL at s
   exact s
 order := by
   have cp := SecpNS hH
   have cm := MakeS4 hH prN.toMod
   rw [show secpN = Sk.nS from rfl] at cp
   have s := simRF H Sk.nS 10
   generalize Sk.nS = m at *
   generalize R4 H m = r at *
   refine mk Try.func42 rfl rfl L0 R1 (by decide +kernel) fun A S hA hS => ?_
   unfold bodyOf Try.f42
   cbv
   refine aF hS cp ?_
   cbv
   refine aF hS cm ?_
   cbv
   unfold simL at s
   exact s
 sp := SecpPS hH
 sn := SecpNS hH
 hm := rfl
 hn := rfl
 uv := fun _ _ => rfl
 un := fun _ _ => rfl
 o := rfl
 on := rfl
theorem topP : TopM Sk.pS := ⟨by decide, by decide⟩
theorem topN : TopM Sk.nS := ⟨by decide, by decide⟩
theorem fs_val {x : Nat} (h : x < Sk.pS) : (Sk.fs x).val = x := Nat.mod_eq_of_lt h
def PS (H : H5) (x y : Nat) (inf : Bool) : AVal := .agg [.s .u64 (H.lim x 0), .s .u64 (H.lim x 1), .s .u64 (H.lim x 2), .s .u64 (H.lim x 3), .s .u64 (H.lim y 0), .s .u64 (H.lim y 1), .s .u64 (H.lim y 2), .s .u64 (H.lim y 3), .sb inf]
def GoodQ (x y : Nat) (inf : Bool) : Prop := (inf = true ∧ x = 0 ∧ y = 0) ∨ (inf = false ∧ x < Sk.pS ∧ y < Sk.pS ∧ Sk.fs y * Sk.fs y = Sk.fs x * Sk.fs x * Sk.fs x + Sk.fs 7)
instance (x y : Nat) (inf : Bool) : Decidable (GoodQ x y inf) := inferInstanceAs (Decidable (_ ∨ _))
def ptQ (x y : Nat) (inf : Bool) : Cv.Pt (Fin Sk.pS) := if inf then none else some (Sk.fs x, Sk.fs y)
def onS (P : Cv.Pt (Fin Sk.pS)) : Prop := Cv.onC Sk.O (Sk.fs 7) P
theorem GoodQ.on {x y : Nat} {inf : Bool} (h : GoodQ x y inf) : onS (ptQ x y inf) := by
 rcases h with ⟨rfl, _, _⟩ | ⟨rfl, _, _, h⟩
 . exact trivial
 . exact h
section
variable {H : H5} {k : Kf Sk.pS} {r : List AVal} {kn : Kf Sk.nS} {rn : List AVal} {m n : Nat} (hs : Sec H k r kn rn m n)
include hs
theorem Sec.lim0 (i : Nat) : H.lim 0 i = 0 := by
 rw [hs.hH]; show ((0 / 2 ^ (64 * i) % 2 ^ 64 : Nat) : Int) = 0
 rw [Nat.zero_div]; rfl
theorem Sec.v_fs {x : Nat} (h : x < Sk.pS) (i : Nat) : k.v (Sk.fs x) i = H.lim x i := by rw [hs.uv, fs_val h]
theorem Sec.inn {x : Nat} (h : x < Sk.pS) : Sp 44 [.ref r 0, u4 H.lim x] (Ef k (Sk.fs x)) := by
 have c := hs.ok.inn (Sk.fs x)
 unfold Uf at c
 rw [hs.v_fs h, hs.v_fs h, hs.v_fs h, hs.v_fs h] at c
 exact c
theorem Sec.sim {x y : Nat} {inf : Bool} (h : GoodQ x y inf) : Sim (PS H x y inf) (Pf k (ptQ x y inf)) := by
 rcases h with ⟨rfl, rfl, rfl⟩ | ⟨rfl, hx, hy, _⟩
 . have z := hs.lim0
   exact ⟨z 0, z 1, z 2, z 3, z 0, z 1, z 2, z 3, rfl⟩
 . have vx := fun i => (hs.v_fs hx i).symm
   have vy := fun i => (hs.v_fs hy i).symm
   exact ⟨vx 0, vx 1, vx 2, vx 3, vy 0, vy 1, vy 2, vy 3, rfl⟩
theorem Sec.sim' {x y : Nat} {inf : Bool} (h : GoodQ x y inf) : Sim (Pf k (ptQ x y inf)) (PS H x y inf) := by
 rcases h with ⟨rfl, rfl, rfl⟩ | ⟨rfl, hx, hy, _⟩
 . have z := hs.lim0
   exact ⟨(z 0).symm, (z 1).symm, (z 2).symm, (z 3).symm, (z 0).symm, (z 1).symm, (z 2).symm, (z 3).symm, rfl⟩
 . have vx := hs.v_fs hx
   have vy := hs.v_fs hy
   exact ⟨vx 0, vx 1, vx 2, vx 3, vy 0, vy 1, vy 2, vy 3, rfl⟩
theorem Sec.curve (x : Fin Sk.pS) : Sp 52 [.ref r 0, Ef k x] (Ef k (x * x * x + Sk.fs 7)) := by
 have hK := hs.ok
 have c7 := hs.inn (x := 7) (by decide)
 have h70 : H.lim 7 0 = 7 := by rw [hs.hH]; rfl
 have h7s : ∀ i, i < 3 → H.lim 7 (i + 1) = 0 := fun i hi => by
   rw [hs.hH]; show ((7 / 2 ^ (64 * (i + 1)) % 2 ^ 64 : Nat) : Int) = 0
   rw [Nat.div_eq_of_lt (Nat.lt_of_lt_of_le (by decide : 7 < 2 ^ 64) (Nat.pow_le_pow_right (n := 2) (i := 64) (by decide) (by omega)))]; rfl
 have e1 := hK.mul x x
 have e2 := hK.mul (x * x) x
 have e3 := hK.add (x * x * x) (Sk.fs 7)
 rw [hs.o] at e1 e2 e3
 replace e1 : Sp 48 [.ref r 0, Ef k x, Ef k x] (Ef k (x * x)) := e1
 replace e2 : Sp 48 [.ref r 0, Ef k (x * x), Ef k x] (Ef k (x * x * x)) := e2
 replace e3 : Sp 87 [.ref r 0, Ef k (x * x * x), Ef k (Sk.fs 7)] (Ef k (x * x * x + Sk.fs 7)) := e3
 generalize x * x * x + Sk.fs 7 = w at *
 generalize x * x * x = v at *
 generalize x * x = u at *
 generalize Sk.fs 7 = s at *
 refine mk Try.func52 rfl rfl L0 R1 (by decide +kernel) fun A S hA hS => ?_
 unfold bodyOf Try.f52
 cbv
 refine aF hS e1 ?_
 cbv
 refine aF hS e2 ?_
 cbv
 refine aG hS c7 ?_ ?_
 . cbv
   repeat' (first | exact h70.symm | exact (h7s _ (by decide)).symm | (have h := hK.sim 10; unfold simL at h; exact h) | exact trivial | exact rfl | constructor)
 cbv
 refine aF hS e3 ?_
 cbv
theorem Sec.ge {x : Nat} {A : Ar} (hA : A = Ar.real) (t : Bool) (h : decide (m ≤ x) = t) : A.cmp .geq (cmpZ x m) 0 = t := by
 rw [u_ge hA, ← h]
 unfold cmpZ
 by_cases h1 : x < m
 . rw [if_pos h1, decide_eq_false (by omega), decide_eq_false (by omega)]
 . rw [if_neg h1]
   by_cases h2 : m < x
   . rw [if_pos h2, decide_eq_true (by omega), decide_eq_true (by omega)]
   . rw [if_neg h2, decide_eq_true (by omega), decide_eq_true (by omega)]
theorem Sec.good (x y : Nat) (hx : x < 2 ^ 256) (hy : y < 2 ^ 256) (inf : Bool) (t : Bool) (ht : t = decide (GoodQ x y inf)) : Sp 18 [PS H x y inf] (.sb t) := by
 have hl := H5.hlim hs.hH
 cases inf with
 | true =>
   have e : t = (decide (x = 0) && decide (y = 0)) := by
     rw [ht]
     unfold GoodQ
     by_cases h1 : x = 0 <;> by_cases h2 : y = 0 <;> simp [h1, h2]
   by_cases h1 : x = 0
   . rw [decide_eq_true h1, Bool.true_and] at e
     refine mk Try.func18 rfl rfl L0 R1 (by decide +kernel) fun A S hA hS => ?_
     have e1 := (zeq4 hA hl (x := x) hx).trans (decide_eq_true h1)
     have e2 := (zeq4 hA hl (x := y) hy).trans e.symm
     unfold bodyOf Try.f18
     cbv
     refine ABr.t rfl ?_
     cbv
     repeat (first | (refine ABr.t e1 ?_; cbv))
     exact e2
   . rw [decide_eq_false h1, Bool.false_and] at e
     subst e
     refine mk Try.func18 rfl rfl L0 R1 (by decide +kernel) fun A S hA hS => ?_
     have e1 := (zeq4 hA hl (x := x) hx).trans (decide_eq_false h1)
     unfold bodyOf Try.f18
     cbv
     refine ABr.t rfl ?_
     cbv
     repeat (first | (refine ABr.f e1 ?_; cbv))
 | false =>
   have e : t = decide (x < Sk.pS ∧ y < Sk.pS ∧ Sk.fs y * Sk.fs y = Sk.fs x * Sk.fs x * Sk.fs x + Sk.fs 7) := by
     rw [ht]
     unfold GoodQ
     congr 1
     simp
   have hm256 : m < 2 ^ 256 := by rw [hs.hm]; decide
   have sp := hs.sp
   have cx := cmpS hl x m hx hm256
   have cy := cmpS hl y m hy hm256
   have gx := fun (A : Ar) (hA : A = Ar.real) => hs.ge (x := x) hA
   have gy := fun (A : Ar) (hA : A = Ar.real) => hs.ge (x := y) hA
   by_cases h1 : m ≤ x
   . rw [decide_eq_false (fun h => by have h1' := h.1; have := hs.hm; omega)] at e
     subst e
     refine mk Try.func18 rfl rfl L0 R1 (by decide +kernel) fun A S hA hS => ?_
     have g1 := gx A hA true (decide_eq_true h1)
     generalize cmpZ x m = zx at *
     unfold bodyOf Try.f18
     cbv
     refine ABr.f rfl ?_
     cbv
     refine aF hS sp ?_
     cbv
     refine aF hS cx ?_
     cbv
     repeat (first | (refine ABr.t g1 ?_; cbv))
   by_cases h2 : m ≤ y
   . rw [decide_eq_false (fun h => by have h1' := h.2.1; have := hs.hm; omega)] at e
     subst e
     refine mk Try.func18 rfl rfl L0 R1 (by decide +kernel) fun A S hA hS => ?_
     have g1 := gx A hA false (decide_eq_false h1)
     have g2 := gy A hA true (decide_eq_true h2)
     generalize cmpZ x m = zx at *
     generalize cmpZ y m = zy at *
     unfold bodyOf Try.f18
     cbv
     refine ABr.f rfl ?_
     cbv
     repeat ((first | refine ABr.t (by first | assumption | rfl) ?_ | refine ABr.f (by first | assumption | rfl) ?_ | refine aF hS sp ?_ | refine aF hS cx ?_ | refine aF hS cy ?_); cbv)
   have hx' : x < Sk.pS := by have := hs.hm; omega
   have hy' : y < Sk.pS := by have := hs.hm; omega
   have e : t = decide (Sk.fs y * Sk.fs y = Sk.fs x * Sk.fs x * Sk.fs x + Sk.fs 7) := by
     rw [e]; congr 1; simp only [eq_iff_iff]; constructor
     . exact fun h => h.2.2
     . exact fun h => ⟨hx', hy', h⟩
   have cp := hs.prime
   have iy := hs.inn hy'
   have ix := hs.inn hx'
   have cc := hs.curve (Sk.fs x)
   have cm := hs.ok.mul (Sk.fs y) (Sk.fs y)
   rw [hs.o] at cm
   replace cm : Sp 48 [.ref r 0, Ef k (Sk.fs y), Ef k (Sk.fs y)] (Ef k (Sk.fs y * Sk.fs y)) := cm
   have hinj := hs.ok.inj
   generalize Sk.fs x * Sk.fs x * Sk.fs x + Sk.fs 7 = w at *
   generalize Sk.fs y * Sk.fs y = v at *
   generalize Sk.fs x = fx at *
   generalize Sk.fs y = fy at *
   refine mk Try.func18 rfl rfl L0 R1 (by decide +kernel) fun A S hA hS => ?_
   have g1 := gx A hA false (decide_eq_false h1)
   have g2 := gy A hA false (decide_eq_false h2)
   have eq := (words_eq hinj hA v w).trans e.symm
   generalize cmpZ x m = zx at *
   generalize cmpZ y m = zy at *
   clear e gx gy
   unfold bodyOf Try.f18
   cbv
   refine ABr.f rfl ?_
   cbv
   repeat ((first | refine ABr.t (by first | assumption | rfl) ?_ | refine ABr.f (by first | assumption | rfl) ?_ | refine aF hS sp ?_ | refine aF hS cx ?_ | refine aF hS cy ?_ | refine aF hS cp ?_ | refine aF hS iy ?_ | refine aF hS cm ?_ | refine aF hS ix ?_ | refine aF hS cc ?_); cbv)
   exact eq
theorem Sec.goodP (P : Cv.Pt (Fin Sk.pS)) (hP : onS P) : Sp 18 [Pf k P] (.sb true) := by
 rcases P with _ | ⟨x, y⟩
 . have g : GoodQ 0 0 true := .inl ⟨rfl, rfl, rfl⟩
   have := hs.good 0 0 (by decide) (by decide) true true (decide_eq_true g).symm
   exact Spec.args this (hs.sim' g)
 . have e1 : Sk.fs x.val = x := Fin.ext (fs_val x.isLt)
   have e2 : Sk.fs y.val = y := Fin.ext (fs_val y.isLt)
   have g : GoodQ x.val y.val false := .inr ⟨rfl, x.isLt, y.isLt, by rw [e1, e2]; exact hP⟩
   have hp : ∀ a : Fin Sk.pS, a.val < 2 ^ 256 := fun a => Nat.lt_trans a.isLt (by decide)
   have c := hs.good x.val y.val (hp x) (hp y) false true (decide_eq_true g).symm
   have s := hs.sim' g
   rw [show ptQ x.val y.val false = some (x, y) by show some (Sk.fs x.val, Sk.fs y.val) = _; rw [e1, e2]] at s
   exact Spec.args c s
end
theorem down_upS (P : Cv.Pt (Fin Sk.pS)) (hP : onS P) : Cv.down Sk.O (Cv.up Sk.O P) = P := by
 have h := Sk.hA none P trivial hP
 have e : Cv.plus Sk.O (Cv.up Sk.O none) (Cv.up Sk.O P) = Cv.up Sk.O P := if_pos rfl
 rw [e] at h
 exact h
theorem timesMn (P : Cv.Pt (Fin Sk.pS)) (hP : onS P) (e n : Nat) (hn : IsLen e n) : Cv.down Sk.O (Gp.tmP Sk.O (Cv.up Sk.O P) e n n) = Gp.mn Sk.O P e := by
 have h := Gp.tmP_mn Sk.F Sk.L Sk.no2 Sk.hA (p := Cv.up Sk.O P) (by rw [down_upS P hP]; exact hP) hn.1 n (Nat.le_refl _)
 rwa [Nat.sub_self, Nat.pow_zero, Nat.div_one, down_upS P hP] at h
theorem not_t {A : Ar} (hA : A = Ar.real) : A.not true = false := by rw [hA]; rfl
theorem not_f {A : Ar} (hA : A = Ar.real) : A.not false = true := by rw [hA]; rfl
def zPt : AVal := .agg [.i .u64 0, .i .u64 0, .i .u64 0, .i .u64 0, .i .u64 0, .i .u64 0, .i .u64 0, .i .u64 0, .b false]
section
variable {H : H5} {k : Kf Sk.pS} {r : List AVal} {kn : Kf Sk.nS} {rn : List AVal} {m n : Nat} (hs : Sec H k r kn rn m n)
include hs
theorem Sec.L : Cv.Laws k.O := by rw [hs.o]; exact Sk.L
theorem Sec.mul (P : Cv.Pt (Fin Sk.pS)) (hP : onS P) (e : Nat) (he : e < 2 ^ 256) : Sp 67 [Pf k P, u4 H.lim e] (.tup [Pf k (Gp.mn Sk.O P e), .i .i64 0]) := by
 obtain ⟨l, hl⟩ := isLen_ex e
 have gp := hs.goodP P hP
 have cp := hs.prime
 have jp := jacS hs.ok P
 have ct := timesS hs.ok (Cv.up k.O P) (H5.hlim hs.hH) e l he hl
 have cd := affS hs.ok hs.L (Gp.tmP k.O (Cv.up k.O P) e l l)
 have e1 : Cv.down k.O (Gp.tmP k.O (Cv.up k.O P) e l l) = Gp.mn Sk.O P e := by
   rw [hs.o]; exact timesMn P hP e l hl
 rw [e1] at cd
 generalize Gp.mn Sk.O P e = R at *
 generalize Gp.tmP k.O (Cv.up k.O P) e l l = a at *
 generalize Cv.up k.O P = u at *
 clear e1
 rcases P with _ | ⟨px, py⟩ <;> rcases R with _ | ⟨x, y⟩
 all_goals
   refine mk Try.func67 rfl rfl L0 R1 (by decide +kernel) fun A S hA hS => ?_
   have nt := not_t hA
   unfold bodyOf Try.f67
   cbv
   repeat ((first | refine ABr.t (by first | assumption | rfl) ?_ | refine ABr.f (by first | assumption | rfl) ?_ | refine aF hS gp ?_ | refine aF hS cp ?_ | refine aF hS jp ?_ | refine aF hS ct ?_ | refine aF hS cd ?_); cbv)
theorem Sec.neg (P : Cv.Pt (Fin Sk.pS)) (hP : onS P) : Sp 71 [Pf k P] (.tup [Pf k (Gp.ngp Sk.O P), .i .i64 0]) := by
 have gp := hs.goodP P hP
 have ci := infS (k := k)
 rcases P with _ | ⟨x, y⟩
 . unfold Gp.ngp
   refine mk Try.func71 rfl rfl L0 R1 (by decide +kernel) fun A S hA hS => ?_
   have nt := not_t hA
   unfold bodyOf Try.f71
   cbv
   repeat ((first | refine ABr.t (by first | assumption | rfl) ?_ | refine ABr.f (by first | assumption | rfl) ?_ | refine aF hS gp ?_ | refine aF hS ci ?_); cbv)
 . have sp := hs.sp
   have hl := H5.hlim hs.hH
   have hm256 : m < 2 ^ 256 := by rw [hs.hm]; decide
   have hy : y.val < m := by rw [hs.hm]; exact y.isLt
   have cs_ := subS hl m y.val hm256 (Nat.le_of_lt hy)
   have cm_ := modS hl (m - y.val) m (by omega) (by rw [hs.hm]; exact topP)
   have e : (m - y.val) % m = (0 - y).val := by
     rw [hs.hm]
     have := fin_subF 0 y
     rw [Cv.val_zero, Nat.zero_add] at this
     exact this
   rw [e] at cm_
   have v0 := hs.uv (0 - y)
   have vy := hs.uv y
   have e2 : Gp.ngp Sk.O (some (x, y)) = some (x, 0 - y) := rfl
   rw [e2]
   generalize (0 : Fin Sk.pS) - y = z at *
   generalize m - y.val = d at *
   have w0 := vy 0
   have w1 := vy 1
   have w2 := vy 2
   have w3 := vy 3
   have z0 := v0 0
   have z1 := v0 1
   have z2 := v0 2
   have z3 := v0 3
   clear vy v0 e e2
   generalize z.val = zv at *
   generalize y.val = yv at *
   refine mk Try.func71 rfl rfl L0 R1 (by decide +kernel) fun A S hA hS => ?_
   have nt := not_t hA
   have ne : A.eqs [(.s .u64 (k.v x 0), .i .u64 0), (.s .u64 (k.v x 1), .i .u64 0), (.s .u64 (k.v x 2), .i .u64 0), (.s .u64 (k.v x 3), .i .u64 0), (.s .u64 (k.v y 0), .i .u64 0), (.s .u64 (k.v y 1), .i .u64 0), (.s .u64 (k.v y 2), .i .u64 0), (.s .u64 (k.v y 3), .i .u64 0), (.b false, .b true)] = false := by
     rw [hA]
     show List.all _ _ = false
     simp [leafEq]
   unfold bodyOf Try.f71
   cbv
   repeat ((first | refine ABr.t (by first | assumption | rfl) ?_ | refine ABr.f (by first | assumption | rfl) ?_ | refine aF hS gp ?_ | refine aF hS ci ?_ | refine aF hS sp ?_); cbv)
   refine aG hS cs_ ?_ ?_
   . cbv
     repeat' (first | exact w0 | exact w1 | exact w2 | exact w3 | exact rfl | exact trivial | constructor)
   cbv
   repeat ((first | refine ABr.t (by first | assumption | rfl) ?_ | refine ABr.f (by first | assumption | rfl) ?_ | refine aF hS sp ?_ | refine aF hS cm_ ?_); cbv)
   repeat' (first | exact z0.symm | exact z1.symm | exact z2.symm | exact z3.symm | exact rfl | exact trivial | constructor)
theorem Sec.scalar (e : Nat) (he : e < 2 ^ 256) (t : Bool) (ht : t = decide (e ≠ 0 ∧ e < Sk.nS)) : Sp 41 [u4 H.lim e] (.sb t) := by
 have hl := H5.hlim hs.hH
 have hn256 : n < 2 ^ 256 := by rw [hs.hn]; decide
 have sn := hs.sn
 have cc := cmpS hl e n he hn256
 rw [← hs.hn] at ht
 by_cases h : e = 0
 . rw [decide_eq_false (fun h' => h'.1 h)] at ht
   subst ht
   refine mk Try.func41 rfl rfl L0 R1 (by decide +kernel) fun A S hA hS => ?_
   have e1 : A.not (A.eqs [(.s .u64 (H.lim e 0), .i .u64 0), (.s .u64 (H.lim e 1), .i .u64 0), (.s .u64 (H.lim e 2), .i .u64 0), (.s .u64 (H.lim e 3), .i .u64 0)]) = false := by
     rw [zeq4 hA hl (x := e) he, decide_eq_true h]; exact not_t hA
   generalize cmpZ e n = z at *
   unfold bodyOf Try.f41
   cbv
   repeat ((first | refine ABr.t (by first | assumption | rfl) ?_ | refine ABr.f (by first | assumption | rfl) ?_ | refine aF hS sn ?_ | refine aF hS cc ?_); cbv)
 . have ht : t = decide (e < n) := by
     rw [ht]; congr 1; simp only [eq_iff_iff]; exact ⟨fun h => h.2, fun h' => ⟨h, h'⟩⟩
   refine mk Try.func41 rfl rfl L0 R1 (by decide +kernel) fun A S hA hS => ?_
   have e1 : A.not (A.eqs [(.s .u64 (H.lim e 0), .i .u64 0), (.s .u64 (H.lim e 1), .i .u64 0), (.s .u64 (H.lim e 2), .i .u64 0), (.s .u64 (H.lim e 3), .i .u64 0)]) = true := by
     rw [zeq4 hA hl (x := e) he, decide_eq_false h]; exact not_f hA
   have e2 : A.cmp .lss (cmpZ e n) 0 = t := by
     rw [i_lt hA, ht]
     unfold cmpZ
     by_cases h1 : e < n
     . rw [if_pos h1, decide_eq_true h1, decide_eq_true (by omega)]
     . rw [if_neg h1, decide_eq_false h1]
       split <;> exact decide_eq_false (by omega)
   generalize cmpZ e n = z at *
   unfold bodyOf Try.f41
   cbv
   repeat ((first | refine ABr.t (by first | assumption | rfl) ?_ | refine ABr.f (by first | assumption | rfl) ?_ | refine aF hS sn ?_ | refine aF hS cc ?_); cbv)
   exact e2
theorem Sec.base : Sp 68 [] (Pf k Sk.G) := by
 have vx := hs.v_fs (x := Sk.gx) (by decide)
 have vy := hs.v_fs (x := Sk.gy) (by decide)
 have ex : ∀ i, i < 4 → H.lim Sk.gx i = limR Sk.gx i := fun i _ => by rw [hs.hH]; rfl
 have ey : ∀ i, i < 4 → H.lim Sk.gy i = limR Sk.gy i := fun i _ => by rw [hs.hH]; rfl
 have x0 : (6481385041966929816 : Int) = k.v (Sk.fs Sk.gx) 0 := by rw [vx, ex 0 (by decide)]; decide
 have x1 : (188021827762530521 : Int) = k.v (Sk.fs Sk.gx) 1 := by rw [vx, ex 1 (by decide)]; decide
 have x2 : (6170039885052185351 : Int) = k.v (Sk.fs Sk.gx) 2 := by rw [vx, ex 2 (by decide)]; decide
 have x3 : (8772561819708210092 : Int) = k.v (Sk.fs Sk.gx) 3 := by rw [vx, ex 3 (by decide)]; decide
 have y0 : (11261198710074299576 : Int) = k.v (Sk.fs Sk.gy) 0 := by rw [vy, ey 0 (by decide)]; decide
 have y1 : (18237243440184513561 : Int) = k.v (Sk.fs Sk.gy) 1 := by rw [vy, ey 1 (by decide)]; decide
 have y2 : (6747795201694173352 : Int) = k.v (Sk.fs Sk.gy) 2 := by rw [vy, ey 2 (by decide)]; decide
 have y3 : (5204712524664259685 : Int) = k.v (Sk.fs Sk.gy) 3 := by rw [vy, ey 3 (by decide)]; decide
 clear vx vy ex ey
 have eG : Sk.G = some (Sk.fs Sk.gx, Sk.fs Sk.gy) := rfl
 rw [eG]
 generalize Sk.fs Sk.gx = gx at *
 generalize Sk.fs Sk.gy = gy at *
 refine mk Try.func68 rfl rfl L0 R1 (by decide +kernel) fun A S hA hS => ?_
 unfold bodyOf Try.f68
 cbv
 repeat' (first | exact x0 | exact x1 | exact x2 | exact x3 | exact y0 | exact y1 | exact y2 | exact y3 | exact rfl | exact trivial | constructor)
theorem Sec.public (e : Nat) (he : e < 2 ^ 256) : (e ≠ 0 ∧ e < Sk.nS → Sp 37 [u4 H.lim e] (.tup [Pf k (Gp.mn Sk.O Sk.G e), .i .i64 0])) ∧ (¬ (e ≠ 0 ∧ e < Sk.nS) → Sp 37 [u4 H.lim e] (.tup [zPt, .i .i64 61])) := by
 have cs_ := hs.scalar e he _ rfl
 constructor
 . intro h
   rw [decide_eq_true h] at cs_
   have cb := hs.base
   have cm_ := hs.mul Sk.G Sk.onG e he
   generalize Gp.mn Sk.O Sk.G e = R at *
   have eG : Sk.G = some (Sk.fs Sk.gx, Sk.fs Sk.gy) := rfl
   rw [eG] at cb cm_
   generalize Sk.fs Sk.gx = gx at *
   generalize Sk.fs Sk.gy = gy at *
   rcases R with _ | ⟨x, y⟩
   all_goals
     refine mk Try.func37 rfl rfl L0 R1 (by decide +kernel) fun A S hA hS => ?_
     have nt := not_t hA
     unfold bodyOf Try.f37
     cbv
     repeat ((first | refine ABr.t (by first | assumption | rfl) ?_ | refine ABr.f (by first | assumption | rfl) ?_ | refine aF hS cs_ ?_ | refine aF hS cb ?_ | refine aF hS cm_ ?_); cbv)
 . intro h
   rw [decide_eq_false h] at cs_
   refine mk Try.func37 rfl rfl L0 R1 (by decide +kernel) fun A S hA hS => ?_
   have nf := not_f hA
   unfold bodyOf Try.f37
   cbv
   repeat ((first | refine ABr.t (by first | assumption | rfl) ?_ | refine ABr.f (by first | assumption | rfl) ?_ | refine aF hS cs_ ?_); cbv)
end
end Go.Proofs.Ytkhipnhdbaahcaa
end
section
namespace Dg
def V (B : Nat) (o : Nat → Nat) : Nat → Nat
 | 0 => 0
 | n + 1 => V B o n + o n * B ^ n
def upd (o : Nat → Nat) (j v : Nat) : Nat → Nat := fun m => if m = j then v else o m
section
variable {B : Nat} {o p : Nat → Nat}
theorem V_lt : ∀ n, (∀ j, j < n → o j < B) → V B o n < B ^ n
 | 0, _ => by simp [V]
 | n + 1, h => by
   have h1 := V_lt n (fun j hj => h j (by omega))
   have h2 : (o n + 1) * B ^ n ≤ B * B ^ n := Nat.mul_le_mul_right _ (h n (by omega))
   rw [V, Nat.pow_succ, Nat.mul_comm (B ^ n)]
   rw [Nat.add_mul, Nat.one_mul] at h2
   omega
theorem V_shift (o : Nat → Nat) (n : Nat) : ∀ k, V B o (n + k) = V B o n + B ^ n * V B (fun j => o (n + j)) k
 | 0 => by simp [V]
 | k + 1 => by
   rw [← Nat.add_assoc, V, V_shift o n k, V, Nat.mul_add, Nat.pow_add]
   have : B ^ n * (o (n + k) * B ^ k) = o (n + k) * (B ^ n * B ^ k) := Nat.mul_left_comm _ _ _
   omega
def dg (B a i : Nat) : Nat := a / B ^ i % B
end
end Dg
end
section
namespace Go.Proofs.Ytkhipnhdbaahcaa
open Go Eng
theorem wbyte_num (x q r : Nat) (hr : r < 8) : x / 2 ^ (64 * q) % 2 ^ 64 / 2 ^ (8 * r) % 256 = x / 2 ^ (8 * (8 * q + r)) % 256 := by
 have e : x / 2 ^ (8 * (8 * q + r)) = x / 2 ^ (64 * q) / 2 ^ (8 * r) := by
   rw [Nat.div_div_eq_div_mul, ← Nat.pow_add]; congr 2; omega
 rw [e]
 generalize x / 2 ^ (64 * q) = y
 rw [show (2 : Nat) ^ 64 = 2 ^ (8 * r) * (256 * 2 ^ (56 - 8 * r)) by rw [show (256 : Nat) = 2 ^ 8 from rfl, ← Nat.pow_add, ← Nat.pow_add]; congr 1; omega, Nat.mod_mul_right_div_self, Nat.mod_mul_right_mod]
theorem wbyte {lim : Lim} (hl : lim = limR) (x q r : Nat) (hr : r < 8) : IntKind.u8.wrap (rbin .shr .u64 (lim x q) ((8 * r : Nat) : Int)) = ((x / 2 ^ (8 * (8 * q + r)) % 256 : Nat) : Int) := by
 subst hl
 unfold limR
 have e : rbin .shr .u64 ((x / 2 ^ (64 * q) % 2 ^ 64 : Nat) : Int) ((8 * r : Nat) : Int) = ((x / 2 ^ (64 * q) % 2 ^ 64 / 2 ^ (8 * r) : Nat) : Int) := u_shr _ (8 * r) (by omega)
 rw [e, wrap_u8, ← wbyte_num x q r hr]
 generalize x / 2 ^ (64 * q) % 2 ^ 64 / 2 ^ (8 * r) = z
 omega
theorem wBytesS {lim : Lim} (hl : lim = limR) (x : Nat) (B : Nat → Int) (hB : ∀ j, j < 32 → B j = ((x / 2 ^ (8 * (31 - j)) % 256 : Nat) : Int)) : Sp 69 [u4 lim x] (.agg [.s .u8 (B 0), .s .u8 (B 1), .s .u8 (B 2), .s .u8 (B 3), .s .u8 (B 4), .s .u8 (B 5), .s .u8 (B 6), .s .u8 (B 7), .s .u8 (B 8), .s .u8 (B 9), .s .u8 (B 10), .s .u8 (B 11), .s .u8 (B 12), .s .u8 (B 13), .s .u8 (B 14), .s .u8 (B 15), .s .u8 (B 16), .s .u8 (B 17), .s .u8 (B 18), .s .u8 (B 19), .s .u8 (B 20), .s .u8 (B 21), .s .u8 (B 22), .s .u8 (B 23), .s .u8 (B 24), .s .u8 (B 25), .s .u8 (B 26), .s .u8 (B 27), .s .u8 (B 28), .s .u8 (B 29), .s .u8 (B 30), .s .u8 (B 31)]) := by
 have b0 : IntKind.u8.wrap (rbin .shr .u64 (lim x 0) 0) = B 31 := by rw [hB 31 (by decide)]; exact wbyte hl x 0 0 (by decide)
 have b1 : IntKind.u8.wrap (rbin .shr .u64 (lim x 0) 8) = B 30 := by rw [hB 30 (by decide)]; exact wbyte hl x 0 1 (by decide)
 have b2 : IntKind.u8.wrap (rbin .shr .u64 (lim x 0) 16) = B 29 := by rw [hB 29 (by decide)]; exact wbyte hl x 0 2 (by decide)
 have b3 : IntKind.u8.wrap (rbin .shr .u64 (lim x 0) 24) = B 28 := by rw [hB 28 (by decide)]; exact wbyte hl x 0 3 (by decide)
 have b4 : IntKind.u8.wrap (rbin .shr .u64 (lim x 0) 32) = B 27 := by rw [hB 27 (by decide)]; exact wbyte hl x 0 4 (by decide)
 have b5 : IntKind.u8.wrap (rbin .shr .u64 (lim x 0) 40) = B 26 := by rw [hB 26 (by decide)]; exact wbyte hl x 0 5 (by decide)
 have b6 : IntKind.u8.wrap (rbin .shr .u64 (lim x 0) 48) = B 25 := by rw [hB 25 (by decide)]; exact wbyte hl x 0 6 (by decide)
 have b7 : IntKind.u8.wrap (rbin .shr .u64 (lim x 0) 56) = B 24 := by rw [hB 24 (by decide)]; exact wbyte hl x 0 7 (by decide)
 have b8 : IntKind.u8.wrap (rbin .shr .u64 (lim x 1) 0) = B 23 := by rw [hB 23 (by decide)]; exact wbyte hl x 1 0 (by decide)
 have b9 : IntKind.u8.wrap (rbin .shr .u64 (lim x 1) 8) = B 22 := by rw [hB 22 (by decide)]; exact wbyte hl x 1 1 (by decide)
 have b10 : IntKind.u8.wrap (rbin .shr .u64 (lim x 1) 16) = B 21 := by rw [hB 21 (by decide)]; exact wbyte hl x 1 2 (by decide)
 have b11 : IntKind.u8.wrap (rbin .shr .u64 (lim x 1) 24) = B 20 := by rw [hB 20 (by decide)]; exact wbyte hl x 1 3 (by decide)
 have b12 : IntKind.u8.wrap (rbin .shr .u64 (lim x 1) 32) = B 19 := by rw [hB 19 (by decide)]; exact wbyte hl x 1 4 (by decide)
 have b13 : IntKind.u8.wrap (rbin .shr .u64 (lim x 1) 40) = B 18 := by rw [hB 18 (by decide)]; exact wbyte hl x 1 5 (by decide)
 have b14 : IntKind.u8.wrap (rbin .shr .u64 (lim x 1) 48) = B 17 := by rw [hB 17 (by decide)]; exact wbyte hl x 1 6 (by decide)
 have b15 : IntKind.u8.wrap (rbin .shr .u64 (lim x 1) 56) = B 16 := by rw [hB 16 (by decide)]; exact wbyte hl x 1 7 (by decide)
 have b16 : IntKind.u8.wrap (rbin .shr .u64 (lim x 2) 0) = B 15 := by rw [hB 15 (by decide)]; exact wbyte hl x 2 0 (by decide)
 have b17 : IntKind.u8.wrap (rbin .shr .u64 (lim x 2) 8) = B 14 := by rw [hB 14 (by decide)]; exact wbyte hl x 2 1 (by decide)
 have b18 : IntKind.u8.wrap (rbin .shr .u64 (lim x 2) 16) = B 13 := by rw [hB 13 (by decide)]; exact wbyte hl x 2 2 (by decide)
 have b19 : IntKind.u8.wrap (rbin .shr .u64 (lim x 2) 24) = B 12 := by rw [hB 12 (by decide)]; exact wbyte hl x 2 3 (by decide)
 have b20 : IntKind.u8.wrap (rbin .shr .u64 (lim x 2) 32) = B 11 := by rw [hB 11 (by decide)]; exact wbyte hl x 2 4 (by decide)
 have b21 : IntKind.u8.wrap (rbin .shr .u64 (lim x 2) 40) = B 10 := by rw [hB 10 (by decide)]; exact wbyte hl x 2 5 (by decide)
 have b22 : IntKind.u8.wrap (rbin .shr .u64 (lim x 2) 48) = B 9 := by rw [hB 9 (by decide)]; exact wbyte hl x 2 6 (by decide)
 have b23 : IntKind.u8.wrap (rbin .shr .u64 (lim x 2) 56) = B 8 := by rw [hB 8 (by decide)]; exact wbyte hl x 2 7 (by decide)
 have b24 : IntKind.u8.wrap (rbin .shr .u64 (lim x 3) 0) = B 7 := by rw [hB 7 (by decide)]; exact wbyte hl x 3 0 (by decide)
 have b25 : IntKind.u8.wrap (rbin .shr .u64 (lim x 3) 8) = B 6 := by rw [hB 6 (by decide)]; exact wbyte hl x 3 1 (by decide)
 have b26 : IntKind.u8.wrap (rbin .shr .u64 (lim x 3) 16) = B 5 := by rw [hB 5 (by decide)]; exact wbyte hl x 3 2 (by decide)
 have b27 : IntKind.u8.wrap (rbin .shr .u64 (lim x 3) 24) = B 4 := by rw [hB 4 (by decide)]; exact wbyte hl x 3 3 (by decide)
 have b28 : IntKind.u8.wrap (rbin .shr .u64 (lim x 3) 32) = B 3 := by rw [hB 3 (by decide)]; exact wbyte hl x 3 4 (by decide)
 have b29 : IntKind.u8.wrap (rbin .shr .u64 (lim x 3) 40) = B 2 := by rw [hB 2 (by decide)]; exact wbyte hl x 3 5 (by decide)
 have b30 : IntKind.u8.wrap (rbin .shr .u64 (lim x 3) 48) = B 1 := by rw [hB 1 (by decide)]; exact wbyte hl x 3 6 (by decide)
 have b31 : IntKind.u8.wrap (rbin .shr .u64 (lim x 3) 56) = B 0 := by rw [hB 0 (by decide)]; exact wbyte hl x 3 7 (by decide)
 clear hB
 refine mk Try.func69 rfl rfl (fun _ => 40) R0 (by decide +kernel) fun A S hA hS => ?_
 have b0 : A.wrap .u8 (A.bin .shr .u64 (lim x 0) 0) = B 31 := by rw [hA]; exact b0
 have b1 : A.wrap .u8 (A.bin .shr .u64 (lim x 0) 8) = B 30 := by rw [hA]; exact b1
 have b2 : A.wrap .u8 (A.bin .shr .u64 (lim x 0) 16) = B 29 := by rw [hA]; exact b2
 have b3 : A.wrap .u8 (A.bin .shr .u64 (lim x 0) 24) = B 28 := by rw [hA]; exact b3
 have b4 : A.wrap .u8 (A.bin .shr .u64 (lim x 0) 32) = B 27 := by rw [hA]; exact b4
 have b5 : A.wrap .u8 (A.bin .shr .u64 (lim x 0) 40) = B 26 := by rw [hA]; exact b5
 have b6 : A.wrap .u8 (A.bin .shr .u64 (lim x 0) 48) = B 25 := by rw [hA]; exact b6
 have b7 : A.wrap .u8 (A.bin .shr .u64 (lim x 0) 56) = B 24 := by rw [hA]; exact b7
 have b8 : A.wrap .u8 (A.bin .shr .u64 (lim x 1) 0) = B 23 := by rw [hA]; exact b8
 have b9 : A.wrap .u8 (A.bin .shr .u64 (lim x 1) 8) = B 22 := by rw [hA]; exact b9
 have b10 : A.wrap .u8 (A.bin .shr .u64 (lim x 1) 16) = B 21 := by rw [hA]; exact b10
 have b11 : A.wrap .u8 (A.bin .shr .u64 (lim x 1) 24) = B 20 := by rw [hA]; exact b11
 have b12 : A.wrap .u8 (A.bin .shr .u64 (lim x 1) 32) = B 19 := by rw [hA]; exact b12
 have b13 : A.wrap .u8 (A.bin .shr .u64 (lim x 1) 40) = B 18 := by rw [hA]; exact b13
 have b14 : A.wrap .u8 (A.bin .shr .u64 (lim x 1) 48) = B 17 := by rw [hA]; exact b14
 have b15 : A.wrap .u8 (A.bin .shr .u64 (lim x 1) 56) = B 16 := by rw [hA]; exact b15
 have b16 : A.wrap .u8 (A.bin .shr .u64 (lim x 2) 0) = B 15 := by rw [hA]; exact b16
 have b17 : A.wrap .u8 (A.bin .shr .u64 (lim x 2) 8) = B 14 := by rw [hA]; exact b17
 have b18 : A.wrap .u8 (A.bin .shr .u64 (lim x 2) 16) = B 13 := by rw [hA]; exact b18
 have b19 : A.wrap .u8 (A.bin .shr .u64 (lim x 2) 24) = B 12 := by rw [hA]; exact b19
 have b20 : A.wrap .u8 (A.bin .shr .u64 (lim x 2) 32) = B 11 := by rw [hA]; exact b20
 have b21 : A.wrap .u8 (A.bin .shr .u64 (lim x 2) 40) = B 10 := by rw [hA]; exact b21
 have b22 : A.wrap .u8 (A.bin .shr .u64 (lim x 2) 48) = B 9 := by rw [hA]; exact b22
 have b23 : A.wrap .u8 (A.bin .shr .u64 (lim x 2) 56) = B 8 := by rw [hA]; exact b23
 have b24 : A.wrap .u8 (A.bin .shr .u64 (lim x 3) 0) = B 7 := by rw [hA]; exact b24
 have b25 : A.wrap .u8 (A.bin .shr .u64 (lim x 3) 8) = B 6 := by rw [hA]; exact b25
 have b26 : A.wrap .u8 (A.bin .shr .u64 (lim x 3) 16) = B 5 := by rw [hA]; exact b26
 have b27 : A.wrap .u8 (A.bin .shr .u64 (lim x 3) 24) = B 4 := by rw [hA]; exact b27
 have b28 : A.wrap .u8 (A.bin .shr .u64 (lim x 3) 32) = B 3 := by rw [hA]; exact b28
 have b29 : A.wrap .u8 (A.bin .shr .u64 (lim x 3) 40) = B 2 := by rw [hA]; exact b29
 have b30 : A.wrap .u8 (A.bin .shr .u64 (lim x 3) 48) = B 1 := by rw [hA]; exact b30
 have b31 : A.wrap .u8 (A.bin .shr .u64 (lim x 3) 56) = B 0 := by rw [hA]; exact b31
 unfold bodyOf Try.f69
 cbv
 repeat' (first | exact b0 | exact b1 | exact b2 | exact b3 | exact b4 | exact b5 | exact b6 | exact b7 | exact b8 | exact b9 | exact b10 | exact b11 | exact b12 | exact b13 | exact b14 | exact b15 | exact b16 | exact b17 | exact b18 | exact b19 | exact b20 | exact b21 | exact b22 | exact b23 | exact b24 | exact b25 | exact b26 | exact b27 | exact b28 | exact b29 | exact b30 | exact b31 | exact trivial | exact rfl | constructor)
theorem or_shl {a b r : Nat} (ha : a < 2 ^ (8 * r)) (hb : b < 256) (hr : r < 8) : rbin .or .u64 (a : Int) (rbin .shl .u64 (IntKind.u64.wrap (b : Int)) ((8 * r : Nat) : Int)) = ((a + 2 ^ (8 * r) * b : Nat) : Int) := by
 have hp : 2 ^ (8 * r) * b < 18446744073709551616 := by
   have h1 : 2 ^ (8 * r) * b < 2 ^ (8 * r) * 256 := Nat.mul_lt_mul_of_pos_left hb (Nat.two_pow_pos _)
   have h2 : (2 : Nat) ^ (8 * r) * 256 ≤ 2 ^ 64 := by
     rw [show (256 : Nat) = 2 ^ 8 from rfl, ← Nat.pow_add]; exact Nat.pow_le_pow_right (by decide) (by omega)
   have : (2 : Nat) ^ 64 = 18446744073709551616 := by decide
   omega
 have e1 : IntKind.u64.wrap (b : Int) = (b : Int) := by rw [wrap_u64]; omega
 rw [e1]
 have e2 : rbin .shl .u64 (b : Int) ((8 * r : Nat) : Int) = ((2 ^ (8 * r) * b : Nat) : Int) := (u_shl b (8 * r) (by omega)).trans (congrArg Int.ofNat (by rw [Nat.mul_comm]; exact Nat.mod_eq_of_lt hp))
 rw [e2]
 exact u_or_add a b (8 * r) ha hp (by omega)
theorem V_bound {d : Nat → Nat} (hd : ∀ j, d j < 256) (n : Nat) : Dg.V 256 d n < 2 ^ (8 * n) := by
 have := Dg.V_lt (B := 256) (o := d) n (fun j _ => hd j)
 rwa [show (256 : Nat) = 2 ^ 8 from rfl, ← Nat.pow_mul] at this
theorem V_next (d : Nat → Nat) (n : Nat) : Dg.V 256 d n + 2 ^ (8 * n) * d n = Dg.V 256 d (n + 1) := by
 show _ = Dg.V 256 d n + d n * 256 ^ n
 rw [show (256 : Nat) ^ n = 2 ^ (8 * n) by rw [show (256 : Nat) = 2 ^ 8 from rfl, ← Nat.pow_mul], Nat.mul_comm]
theorem word8 (d : Nat → Nat) (hd : ∀ j, d j < 256) : rbin .or .u64 (rbin .or .u64 (rbin .or .u64 (rbin .or .u64 (rbin .or .u64 (rbin .or .u64 (rbin .or .u64 (rbin .or .u64 0 (rbin .shl .u64 (IntKind.u64.wrap (((d 0 : Nat) : Int))) 0)) (rbin .shl .u64 (IntKind.u64.wrap (((d 1 : Nat) : Int))) 8)) (rbin .shl .u64 (IntKind.u64.wrap (((d 2 : Nat) : Int))) 16)) (rbin .shl .u64 (IntKind.u64.wrap (((d 3 : Nat) : Int))) 24)) (rbin .shl .u64 (IntKind.u64.wrap (((d 4 : Nat) : Int))) 32)) (rbin .shl .u64 (IntKind.u64.wrap (((d 5 : Nat) : Int))) 40)) (rbin .shl .u64 (IntKind.u64.wrap (((d 6 : Nat) : Int))) 48)) (rbin .shl .u64 (IntKind.u64.wrap (((d 7 : Nat) : Int))) 56) = ((Dg.V 256 d 8 : Nat) : Int) := by
 have s0 : rbin .or .u64 ((Dg.V 256 d 0 : Nat) : Int) (rbin .shl .u64 (IntKind.u64.wrap ((d 0 : Nat) : Int)) 0) = ((Dg.V 256 d 1 : Nat) : Int) := by rw [← V_next d 0]; exact or_shl (r := 0) (V_bound hd 0) (hd 0) (by decide)
 have s1 : rbin .or .u64 ((Dg.V 256 d 1 : Nat) : Int) (rbin .shl .u64 (IntKind.u64.wrap ((d 1 : Nat) : Int)) 8) = ((Dg.V 256 d 2 : Nat) : Int) := by rw [← V_next d 1]; exact or_shl (r := 1) (V_bound hd 1) (hd 1) (by decide)
 have s2 : rbin .or .u64 ((Dg.V 256 d 2 : Nat) : Int) (rbin .shl .u64 (IntKind.u64.wrap ((d 2 : Nat) : Int)) 16) = ((Dg.V 256 d 3 : Nat) : Int) := by rw [← V_next d 2]; exact or_shl (r := 2) (V_bound hd 2) (hd 2) (by decide)
 have s3 : rbin .or .u64 ((Dg.V 256 d 3 : Nat) : Int) (rbin .shl .u64 (IntKind.u64.wrap ((d 3 : Nat) : Int)) 24) = ((Dg.V 256 d 4 : Nat) : Int) := by rw [← V_next d 3]; exact or_shl (r := 3) (V_bound hd 3) (hd 3) (by decide)
 have s4 : rbin .or .u64 ((Dg.V 256 d 4 : Nat) : Int) (rbin .shl .u64 (IntKind.u64.wrap ((d 4 : Nat) : Int)) 32) = ((Dg.V 256 d 5 : Nat) : Int) := by rw [← V_next d 4]; exact or_shl (r := 4) (V_bound hd 4) (hd 4) (by decide)
 have s5 : rbin .or .u64 ((Dg.V 256 d 5 : Nat) : Int) (rbin .shl .u64 (IntKind.u64.wrap ((d 5 : Nat) : Int)) 40) = ((Dg.V 256 d 6 : Nat) : Int) := by rw [← V_next d 5]; exact or_shl (r := 5) (V_bound hd 5) (hd 5) (by decide)
 have s6 : rbin .or .u64 ((Dg.V 256 d 6 : Nat) : Int) (rbin .shl .u64 (IntKind.u64.wrap ((d 6 : Nat) : Int)) 48) = ((Dg.V 256 d 7 : Nat) : Int) := by rw [← V_next d 6]; exact or_shl (r := 6) (V_bound hd 6) (hd 6) (by decide)
 have s7 : rbin .or .u64 ((Dg.V 256 d 7 : Nat) : Int) (rbin .shl .u64 (IntKind.u64.wrap ((d 7 : Nat) : Int)) 56) = ((Dg.V 256 d 8 : Nat) : Int) := by rw [← V_next d 7]; exact or_shl (r := 7) (V_bound hd 7) (hd 7) (by decide)
 have s0 : rbin .or .u64 0 (rbin .shl .u64 (IntKind.u64.wrap ((d 0 : Nat) : Int)) 0) = ((Dg.V 256 d 1 : Nat) : Int) := s0
 rw [s0, s1, s2, s3, s4, s5, s6, s7]
def rdN (h : Nat → Nat) : Nat := Dg.V 256 (fun i => h (31 - i)) 32
theorem V_mid {d : Nat → Nat} (hd : ∀ j, d j < 256) (q : Nat) (hq : q < 4) : limR (Dg.V 256 d 32) q = ((Dg.V 256 (fun j => d (8 * q + j)) 8 : Nat) : Int) := by
 unfold limR
 congr 1
 have h256 : ∀ n, (256 : Nat) ^ n = 2 ^ (8 * n) := fun n => by rw [show (256 : Nat) = 2 ^ 8 from rfl, ← Nat.pow_mul]
 have e1 : Dg.V 256 d 32 = Dg.V 256 d (8 * q) + 2 ^ (64 * q) * Dg.V 256 (fun j => d (8 * q + j)) (32 - 8 * q) := by
   have := Dg.V_shift (B := 256) d (8 * q) (32 - 8 * q)
   rw [show 8 * q + (32 - 8 * q) = 32 by omega, h256, show 8 * (8 * q) = 64 * q by omega] at this
   exact this
 have e2 : Dg.V 256 (fun j => d (8 * q + j)) (32 - 8 * q) = Dg.V 256 (fun j => d (8 * q + j)) 8 + 2 ^ 64 * Dg.V 256 (fun j => d (8 * q + (8 + j))) (24 - 8 * q) := by
   have := Dg.V_shift (B := 256) (fun j => d (8 * q + j)) 8 (24 - 8 * q)
   rw [show 8 + (24 - 8 * q) = 32 - 8 * q by omega, h256] at this
   exact this
 have l1 := V_bound hd (8 * q)
 rw [show 8 * (8 * q) = 64 * q by omega] at l1
 have l2 := V_bound (d := fun j => d (8 * q + j)) (fun j => hd _) 8
 rw [e1, Nat.add_mul_div_left _ _ (Nat.two_pow_pos _), Nat.div_eq_of_lt l1, Nat.zero_add, e2, Nat.add_mul_mod_self_left, Nat.mod_eq_of_lt l2]
theorem rd_word {h : Nat → Nat} (hh : ∀ j, h j < 256) (q : Nat) (hq : q < 4) : limR (rdN h) q = ((Dg.V 256 (fun j => h (31 - (8 * q + j))) 8 : Nat) : Int) := V_mid (d := fun i => h (31 - i)) (fun j => hh _) q hq
theorem rdN_lt {h : Nat → Nat} (hh : ∀ j, h j < 256) : rdN h < 2 ^ 256 := V_bound (d := fun i => h (31 - i)) (fun j => hh _) 32
theorem wReadS {lim : Lim} (hl : lim = limR) (h : Nat → Nat) (hh : ∀ j, h j < 256) (F : Nat → Int) (hF : F = fun j => ((h j : Nat) : Int)) : Sp 86 [.lst false 32 [.s .u8 (F 0), .s .u8 (F 1), .s .u8 (F 2), .s .u8 (F 3), .s .u8 (F 4), .s .u8 (F 5), .s .u8 (F 6), .s .u8 (F 7), .s .u8 (F 8), .s .u8 (F 9), .s .u8 (F 10), .s .u8 (F 11), .s .u8 (F 12), .s .u8 (F 13), .s .u8 (F 14), .s .u8 (F 15), .s .u8 (F 16), .s .u8 (F 17), .s .u8 (F 18), .s .u8 (F 19), .s .u8 (F 20), .s .u8 (F 21), .s .u8 (F 22), .s .u8 (F 23), .s .u8 (F 24), .s .u8 (F 25), .s .u8 (F 26), .s .u8 (F 27), .s .u8 (F 28), .s .u8 (F 29), .s .u8 (F 30), .s .u8 (F 31)]] (.tup [u4 lim (rdN h), .i .i64 0]) := by
 have e0 := word8 (fun j => h (31 - (8 * 0 + j))) (fun j => hh _)
 rw [← rd_word hh 0 (by decide), ← hl] at e0
 have w0 : rbin .or .u64 (rbin .or .u64 (rbin .or .u64 (rbin .or .u64 (rbin .or .u64 (rbin .or .u64 (rbin .or .u64 (rbin .or .u64 0 (rbin .shl .u64 (IntKind.u64.wrap (F 31)) 0)) (rbin .shl .u64 (IntKind.u64.wrap (F 30)) 8)) (rbin .shl .u64 (IntKind.u64.wrap (F 29)) 16)) (rbin .shl .u64 (IntKind.u64.wrap (F 28)) 24)) (rbin .shl .u64 (IntKind.u64.wrap (F 27)) 32)) (rbin .shl .u64 (IntKind.u64.wrap (F 26)) 40)) (rbin .shl .u64 (IntKind.u64.wrap (F 25)) 48)) (rbin .shl .u64 (IntKind.u64.wrap (F 24)) 56) = lim (rdN h) 0 := by
   rw [hF]
   generalize lim (rdN h) 0 = z at *
   exact e0
 have e1 := word8 (fun j => h (31 - (8 * 1 + j))) (fun j => hh _)
 rw [← rd_word hh 1 (by decide), ← hl] at e1
 have w1 : rbin .or .u64 (rbin .or .u64 (rbin .or .u64 (rbin .or .u64 (rbin .or .u64 (rbin .or .u64 (rbin .or .u64 (rbin .or .u64 0 (rbin .shl .u64 (IntKind.u64.wrap (F 23)) 0)) (rbin .shl .u64 (IntKind.u64.wrap (F 22)) 8)) (rbin .shl .u64 (IntKind.u64.wrap (F 21)) 16)) (rbin .shl .u64 (IntKind.u64.wrap (F 20)) 24)) (rbin .shl .u64 (IntKind.u64.wrap (F 19)) 32)) (rbin .shl .u64 (IntKind.u64.wrap (F 18)) 40)) (rbin .shl .u64 (IntKind.u64.wrap (F 17)) 48)) (rbin .shl .u64 (IntKind.u64.wrap (F 16)) 56) = lim (rdN h) 1 := by
   rw [hF]
   generalize lim (rdN h) 1 = z at *
   exact e1
 have e2 := word8 (fun j => h (31 - (8 * 2 + j))) (fun j => hh _)
 rw [← rd_word hh 2 (by decide), ← hl] at e2
 have w2 : rbin .or .u64 (rbin .or .u64 (rbin .or .u64 (rbin .or .u64 (rbin .or .u64 (rbin .or .u64 (rbin .or .u64 (rbin .or .u64 0 (rbin .shl .u64 (IntKind.u64.wrap (F 15)) 0)) (rbin .shl .u64 (IntKind.u64.wrap (F 14)) 8)) (rbin .shl .u64 (IntKind.u64.wrap (F 13)) 16)) (rbin .shl .u64 (IntKind.u64.wrap (F 12)) 24)) (rbin .shl .u64 (IntKind.u64.wrap (F 11)) 32)) (rbin .shl .u64 (IntKind.u64.wrap (F 10)) 40)) (rbin .shl .u64 (IntKind.u64.wrap (F 9)) 48)) (rbin .shl .u64 (IntKind.u64.wrap (F 8)) 56) = lim (rdN h) 2 := by
   rw [hF]
   generalize lim (rdN h) 2 = z at *
   exact e2
 have e3 := word8 (fun j => h (31 - (8 * 3 + j))) (fun j => hh _)
 rw [← rd_word hh 3 (by decide), ← hl] at e3
 have w3 : rbin .or .u64 (rbin .or .u64 (rbin .or .u64 (rbin .or .u64 (rbin .or .u64 (rbin .or .u64 (rbin .or .u64 (rbin .or .u64 0 (rbin .shl .u64 (IntKind.u64.wrap (F 7)) 0)) (rbin .shl .u64 (IntKind.u64.wrap (F 6)) 8)) (rbin .shl .u64 (IntKind.u64.wrap (F 5)) 16)) (rbin .shl .u64 (IntKind.u64.wrap (F 4)) 24)) (rbin .shl .u64 (IntKind.u64.wrap (F 3)) 32)) (rbin .shl .u64 (IntKind.u64.wrap (F 2)) 40)) (rbin .shl .u64 (IntKind.u64.wrap (F 1)) 48)) (rbin .shl .u64 (IntKind.u64.wrap (F 0)) 56) = lim (rdN h) 3 := by
   rw [hF]
   generalize lim (rdN h) 3 = z at *
   exact e3
 clear e0 e1 e2 e3
 clear hF hh
 generalize rdN h = v at *
 refine mk Try.func86 rfl rfl (fun _ => 40) R0 (by decide +kernel) fun A S hA hS => ?_
 have w0 : A.bin .or .u64 (A.bin .or .u64 (A.bin .or .u64 (A.bin .or .u64 (A.bin .or .u64 (A.bin .or .u64 (A.bin .or .u64 (A.bin .or .u64 0 (A.bin .shl .u64 (A.wrap .u64 (F 31)) 0)) (A.bin .shl .u64 (A.wrap .u64 (F 30)) 8)) (A.bin .shl .u64 (A.wrap .u64 (F 29)) 16)) (A.bin .shl .u64 (A.wrap .u64 (F 28)) 24)) (A.bin .shl .u64 (A.wrap .u64 (F 27)) 32)) (A.bin .shl .u64 (A.wrap .u64 (F 26)) 40)) (A.bin .shl .u64 (A.wrap .u64 (F 25)) 48)) (A.bin .shl .u64 (A.wrap .u64 (F 24)) 56) = lim v 0 := by rw [hA]; exact w0
 have w1 : A.bin .or .u64 (A.bin .or .u64 (A.bin .or .u64 (A.bin .or .u64 (A.bin .or .u64 (A.bin .or .u64 (A.bin .or .u64 (A.bin .or .u64 0 (A.bin .shl .u64 (A.wrap .u64 (F 23)) 0)) (A.bin .shl .u64 (A.wrap .u64 (F 22)) 8)) (A.bin .shl .u64 (A.wrap .u64 (F 21)) 16)) (A.bin .shl .u64 (A.wrap .u64 (F 20)) 24)) (A.bin .shl .u64 (A.wrap .u64 (F 19)) 32)) (A.bin .shl .u64 (A.wrap .u64 (F 18)) 40)) (A.bin .shl .u64 (A.wrap .u64 (F 17)) 48)) (A.bin .shl .u64 (A.wrap .u64 (F 16)) 56) = lim v 1 := by rw [hA]; exact w1
 have w2 : A.bin .or .u64 (A.bin .or .u64 (A.bin .or .u64 (A.bin .or .u64 (A.bin .or .u64 (A.bin .or .u64 (A.bin .or .u64 (A.bin .or .u64 0 (A.bin .shl .u64 (A.wrap .u64 (F 15)) 0)) (A.bin .shl .u64 (A.wrap .u64 (F 14)) 8)) (A.bin .shl .u64 (A.wrap .u64 (F 13)) 16)) (A.bin .shl .u64 (A.wrap .u64 (F 12)) 24)) (A.bin .shl .u64 (A.wrap .u64 (F 11)) 32)) (A.bin .shl .u64 (A.wrap .u64 (F 10)) 40)) (A.bin .shl .u64 (A.wrap .u64 (F 9)) 48)) (A.bin .shl .u64 (A.wrap .u64 (F 8)) 56) = lim v 2 := by rw [hA]; exact w2
 have w3 : A.bin .or .u64 (A.bin .or .u64 (A.bin .or .u64 (A.bin .or .u64 (A.bin .or .u64 (A.bin .or .u64 (A.bin .or .u64 (A.bin .or .u64 0 (A.bin .shl .u64 (A.wrap .u64 (F 7)) 0)) (A.bin .shl .u64 (A.wrap .u64 (F 6)) 8)) (A.bin .shl .u64 (A.wrap .u64 (F 5)) 16)) (A.bin .shl .u64 (A.wrap .u64 (F 4)) 24)) (A.bin .shl .u64 (A.wrap .u64 (F 3)) 32)) (A.bin .shl .u64 (A.wrap .u64 (F 2)) 40)) (A.bin .shl .u64 (A.wrap .u64 (F 1)) 48)) (A.bin .shl .u64 (A.wrap .u64 (F 0)) 56) = lim v 3 := by rw [hA]; exact w3
 unfold bodyOf Try.f86
 cbv
 repeat' (first | exact w0 | exact w1 | exact w2 | exact w3 | exact trivial | exact rfl | constructor)
theorem pow_realS (m a e : Nat) : H5.real.pow m a e = a ^ e % m := rfl
def rtS (c : Fin Sk.pS) : Fin Sk.pS := ⟨c.val ^ ((Sk.pS + 1) / 4) % Sk.pS, Nat.mod_lt _ (by decide)⟩
def RootK (H : H5) (k : Kf Sk.pS) (r : List AVal) : Prop := ∀ c y : Fin Sk.pS, y = rtS c →
 (y * y = c → Sp 70 [.ref r 0, Ef k c] (.tup [Ef k y, .b true])) ∧ (y * y ≠ c → Sp 70 [.ref r 0, Ef k c] (.tup [u4 H.lim 0, .b false]))
theorem rootK (H : H5) (hH : H = H5.real) : RootK H (Kof H Sk.pS) (R4 H Sk.pS) := by
 intro c y hy
 have e1 : y.val = H.pow Sk.pS c.val ((Sk.pS + 1) / 4) := by rw [hH, pow_realS, hy]; rfl
 have h := RootS4 hH prP.toMod c.isLt y.val e1
 have e2 : H.mul Sk.pS y.val y.val = (y * y).val := by rw [hH]; exact (Fin.val_mul y y).symm
 rw [e2] at h
 exact ⟨fun e => h.1 (congrArg Fin.val e), fun e => h.2 fun e' => e (Fin.ext e')⟩
def pickS (y : Fin Sk.pS) (o : Nat) : Fin Sk.pS := if y.val % 2 = o then y else 0 - y
def cvS (x : Nat) : Fin Sk.pS := Sk.fs x * Sk.fs x * Sk.fs x + Sk.fs 7
theorem odd_b {A : Ar} (hA : A = Ar.real) {v : Int} {y : Nat} (hv : v = limR y 0) : A.wrap .i64 (A.bin .and .u64 v 1) = ((y % 2 : Nat) : Int) := by
 have e : v = ((y / 2 ^ (64 * 0) % 2 ^ 64 : Nat) : Int) := hv
 rw [Nat.mul_zero, Nat.pow_zero, Nat.div_one] at e
 have b := u_bit hA (x := v) (k := 0) (b := 0) (by rw [e]; omega) rfl (by decide)
 rw [hA] at b ⊢
 have s0 : rbin .shr .u64 v 0 = v := by
   rw [e]
   exact (u_shr _ 0 (by omega)).trans (by rw [Nat.pow_zero, Nat.div_one]; rfl)
 have b2 : rbin .and .u64 (rbin .shr .u64 v 0) 1 = ((v.toNat / 2 ^ 0 % 2 : Nat) : Int) := b
 rw [s0, e, Int.toNat_natCast, Nat.pow_zero, Nat.div_one] at b2
 show IntKind.i64.wrap (rbin .and .u64 v 1) = _
 rw [e, b2]
 have e3 : y % 2 ^ 64 % 2 = y % 2 := by omega
 rw [e3]
 rcases (by omega : y % 2 = 0 ∨ y % 2 = 1) with h | h <;> rw [h] <;> rfl
section
variable {H : H5} {k : Kf Sk.pS} {r : List AVal} {kn : Kf Sk.nS} {rn : List AVal} {m n : Nat} (hs : Sec H k r kn rn m n) (hr : RootK H k r)
include hs
theorem Sec.inN {x : Nat} (h : x < Sk.nS) : Sp 44 [.ref rn 0, u4 H.lim x] (Ef kn (Sk.nf x)) := by
 have c := hs.okn.inn (Sk.nf x)
 have e : (Sk.nf x).val = x := Nat.mod_eq_of_lt h
 unfold Uf at c
 rw [hs.un, hs.un, hs.un, hs.un, e] at c
 exact c
theorem Sec.outN (a : Fin Sk.nS) : Sp 46 [.ref rn 0, Ef kn a] (u4 H.lim a.val) := by
 have c := hs.okn.out a
 unfold Uf at c
 rw [hs.un, hs.un, hs.un, hs.un] at c
 exact c
theorem Sec.number (h : Nat → Nat) (hh : ∀ j, h j < 256) (F : Nat → Int) (hF : F = fun j => ((h j : Nat) : Int)) : Sp 49 [.agg [.s .u8 (F 0), .s .u8 (F 1), .s .u8 (F 2), .s .u8 (F 3), .s .u8 (F 4), .s .u8 (F 5), .s .u8 (F 6), .s .u8 (F 7), .s .u8 (F 8), .s .u8 (F 9), .s .u8 (F 10), .s .u8 (F 11), .s .u8 (F 12), .s .u8 (F 13), .s .u8 (F 14), .s .u8 (F 15), .s .u8 (F 16), .s .u8 (F 17), .s .u8 (F 18), .s .u8 (F 19), .s .u8 (F 20), .s .u8 (F 21), .s .u8 (F 22), .s .u8 (F 23), .s .u8 (F 24), .s .u8 (F 25), .s .u8 (F 26), .s .u8 (F 27), .s .u8 (F 28), .s .u8 (F 29), .s .u8 (F 30), .s .u8 (F 31)]] (u4 H.lim (rdN h % Sk.nS)) := by
 have hl := H5.hlim hs.hH
 have cr := wReadS hl h hh F hF
 have sn := hs.sn
 have cm_ := modS hl (rdN h) n (rdN_lt hh) (by rw [hs.hn]; exact topN)
 have e : rdN h % n = rdN h % Sk.nS := by rw [hs.hn]
 rw [← e]
 clear e
 generalize rdN h % n = z at *
 generalize rdN h = v at *
 clear hF
 refine mk Try.func49 rfl rfl L0 R1 (by decide +kernel) fun A S hA hS => ?_
 unfold bodyOf Try.f49
 cbv
 refine aF hS cr ?_
 cbv
 refine aF hS sn ?_
 cbv
 refine aF hS cm_ ?_
 cbv
theorem Sec.sum (a b : Nat) (ha : a < 2 ^ 256) (hb : b < 2 ^ 256) (P : Cv.Pt (Fin Sk.pS)) (hP : onS P) : Sp 45 [u4 H.lim a, u4 H.lim b, Pf k P] (Pf k (Cv.sumR Sk.O (Gp.mn Sk.O Sk.G a) (Gp.mn Sk.O P b))) := by
 obtain ⟨la, hla⟩ := isLen_ex a
 obtain ⟨lb, hlb⟩ := isLen_ex b
 have cp := hs.prime
 have cb := hs.base
 have jg := jacS hs.ok Sk.G
 have jp := jacS hs.ok P
 have hl := H5.hlim hs.hH
 have t1 := timesS hs.ok (Cv.up k.O Sk.G) hl a la ha hla
 have t2 := timesS hs.ok (Cv.up k.O P) hl b lb hb hlb
 have ca := jaddS hs.ok (Gp.tmP k.O (Cv.up k.O Sk.G) a la la) (Gp.tmP k.O (Cv.up k.O P) b lb lb)
 have cd := affS hs.ok hs.L (Gp.adP k.O (Gp.tmP k.O (Cv.up k.O Sk.G) a la la) (Gp.tmP k.O (Cv.up k.O P) b lb lb))
 have e : Cv.down k.O (Gp.adP k.O (Gp.tmP k.O (Cv.up k.O Sk.G) a la la) (Gp.tmP k.O (Cv.up k.O P) b lb lb)) = Cv.sumR Sk.O (Gp.mn Sk.O Sk.G a) (Gp.mn Sk.O P b) := by
   have d1 := timesMn Sk.G Sk.onG a la hla
   have d2 := timesMn P hP b lb hlb
   rw [hs.o, Gp.adP_eq Sk.F, Gp.plus_gen Sk.F Sk.L Sk.no2 Sk.hA _ _ (by rw [d1]; exact Sk.on _ Sk.onG a) (by rw [d2]; exact Sk.on P hP b), d1, d2]
 rw [e] at cd
 clear e
 generalize Cv.sumR Sk.O (Gp.mn Sk.O Sk.G a) (Gp.mn Sk.O P b) = R at *
 generalize Gp.adP k.O (Gp.tmP k.O (Cv.up k.O Sk.G) a la la) (Gp.tmP k.O (Cv.up k.O P) b lb lb) = w at *
 generalize Gp.tmP k.O (Cv.up k.O Sk.G) a la la = u at *
 generalize Gp.tmP k.O (Cv.up k.O P) b lb lb = v at *
 generalize Cv.up k.O P = jP at *
 generalize Cv.up k.O Sk.G = jG at *
 have eG : Sk.G = some (Sk.fs Sk.gx, Sk.fs Sk.gy) := rfl
 rw [eG] at cb jg
 generalize Sk.fs Sk.gx = gx at *
 generalize Sk.fs Sk.gy = gy at *
 rcases P with _ | ⟨px, py⟩ <;> rcases R with _ | ⟨x, y⟩
 all_goals
   refine mk Try.func45 rfl rfl L0 R1 (by decide +kernel) fun A S hA hS => ?_
   unfold bodyOf Try.f45
   cbv
   repeat ((first | refine ABr.t (by first | assumption | rfl) ?_ | refine ABr.f (by first | assumption | rfl) ?_ | refine aF hS cp ?_ | refine aF hS cb ?_ | refine aF hS jg ?_ | refine aF hS jp ?_ | refine aF hS t1 ?_ | refine aF hS t2 ?_ | refine aF hS ca ?_ | refine aF hS cd ?_); cbv)
include hr
theorem Sec.liftGood {x : Nat} (hx : x < Sk.pS) (y : Fin Sk.pS) (hy : y = rtS (cvS x)) (hc : y * y = cvS x) (o : Nat) (ho : o ≤ 1) (oi : Int) (hoi : oi = (o : Int)) : Sp 39 [u4 H.lim x, .s .i64 oi] (.tup [Pf k (some (Sk.fs x, pickS y o)), .i .i64 0]) := by
 have hl := H5.hlim hs.hH
 have hm256 : m < 2 ^ 256 := by rw [hs.hm]; decide
 have hx256 : x < 2 ^ 256 := Nat.lt_trans hx (by decide)
 have cx := cmpS hl x m hx256 hm256
 have sp := hs.sp
 have cp := hs.prime
 have ix := hs.inn hx
 have cc := hs.curve (Sk.fs x)
 have cr := (hr (cvS x) y hy).1 hc
 have co := hs.ok.out y
 have hon : onS (some (Sk.fs x, y)) := hc
 have cn := hs.neg (some (Sk.fs x, y)) hon
 have vx := hs.v_fs hx
 have x0 := vx 0
 have x1 := vx 1
 have x2 := vx 2
 have x3 := vx 3
 have gx := fun (A : Ar) (hA : A = Ar.real) => hs.ge (x := x) hA false (decide_eq_false (by rw [hs.hm]; omega))
 have hv : k.v y 0 = limR y.val 0 := by rw [hs.uv, hl]
 have e2 : Gp.ngp Sk.O (some (Sk.fs x, y)) = some (Sk.fs x, 0 - y) := rfl
 rw [e2] at cn
 unfold pickS
 unfold cvS at cr
 clear hon hc hy hr
 generalize (0 : Fin Sk.pS) - y = yn at *
 generalize Sk.fs x * Sk.fs x * Sk.fs x + Sk.fs 7 = w at *
 generalize Sk.fs x = fx at *
 clear vx e2
 have t : ∀ (A : Ar) (hA : A = Ar.real), (A.cmp .neq oi 0 = false ∧ o = 0) ∨ (A.cmp .neq oi 0 = true ∧ A.cmp .neq oi 1 = false) := fun A hA => by
   rw [i_ne hA, i_ne hA, hoi]
   rcases (by omega : o = 0 ∨ o = 1) with h | h <;> subst h
   . exact .inl ⟨rfl, rfl⟩
   . exact .inr ⟨rfl, rfl⟩
 have n0 : ∀ (A : Ar) (hA : A = Ar.real), A.cmp .neq (A.wrap .i64 (A.bin .and .u64 (k.v y 0) 1)) oi = !decide (y.val % 2 = o) := fun A hA => by
   rw [odd_b hA hv, i_ne hA, hoi]; congr 1; simp only [decide_eq_decide]; omega
 generalize cmpZ x m = zx at *
 clear hoi ho hv
 by_cases h : y.val % 2 = o
 . rw [if_pos h]
   rw [decide_eq_true h] at n0
   clear h
   refine mk Try.func39 rfl rfl L0 R1 (by decide +kernel) fun A S hA hS => ?_
   have g1 := gx A hA
   have n0 : A.cmp .neq (A.wrap .i64 (A.bin .and .u64 (k.v y 0) 1)) oi = false := n0 A hA
   have nt := not_t hA
   have tt := t A hA
   clear t gx
   unfold bodyOf Try.f39
   cbv
   rcases tt with ⟨t1, _⟩ | ⟨t1, t2⟩
   all_goals
     repeat ((first | refine ABr.t (by first | assumption | rfl) ?_ | refine ABr.f (by first | assumption | rfl) ?_ | refine aF hS sp ?_ | refine aF hS cx ?_ | refine aF hS cp ?_ | refine aF hS ix ?_ | refine aF hS cc ?_ | refine aF hS cr ?_ | refine aF hS co ?_); cbv)
     repeat' (first | exact x0.symm | exact x1.symm | exact x2.symm | exact x3.symm | exact rfl | exact trivial | constructor)
 . rw [if_neg h]
   rw [decide_eq_false h] at n0
   clear h
   refine mk Try.func39 rfl rfl L0 R1 (by decide +kernel) fun A S hA hS => ?_
   have g1 := gx A hA
   have n0 : A.cmp .neq (A.wrap .i64 (A.bin .and .u64 (k.v y 0) 1)) oi = true := n0 A hA
   have nt := not_t hA
   have tt := t A hA
   clear t gx
   unfold bodyOf Try.f39
   cbv
   rcases tt with ⟨t1, _⟩ | ⟨t1, t2⟩
   all_goals
     repeat ((first | refine ABr.t (by first | assumption | rfl) ?_ | refine ABr.f (by first | assumption | rfl) ?_ | refine aF hS sp ?_ | refine aF hS cx ?_ | refine aF hS cp ?_ | refine aF hS ix ?_ | refine aF hS cc ?_ | refine aF hS cr ?_ | refine aF hS co ?_); cbv)
     refine aG hS cn ?_ ?_
     . cbv
       repeat' (first | exact x0.symm | exact x1.symm | exact x2.symm | exact x3.symm | exact rfl | exact trivial | constructor)
     cbv
theorem Sec.liftNone {x : Nat} (hx : x < Sk.pS) (y : Fin Sk.pS) (hy : y = rtS (cvS x)) (hc : y * y ≠ cvS x) (o : Nat) (ho : o ≤ 1) (oi : Int) (hoi : oi = (o : Int)) : Sp 39 [u4 H.lim x, .s .i64 oi] (.tup [zPt, .i .i64 60]) := by
 have hl := H5.hlim hs.hH
 have hm256 : m < 2 ^ 256 := by rw [hs.hm]; decide
 have hx256 : x < 2 ^ 256 := Nat.lt_trans hx (by decide)
 have cx := cmpS hl x m hx256 hm256
 have sp := hs.sp
 have cp := hs.prime
 have ix := hs.inn hx
 have cc := hs.curve (Sk.fs x)
 have cr := (hr (cvS x) y hy).2 hc
 have gx := fun (A : Ar) (hA : A = Ar.real) => hs.ge (x := x) hA false (decide_eq_false (by rw [hs.hm]; omega))
 unfold cvS at cr
 clear hc hy hr
 generalize Sk.fs x * Sk.fs x * Sk.fs x + Sk.fs 7 = w at *
 generalize Sk.fs x = fx at *
 have t : ∀ (A : Ar) (hA : A = Ar.real), (A.cmp .neq oi 0 = false ∧ o = 0) ∨ (A.cmp .neq oi 0 = true ∧ A.cmp .neq oi 1 = false) := fun A hA => by
   rw [i_ne hA, i_ne hA, hoi]
   rcases (by omega : o = 0 ∨ o = 1) with h | h <;> subst h
   . exact .inl ⟨rfl, rfl⟩
   . exact .inr ⟨rfl, rfl⟩
 generalize cmpZ x m = zx at *
 clear hoi ho
 refine mk Try.func39 rfl rfl L0 R1 (by decide +kernel) fun A S hA hS => ?_
 have g1 := gx A hA
 have nf := not_f hA
 have tt := t A hA
 clear t gx
 unfold bodyOf Try.f39
 cbv
 rcases tt with ⟨t1, _⟩ | ⟨t1, t2⟩
 all_goals
   repeat ((first | refine ABr.t (by first | assumption | rfl) ?_ | refine ABr.f (by first | assumption | rfl) ?_ | refine aF hS sp ?_ | refine aF hS cx ?_ | refine aF hS cp ?_ | refine aF hS ix ?_ | refine aF hS cc ?_ | refine aF hS cr ?_); cbv)
end
end Go.Proofs.Ytkhipnhdbaahcaa
end
