import Derived.Test.YtkhipnhdbaahcaaGreatQBSQ
import Derived.Test.YtkhipnhdbaahcaaGreatQBKB
import Derived.Test.YtkhipnhdbaahcaaGreatQByXSSignsyTL
section
set_option linter.unusedVariables false
set_option linter.unusedSectionVars false
set_option linter.unusedSimpArgs false
namespace Go.Proofs.YtkhipnhdbaahcaaGreat
open Go Eng
set_option maxRecDepth 100000
set_option exponentiation.threshold 2000
set_option maxHeartbeats 8000000
def zSg : AVal := .agg [.i .u64 0, .i .u64 0, .i .u64 0, .i .u64 0, .i .u64 0, .i .u64 0, .i .u64 0, .i .u64 0, .i .i64 0]
def sgV (z x k w : Nat) : Fin Sk.nS := (Sk.nf z + Sk.nf x * Sk.nf k) * Cv.inv1 (Sk.nf w)
section
variable {H : H5} {k : Kf Sk.pS} {r : List AVal} {kn : Kf Sk.nS} {rn : List AVal} {m n : Nat} (hs : Sec H k r kn rn m n)
include hs
/-- The multiple of the base that a nonce makes, by both. -/
theorem Sec.mulG (key : Nat) (F : Nat → Int) (e : Nat) (he : e ≠ 0 ∧ e < Sk.nS) : ∃ x y, x < Sk.pS ∧ y < Sk.pS ∧ Gp.mn Sk.O Sk.G e = some (Sk.fs x, Sk.fs y) ∧ Sp 20 [Pf k Sk.G, u4 H.lim e] (.tup [PS H x y false, .i .i64 0]) := by
  have e256 : e < 2 ^ 256 := Nat.lt_trans he.2 (by decide)
  obtain ⟨x, y, i, g, hp⟩ := ps_of _ (onS_mn Sk.onG e)
  have hne := mn_ne he
  have c := hs.mul Sk.G Sk.onG e e256
  rw [← hp] at c hne
  have c := hs.toPI g c
  rcases g with ⟨rfl, _, _⟩ | ⟨rfl, hx, hy, _⟩
  · exact absurd rfl hne
  · exact ⟨x, y, hx, hy, hp.symm, c⟩
theorem Sec.signKey (key : Nat) (hk : key < 2 ^ 256) (h : ¬ (key ≠ 0 ∧ key < Sk.nS)) (F : Nat → Int) (e : Nat) : Sp 39 [u4 H.lim key, .agg (hsh F), u4 H.lim e] (.tup [zSg, .i .i64 61]) := by
  have c := hs.scalar key hk _ rfl
  rw [decide_eq_false h] at c
  refine mk Tryz.func39 rfl rfl L0 R1 (by decide +kernel) fun A S hA hS => ?_
  have nf := not_f hA
  unfold bodyOf Tryz.f39
  cbv
  repeat (first
    | (refine ABr.t (by assumption) ?_; cbv)
    | (refine ABr.f (by assumption) ?_; cbv)
    | (refine ABr.t rfl ?_; cbv)
    | (refine ABr.f rfl ?_; cbv)
    | (refine ACall.mk _ (cf hS c) ?_; cbv))
theorem Sec.signNonce (key : Nat) (hk : key ≠ 0 ∧ key < Sk.nS) (F : Nat → Int) (e : Nat) (he : e < 2 ^ 256) (h : ¬ (e ≠ 0 ∧ e < Sk.nS)) : Sp 39 [u4 H.lim key, .agg (hsh F), u4 H.lim e] (.tup [zSg, .i .i64 62]) := by
  have ck := hs.scalar key (Nat.lt_trans hk.2 (by decide)) true (decide_eq_true hk).symm
  have c := hs.scalar e he _ rfl
  rw [decide_eq_false h] at c
  refine mk Tryz.func39 rfl rfl L0 R1 (by decide +kernel) fun A S hA hS => ?_
  have nf := not_f hA
  have nt := not_t hA
  unfold bodyOf Tryz.f39
  cbv
  repeat (first
    | (refine ABr.t (by assumption) ?_; cbv)
    | (refine ABr.f (by assumption) ?_; cbv)
    | (refine ABr.t rfl ?_; cbv)
    | (refine ABr.f rfl ?_; cbv)
    | (refine ACall.mk _ (cf hS ck) ?_; cbv)
    | (refine ACall.mk _ (cf hS c) ?_; cbv))
theorem Sec.signOut1 (key : Nat) (hk : key ≠ 0 ∧ key < Sk.nS) (h : Nat → Nat) (hh : ∀ j, h j < 256) (F : Nat → Int) (hF : F = fun j => ((h j : Nat) : Int)) (e : Nat) (he : e ≠ 0 ∧ e < Sk.nS) (x y : Nat) (hx : x < Sk.pS) (hy : y < Sk.pS) (cm : Sp 20 [Pf k Sk.G, u4 H.lim e] (.tup [PS H x y false, .i .i64 0])) (s : Nat) (hs' : s = (sgV (rdN h) x key e).val) (c1 : x % Sk.nS = 0) : Sp 39 [u4 H.lim key, .agg (hsh F), u4 H.lim e] (.tup [zSg, .i .i64 62]) := by
  have hl := H5.hlim hs.hH
  have ck := hs.scalar key (Nat.lt_trans hk.2 (by decide)) true (decide_eq_true hk).symm
  have ce := hs.scalar e (Nat.lt_trans he.2 (by decide)) true (decide_eq_true he).symm
  have cb := hs.base
  have co := hs.order
  have sn := hs.sn
  have x256 : x < 2 ^ 256 := Nat.lt_trans hx (by decide)
  have cm_ := modS hl x n x256 (by rw [hs.hn]; exact topN)
  have cnum := hs.number h hh F hF
  have iz := hs.inN (x := rdN h % Sk.nS) (Nat.mod_lt _ (by decide))
  rw [nf_mod] at iz
  have ir := hs.inN (x := x % Sk.nS) (Nat.mod_lt _ (by decide))
  rw [nf_mod] at ir
  have ik := hs.inN hk.2
  have ie := hs.inN he.2
  have m1 := hs.mulN (Sk.nf x) (Sk.nf key)
  have a1 := hs.addN (Sk.nf (rdN h)) (Sk.nf x * Sk.nf key)
  have ci := hs.invN (Sk.nf e)
  have m2 := hs.mulN (Sk.nf (rdN h) + Sk.nf x * Sk.nf key) (Cv.inv1 (Sk.nf e))
  have ou := hs.outN (sgV (rdN h) x key e)
  rw [show (Sk.nf (rdN h) + Sk.nf x * Sk.nf key) * Cv.inv1 (Sk.nf e) = sgV (rdN h) x key e from rfl] at m2
  rw [← hs'] at ou
  have eG : Sk.G = some (Sk.fs Sk.gx, Sk.fs Sk.gy) := rfl
  rw [eG] at cb cm
  rw [show x % n = x % Sk.nS by rw [hs.hn]] at cm_
  have r256 : x % Sk.nS < 2 ^ 256 := Nat.lt_trans (Nat.mod_lt _ (by decide)) (by decide : Sk.nS < 2 ^ 256)
  have s256 : s < 2 ^ 256 := by rw [hs']; exact finN_256 _
  have q1 := fun (A : Ar) (hA : A = Ar.real) => (zeq4 hA hl (x := x % Sk.nS) r256).trans (decide_eq_true c1)
  clear r256 s256 x256 hx hy hk he hF hh hs hs'
  clear c1
  generalize sgV (rdN h) x key e = sv at *
  generalize Sk.nf (rdN h) + Sk.nf x * Sk.nf key = w2 at *
  generalize Cv.inv1 (Sk.nf e) = iv at *
  generalize Sk.nf x * Sk.nf key = w1 at *
  generalize Sk.nf x = fx at *
  generalize Sk.nf key = fk at *
  generalize Sk.nf e = fe at *
  generalize Sk.nf (rdN h) = fz at *
  generalize Sk.fs Sk.gx = gx at *
  generalize Sk.fs Sk.gy = gy at *
  generalize rdN h % Sk.nS = zn at *
  generalize x % Sk.nS = xm at *
  refine mk Tryz.func39 rfl rfl L0 R1 (by decide +kernel) fun A S hA hS => ?_
  have nf := not_f hA
  have nt := not_t hA
  have q1 := q1 A hA
  unfold bodyOf Tryz.f39
  cbv
  repeat (first
    | (refine ABr.t (by assumption) ?_; cbv)
    | (refine ABr.f (by assumption) ?_; cbv)
    | (refine ABr.t rfl ?_; cbv)
    | (refine ABr.f rfl ?_; cbv)
    | (refine ACall.mk _ (cf hS ck) ?_; cbv)
    | (refine ACall.mk _ (cf hS ce) ?_; cbv)
    | (refine ACall.mk _ (cf hS cb) ?_; cbv)
    | (refine ACall.mk _ (cf hS cm) ?_; cbv)
    | (refine ACall.mk _ (cf hS co) ?_; cbv)
    | (refine ACall.mk _ (cf hS sn) ?_; cbv)
    | (refine ACall.mk _ (cf hS cm_) ?_; cbv)
    | (refine ACall.mk _ (cf hS cnum) ?_; cbv)
    | (refine ACall.mk _ (cf hS iz) ?_; cbv)
    | (refine ACall.mk _ (cf hS ir) ?_; cbv)
    | (refine ACall.mk _ (cf hS ik) ?_; cbv)
    | (refine ACall.mk _ (cf hS m1) ?_; cbv)
    | (refine ACall.mk _ (cf hS a1) ?_; cbv)
    | (refine ACall.mk _ (cf hS ie) ?_; cbv)
    | (refine ACall.mk _ (cf hS ci) ?_; cbv)
    | (refine ACall.mk _ (cf hS m2) ?_; cbv)
    | (refine ACall.mk _ (cf hS ou) ?_; cbv))
theorem Sec.signOut2 (key : Nat) (hk : key ≠ 0 ∧ key < Sk.nS) (h : Nat → Nat) (hh : ∀ j, h j < 256) (F : Nat → Int) (hF : F = fun j => ((h j : Nat) : Int)) (e : Nat) (he : e ≠ 0 ∧ e < Sk.nS) (x y : Nat) (hx : x < Sk.pS) (hy : y < Sk.pS) (cm : Sp 20 [Pf k Sk.G, u4 H.lim e] (.tup [PS H x y false, .i .i64 0])) (s : Nat) (hs' : s = (sgV (rdN h) x key e).val) (c1 : x % Sk.nS ≠ 0) (c2 : s = 0) : Sp 39 [u4 H.lim key, .agg (hsh F), u4 H.lim e] (.tup [zSg, .i .i64 62]) := by
  have hl := H5.hlim hs.hH
  have ck := hs.scalar key (Nat.lt_trans hk.2 (by decide)) true (decide_eq_true hk).symm
  have ce := hs.scalar e (Nat.lt_trans he.2 (by decide)) true (decide_eq_true he).symm
  have cb := hs.base
  have co := hs.order
  have sn := hs.sn
  have x256 : x < 2 ^ 256 := Nat.lt_trans hx (by decide)
  have cm_ := modS hl x n x256 (by rw [hs.hn]; exact topN)
  have cnum := hs.number h hh F hF
  have iz := hs.inN (x := rdN h % Sk.nS) (Nat.mod_lt _ (by decide))
  rw [nf_mod] at iz
  have ir := hs.inN (x := x % Sk.nS) (Nat.mod_lt _ (by decide))
  rw [nf_mod] at ir
  have ik := hs.inN hk.2
  have ie := hs.inN he.2
  have m1 := hs.mulN (Sk.nf x) (Sk.nf key)
  have a1 := hs.addN (Sk.nf (rdN h)) (Sk.nf x * Sk.nf key)
  have ci := hs.invN (Sk.nf e)
  have m2 := hs.mulN (Sk.nf (rdN h) + Sk.nf x * Sk.nf key) (Cv.inv1 (Sk.nf e))
  have ou := hs.outN (sgV (rdN h) x key e)
  rw [show (Sk.nf (rdN h) + Sk.nf x * Sk.nf key) * Cv.inv1 (Sk.nf e) = sgV (rdN h) x key e from rfl] at m2
  rw [← hs'] at ou
  have eG : Sk.G = some (Sk.fs Sk.gx, Sk.fs Sk.gy) := rfl
  rw [eG] at cb cm
  rw [show x % n = x % Sk.nS by rw [hs.hn]] at cm_
  have r256 : x % Sk.nS < 2 ^ 256 := Nat.lt_trans (Nat.mod_lt _ (by decide)) (by decide : Sk.nS < 2 ^ 256)
  have s256 : s < 2 ^ 256 := by rw [hs']; exact finN_256 _
  have q1 := fun (A : Ar) (hA : A = Ar.real) => (zeq4 hA hl (x := x % Sk.nS) r256).trans (decide_eq_false c1)
  have q2 := fun (A : Ar) (hA : A = Ar.real) => (zeq4 hA hl (x := s) s256).trans (decide_eq_true c2)
  clear r256 s256 x256 hx hy hk he hF hh hs hs'
  clear c1 c2
  generalize sgV (rdN h) x key e = sv at *
  generalize Sk.nf (rdN h) + Sk.nf x * Sk.nf key = w2 at *
  generalize Cv.inv1 (Sk.nf e) = iv at *
  generalize Sk.nf x * Sk.nf key = w1 at *
  generalize Sk.nf x = fx at *
  generalize Sk.nf key = fk at *
  generalize Sk.nf e = fe at *
  generalize Sk.nf (rdN h) = fz at *
  generalize Sk.fs Sk.gx = gx at *
  generalize Sk.fs Sk.gy = gy at *
  generalize rdN h % Sk.nS = zn at *
  generalize x % Sk.nS = xm at *
  refine mk Tryz.func39 rfl rfl L0 R1 (by decide +kernel) fun A S hA hS => ?_
  have nf := not_f hA
  have nt := not_t hA
  have q1 := q1 A hA
  have q2 := q2 A hA
  unfold bodyOf Tryz.f39
  cbv
  repeat (first
    | (refine ABr.t (by assumption) ?_; cbv)
    | (refine ABr.f (by assumption) ?_; cbv)
    | (refine ABr.t rfl ?_; cbv)
    | (refine ABr.f rfl ?_; cbv)
    | (refine ACall.mk _ (cf hS ck) ?_; cbv)
    | (refine ACall.mk _ (cf hS ce) ?_; cbv)
    | (refine ACall.mk _ (cf hS cb) ?_; cbv)
    | (refine ACall.mk _ (cf hS cm) ?_; cbv)
    | (refine ACall.mk _ (cf hS co) ?_; cbv)
    | (refine ACall.mk _ (cf hS sn) ?_; cbv)
    | (refine ACall.mk _ (cf hS cm_) ?_; cbv)
    | (refine ACall.mk _ (cf hS cnum) ?_; cbv)
    | (refine ACall.mk _ (cf hS iz) ?_; cbv)
    | (refine ACall.mk _ (cf hS ir) ?_; cbv)
    | (refine ACall.mk _ (cf hS ik) ?_; cbv)
    | (refine ACall.mk _ (cf hS m1) ?_; cbv)
    | (refine ACall.mk _ (cf hS a1) ?_; cbv)
    | (refine ACall.mk _ (cf hS ie) ?_; cbv)
    | (refine ACall.mk _ (cf hS ci) ?_; cbv)
    | (refine ACall.mk _ (cf hS m2) ?_; cbv)
    | (refine ACall.mk _ (cf hS ou) ?_; cbv))
theorem Sec.signOut3 (key : Nat) (hk : key ≠ 0 ∧ key < Sk.nS) (h : Nat → Nat) (hh : ∀ j, h j < 256) (F : Nat → Int) (hF : F = fun j => ((h j : Nat) : Int)) (e : Nat) (he : e ≠ 0 ∧ e < Sk.nS) (x y : Nat) (hx : x < Sk.pS) (hy : y < Sk.pS) (cm : Sp 20 [Pf k Sk.G, u4 H.lim e] (.tup [PS H x y false, .i .i64 0])) (s : Nat) (hs' : s = (sgV (rdN h) x key e).val) (c1 : x % Sk.nS ≠ 0) (c2 : s ≠ 0) (c3 : x % Sk.nS ≠ x) : Sp 39 [u4 H.lim key, .agg (hsh F), u4 H.lim e] (.tup [zSg, .i .i64 62]) := by
  have hl := H5.hlim hs.hH
  have ck := hs.scalar key (Nat.lt_trans hk.2 (by decide)) true (decide_eq_true hk).symm
  have ce := hs.scalar e (Nat.lt_trans he.2 (by decide)) true (decide_eq_true he).symm
  have cb := hs.base
  have co := hs.order
  have sn := hs.sn
  have x256 : x < 2 ^ 256 := Nat.lt_trans hx (by decide)
  have cm_ := modS hl x n x256 (by rw [hs.hn]; exact topN)
  have cnum := hs.number h hh F hF
  have iz := hs.inN (x := rdN h % Sk.nS) (Nat.mod_lt _ (by decide))
  rw [nf_mod] at iz
  have ir := hs.inN (x := x % Sk.nS) (Nat.mod_lt _ (by decide))
  rw [nf_mod] at ir
  have ik := hs.inN hk.2
  have ie := hs.inN he.2
  have m1 := hs.mulN (Sk.nf x) (Sk.nf key)
  have a1 := hs.addN (Sk.nf (rdN h)) (Sk.nf x * Sk.nf key)
  have ci := hs.invN (Sk.nf e)
  have m2 := hs.mulN (Sk.nf (rdN h) + Sk.nf x * Sk.nf key) (Cv.inv1 (Sk.nf e))
  have ou := hs.outN (sgV (rdN h) x key e)
  rw [show (Sk.nf (rdN h) + Sk.nf x * Sk.nf key) * Cv.inv1 (Sk.nf e) = sgV (rdN h) x key e from rfl] at m2
  rw [← hs'] at ou
  have eG : Sk.G = some (Sk.fs Sk.gx, Sk.fs Sk.gy) := rfl
  rw [eG] at cb cm
  rw [show x % n = x % Sk.nS by rw [hs.hn]] at cm_
  have r256 : x % Sk.nS < 2 ^ 256 := Nat.lt_trans (Nat.mod_lt _ (by decide)) (by decide : Sk.nS < 2 ^ 256)
  have s256 : s < 2 ^ 256 := by rw [hs']; exact finN_256 _
  have q1 := fun (A : Ar) (hA : A = Ar.real) => (zeq4 hA hl (x := x % Sk.nS) r256).trans (decide_eq_false c1)
  have q2 := fun (A : Ar) (hA : A = Ar.real) => (zeq4 hA hl (x := s) s256).trans (decide_eq_false c2)
  have q3 := fun (A : Ar) (hA : A = Ar.real) => congrArg A.not ((weq4 hA hl r256 x256).trans (decide_eq_false c3))
  clear r256 s256 x256 hx hy hk he hF hh hs hs'
  clear c1 c2 c3
  generalize sgV (rdN h) x key e = sv at *
  generalize Sk.nf (rdN h) + Sk.nf x * Sk.nf key = w2 at *
  generalize Cv.inv1 (Sk.nf e) = iv at *
  generalize Sk.nf x * Sk.nf key = w1 at *
  generalize Sk.nf x = fx at *
  generalize Sk.nf key = fk at *
  generalize Sk.nf e = fe at *
  generalize Sk.nf (rdN h) = fz at *
  generalize Sk.fs Sk.gx = gx at *
  generalize Sk.fs Sk.gy = gy at *
  generalize rdN h % Sk.nS = zn at *
  generalize x % Sk.nS = xm at *
  refine mk Tryz.func39 rfl rfl L0 R1 (by decide +kernel) fun A S hA hS => ?_
  have nf := not_f hA
  have nt := not_t hA
  have q1 := q1 A hA
  have q2 := q2 A hA
  have q3 := q3 A hA
  rw [nf] at q3
  unfold bodyOf Tryz.f39
  cbv
  repeat (first
    | (refine ABr.t (by assumption) ?_; cbv)
    | (refine ABr.f (by assumption) ?_; cbv)
    | (refine ABr.t rfl ?_; cbv)
    | (refine ABr.f rfl ?_; cbv)
    | (refine ACall.mk _ (cf hS ck) ?_; cbv)
    | (refine ACall.mk _ (cf hS ce) ?_; cbv)
    | (refine ACall.mk _ (cf hS cb) ?_; cbv)
    | (refine ACall.mk _ (cf hS cm) ?_; cbv)
    | (refine ACall.mk _ (cf hS co) ?_; cbv)
    | (refine ACall.mk _ (cf hS sn) ?_; cbv)
    | (refine ACall.mk _ (cf hS cm_) ?_; cbv)
    | (refine ACall.mk _ (cf hS cnum) ?_; cbv)
    | (refine ACall.mk _ (cf hS iz) ?_; cbv)
    | (refine ACall.mk _ (cf hS ir) ?_; cbv)
    | (refine ACall.mk _ (cf hS ik) ?_; cbv)
    | (refine ACall.mk _ (cf hS m1) ?_; cbv)
    | (refine ACall.mk _ (cf hS a1) ?_; cbv)
    | (refine ACall.mk _ (cf hS ie) ?_; cbv)
    | (refine ACall.mk _ (cf hS ci) ?_; cbv)
    | (refine ACall.mk _ (cf hS m2) ?_; cbv)
    | (refine ACall.mk _ (cf hS ou) ?_; cbv))
theorem Sec.signLow (key : Nat) (hk : key ≠ 0 ∧ key < Sk.nS) (h : Nat → Nat) (hh : ∀ j, h j < 256) (F : Nat → Int) (hF : F = fun j => ((h j : Nat) : Int)) (e : Nat) (he : e ≠ 0 ∧ e < Sk.nS) (x y : Nat) (hx : x < Sk.pS) (hy : y < Sk.pS) (cm : Sp 20 [Pf k Sk.G, u4 H.lim e] (.tup [PS H x y false, .i .i64 0])) (s : Nat) (hs' : s = (sgV (rdN h) x key e).val) (c1 : x % Sk.nS ≠ 0) (c2 : s ≠ 0) (c3 : x % Sk.nS = x) (hlo : s ≤ Sk.nS / 2) (oi : Int) (hoi : oi = ((y % 2 : Nat) : Int)) : Sp 39 [u4 H.lim key, .agg (hsh F), u4 H.lim e] (.tup [sgn9 H.lim x s oi, .i .i64 0]) := by
  have hl := H5.hlim hs.hH
  have ck := hs.scalar key (Nat.lt_trans hk.2 (by decide)) true (decide_eq_true hk).symm
  have ce := hs.scalar e (Nat.lt_trans he.2 (by decide)) true (decide_eq_true he).symm
  have cb := hs.base
  have co := hs.order
  have sn := hs.sn
  have x256 : x < 2 ^ 256 := Nat.lt_trans hx (by decide)
  have cm_ := modS hl x n x256 (by rw [hs.hn]; exact topN)
  have cnum := hs.number h hh F hF
  have iz := hs.inN (x := rdN h % Sk.nS) (Nat.mod_lt _ (by decide))
  rw [nf_mod] at iz
  have ir := hs.inN (x := x % Sk.nS) (Nat.mod_lt _ (by decide))
  rw [nf_mod] at ir
  have ik := hs.inN hk.2
  have ie := hs.inN he.2
  have m1 := hs.mulN (Sk.nf x) (Sk.nf key)
  have a1 := hs.addN (Sk.nf (rdN h)) (Sk.nf x * Sk.nf key)
  have ci := hs.invN (Sk.nf e)
  have m2 := hs.mulN (Sk.nf (rdN h) + Sk.nf x * Sk.nf key) (Cv.inv1 (Sk.nf e))
  have ou := hs.outN (sgV (rdN h) x key e)
  rw [show (Sk.nf (rdN h) + Sk.nf x * Sk.nf key) * Cv.inv1 (Sk.nf e) = sgV (rdN h) x key e from rfl] at m2
  rw [← hs'] at ou
  have eG : Sk.G = some (Sk.fs Sk.gx, Sk.fs Sk.gy) := rfl
  rw [eG] at cb cm
  rw [show x % n = x % Sk.nS by rw [hs.hn]] at cm_
  have r256 : x % Sk.nS < 2 ^ 256 := Nat.lt_trans (Nat.mod_lt _ (by decide)) (by decide : Sk.nS < 2 ^ 256)
  have s256 : s < 2 ^ 256 := by rw [hs']; exact finN_256 _
  have clo := hs.low s s256 true (decide_eq_true hlo).symm
  have q1 := fun (A : Ar) (hA : A = Ar.real) => (zeq4 hA hl (x := x % Sk.nS) r256).trans (decide_eq_false c1)
  have q2 := fun (A : Ar) (hA : A = Ar.real) => (zeq4 hA hl (x := s) s256).trans (decide_eq_false c2)
  have q3 := fun (A : Ar) (hA : A = Ar.real) => congrArg A.not ((weq4 hA hl r256 x256).trans (decide_eq_true c3))
  have hodd : ∀ (A : Ar) (hA : A = Ar.real), A.wrap .i64 (A.bin .and .u64 (H.lim y 0) 1) = oi := fun A hA => by rw [hoi]; exact odd_b hA (by rw [hl])
  clear r256 s256 x256 hx hy hk he hF hh hs' c1 c2 hlo
  clear hoi
  rw [c3] at *
  clear c3 hs
  generalize sgV (rdN h) x key e = sv at *
  generalize Sk.nf (rdN h) + Sk.nf x * Sk.nf key = w2 at *
  generalize Cv.inv1 (Sk.nf e) = iv at *
  generalize Sk.nf x * Sk.nf key = w1 at *
  generalize Sk.nf x = fx at *
  generalize Sk.nf key = fk at *
  generalize Sk.nf e = fe at *
  generalize Sk.nf (rdN h) = fz at *
  generalize Sk.fs Sk.gx = gx at *
  generalize Sk.fs Sk.gy = gy at *
  generalize rdN h % Sk.nS = zn at *
  refine mk Tryz.func39 rfl rfl L0 R1 (by decide +kernel) fun A S hA hS => ?_
  have nf := not_f hA
  have nt := not_t hA
  have q1 := q1 A hA
  have q2 := q2 A hA
  have q3 := q3 A hA
  rw [nt] at q3
  have hodd := hodd A hA
  unfold bodyOf Tryz.f39
  cbv
  repeat (first
    | (refine ABr.t (by assumption) ?_; cbv)
    | (refine ABr.f (by assumption) ?_; cbv)
    | (refine ABr.t rfl ?_; cbv)
    | (refine ABr.f rfl ?_; cbv)
    | (refine ACall.mk _ (cf hS ck) ?_; cbv)
    | (refine ACall.mk _ (cf hS ce) ?_; cbv)
    | (refine ACall.mk _ (cf hS cb) ?_; cbv)
    | (refine ACall.mk _ (cf hS cm) ?_; cbv)
    | (refine ACall.mk _ (cf hS co) ?_; cbv)
    | (refine ACall.mk _ (cf hS sn) ?_; cbv)
    | (refine ACall.mk _ (cf hS cm_) ?_; cbv)
    | (refine ACall.mk _ (cf hS cnum) ?_; cbv)
    | (refine ACall.mk _ (cf hS iz) ?_; cbv)
    | (refine ACall.mk _ (cf hS ir) ?_; cbv)
    | (refine ACall.mk _ (cf hS ik) ?_; cbv)
    | (refine ACall.mk _ (cf hS m1) ?_; cbv)
    | (refine ACall.mk _ (cf hS a1) ?_; cbv)
    | (refine ACall.mk _ (cf hS ie) ?_; cbv)
    | (refine ACall.mk _ (cf hS ci) ?_; cbv)
    | (refine ACall.mk _ (cf hS m2) ?_; cbv)
    | (refine ACall.mk _ (cf hS ou) ?_; cbv)
    | (refine ACall.mk _ (cf hS clo) ?_; cbv))
  repeat' (first | exact hodd | exact rfl | exact trivial | constructor)
theorem Sec.signHigh (key : Nat) (hk : key ≠ 0 ∧ key < Sk.nS) (h : Nat → Nat) (hh : ∀ j, h j < 256) (F : Nat → Int) (hF : F = fun j => ((h j : Nat) : Int)) (e : Nat) (he : e ≠ 0 ∧ e < Sk.nS) (x y : Nat) (hx : x < Sk.pS) (hy : y < Sk.pS) (cm : Sp 20 [Pf k Sk.G, u4 H.lim e] (.tup [PS H x y false, .i .i64 0])) (s : Nat) (hs' : s = (sgV (rdN h) x key e).val) (c1 : x % Sk.nS ≠ 0) (c2 : s ≠ 0) (c3 : x % Sk.nS = x) (hlo : ¬ s ≤ Sk.nS / 2) (oi oj : Int) (hoi : oi = ((y % 2 : Nat) : Int)) (hoj : oj = 1 - oi) : Sp 39 [u4 H.lim key, .agg (hsh F), u4 H.lim e] (.tup [sgn9 H.lim x (Sk.nS - s) oj, .i .i64 0]) := by
  have hl := H5.hlim hs.hH
  have ck := hs.scalar key (Nat.lt_trans hk.2 (by decide)) true (decide_eq_true hk).symm
  have ce := hs.scalar e (Nat.lt_trans he.2 (by decide)) true (decide_eq_true he).symm
  have cb := hs.base
  have co := hs.order
  have sn := hs.sn
  have x256 : x < 2 ^ 256 := Nat.lt_trans hx (by decide)
  have cm_ := modS hl x n x256 (by rw [hs.hn]; exact topN)
  have cnum := hs.number h hh F hF
  have iz := hs.inN (x := rdN h % Sk.nS) (Nat.mod_lt _ (by decide))
  rw [nf_mod] at iz
  have ir := hs.inN (x := x % Sk.nS) (Nat.mod_lt _ (by decide))
  rw [nf_mod] at ir
  have ik := hs.inN hk.2
  have ie := hs.inN he.2
  have m1 := hs.mulN (Sk.nf x) (Sk.nf key)
  have a1 := hs.addN (Sk.nf (rdN h)) (Sk.nf x * Sk.nf key)
  have ci := hs.invN (Sk.nf e)
  have m2 := hs.mulN (Sk.nf (rdN h) + Sk.nf x * Sk.nf key) (Cv.inv1 (Sk.nf e))
  have ou := hs.outN (sgV (rdN h) x key e)
  rw [show (Sk.nf (rdN h) + Sk.nf x * Sk.nf key) * Cv.inv1 (Sk.nf e) = sgV (rdN h) x key e from rfl] at m2
  rw [← hs'] at ou
  have eG : Sk.G = some (Sk.fs Sk.gx, Sk.fs Sk.gy) := rfl
  rw [eG] at cb cm
  rw [show x % n = x % Sk.nS by rw [hs.hn]] at cm_
  have r256 : x % Sk.nS < 2 ^ 256 := Nat.lt_trans (Nat.mod_lt _ (by decide)) (by decide : Sk.nS < 2 ^ 256)
  have s256 : s < 2 ^ 256 := by rw [hs']; exact finN_256 _
  have clo := hs.low s s256 false (decide_eq_false hlo).symm
  have q1 := fun (A : Ar) (hA : A = Ar.real) => (zeq4 hA hl (x := x % Sk.nS) r256).trans (decide_eq_false c1)
  have q2 := fun (A : Ar) (hA : A = Ar.real) => (zeq4 hA hl (x := s) s256).trans (decide_eq_false c2)
  have q3 := fun (A : Ar) (hA : A = Ar.real) => congrArg A.not ((weq4 hA hl r256 x256).trans (decide_eq_true c3))
  have hodd : ∀ (A : Ar) (hA : A = Ar.real), A.wrap .i64 (A.bin .and .u64 (H.lim y 0) 1) = oi := fun A hA => by rw [hoi]; exact odd_b hA (by rw [hl])
  have csub := subS hl n s (by rw [hs.hn]; decide) (by have := (sgV (rdN h) x key e).isLt; rw [hs.hn]; omega)
  rw [show n - s = Sk.nS - s by rw [hs.hn]] at csub
  have hsub : ∀ (A : Ar) (hA : A = Ar.real), A.bin .sub .i64 1 oi = oj := fun A hA => e_sub hA rfl rfl hoj.symm (by have : y % 2 < 2 := Nat.mod_lt _ (by decide); unfold Fits; omega)
  clear r256 s256 x256 hx hy hk he hF hh hs' c1 c2 hlo
  clear hoj hoi
  generalize Sk.nS - s = d at *
  rw [c3] at *
  clear c3 hs
  generalize sgV (rdN h) x key e = sv at *
  generalize Sk.nf (rdN h) + Sk.nf x * Sk.nf key = w2 at *
  generalize Cv.inv1 (Sk.nf e) = iv at *
  generalize Sk.nf x * Sk.nf key = w1 at *
  generalize Sk.nf x = fx at *
  generalize Sk.nf key = fk at *
  generalize Sk.nf e = fe at *
  generalize Sk.nf (rdN h) = fz at *
  generalize Sk.fs Sk.gx = gx at *
  generalize Sk.fs Sk.gy = gy at *
  generalize rdN h % Sk.nS = zn at *
  refine mk Tryz.func39 rfl rfl L0 R1 (by decide +kernel) fun A S hA hS => ?_
  have nf := not_f hA
  have nt := not_t hA
  have q1 := q1 A hA
  have q2 := q2 A hA
  have q3 := q3 A hA
  rw [nt] at q3
  have hodd := hodd A hA
  have hsub := hsub A hA
  rw [← hodd] at hsub
  unfold bodyOf Tryz.f39
  cbv
  repeat (first
    | (refine ABr.t (by assumption) ?_; cbv)
    | (refine ABr.f (by assumption) ?_; cbv)
    | (refine ABr.t rfl ?_; cbv)
    | (refine ABr.f rfl ?_; cbv)
    | (refine ACall.mk _ (cf hS ck) ?_; cbv)
    | (refine ACall.mk _ (cf hS ce) ?_; cbv)
    | (refine ACall.mk _ (cf hS cb) ?_; cbv)
    | (refine ACall.mk _ (cf hS cm) ?_; cbv)
    | (refine ACall.mk _ (cf hS co) ?_; cbv)
    | (refine ACall.mk _ (cf hS sn) ?_; cbv)
    | (refine ACall.mk _ (cf hS cm_) ?_; cbv)
    | (refine ACall.mk _ (cf hS cnum) ?_; cbv)
    | (refine ACall.mk _ (cf hS iz) ?_; cbv)
    | (refine ACall.mk _ (cf hS ir) ?_; cbv)
    | (refine ACall.mk _ (cf hS ik) ?_; cbv)
    | (refine ACall.mk _ (cf hS m1) ?_; cbv)
    | (refine ACall.mk _ (cf hS a1) ?_; cbv)
    | (refine ACall.mk _ (cf hS ie) ?_; cbv)
    | (refine ACall.mk _ (cf hS ci) ?_; cbv)
    | (refine ACall.mk _ (cf hS m2) ?_; cbv)
    | (refine ACall.mk _ (cf hS ou) ?_; cbv)
    | (refine ACall.mk _ (cf hS clo) ?_; cbv)
    | (refine ACall.mk _ (cf hS csub) ?_; cbv))
  repeat' (first | exact hsub | exact rfl | exact trivial | constructor)
end
end Go.Proofs.YtkhipnhdbaahcaaGreat
end
section
set_option linter.unusedVariables false
set_option linter.unusedSectionVars false
set_option linter.unusedSimpArgs false
namespace Go.Proofs.YtkhipnhdbaahcaaGreat
open Go Eng
set_option maxRecDepth 100000
set_option exponentiation.threshold 2000
set_option maxHeartbeats 8000000
section
variable {H : H5} {k : Kf Sk.pS} {r : List AVal} {kn : Kf Sk.nS} {rn : List AVal} {m n : Nat} (hs : Sec H k r kn rn m n)
include hs
theorem Sec.rmulN (a b : Fin Sk.nS) : Sp 45 [u4 H.lim a.val, u4 H.lim b.val, u4 H.lim n] (u4 H.lim (a * b).val) := by
  have h := hs.rfn.mul a b
  rw [hs.on] at h
  rw [Uf_eq hs.un, Uf_eq hs.un, Uf_eq hs.un] at h; exact h
theorem Sec.raddN (a b : Fin Sk.nS) : Sp 91 [u4 H.lim a.val, u4 H.lim b.val, u4 H.lim n] (u4 H.lim (a + b).val) := by
  have h := hs.rfn.add a b
  rw [hs.on] at h
  rw [Uf_eq hs.un, Uf_eq hs.un, Uf_eq hs.un] at h; exact h
theorem Sec.rinvN (a : Fin Sk.nS) : Sp 86 [u4 H.lim a.val, u4 H.lim n] (u4 H.lim (Cv.inv1 a).val) := by
  have h := hs.rfn.inv a
  rw [hs.on] at h
  rw [Uf_eq hs.un, Uf_eq hs.un] at h; exact h
theorem Sec.rmulG {e x y : Nat} (he : e < 2 ^ 256) (hx : x < Sk.pS) (hy : y < Sk.pS) (hp : Gp.mn Sk.O Sk.G e = some (Sk.fs x, Sk.fs y)) : Sp 21 [Pf k Sk.G, u4 H.lim e] (.tup [PS H x y false, .i .i64 0]) := by
  have c := hs.rmul Sk.G Sk.onG e he
  have hon := onS_mn Sk.onG e
  rw [hp] at c hon
  exact hs.toPI (x := x) (y := y) (i := false) (.inr ⟨rfl, hx, hy, hon⟩) c
theorem Sec.rsignKey (key : Nat) (hk : key < 2 ^ 256) (h : ¬ (key ≠ 0 ∧ key < Sk.nS)) (F : Nat → Int) (e : Nat) : Sp 40 [u4 H.lim key, .agg (hsh F), u4 H.lim e] (.tup [zSg, .i .i64 61]) := by
  have c := hs.rkey key hk _ rfl
  rw [decide_eq_false h] at c
  refine mk Tryz.func40 rfl rfl L0 R1 (by decide +kernel) fun A S hA hS => ?_
  have nf := not_f hA
  unfold bodyOf Tryz.f40
  cbv
  repeat (first
    | (refine ABr.t (by assumption) ?_; cbv)
    | (refine ABr.f (by assumption) ?_; cbv)
    | (refine ABr.t rfl ?_; cbv)
    | (refine ABr.f rfl ?_; cbv)
    | (refine ACall.mk _ (cf hS c) ?_; cbv))
theorem Sec.rsignNonce (key : Nat) (hk : key ≠ 0 ∧ key < Sk.nS) (F : Nat → Int) (e : Nat) (he : e < 2 ^ 256) (h : ¬ (e ≠ 0 ∧ e < Sk.nS)) : Sp 40 [u4 H.lim key, .agg (hsh F), u4 H.lim e] (.tup [zSg, .i .i64 62]) := by
  have ck := hs.rkey key (Nat.lt_trans hk.2 (by decide)) true (decide_eq_true hk).symm
  have c := hs.rkey e he _ rfl
  rw [decide_eq_false h] at c
  refine mk Tryz.func40 rfl rfl L0 R1 (by decide +kernel) fun A S hA hS => ?_
  have nf := not_f hA
  have nt := not_t hA
  unfold bodyOf Tryz.f40
  cbv
  repeat (first
    | (refine ABr.t (by assumption) ?_; cbv)
    | (refine ABr.f (by assumption) ?_; cbv)
    | (refine ABr.t rfl ?_; cbv)
    | (refine ABr.f rfl ?_; cbv)
    | (refine ACall.mk _ (cf hS ck) ?_; cbv)
    | (refine ACall.mk _ (cf hS c) ?_; cbv))
theorem Sec.rsignBig (key : Nat) (hk : key ≠ 0 ∧ key < Sk.nS) (h : Nat → Nat) (hh : ∀ j, h j < 256) (F : Nat → Int) (hF : F = fun j => ((h j : Nat) : Int)) (e : Nat) (he : e ≠ 0 ∧ e < Sk.nS) (x y : Nat) (hx : x < Sk.pS) (hy : y < Sk.pS) (hp : Gp.mn Sk.O Sk.G e = some (Sk.fs x, Sk.fs y)) (s : Nat) (hs' : s = (sgV (rdN h) x key e).val) (hxn : ¬ x < Sk.nS) : Sp 40 [u4 H.lim key, .agg (hsh F), u4 H.lim e] (.tup [zSg, .i .i64 62]) := by
  have hl := H5.hlim hs.hH
  have ck := hs.rkey key (Nat.lt_trans hk.2 (by decide)) true (decide_eq_true hk).symm
  have ce := hs.rkey e (Nat.lt_trans he.2 (by decide)) true (decide_eq_true he).symm
  have cb := hs.refBase
  have sn := hs.cN
  have x256 : x < 2 ^ 256 := Nat.lt_trans hx (by decide)
  have cm := hs.rmulG (Nat.lt_trans he.2 (by decide)) hx hy hp
  have cbl := r6below hl x n x256 (by rw [hs.hn]; decide) _ rfl
  rw [hs.hn] at cbl
  have eG : Sk.G = some (Sk.fs Sk.gx, Sk.fs Sk.gy) := rfl
  rw [eG] at cb cm
  rw [decide_eq_false hxn, ← hs.hn] at cbl
  generalize Sk.fs Sk.gx = gx at *
  generalize Sk.fs Sk.gy = gy at *
  clear hs' hF hh hp hs
  refine mk Tryz.func40 rfl rfl L0 R1 (by decide +kernel) fun A S hA hS => ?_
  have nf := not_f hA
  have nt := not_t hA
  unfold bodyOf Tryz.f40
  cbv
  repeat (first
    | (refine ABr.t (by assumption) ?_; cbv)
    | (refine ABr.f (by assumption) ?_; cbv)
    | (refine ABr.t rfl ?_; cbv)
    | (refine ABr.f rfl ?_; cbv)
    | (refine ACall.mk _ (cf hS ck) ?_; cbv)
    | (refine ACall.mk _ (cf hS ce) ?_; cbv)
    | (refine ACall.mk _ (cf hS cb) ?_; cbv)
    | (refine ACall.mk _ (cf hS cm) ?_; cbv)
    | (refine ACall.mk _ (cf hS sn) ?_; cbv)
    | (refine ACall.mk _ (cf hS cbl) ?_; cbv))
theorem Sec.rsignOut1 (key : Nat) (hk : key ≠ 0 ∧ key < Sk.nS) (h : Nat → Nat) (hh : ∀ j, h j < 256) (F : Nat → Int) (hF : F = fun j => ((h j : Nat) : Int)) (e : Nat) (he : e ≠ 0 ∧ e < Sk.nS) (x y : Nat) (hx : x < Sk.pS) (hy : y < Sk.pS) (hp : Gp.mn Sk.O Sk.G e = some (Sk.fs x, Sk.fs y)) (s : Nat) (hs' : s = (sgV (rdN h) x key e).val) (hxn : x < Sk.nS) (c1 : x = 0) : Sp 40 [u4 H.lim key, .agg (hsh F), u4 H.lim e] (.tup [zSg, .i .i64 62]) := by
  have hl := H5.hlim hs.hH
  have ck := hs.rkey key (Nat.lt_trans hk.2 (by decide)) true (decide_eq_true hk).symm
  have ce := hs.rkey e (Nat.lt_trans he.2 (by decide)) true (decide_eq_true he).symm
  have cb := hs.refBase
  have sn := hs.cN
  have x256 : x < 2 ^ 256 := Nat.lt_trans hx (by decide)
  have cm := hs.rmulG (Nat.lt_trans he.2 (by decide)) hx hy hp
  have cbl := r6below hl x n x256 (by rw [hs.hn]; decide) _ rfl
  rw [hs.hn] at cbl
  have eG : Sk.G = some (Sk.fs Sk.gx, Sk.fs Sk.gy) := rfl
  rw [eG] at cb cm
  rw [decide_eq_true hxn, ← hs.hn] at cbl
  have cnum := hs.rnumber h hh F hF _ rfl
  have m1 := hs.rmulN (Sk.nf x) (Sk.nf key)
  rw [nf_lt hxn, nf_lt hk.2] at m1
  have a1 := hs.raddN (Sk.nf (rdN h)) (Sk.nf x * Sk.nf key)
  have ci := hs.rinvN (Sk.nf e)
  rw [nf_lt he.2] at ci
  have m2 := hs.rmulN (Sk.nf (rdN h) + Sk.nf x * Sk.nf key) (Cv.inv1 (Sk.nf e))
  rw [show (Sk.nf (rdN h) + Sk.nf x * Sk.nf key) * Cv.inv1 (Sk.nf e) = sgV (rdN h) x key e from rfl, ← hs'] at m2
  rw [show rdN h % Sk.nS = (Sk.nf (rdN h)).val from rfl] at cnum
  have s256 : s < 2 ^ 256 := by rw [hs']; exact finN_256 _
  have q1 := fun (A : Ar) (hA : A = Ar.real) => (zeq4 hA hl (x := x) x256).trans (decide_eq_true c1)
  clear s256 x256 hx hy hk he hF hh hs' hp hxn c1
  clear hs
  generalize (Sk.nf (rdN h) + Sk.nf x * Sk.nf key).val = w2 at *
  generalize (Cv.inv1 (Sk.nf e)).val = iv at *
  generalize (Sk.nf x * Sk.nf key).val = w1 at *
  generalize (Sk.nf (rdN h)).val = zn at *
  generalize Sk.fs Sk.gx = gx at *
  generalize Sk.fs Sk.gy = gy at *
  refine mk Tryz.func40 rfl rfl L0 R1 (by decide +kernel) fun A S hA hS => ?_
  have nf := not_f hA
  have nt := not_t hA
  have q1 := q1 A hA
  unfold bodyOf Tryz.f40
  cbv
  repeat (first
    | (refine ABr.t (by assumption) ?_; cbv)
    | (refine ABr.f (by assumption) ?_; cbv)
    | (refine ABr.t rfl ?_; cbv)
    | (refine ABr.f rfl ?_; cbv)
    | (refine ACall.mk _ (cf hS ck) ?_; cbv)
    | (refine ACall.mk _ (cf hS ce) ?_; cbv)
    | (refine ACall.mk _ (cf hS cb) ?_; cbv)
    | (refine ACall.mk _ (cf hS cm) ?_; cbv)
    | (refine ACall.mk _ (cf hS sn) ?_; cbv)
    | (refine ACall.mk _ (cf hS cbl) ?_; cbv)
    | (refine ACall.mk _ (cf hS cnum) ?_; cbv)
    | (refine ACall.mk _ (cf hS m1) ?_; cbv)
    | (refine ACall.mk _ (cf hS a1) ?_; cbv)
    | (refine ACall.mk _ (cf hS ci) ?_; cbv)
    | (refine ACall.mk _ (cf hS m2) ?_; cbv))
theorem Sec.rsignOut2 (key : Nat) (hk : key ≠ 0 ∧ key < Sk.nS) (h : Nat → Nat) (hh : ∀ j, h j < 256) (F : Nat → Int) (hF : F = fun j => ((h j : Nat) : Int)) (e : Nat) (he : e ≠ 0 ∧ e < Sk.nS) (x y : Nat) (hx : x < Sk.pS) (hy : y < Sk.pS) (hp : Gp.mn Sk.O Sk.G e = some (Sk.fs x, Sk.fs y)) (s : Nat) (hs' : s = (sgV (rdN h) x key e).val) (hxn : x < Sk.nS) (c1 : x ≠ 0) (c2 : s = 0) : Sp 40 [u4 H.lim key, .agg (hsh F), u4 H.lim e] (.tup [zSg, .i .i64 62]) := by
  have hl := H5.hlim hs.hH
  have ck := hs.rkey key (Nat.lt_trans hk.2 (by decide)) true (decide_eq_true hk).symm
  have ce := hs.rkey e (Nat.lt_trans he.2 (by decide)) true (decide_eq_true he).symm
  have cb := hs.refBase
  have sn := hs.cN
  have x256 : x < 2 ^ 256 := Nat.lt_trans hx (by decide)
  have cm := hs.rmulG (Nat.lt_trans he.2 (by decide)) hx hy hp
  have cbl := r6below hl x n x256 (by rw [hs.hn]; decide) _ rfl
  rw [hs.hn] at cbl
  have eG : Sk.G = some (Sk.fs Sk.gx, Sk.fs Sk.gy) := rfl
  rw [eG] at cb cm
  rw [decide_eq_true hxn, ← hs.hn] at cbl
  have cnum := hs.rnumber h hh F hF _ rfl
  have m1 := hs.rmulN (Sk.nf x) (Sk.nf key)
  rw [nf_lt hxn, nf_lt hk.2] at m1
  have a1 := hs.raddN (Sk.nf (rdN h)) (Sk.nf x * Sk.nf key)
  have ci := hs.rinvN (Sk.nf e)
  rw [nf_lt he.2] at ci
  have m2 := hs.rmulN (Sk.nf (rdN h) + Sk.nf x * Sk.nf key) (Cv.inv1 (Sk.nf e))
  rw [show (Sk.nf (rdN h) + Sk.nf x * Sk.nf key) * Cv.inv1 (Sk.nf e) = sgV (rdN h) x key e from rfl, ← hs'] at m2
  rw [show rdN h % Sk.nS = (Sk.nf (rdN h)).val from rfl] at cnum
  have s256 : s < 2 ^ 256 := by rw [hs']; exact finN_256 _
  have q1 := fun (A : Ar) (hA : A = Ar.real) => (zeq4 hA hl (x := x) x256).trans (decide_eq_false c1)
  have q2 := fun (A : Ar) (hA : A = Ar.real) => (zeq4 hA hl (x := s) s256).trans (decide_eq_true c2)
  clear s256 x256 hx hy hk he hF hh hs' hp hxn c1 c2
  clear hs
  generalize (Sk.nf (rdN h) + Sk.nf x * Sk.nf key).val = w2 at *
  generalize (Cv.inv1 (Sk.nf e)).val = iv at *
  generalize (Sk.nf x * Sk.nf key).val = w1 at *
  generalize (Sk.nf (rdN h)).val = zn at *
  generalize Sk.fs Sk.gx = gx at *
  generalize Sk.fs Sk.gy = gy at *
  refine mk Tryz.func40 rfl rfl L0 R1 (by decide +kernel) fun A S hA hS => ?_
  have nf := not_f hA
  have nt := not_t hA
  have q1 := q1 A hA
  have q2 := q2 A hA
  unfold bodyOf Tryz.f40
  cbv
  repeat (first
    | (refine ABr.t (by assumption) ?_; cbv)
    | (refine ABr.f (by assumption) ?_; cbv)
    | (refine ABr.t rfl ?_; cbv)
    | (refine ABr.f rfl ?_; cbv)
    | (refine ACall.mk _ (cf hS ck) ?_; cbv)
    | (refine ACall.mk _ (cf hS ce) ?_; cbv)
    | (refine ACall.mk _ (cf hS cb) ?_; cbv)
    | (refine ACall.mk _ (cf hS cm) ?_; cbv)
    | (refine ACall.mk _ (cf hS sn) ?_; cbv)
    | (refine ACall.mk _ (cf hS cbl) ?_; cbv)
    | (refine ACall.mk _ (cf hS cnum) ?_; cbv)
    | (refine ACall.mk _ (cf hS m1) ?_; cbv)
    | (refine ACall.mk _ (cf hS a1) ?_; cbv)
    | (refine ACall.mk _ (cf hS ci) ?_; cbv)
    | (refine ACall.mk _ (cf hS m2) ?_; cbv))
theorem Sec.rsignLow (key : Nat) (hk : key ≠ 0 ∧ key < Sk.nS) (h : Nat → Nat) (hh : ∀ j, h j < 256) (F : Nat → Int) (hF : F = fun j => ((h j : Nat) : Int)) (e : Nat) (he : e ≠ 0 ∧ e < Sk.nS) (x y : Nat) (hx : x < Sk.pS) (hy : y < Sk.pS) (hp : Gp.mn Sk.O Sk.G e = some (Sk.fs x, Sk.fs y)) (s : Nat) (hs' : s = (sgV (rdN h) x key e).val) (hxn : x < Sk.nS) (c1 : x ≠ 0) (c2 : s ≠ 0) (hlo : s ≤ Sk.nS / 2) (oi : Int) (hoi : oi = ((y % 2 : Nat) : Int)) : Sp 40 [u4 H.lim key, .agg (hsh F), u4 H.lim e] (.tup [sgn9 H.lim x s oi, .i .i64 0]) := by
  have hl := H5.hlim hs.hH
  have ck := hs.rkey key (Nat.lt_trans hk.2 (by decide)) true (decide_eq_true hk).symm
  have ce := hs.rkey e (Nat.lt_trans he.2 (by decide)) true (decide_eq_true he).symm
  have cb := hs.refBase
  have sn := hs.cN
  have x256 : x < 2 ^ 256 := Nat.lt_trans hx (by decide)
  have cm := hs.rmulG (Nat.lt_trans he.2 (by decide)) hx hy hp
  have cbl := r6below hl x n x256 (by rw [hs.hn]; decide) _ rfl
  rw [hs.hn] at cbl
  have eG : Sk.G = some (Sk.fs Sk.gx, Sk.fs Sk.gy) := rfl
  rw [eG] at cb cm
  rw [decide_eq_true hxn, ← hs.hn] at cbl
  have cnum := hs.rnumber h hh F hF _ rfl
  have m1 := hs.rmulN (Sk.nf x) (Sk.nf key)
  rw [nf_lt hxn, nf_lt hk.2] at m1
  have a1 := hs.raddN (Sk.nf (rdN h)) (Sk.nf x * Sk.nf key)
  have ci := hs.rinvN (Sk.nf e)
  rw [nf_lt he.2] at ci
  have m2 := hs.rmulN (Sk.nf (rdN h) + Sk.nf x * Sk.nf key) (Cv.inv1 (Sk.nf e))
  rw [show (Sk.nf (rdN h) + Sk.nf x * Sk.nf key) * Cv.inv1 (Sk.nf e) = sgV (rdN h) x key e from rfl, ← hs'] at m2
  rw [show rdN h % Sk.nS = (Sk.nf (rdN h)).val from rfl] at cnum
  have s256 : s < 2 ^ 256 := by rw [hs']; exact finN_256 _
  have clo := hs.rlow s s256 true (decide_eq_true hlo).symm
  have q1 := fun (A : Ar) (hA : A = Ar.real) => (zeq4 hA hl (x := x) x256).trans (decide_eq_false c1)
  have q2 := fun (A : Ar) (hA : A = Ar.real) => (zeq4 hA hl (x := s) s256).trans (decide_eq_false c2)
  have hodd : ∀ (A : Ar) (hA : A = Ar.real), A.wrap .i64 (A.bin .rem .u64 (H.lim y 0) 2) = oi := fun A hA => by rw [hoi]; exact odd_r hA (by rw [hl])
  clear s256 x256 hx hy hk he hF hh hs' c1 c2 hlo hp hxn
  clear hoi hs
  generalize (Sk.nf (rdN h) + Sk.nf x * Sk.nf key).val = w2 at *
  generalize (Cv.inv1 (Sk.nf e)).val = iv at *
  generalize (Sk.nf x * Sk.nf key).val = w1 at *
  generalize (Sk.nf (rdN h)).val = zn at *
  generalize Sk.fs Sk.gx = gx at *
  generalize Sk.fs Sk.gy = gy at *
  refine mk Tryz.func40 rfl rfl L0 R1 (by decide +kernel) fun A S hA hS => ?_
  have nf := not_f hA
  have nt := not_t hA
  have q1 := q1 A hA
  have q2 := q2 A hA
  have hodd := hodd A hA
  unfold bodyOf Tryz.f40
  cbv
  repeat (first
    | (refine ABr.t (by assumption) ?_; cbv)
    | (refine ABr.f (by assumption) ?_; cbv)
    | (refine ABr.t rfl ?_; cbv)
    | (refine ABr.f rfl ?_; cbv)
    | (refine ACall.mk _ (cf hS ck) ?_; cbv)
    | (refine ACall.mk _ (cf hS ce) ?_; cbv)
    | (refine ACall.mk _ (cf hS cb) ?_; cbv)
    | (refine ACall.mk _ (cf hS cm) ?_; cbv)
    | (refine ACall.mk _ (cf hS sn) ?_; cbv)
    | (refine ACall.mk _ (cf hS cbl) ?_; cbv)
    | (refine ACall.mk _ (cf hS cnum) ?_; cbv)
    | (refine ACall.mk _ (cf hS m1) ?_; cbv)
    | (refine ACall.mk _ (cf hS a1) ?_; cbv)
    | (refine ACall.mk _ (cf hS ci) ?_; cbv)
    | (refine ACall.mk _ (cf hS m2) ?_; cbv)
    | (refine ACall.mk _ (cf hS clo) ?_; cbv))
  repeat' (first | exact hodd | exact rfl | exact trivial | constructor)
theorem Sec.rsignHigh (key : Nat) (hk : key ≠ 0 ∧ key < Sk.nS) (h : Nat → Nat) (hh : ∀ j, h j < 256) (F : Nat → Int) (hF : F = fun j => ((h j : Nat) : Int)) (e : Nat) (he : e ≠ 0 ∧ e < Sk.nS) (x y : Nat) (hx : x < Sk.pS) (hy : y < Sk.pS) (hp : Gp.mn Sk.O Sk.G e = some (Sk.fs x, Sk.fs y)) (s : Nat) (hs' : s = (sgV (rdN h) x key e).val) (hxn : x < Sk.nS) (c1 : x ≠ 0) (c2 : s ≠ 0) (hlo : ¬ s ≤ Sk.nS / 2) (oi oj : Int) (hoi : oi = ((y % 2 : Nat) : Int)) (hoj : oj = 1 - oi) : Sp 40 [u4 H.lim key, .agg (hsh F), u4 H.lim e] (.tup [sgn9 H.lim x (Sk.nS - s) oj, .i .i64 0]) := by
  have hl := H5.hlim hs.hH
  have ck := hs.rkey key (Nat.lt_trans hk.2 (by decide)) true (decide_eq_true hk).symm
  have ce := hs.rkey e (Nat.lt_trans he.2 (by decide)) true (decide_eq_true he).symm
  have cb := hs.refBase
  have sn := hs.cN
  have x256 : x < 2 ^ 256 := Nat.lt_trans hx (by decide)
  have cm := hs.rmulG (Nat.lt_trans he.2 (by decide)) hx hy hp
  have cbl := r6below hl x n x256 (by rw [hs.hn]; decide) _ rfl
  rw [hs.hn] at cbl
  have eG : Sk.G = some (Sk.fs Sk.gx, Sk.fs Sk.gy) := rfl
  rw [eG] at cb cm
  rw [decide_eq_true hxn, ← hs.hn] at cbl
  have cnum := hs.rnumber h hh F hF _ rfl
  have m1 := hs.rmulN (Sk.nf x) (Sk.nf key)
  rw [nf_lt hxn, nf_lt hk.2] at m1
  have a1 := hs.raddN (Sk.nf (rdN h)) (Sk.nf x * Sk.nf key)
  have ci := hs.rinvN (Sk.nf e)
  rw [nf_lt he.2] at ci
  have m2 := hs.rmulN (Sk.nf (rdN h) + Sk.nf x * Sk.nf key) (Cv.inv1 (Sk.nf e))
  rw [show (Sk.nf (rdN h) + Sk.nf x * Sk.nf key) * Cv.inv1 (Sk.nf e) = sgV (rdN h) x key e from rfl, ← hs'] at m2
  rw [show rdN h % Sk.nS = (Sk.nf (rdN h)).val from rfl] at cnum
  have s256 : s < 2 ^ 256 := by rw [hs']; exact finN_256 _
  have clo := hs.rlow s s256 false (decide_eq_false hlo).symm
  have q1 := fun (A : Ar) (hA : A = Ar.real) => (zeq4 hA hl (x := x) x256).trans (decide_eq_false c1)
  have q2 := fun (A : Ar) (hA : A = Ar.real) => (zeq4 hA hl (x := s) s256).trans (decide_eq_false c2)
  have hodd : ∀ (A : Ar) (hA : A = Ar.real), A.wrap .i64 (A.bin .rem .u64 (H.lim y 0) 2) = oi := fun A hA => by rw [hoi]; exact odd_r hA (by rw [hl])
  have csub := rSubS hl n s (by rw [hs.hn]; decide) (by have := (sgV (rdN h) x key e).isLt; rw [hs.hn]; omega)
  rw [show n - s = Sk.nS - s by rw [hs.hn]] at csub
  have hsub : ∀ (A : Ar) (hA : A = Ar.real), A.bin .sub .i64 1 oi = oj := fun A hA => e_sub hA rfl rfl hoj.symm (by have : y % 2 < 2 := Nat.mod_lt _ (by decide); unfold Fits; omega)
  clear s256 x256 hx hy hk he hF hh hs' c1 c2 hlo hp hxn
  clear hoj hoi hs
  generalize Sk.nS - s = d at *
  generalize (Sk.nf (rdN h) + Sk.nf x * Sk.nf key).val = w2 at *
  generalize (Cv.inv1 (Sk.nf e)).val = iv at *
  generalize (Sk.nf x * Sk.nf key).val = w1 at *
  generalize (Sk.nf (rdN h)).val = zn at *
  generalize Sk.fs Sk.gx = gx at *
  generalize Sk.fs Sk.gy = gy at *
  refine mk Tryz.func40 rfl rfl L0 R1 (by decide +kernel) fun A S hA hS => ?_
  have nf := not_f hA
  have nt := not_t hA
  have q1 := q1 A hA
  have q2 := q2 A hA
  have hodd := hodd A hA
  have hsub := hsub A hA
  rw [← hodd] at hsub
  unfold bodyOf Tryz.f40
  cbv
  repeat (first
    | (refine ABr.t (by assumption) ?_; cbv)
    | (refine ABr.f (by assumption) ?_; cbv)
    | (refine ABr.t rfl ?_; cbv)
    | (refine ABr.f rfl ?_; cbv)
    | (refine ACall.mk _ (cf hS ck) ?_; cbv)
    | (refine ACall.mk _ (cf hS ce) ?_; cbv)
    | (refine ACall.mk _ (cf hS cb) ?_; cbv)
    | (refine ACall.mk _ (cf hS cm) ?_; cbv)
    | (refine ACall.mk _ (cf hS sn) ?_; cbv)
    | (refine ACall.mk _ (cf hS cbl) ?_; cbv)
    | (refine ACall.mk _ (cf hS cnum) ?_; cbv)
    | (refine ACall.mk _ (cf hS m1) ?_; cbv)
    | (refine ACall.mk _ (cf hS a1) ?_; cbv)
    | (refine ACall.mk _ (cf hS ci) ?_; cbv)
    | (refine ACall.mk _ (cf hS m2) ?_; cbv)
    | (refine ACall.mk _ (cf hS clo) ?_; cbv)
    | (refine ACall.mk _ (cf hS csub) ?_; cbv))
  repeat' (first | exact hsub | exact rfl | exact trivial | constructor)
/-- Signing, by both. -/
theorem Sec.signBoth (key : Nat) (hk : key < 2 ^ 256) (h : Nat → Nat) (hh : ∀ j, h j < 256) (F : Nat → Int) (hF : F = fun j => ((h j : Nat) : Int)) (e : Nat) (he : e < 2 ^ 256) : ∃ a b o z, Sp 39 [u4 H.lim key, .agg (hsh F), u4 H.lim e] (.tup [sgn9 H.lim a b o, .s .i64 z]) ∧ Sp 40 [u4 H.lim key, .agg (hsh F), u4 H.lim e] (.tup [sgn9 H.lim a b o, .s .i64 z]) := by
  have zs : ∀ {f : FuncId} {z : Int}, Sp f [u4 H.lim key, .agg (hsh F), u4 H.lim e] (.tup [zSg, .i .i64 z]) → Sp f [u4 H.lim key, .agg (hsh F), u4 H.lim e] (.tup [sgn9 H.lim 0 0 0, .s .i64 z]) := fun {f z} c => by
    refine Spec.res c ?_
    have z := hs.lim0
    have a0 := (z 0).symm
    have a1 := (z 1).symm
    have a2 := (z 2).symm
    have a3 := (z 3).symm
    clear z c hs hF
    cbv
    repeat' (first | exact a0 | exact a1 | exact a2 | exact a3 | exact rfl | exact trivial | constructor)
  have gs : ∀ {f : FuncId} {a b : Nat} {o : Int}, Sp f [u4 H.lim key, .agg (hsh F), u4 H.lim e] (.tup [sgn9 H.lim a b o, .i .i64 0]) → Sp f [u4 H.lim key, .agg (hsh F), u4 H.lim e] (.tup [sgn9 H.lim a b o, .s .i64 0]) := fun {f a b o} c => Spec.res c (by clear c; cbv)
  by_cases k1 : key ≠ 0 ∧ key < Sk.nS
  · by_cases k2 : e ≠ 0 ∧ e < Sk.nS
    · obtain ⟨x, y, hx, hy, hp, cm⟩ := hs.mulG key F e k2
      obtain ⟨s, hs'⟩ : ∃ s, s = (sgV (rdN h) x key e).val := ⟨_, rfl⟩
      by_cases hxn : x < Sk.nS
      · have c3 : x % Sk.nS = x := Nat.mod_eq_of_lt hxn
        by_cases c1 : x = 0
        · exact ⟨0, 0, 0, 62, zs (hs.signOut1 key k1 h hh F hF e k2 x y hx hy cm s hs' (by rw [c3]; exact c1)), zs (hs.rsignOut1 key k1 h hh F hF e k2 x y hx hy hp s hs' hxn c1)⟩
        · have c1' : x % Sk.nS ≠ 0 := by rw [c3]; exact c1
          by_cases c2 : s = 0
          · exact ⟨0, 0, 0, 62, zs (hs.signOut2 key k1 h hh F hF e k2 x y hx hy cm s hs' c1' c2), zs (hs.rsignOut2 key k1 h hh F hF e k2 x y hx hy hp s hs' hxn c1 c2)⟩
          · by_cases hlo : s ≤ Sk.nS / 2
            · exact ⟨x, s, _, 0, gs (hs.signLow key k1 h hh F hF e k2 x y hx hy cm s hs' c1' c2 c3 hlo _ rfl), gs (hs.rsignLow key k1 h hh F hF e k2 x y hx hy hp s hs' hxn c1 c2 hlo _ rfl)⟩
            · exact ⟨x, Sk.nS - s, _, 0, gs (hs.signHigh key k1 h hh F hF e k2 x y hx hy cm s hs' c1' c2 c3 hlo _ _ rfl rfl), gs (hs.rsignHigh key k1 h hh F hF e k2 x y hx hy hp s hs' hxn c1 c2 hlo _ _ rfl rfl)⟩
      · have c3 : x % Sk.nS ≠ x := fun c => hxn (by rw [← c]; exact Nat.mod_lt _ (by decide))
        refine ⟨0, 0, 0, 62, ?_, zs (hs.rsignBig key k1 h hh F hF e k2 x y hx hy hp s hs' hxn)⟩
        by_cases c1 : x % Sk.nS = 0
        · exact zs (hs.signOut1 key k1 h hh F hF e k2 x y hx hy cm s hs' c1)
        · by_cases c2 : s = 0
          · exact zs (hs.signOut2 key k1 h hh F hF e k2 x y hx hy cm s hs' c1 c2)
          · exact zs (hs.signOut3 key k1 h hh F hF e k2 x y hx hy cm s hs' c1 c2 c3)
    · exact ⟨0, 0, 0, 62, zs (hs.signNonce key k1 F e he k2), zs (hs.rsignNonce key k1 F e he k2)⟩
  · exact ⟨0, 0, 0, 61, zs (hs.signKey key hk k1 F e), zs (hs.rsignKey key hk k1 F e)⟩
variable (hr : RootK H k r)
include hr
theorem Sec.signs (key : Nat) (hk : key < 2 ^ 256) (h : Nat → Nat) (hh : ∀ j, h j < 256) (F : Nat → Int) (hF : F = fun j => ((h j : Nat) : Int)) (e : Nat) (he : e < 2 ^ 256) : Sp 8 [u4 H.lim key, .agg (hsh F), u4 H.lim e] (.sb true) := by
  have cw := hs.awake hr
  obtain ⟨a, b, o, z, c1, c2⟩ := hs.signBoth key hk h hh F hF e he
  clear hr hs hF hh hk he
  refine mk Tryz.func8 rfl rfl L0 R1 (by decide +kernel) fun A S hA hS => ?_
  have e1 : A.eqs [(.s .u64 (H.lim a 0), .s .u64 (H.lim a 0)), (.s .u64 (H.lim a 1), .s .u64 (H.lim a 1)), (.s .u64 (H.lim a 2), .s .u64 (H.lim a 2)), (.s .u64 (H.lim a 3), .s .u64 (H.lim a 3)), (.s .u64 (H.lim b 0), .s .u64 (H.lim b 0)), (.s .u64 (H.lim b 1), .s .u64 (H.lim b 1)), (.s .u64 (H.lim b 2), .s .u64 (H.lim b 2)), (.s .u64 (H.lim b 3), .s .u64 (H.lim b 3)), (.s .i64 o, .s .i64 o)] = true := by
    rw [hA]; show List.all _ _ = true; simp [leafEq]
  have e2 : A.cmp .eql z z = true := by rw [hA]; exact beq_self_eq_true z
  unfold bodyOf Tryz.f8
  cbv
  repeat (first
    | (refine ABr.t (by assumption) ?_; cbv)
    | (refine ABr.f (by assumption) ?_; cbv)
    | (refine ABr.t rfl ?_; cbv)
    | (refine ABr.f rfl ?_; cbv)
    | (refine ACall.mk _ (cf hS c1) ?_; cbv)
    | (refine ACall.mk _ (cf hS c2) ?_; cbv)
    | (refine ACall.mk _ (cf hS cw) ?_; cbv))
end
theorem lw_signs {H : H5} (hH : H = H5.real) (key : Nat) (h : Nat → Nat) (e : Nat) (hk : key < 2 ^ 256) (hh : ∀ j, h j < 256) (he : e < 2 ^ 256) : Sp 8 [u4 H.lim key, .agg (hsh fun j => ((h j : Nat) : Int)), u4 H.lim e] (.sb true) :=
  (sec H hH).signs (rootK H hH) key hk h hh _ rfl e he
end Go.Proofs.YtkhipnhdbaahcaaGreat
end
