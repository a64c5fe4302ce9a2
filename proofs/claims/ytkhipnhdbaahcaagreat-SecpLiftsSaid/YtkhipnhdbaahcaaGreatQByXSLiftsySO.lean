import Derived.Test.YtkhipnhdbaahcaaGreatQBGL
import Derived.Test.YtkhipnhdbaahcaaGreatQBKB
import Derived.Test.YtkhipnhdbaahcaaGreatQBSG
import Derived.Test.YtkhipnhdbaahcaaGreatQBTE
import Derived.Test.YtkhipnhdbaahcaaGreatQBSQ
section
set_option linter.unusedSectionVars false
set_option linter.unusedVariables false
set_option linter.unusedSimpArgs false
set_option maxRecDepth 100000
set_option exponentiation.threshold 2000
namespace Sk
open Cv NT Gp
theorem unit {a : Fin nS} (h : a ≠ 0) : ∃ i : Fin nS, a * i = 1 := ⟨inv1 a, inv1_ok nPr (by decide) a h⟩
/-- The other parity tells somebody else. -/
theorem parity {h r s k i : Fin nS} (hi : r * i = 1) (hs : s ≠ 0) (hk : k ≠ 0) : (0 - h * i) + k * (s * i) ≠ (0 - h * i) + (0 - k) * (s * i) := fun e => by
  obtain ⟨j, hj⟩ := unit hs
  obtain ⟨l, hl⟩ := unit hk
  have h2 : (1 : Fin nS) + 1 = 0 := by grind
  exact absurd h2 (by decide)
end Sk
end
section
set_option linter.unusedSectionVars false
set_option linter.unusedVariables false
set_option linter.unusedSimpArgs false
set_option maxRecDepth 100000
set_option exponentiation.threshold 2000
namespace Sk
open Cv NT Gp
/-- The root of one parity. -/
def pickP (r : Fin pS) (odd : Nat) : Fin pS := if r.val % 2 = odd then r else 0 - r
theorem neg_val {y : Fin pS} (hy : y ≠ 0) : (0 - y).val = pS - y.val := by
  have h0 : y.val ≠ 0 := fun e => hy (Fin.ext e)
  have h1 := y.isLt
  have e : (0 - y).val = (pS - y.val) % pS := by rw [Fin.sub_def]; rfl
  rw [e, Nat.mod_eq_of_lt (by omega)]
theorem par_neg {y : Fin pS} (hy : y ≠ 0) : (0 - y).val % 2 = 1 - y.val % 2 := by
  have h1 := y.isLt
  rw [neg_val hy]
  have key : ∀ q v : Nat, q % 2 = 1 → v < q → (q - v) % 2 = 1 - v % 2 := fun q v _ _ => by omega
  exact key _ _ (by decide) h1
theorem sq_eq {r y : Fin pS} (h : r * r = y * y) : r = y ∨ r = 0 - y := by
  have : (r - y) * (r + y) = 0 := by grind
  rcases F.dom (a := r - y) (b := r + y) this with h | h
  · exact .inl (by have h : r - y = 0 := h; grind)
  · exact .inr (by have h : r + y = 0 := h; grind)
theorem pickP_sq {r y : Fin pS} (h : r * r = y * y) : pickP r (y.val % 2) = y := by
  unfold pickP
  rcases sq_eq h with rfl | rfl
  · rw [if_pos rfl]
  · by_cases h0 : y = 0
    · subst h0; decide +kernel
    · have e := par_neg h0
      have e2 : (0 : Fin pS) - (0 - y) = y := by grind
      by_cases h1 : (0 - y).val % 2 = y.val % 2
      · exfalso; omega
      · rw [if_neg h1, e2]
end Sk
end
section
set_option linter.unusedVariables false
set_option linter.unusedSectionVars false
set_option linter.unusedSimpArgs false
namespace Go.Proofs.YtkhipnhdbaahcaaGreat
open Go Eng
set_option maxRecDepth 100000
set_option exponentiation.threshold 2000
set_option maxHeartbeats 4000000
/-- Which of two roots has this parity. -/
def pickS (y : Fin Sk.pS) (o : Nat) : Fin Sk.pS := if y.val % 2 = o then y else 0 - y
section
variable {H : H5} {k : Kf Sk.pS} {r : List AVal} {kn : Kf Sk.nS} {rn : List AVal} {m n : Nat} (hs : Sec H k r kn rn m n) (hr : RootK H k r)
include hs
include hr
theorem Sec.liftGood {x : Nat} (hx : x < Sk.pS) (y : Fin Sk.pS) (hy : y = rtS (cvS x)) (hc : y * y = cvS x) (o : Nat) (ho : o ≤ 1) (oi : Int) (hoi : oi = (o : Int)) : Sp 12 [u4 H.lim x, .s .i64 oi] (.tup [Pf k (some (Sk.fs x, pickS y o)), .i .i64 0]) := by
  have hl := H5.hlim hs.hH
  have hm256 : m < 2 ^ 256 := by rw [hs.hm]; decide
  have hx256 : x < 2 ^ 256 := Nat.lt_trans hx (by decide)
  have cx := cmpS hl x m hx256 hm256
  have sp := hs.sp
  have cp := hs.prime
  have ix := hs.inn hx
  have cc := hs.curve (Sk.fs x)
  have cr := (hr (cvS x) y hy).1 hc
  have co := hs.ok.out y
  have hon : onS (some (Sk.fs x, y)) := hc
  have cn := hs.neg (some (Sk.fs x, y)) hon
  have vx := hs.v_fs hx
  have x0 := vx 0
  have x1 := vx 1
  have x2 := vx 2
  have x3 := vx 3
  have gx := fun (A : Ar) (hA : A = Ar.real) => hs.ge (x := x) hA false (decide_eq_false (by rw [hs.hm]; omega))
  have hv : k.v y 0 = limR y.val 0 := by rw [hs.uv, hl]
  have e2 : Gp.ngp Sk.O (some (Sk.fs x, y)) = some (Sk.fs x, 0 - y) := rfl
  rw [e2] at cn
  unfold pickS
  unfold cvS at cr
  clear hon hc hy hr
  generalize (0 : Fin Sk.pS) - y = yn at *
  generalize Sk.fs x * Sk.fs x * Sk.fs x + Sk.fs 7 = w at *
  generalize Sk.fs x = fx at *
  clear vx e2
  have t : ∀ (A : Ar) (hA : A = Ar.real), (A.cmp .neq oi 0 = false ∧ o = 0) ∨ (A.cmp .neq oi 0 = true ∧ A.cmp .neq oi 1 = false) := fun A hA => by
    rw [i_ne hA, i_ne hA, hoi]
    rcases (by omega : o = 0 ∨ o = 1) with h | h <;> subst h
    · exact .inl ⟨rfl, rfl⟩
    · exact .inr ⟨rfl, rfl⟩
  have n0 : ∀ (A : Ar) (hA : A = Ar.real), A.cmp .neq (A.wrap .i64 (A.bin .and .u64 (k.v y 0) 1)) oi = !decide (y.val % 2 = o) := fun A hA => by
    rw [odd_b hA hv, i_ne hA, hoi]; congr 1; simp only [decide_eq_decide]; omega
  generalize cmpZ x m = zx at *
  clear hoi ho hv
  by_cases h : y.val % 2 = o
  · rw [if_pos h]
    rw [decide_eq_true h] at n0
    clear h
    refine mk Tryz.func12 rfl rfl L0 R1 (by decide +kernel) fun A S hA hS => ?_
    have g1 := gx A hA
    have n0 : A.cmp .neq (A.wrap .i64 (A.bin .and .u64 (k.v y 0) 1)) oi = false := n0 A hA
    have nt := not_t hA
    have tt := t A hA
    clear t gx
    unfold bodyOf Tryz.f12
    cbv
    rcases tt with ⟨t1, _⟩ | ⟨t1, t2⟩
    all_goals
      repeat (first
        | (refine ABr.t (by assumption) ?_; cbv)
        | (refine ABr.f (by assumption) ?_; cbv)
        | (refine ABr.t rfl ?_; cbv)
        | (refine ABr.f rfl ?_; cbv)
        | (refine ACall.mk _ (cf hS sp) ?_; cbv)
        | (refine ACall.mk _ (cf hS cx) ?_; cbv)
        | (refine ACall.mk _ (cf hS cp) ?_; cbv)
        | (refine ACall.mk _ (cf hS ix) ?_; cbv)
        | (refine ACall.mk _ (cf hS cc) ?_; cbv)
        | (refine ACall.mk _ (cf hS cr) ?_; cbv)
        | (refine ACall.mk _ (cf hS co) ?_; cbv))
      repeat' (first | exact x0.symm | exact x1.symm | exact x2.symm | exact x3.symm | exact rfl | exact trivial | constructor)
  · rw [if_neg h]
    rw [decide_eq_false h] at n0
    clear h
    refine mk Tryz.func12 rfl rfl L0 R1 (by decide +kernel) fun A S hA hS => ?_
    have g1 := gx A hA
    have n0 : A.cmp .neq (A.wrap .i64 (A.bin .and .u64 (k.v y 0) 1)) oi = true := n0 A hA
    have nt := not_t hA
    have tt := t A hA
    clear t gx
    unfold bodyOf Tryz.f12
    cbv
    rcases tt with ⟨t1, _⟩ | ⟨t1, t2⟩
    all_goals
      repeat (first
        | (refine ABr.t (by assumption) ?_; cbv)
        | (refine ABr.f (by assumption) ?_; cbv)
        | (refine ABr.t rfl ?_; cbv)
        | (refine ABr.f rfl ?_; cbv)
        | (refine ACall.mk _ (cf hS sp) ?_; cbv)
        | (refine ACall.mk _ (cf hS cx) ?_; cbv)
        | (refine ACall.mk _ (cf hS cp) ?_; cbv)
        | (refine ACall.mk _ (cf hS ix) ?_; cbv)
        | (refine ACall.mk _ (cf hS cc) ?_; cbv)
        | (refine ACall.mk _ (cf hS cr) ?_; cbv)
        | (refine ACall.mk _ (cf hS co) ?_; cbv))
      refine ACall.mk _ (cg hS cn ?_) ?_
      · cbv
        repeat' (first | exact x0.symm | exact x1.symm | exact x2.symm | exact x3.symm | exact rfl | exact trivial | constructor)
      cbv
theorem Sec.liftBig {x : Nat} (hx : x < 2 ^ 256) (h : Sk.pS ≤ x) (oi : Int) : Sp 12 [u4 H.lim x, .s .i64 oi] (.tup [zPt, .i .i64 60]) := by
  have hl := H5.hlim hs.hH
  have hm256 : m < 2 ^ 256 := by rw [hs.hm]; decide
  have cx := cmpS hl x m hx hm256
  have sp := hs.sp
  have gx := fun (A : Ar) (hA : A = Ar.real) => hs.ge (x := x) hA true (decide_eq_true (by rw [hs.hm]; omega))
  have t : ∀ (A : Ar) (hA : A = Ar.real), (A.cmp .neq oi 0 = false ∧ oi = 0) ∨ (A.cmp .neq oi 0 = true ∧ A.cmp .neq oi 1 = false) ∨ (A.cmp .neq oi 0 = true ∧ A.cmp .neq oi 1 = true) := fun A hA => by
    rw [i_ne hA, i_ne hA]
    by_cases h0 : oi = 0
    · exact .inl ⟨by rw [decide_eq_true h0]; rfl, h0⟩
    · by_cases h1 : oi = 1
      · exact .inr (.inl ⟨by rw [decide_eq_false h0]; rfl, by rw [decide_eq_true h1]; rfl⟩)
      · exact .inr (.inr ⟨by rw [decide_eq_false h0]; rfl, by rw [decide_eq_false h1]; rfl⟩)
  clear hr
  generalize cmpZ x m = zx at *
  refine mk Tryz.func12 rfl rfl L0 R1 (by decide +kernel) fun A S hA hS => ?_
  have g1 := gx A hA
  have tt := t A hA
  clear t gx
  unfold bodyOf Tryz.f12
  cbv
  rcases tt with ⟨t1, _⟩ | ⟨t1, t2⟩ | ⟨t1, t2⟩
  all_goals
    repeat (first
      | (refine ABr.t (by assumption) ?_; cbv)
      | (refine ABr.f (by assumption) ?_; cbv)
      | (refine ABr.t rfl ?_; cbv)
      | (refine ABr.f rfl ?_; cbv)
      | (refine ACall.mk _ (cf hS sp) ?_; cbv)
      | (refine ACall.mk _ (cf hS cx) ?_; cbv))
end
end Go.Proofs.YtkhipnhdbaahcaaGreat
end
section
set_option linter.unusedVariables false
set_option linter.unusedSectionVars false
set_option linter.unusedSimpArgs false
namespace Go.Proofs.YtkhipnhdbaahcaaGreat
open Go Eng
set_option maxRecDepth 100000
set_option exponentiation.threshold 2000
set_option maxHeartbeats 4000000
theorem fin_nn (y : Fin Sk.pS) : 0 - (0 - y) = y := by grind
theorem pick_sq (y : Fin Sk.pS) (o : Nat) : pickS y o * pickS y o = y * y := by
  unfold pickS
  split
  · rfl
  · exact fin_sq y
theorem pick_on {a : Nat} {y : Fin Sk.pS} (hc : y * y = cvS a) (o : Nat) : onS (some (Sk.fs a, pickS y o)) := (pick_sq y o).trans hc
theorem pick_flip (y : Fin Sk.pS) (o : Nat) (ho : o ≤ 1) : pickS y (1 - o) = 0 - pickS y o := by
  unfold pickS
  by_cases h : y.val % 2 = o
  · rw [if_pos h, if_neg (by omega)]
  · rw [if_neg h, if_pos (by omega), fin_nn]
end Go.Proofs.YtkhipnhdbaahcaaGreat
end
section
set_option linter.unusedVariables false
set_option linter.unusedSectionVars false
set_option linter.unusedSimpArgs false
namespace Go.Proofs.YtkhipnhdbaahcaaGreat
open Go Eng
set_option maxRecDepth 100000
set_option exponentiation.threshold 2000
theorem rt_gen {p : Nat} (hp : NT.Pr p) {e c y : Nat} (he : 4 * e = p + 1) (hc : c = y * y % p) (hy : y < p) : (c ^ e % p) * (c ^ e % p) % p = c := by
  have h1 : c ^ e % p = (y * y) ^ e % p := by rw [hc, ← Nat.pow_mod]
  rw [h1, ← Nat.mul_mod, ← Nat.pow_two, ← Nat.pow_two, ← Nat.pow_mul, ← Nat.pow_mul, show 2 * (e * 2) = (p - 1) + 2 by have := hp.1; omega, Nat.pow_add]
  by_cases h0 : p ∣ y
  · have : y = 0 := Nat.eq_zero_of_dvd_of_lt h0 hy
    rw [hc, this]
    simp
  · rw [Nat.mul_mod, NT.fermat hp h0, Nat.one_mul, Nat.mod_mod, hc, Nat.pow_two]
theorem rt_sq {c y : Fin Sk.pS} (h : y * y = c) : rtS c * rtS c = c := by
  have hc : c.val = y.val * y.val % Sk.pS := by rw [← h, Fin.val_mul]
  have := rt_gen Sk.pPr (e := (Sk.pS + 1) / 4) (by decide) hc y.isLt
  refine Fin.ext ?_
  rw [Fin.val_mul, rtS_val]
  exact this
theorem lift_back {a : Nat} {y z : Fin Sk.pS} (h : y * y = cvS a) (hz : z = rtS (cvS a)) : z * z = cvS a ∧ pickS z (y.val % 2) = y := by
  have e : z * z = cvS a := by rw [hz]; exact rt_sq h
  exact ⟨e, Sk.pickP_sq (e.trans h.symm)⟩
end Go.Proofs.YtkhipnhdbaahcaaGreat
end
section
set_option linter.unusedVariables false
set_option linter.unusedSectionVars false
set_option linter.unusedSimpArgs false
namespace Go.Proofs.YtkhipnhdbaahcaaGreat
open Go Eng
set_option maxRecDepth 100000
set_option exponentiation.threshold 2000
set_option maxHeartbeats 8000000
theorem w_rf {A : Ar} (hA : A = Ar.real) (w v : Nat → Int) (h : ∀ i, w i = v i) : A.eqs [(.s .u64 (w 0), .s .u64 (v 0)), (.s .u64 (w 1), .s .u64 (v 1)), (.s .u64 (w 2), .s .u64 (v 2)), (.s .u64 (w 3), .s .u64 (v 3))] = true := by
  rw [hA, h, h, h, h]; show List.all _ _ = true; simp [leafEq]
section
variable {H : H5} {k : Kf Sk.pS} {r : List AVal} {kn : Kf Sk.nS} {rn : List AVal} {m n : Nat} (hs : Sec H k r kn rn m n) (hr : RootK H k r)
include hs hr
theorem Sec.liftsNoNo (x y : Nat) (hx : x < 2 ^ 256) (hy : y < 2 ^ 256) (i : Bool) (h : ¬ GoodQ x y i) (u : Nat) (c0 : Sp 12 [u4 H.lim u, .i .i64 0] (.tup [zPt, .i .i64 60])) (c1 : Sp 12 [u4 H.lim u, .i .i64 1] (.tup [zPt, .i .i64 60])) : Sp 3 [PS H x y i, u4 H.lim u] (.sb true) := by
  have cw := hs.awake hr
  have gr := hs.rgood x y hx hy i _ rfl
  rw [decide_eq_false h] at gr
  clear hr hs
  refine mk Tryz.func3 rfl rfl L0 R1 (by decide +kernel) fun A S hA hS => ?_
  have nt := not_t hA
  have nf := not_f hA
  unfold bodyOf Tryz.f3
  cbv
  repeat (first
    | (refine ABr.t (by assumption) ?_; cbv)
    | (refine ABr.f (by assumption) ?_; cbv)
    | (refine ABr.t rfl ?_; cbv)
    | (refine ABr.f rfl ?_; cbv)
    | (refine ACall.mk _ (cf hS cw) ?_; cbv)
    | (refine ACall.mk _ (cf hS gr) ?_; cbv))
  repeat (first
    | (refine ABr.t (by assumption) ?_; cbv)
    | (refine ABr.f (by assumption) ?_; cbv)
    | (refine ABr.t rfl ?_; cbv)
    | (refine ABr.f rfl ?_; cbv)
    | (refine ACall.mk _ (cf hS c0) ?_; cbv)
    | (refine ACall.mk _ (cf hS c1) ?_; cbv))
theorem Sec.liftsNoYes (x y : Nat) (hx : x < 2 ^ 256) (hy : y < 2 ^ 256) (i : Bool) (h : ¬ GoodQ x y i) {u : Nat} (hu : u < Sk.pS) (a b : Fin Sk.pS) (hP0 : onS (some (Sk.fs u, a))) (hb : b = 0 - a) (c0 : Sp 12 [u4 H.lim u, .i .i64 0] (.tup [Pf k (some (Sk.fs u, a)), .i .i64 0])) (c1 : Sp 12 [u4 H.lim u, .i .i64 1] (.tup [Pf k (some (Sk.fs u, b)), .i .i64 0])) : Sp 3 [PS H x y i, u4 H.lim u] (.sb true) := by
  have cw := hs.awake hr
  have gr := hs.rgood x y hx hy i _ rfl
  rw [decide_eq_false h] at gr
  have cn := hs.neg _ hP0
  have e2 : Gp.ngp Sk.O (some (Sk.fs u, a)) = some (Sk.fs u, 0 - a) := rfl
  rw [e2, ← hb] at cn
  have cgd := hs.goodP _ hP0
  have hv := fun i => hs.v_fs hu i
  clear hr hs hb e2 hP0
  generalize Sk.fs u = fu at *
  refine mk Tryz.func3 rfl rfl L0 R1 (by decide +kernel) fun A S hA hS => ?_
  have nt := not_t hA
  have nf := not_f hA
  have eb := pt_rf hA (k.v fu) (k.v b)
  have ex := w_rf hA (k.v fu) (H.lim u) hv
  unfold bodyOf Tryz.f3
  cbv
  repeat (first
    | (refine ABr.t (by assumption) ?_; cbv)
    | (refine ABr.f (by assumption) ?_; cbv)
    | (refine ABr.t rfl ?_; cbv)
    | (refine ABr.f rfl ?_; cbv)
    | (refine ACall.mk _ (cf hS cw) ?_; cbv)
    | (refine ACall.mk _ (cf hS gr) ?_; cbv))
  repeat (first
    | (refine ABr.t (by assumption) ?_; cbv)
    | (refine ABr.f (by assumption) ?_; cbv)
    | (refine ABr.t rfl ?_; cbv)
    | (refine ABr.f rfl ?_; cbv)
    | (refine ACall.mk _ (cf hS c0) ?_; cbv)
    | (refine ACall.mk _ (cf hS c1) ?_; cbv)
    | (refine ACall.mk _ (cf hS cn) ?_; cbv)
    | (refine ACall.mk _ (cf hS cgd) ?_; cbv))
  exact ex
theorem Sec.liftsInfNo  (u : Nat) (c0 : Sp 12 [u4 H.lim u, .i .i64 0] (.tup [zPt, .i .i64 60])) (c1 : Sp 12 [u4 H.lim u, .i .i64 1] (.tup [zPt, .i .i64 60])) : Sp 3 [Pf k none, u4 H.lim u] (.sb true) := by
  have cw := hs.awake hr
  have gr := hs.rgoodP none trivial
  clear hr hs
  refine mk Tryz.func3 rfl rfl L0 R1 (by decide +kernel) fun A S hA hS => ?_
  have nt := not_t hA
  have nf := not_f hA
  unfold bodyOf Tryz.f3
  cbv
  repeat (first
    | (refine ABr.t (by assumption) ?_; cbv)
    | (refine ABr.f (by assumption) ?_; cbv)
    | (refine ABr.t rfl ?_; cbv)
    | (refine ABr.f rfl ?_; cbv)
    | (refine ACall.mk _ (cf hS cw) ?_; cbv)
    | (refine ACall.mk _ (cf hS gr) ?_; cbv))
  repeat (first
    | (refine ABr.t (by assumption) ?_; cbv)
    | (refine ABr.f (by assumption) ?_; cbv)
    | (refine ABr.t rfl ?_; cbv)
    | (refine ABr.f rfl ?_; cbv)
    | (refine ACall.mk _ (cf hS c0) ?_; cbv)
    | (refine ACall.mk _ (cf hS c1) ?_; cbv))
theorem Sec.liftsInfYes  {u : Nat} (hu : u < Sk.pS) (a b : Fin Sk.pS) (hP0 : onS (some (Sk.fs u, a))) (hb : b = 0 - a) (c0 : Sp 12 [u4 H.lim u, .i .i64 0] (.tup [Pf k (some (Sk.fs u, a)), .i .i64 0])) (c1 : Sp 12 [u4 H.lim u, .i .i64 1] (.tup [Pf k (some (Sk.fs u, b)), .i .i64 0])) : Sp 3 [Pf k none, u4 H.lim u] (.sb true) := by
  have cw := hs.awake hr
  have gr := hs.rgoodP none trivial
  have cn := hs.neg _ hP0
  have e2 : Gp.ngp Sk.O (some (Sk.fs u, a)) = some (Sk.fs u, 0 - a) := rfl
  rw [e2, ← hb] at cn
  have cgd := hs.goodP _ hP0
  have hv := fun i => hs.v_fs hu i
  clear hr hs hb e2 hP0
  generalize Sk.fs u = fu at *
  refine mk Tryz.func3 rfl rfl L0 R1 (by decide +kernel) fun A S hA hS => ?_
  have nt := not_t hA
  have nf := not_f hA
  have eb := pt_rf hA (k.v fu) (k.v b)
  have ex := w_rf hA (k.v fu) (H.lim u) hv
  unfold bodyOf Tryz.f3
  cbv
  repeat (first
    | (refine ABr.t (by assumption) ?_; cbv)
    | (refine ABr.f (by assumption) ?_; cbv)
    | (refine ABr.t rfl ?_; cbv)
    | (refine ABr.f rfl ?_; cbv)
    | (refine ACall.mk _ (cf hS cw) ?_; cbv)
    | (refine ACall.mk _ (cf hS gr) ?_; cbv))
  repeat (first
    | (refine ABr.t (by assumption) ?_; cbv)
    | (refine ABr.f (by assumption) ?_; cbv)
    | (refine ABr.t rfl ?_; cbv)
    | (refine ABr.f rfl ?_; cbv)
    | (refine ACall.mk _ (cf hS c0) ?_; cbv)
    | (refine ACall.mk _ (cf hS c1) ?_; cbv)
    | (refine ACall.mk _ (cf hS cn) ?_; cbv)
    | (refine ACall.mk _ (cf hS cgd) ?_; cbv))
  exact ex
theorem Sec.liftsPtNo (px py : Fin Sk.pS) (hP : onS (some (px, py))) (u : Nat) (c0 : Sp 12 [u4 H.lim u, .i .i64 0] (.tup [zPt, .i .i64 60])) (c1 : Sp 12 [u4 H.lim u, .i .i64 1] (.tup [zPt, .i .i64 60])) : Sp 3 [Pf k (some (px, py)), u4 H.lim u] (.sb true) := by
  have cw := hs.awake hr
  have gr := hs.rgoodP _ hP
  obtain ⟨oi, hoi⟩ : ∃ oi : Int, oi = ((py.val % 2 : Nat) : Int) := ⟨_, rfl⟩
  have hcc : py * py = cvS px.val := by
    have e1 : Sk.fs px.val = px := Fin.ext (fs_val px.isLt)
    unfold cvS
    rw [e1]; exact hP
  obtain ⟨hz, hp⟩ := lift_back hcc (z := rtS (cvS px.val)) rfl
  have cl := hs.liftGood hr px.isLt _ rfl hz (py.val % 2) (by omega) oi hoi
  rw [hp, show Sk.fs px.val = px from Fin.ext (fs_val px.isLt), ← Uf_eq hs.uv px] at cl
  have hvy : k.v py 0 = limR py.val 0 := by rw [hs.uv, H5.hlim hs.hH]
  clear hz hp hcc
  clear hr hs
  refine mk Tryz.func3 rfl rfl L0 R1 (by decide +kernel) fun A S hA hS => ?_
  have nt := not_t hA
  have nf := not_f hA
  have ho := (odd_r hA hvy).trans hoi.symm
  have er := pt_rf hA (k.v px) (k.v py)
  have ern : A.not (A.eqs [(.s .u64 (k.v px 0), .s .u64 (k.v px 0)), (.s .u64 (k.v px 1), .s .u64 (k.v px 1)), (.s .u64 (k.v px 2), .s .u64 (k.v px 2)), (.s .u64 (k.v px 3), .s .u64 (k.v px 3)), (.s .u64 (k.v py 0), .s .u64 (k.v py 0)), (.s .u64 (k.v py 1), .s .u64 (k.v py 1)), (.s .u64 (k.v py 2), .s .u64 (k.v py 2)), (.s .u64 (k.v py 3), .s .u64 (k.v py 3)), (.b false, .b false)]) = false := by rw [er]; exact not_t hA
  unfold bodyOf Tryz.f3
  cbv
  repeat (first
    | (refine ABr.t (by assumption) ?_; cbv)
    | (refine ABr.f (by assumption) ?_; cbv)
    | (refine ABr.t rfl ?_; cbv)
    | (refine ABr.f rfl ?_; cbv)
    | (refine ACall.mk _ (cf hS cw) ?_; cbv)
    | (refine ACall.mk _ (cf hS gr) ?_; cbv))
  refine ACall.mk _ (cg hS cl ?_) ?_
  · cbv
    repeat' (first | exact ho | exact rfl | exact trivial | constructor)
  cbv
  repeat (first
    | (refine ABr.t (by assumption) ?_; cbv)
    | (refine ABr.f (by assumption) ?_; cbv)
    | (refine ABr.t rfl ?_; cbv)
    | (refine ABr.f rfl ?_; cbv)
    | (refine ACall.mk _ (cf hS c0) ?_; cbv)
    | (refine ACall.mk _ (cf hS c1) ?_; cbv))
theorem Sec.liftsPtYes (px py : Fin Sk.pS) (hP : onS (some (px, py))) {u : Nat} (hu : u < Sk.pS) (a b : Fin Sk.pS) (hP0 : onS (some (Sk.fs u, a))) (hb : b = 0 - a) (c0 : Sp 12 [u4 H.lim u, .i .i64 0] (.tup [Pf k (some (Sk.fs u, a)), .i .i64 0])) (c1 : Sp 12 [u4 H.lim u, .i .i64 1] (.tup [Pf k (some (Sk.fs u, b)), .i .i64 0])) : Sp 3 [Pf k (some (px, py)), u4 H.lim u] (.sb true) := by
  have cw := hs.awake hr
  have gr := hs.rgoodP _ hP
  obtain ⟨oi, hoi⟩ : ∃ oi : Int, oi = ((py.val % 2 : Nat) : Int) := ⟨_, rfl⟩
  have hcc : py * py = cvS px.val := by
    have e1 : Sk.fs px.val = px := Fin.ext (fs_val px.isLt)
    unfold cvS
    rw [e1]; exact hP
  obtain ⟨hz, hp⟩ := lift_back hcc (z := rtS (cvS px.val)) rfl
  have cl := hs.liftGood hr px.isLt _ rfl hz (py.val % 2) (by omega) oi hoi
  rw [hp, show Sk.fs px.val = px from Fin.ext (fs_val px.isLt), ← Uf_eq hs.uv px] at cl
  have hvy : k.v py 0 = limR py.val 0 := by rw [hs.uv, H5.hlim hs.hH]
  clear hz hp hcc
  have cn := hs.neg _ hP0
  have e2 : Gp.ngp Sk.O (some (Sk.fs u, a)) = some (Sk.fs u, 0 - a) := rfl
  rw [e2, ← hb] at cn
  have cgd := hs.goodP _ hP0
  have hv := fun i => hs.v_fs hu i
  clear hr hs hb e2 hP0
  generalize Sk.fs u = fu at *
  refine mk Tryz.func3 rfl rfl L0 R1 (by decide +kernel) fun A S hA hS => ?_
  have nt := not_t hA
  have nf := not_f hA
  have ho := (odd_r hA hvy).trans hoi.symm
  have er := pt_rf hA (k.v px) (k.v py)
  have ern : A.not (A.eqs [(.s .u64 (k.v px 0), .s .u64 (k.v px 0)), (.s .u64 (k.v px 1), .s .u64 (k.v px 1)), (.s .u64 (k.v px 2), .s .u64 (k.v px 2)), (.s .u64 (k.v px 3), .s .u64 (k.v px 3)), (.s .u64 (k.v py 0), .s .u64 (k.v py 0)), (.s .u64 (k.v py 1), .s .u64 (k.v py 1)), (.s .u64 (k.v py 2), .s .u64 (k.v py 2)), (.s .u64 (k.v py 3), .s .u64 (k.v py 3)), (.b false, .b false)]) = false := by rw [er]; exact not_t hA
  have eb := pt_rf hA (k.v fu) (k.v b)
  have ex := w_rf hA (k.v fu) (H.lim u) hv
  unfold bodyOf Tryz.f3
  cbv
  repeat (first
    | (refine ABr.t (by assumption) ?_; cbv)
    | (refine ABr.f (by assumption) ?_; cbv)
    | (refine ABr.t rfl ?_; cbv)
    | (refine ABr.f rfl ?_; cbv)
    | (refine ACall.mk _ (cf hS cw) ?_; cbv)
    | (refine ACall.mk _ (cf hS gr) ?_; cbv))
  refine ACall.mk _ (cg hS cl ?_) ?_
  · cbv
    repeat' (first | exact ho | exact rfl | exact trivial | constructor)
  cbv
  repeat (first
    | (refine ABr.t (by assumption) ?_; cbv)
    | (refine ABr.f (by assumption) ?_; cbv)
    | (refine ABr.t rfl ?_; cbv)
    | (refine ABr.f rfl ?_; cbv)
    | (refine ACall.mk _ (cf hS c0) ?_; cbv)
    | (refine ACall.mk _ (cf hS c1) ?_; cbv)
    | (refine ACall.mk _ (cf hS cn) ?_; cbv)
    | (refine ACall.mk _ (cf hS cgd) ?_; cbv))
  exact ex
end
/-- The second half's two ways. -/
theorem lifts_ways {H : H5} {k : Kf Sk.pS} {r : List AVal} {kn : Kf Sk.nS} {rn : List AVal} {m n : Nat} (hs : Sec H k r kn rn m n) (hr : RootK H k r) (u : Nat) (hu : u < 2 ^ 256) :
    (Sp 12 [u4 H.lim u, .i .i64 0] (.tup [zPt, .i .i64 60]) ∧ Sp 12 [u4 H.lim u, .i .i64 1] (.tup [zPt, .i .i64 60])) ∨
    (u < Sk.pS ∧ ∃ a b : Fin Sk.pS, onS (some (Sk.fs u, a)) ∧ b = 0 - a ∧ Sp 12 [u4 H.lim u, .i .i64 0] (.tup [Pf k (some (Sk.fs u, a)), .i .i64 0]) ∧ Sp 12 [u4 H.lim u, .i .i64 1] (.tup [Pf k (some (Sk.fs u, b)), .i .i64 0])) := by
  have cast : ∀ {o : Int} {R : AVal}, Sp 12 [u4 H.lim u, .s .i64 o] R → Sp 12 [u4 H.lim u, .i .i64 o] R := fun {o R} c => by
    exact Spec.args c (by cbv)
  by_cases h : u < Sk.pS
  · obtain ⟨y, hy⟩ : ∃ y, y = rtS (cvS u) := ⟨_, rfl⟩
    by_cases hc : y * y = cvS u
    · refine .inr ⟨h, pickS y 0, pickS y 1, pick_on hc 0, pick_flip y 0 (by decide), ?_, ?_⟩
      · exact cast (hs.liftGood hr h y hy hc 0 (by decide) 0 rfl)
      · exact cast (hs.liftGood hr h y hy hc 1 (by decide) 1 rfl)
    · refine .inl ⟨?_, ?_⟩
      · exact cast (hs.liftNone hr h y hy hc 0 (by decide) 0 rfl)
      · exact cast (hs.liftNone hr h y hy hc 1 (by decide) 1 rfl)
  · exact .inl ⟨cast (hs.liftBig hr hu (by omega) 0), cast (hs.liftBig hr hu (by omega) 1)⟩
theorem lw_lifts {H : H5} (hH : H = H5.real) (x y : Nat) (i : Bool) (u : Nat) (hx : x < 2 ^ 256) (hy : y < 2 ^ 256) (hu : u < 2 ^ 256) : Sp 3 [PS H x y i, u4 H.lim u] (.sb true) := by
  have hs := sec H hH
  have hr := rootK H hH
  by_cases g : GoodQ x y i
  · have hon := g.on
    have sm := hs.sim g
    have key : Sp 3 [Pf (Kof H Sk.pS) (ptQ x y i), u4 H.lim u] (.sb true) := by
      generalize ptQ x y i = P at *
      clear sm
      rcases P with _ | ⟨px, py⟩
      · rcases lifts_ways hs hr u hu with ⟨c0, c1⟩ | ⟨h, a, b, hP0, hb, c0, c1⟩
        · exact hs.liftsInfNo hr u c0 c1
        · exact hs.liftsInfYes hr h a b hP0 hb c0 c1
      · rcases lifts_ways hs hr u hu with ⟨c0, c1⟩ | ⟨h, a, b, hP0, hb, c0, c1⟩
        · exact hs.liftsPtNo hr px py hon u c0 c1
        · exact hs.liftsPtYes hr px py hon h a b hP0 hb c0 c1
    exact Spec.args key ⟨sm, by cbv⟩
  · rcases lifts_ways hs hr u hu with ⟨c0, c1⟩ | ⟨h, a, b, hP0, hb, c0, c1⟩
    · exact hs.liftsNoNo hr x y hx hy i g u c0 c1
    · exact hs.liftsNoYes hr x y hx hy i g h a b hP0 hb c0 c1
end Go.Proofs.YtkhipnhdbaahcaaGreat
end
