import Derived.Test.YtmholgclgamnnaaGreatQZCF
import Derived.Test.YtmholgclgamnnaaGreatQZBN
import Derived.Test.YtmholgclgamnnaaGreatQZBK
import Derived.Test.YtmholgclgamnnaaGreatQZCN
section
set_option linter.unusedVariables false
set_option linter.unusedSimpArgs false
namespace Go.Proofs.YtmholgclgamnnaaGreat
open Go Eng
set_option maxRecDepth 100000
set_option exponentiation.threshold 2000
set_option maxHeartbeats 4000000
theorem rBnPS {H : H5} (hH : H = H5.real) : Sp 107 [] (.new false 4 1 (ws4 H.lim bnP)) := by
  refine mk Tryz.func107 rfl rfl L0 R0 (by decide +kernel) ?_
  intro A S hA hS
  unfold bodyOf Tryz.f107
  cbv
  refine ACall.mk _ (cf hS (rHex4 (H5.hlim hH) _ (by decide +kernel) (by decide +kernel))) ?_
  rw [show hexN _ = bnP from (by decide +kernel)]
  cbv
theorem rBnRS {H : H5} (hH : H = H5.real) : Sp 56 [] (.new false 4 1 (ws4 H.lim bnR)) := by
  refine mk Tryz.func56 rfl rfl L0 R0 (by decide +kernel) ?_
  intro A S hA hS
  unfold bodyOf Tryz.f56
  cbv
  refine ACall.mk _ (cf hS (rHex4 (H5.hlim hH) _ (by decide +kernel) (by decide +kernel))) ?_
  rw [show hexN _ = bnR from (by decide +kernel)]
  cbv
theorem rBlsRS {H : H5} (hH : H = H5.real) : Sp 57 [] (.new false 4 1 (ws4 H.lim blsR)) := by
  refine mk Tryz.func57 rfl rfl L0 R0 (by decide +kernel) ?_
  intro A S hA hS
  unfold bodyOf Tryz.f57
  cbv
  refine ACall.mk _ (cf hS (rHex4 (H5.hlim hH) _ (by decide +kernel) (by decide +kernel))) ?_
  rw [show hexN _ = blsR from (by decide +kernel)]
  cbv
theorem rBlsPS {H : H5} (hH : H = H5.real) : Sp 78 [] (.new false 6 1 (ws6 H.lim blsP)) := by
  refine mk Tryz.func78 rfl rfl L0 R0 (by decide +kernel) ?_
  intro A S hA hS
  unfold bodyOf Tryz.f78
  cbv
  refine ACall.mk _ (cf hS (rHex6 (H5.hlim hH) _ (by decide +kernel) (by decide +kernel))) ?_
  rw [show hexN _ = blsP from (by decide +kernel)]
  cbv
end Go.Proofs.YtmholgclgamnnaaGreat
end
section
set_option linter.unusedVariables false
set_option linter.unusedSectionVars false
set_option linter.unusedSimpArgs false
namespace Go.Proofs.YtmholgclgamnnaaGreat
open Go Eng
set_option maxRecDepth 100000
set_option exponentiation.threshold 2000
set_option maxHeartbeats 4000000
def RApp : Nat → Md := fun r => match r with | 5 => .own | _ => .mid
section
variable {p : Nat} [NeZero p]
def Cr4_1 (H : H5) (c : Cu p) : AVal := .agg [.lst false 4 (ws4 H.lim p), .s .u64 (H.minv p : Nat), .lst false 4 (ws4 H.lim (H.mf (2 * 256) p 1)), .i .i64 1, .lst false 1 [.lst false 4 (ws4 H.lim c.b1.val)], .lst false 4 (ws4 H.lim c.r), .lst false 1 [.lst false 4 (ws4 H.lim c.x1)], .lst false 1 [.lst false 4 (ws4 H.lim c.y1)], .b false]
def Er4_2 (H : H5) (a : Cv.F2 p) : AVal := .lst false 2 [.lst false 4 (ws4 H.lim a.a.val), .lst false 4 (ws4 H.lim a.b.val)]
def Nr4_2 (H : H5) (a : Cv.F2 p) : AVal := .new false 2 1 [.lst false 4 (ws4 H.lim a.a.val), .lst false 4 (ws4 H.lim a.b.val)]
def Cr4_2 (H : H5) (c : Cu p) : AVal := .agg [.lst false 4 (ws4 H.lim p), .s .u64 (H.minv p : Nat), .lst false 4 (ws4 H.lim (H.mf (2 * 256) p 1)), .i .i64 2, .lst false 2 [.lst false 4 (ws4 H.lim c.b2.a.val), .lst false 4 (ws4 H.lim c.b2.b.val)], .lst false 4 (ws4 H.lim c.r), .lst false 2 [.lst false 4 (ws4 H.lim c.xa), .lst false 4 (ws4 H.lim c.xb)], .lst false 2 [.lst false 4 (ws4 H.lim c.ya), .lst false 4 (ws4 H.lim c.yb)], .b false]
theorem rAddF4 {H : H5} (hH : H = H5.real) (hp : PrM 256 p) (a b : Fin p) : Sp 162 [.lst false 4 (ws4 H.lim a.val), .lst false 4 (ws4 H.lim b.val), .lst false 4 (ws4 H.lim p)] (.new false 4 1 (ws4 H.lim (a + b).val)) :=
  rAddMod4 (H5.hlim hH) a.val b.val p (a + b).val hp.lt a.isLt b.isLt (Fin.val_add a b)
theorem rSubF4 {H : H5} (hH : H = H5.real) (hp : PrM 256 p) (a b : Fin p) : Sp 152 [.lst false 4 (ws4 H.lim a.val), .lst false 4 (ws4 H.lim b.val), .lst false 4 (ws4 H.lim p)] (.new false 4 1 (ws4 H.lim (a - b).val)) :=
  rSubMod4 (H5.hlim hH) a.val b.val p (a - b).val hp.lt a.isLt b.isLt (fin_sub a b).symm
theorem rMulF4 {H : H5} (hH : H = H5.real) (hp : PrM 256 p) (a b : Fin p) : Sp 161 [rf4 H p, .lst false 4 (ws4 H.lim a.val), .lst false 4 (ws4 H.lim b.val)] (.lst false 4 (ws4 H.lim (a * b).val)) := by
  have h := rMulMod4 hH hp.toMod a.isLt b.isLt
  have e : H.mul p a.val b.val = (a * b).val := by rw [hH]; exact (Fin.val_mul a b).symm
  rw [e] at h; exact h
theorem rInvF4 {H : H5} (hH : H = H5.real) (hp : PrM 256 p) (a : Fin p) : Sp 187 [rf4 H p, .lst false 4 (ws4 H.lim a.val)] (.lst false 4 (ws4 H.lim (Cv.inv1 a).val)) := by
  have h := rInv4 hH hp.toMod a.isLt
  have e : H.pow p a.val (p - 2) = (Cv.inv1 a).val := by rw [hH]; rfl
  rw [e] at h; exact h
theorem rnumS4 {H : H5} (hH : H = H5.real) (n : Nat) (hn : n < 18446744073709551616) : Sp 80 [rf4 H p, .s .u64 (n : Int)] (.new false 4 1 (ws4 H.lim n)) := by
  have h0 : H.lim n 0 = (n : Int) := by rw [hH]; exact limR_word hn
  have hs : ∀ i, 0 < i → H.lim n i = 0 := fun i hi => by
    rw [hH]
    show ((n / 2 ^ (64 * i) % 2 ^ 64 : Nat) : Int) = 0
    rw [Nat.div_eq_of_lt (Nat.lt_of_lt_of_le hn (Nat.le_trans (show 18446744073709551616 ≤ 2 ^ 64 by decide) (Nat.pow_le_pow_right (by decide) (by omega)))), Nat.zero_mod]; rfl
  refine mk Tryz.func80 rfl rfl L0 R0 (by decide +kernel) fun A S hA hS => ?_
  unfold bodyOf Tryz.f80
  cbv
  exact ⟨h0.symm, (hs 1 (by decide)).symm, (hs 2 (by decide)).symm, (hs 3 (by decide)).symm⟩
def Cr6_1 (H : H5) (c : Cu p) : AVal := .agg [.lst false 6 (ws6 H.lim p), .s .u64 (H.minv p : Nat), .lst false 6 (ws6 H.lim (H.mf (2 * 384) p 1)), .i .i64 1, .lst false 1 [.lst false 6 (ws6 H.lim c.b1.val)], .lst false 4 (ws4 H.lim c.r), .lst false 1 [.lst false 6 (ws6 H.lim c.x1)], .lst false 1 [.lst false 6 (ws6 H.lim c.y1)], .b false]
def Cr6_2 (H : H5) (c : Cu p) : AVal := .agg [.lst false 6 (ws6 H.lim p), .s .u64 (H.minv p : Nat), .lst false 6 (ws6 H.lim (H.mf (2 * 384) p 1)), .i .i64 2, .lst false 2 [.lst false 6 (ws6 H.lim c.b2.a.val), .lst false 6 (ws6 H.lim c.b2.b.val)], .lst false 4 (ws4 H.lim c.r), .lst false 2 [.lst false 6 (ws6 H.lim c.xa), .lst false 6 (ws6 H.lim c.xb)], .lst false 2 [.lst false 6 (ws6 H.lim c.ya), .lst false 6 (ws6 H.lim c.yb)], .b false]
theorem rAddF6 {H : H5} (hH : H = H5.real) (hp : PrM 384 p) (a b : Fin p) : Sp 162 [.lst false 6 (ws6 H.lim a.val), .lst false 6 (ws6 H.lim b.val), .lst false 6 (ws6 H.lim p)] (.new false 6 1 (ws6 H.lim (a + b).val)) :=
  rAddMod6 (H5.hlim hH) a.val b.val p (a + b).val hp.lt a.isLt b.isLt (Fin.val_add a b)
theorem rSubF6 {H : H5} (hH : H = H5.real) (hp : PrM 384 p) (a b : Fin p) : Sp 152 [.lst false 6 (ws6 H.lim a.val), .lst false 6 (ws6 H.lim b.val), .lst false 6 (ws6 H.lim p)] (.new false 6 1 (ws6 H.lim (a - b).val)) :=
  rSubMod6 (H5.hlim hH) a.val b.val p (a - b).val hp.lt a.isLt b.isLt (fin_sub a b).symm
theorem rMulF6 {H : H5} (hH : H = H5.real) (hp : PrM 384 p) (a b : Fin p) : Sp 161 [rf6 H p, .lst false 6 (ws6 H.lim a.val), .lst false 6 (ws6 H.lim b.val)] (.lst false 6 (ws6 H.lim (a * b).val)) := by
  have h := rMulMod6 hH hp.toMod a.isLt b.isLt
  have e : H.mul p a.val b.val = (a * b).val := by rw [hH]; exact (Fin.val_mul a b).symm
  rw [e] at h; exact h
theorem rInvF6 {H : H5} (hH : H = H5.real) (hp : PrM 384 p) (a : Fin p) : Sp 187 [rf6 H p, .lst false 6 (ws6 H.lim a.val)] (.lst false 6 (ws6 H.lim (Cv.inv1 a).val)) := by
  have h := rInv6 hH hp.toMod a.isLt
  have e : H.pow p a.val (p - 2) = (Cv.inv1 a).val := by rw [hH]; rfl
  rw [e] at h; exact h
theorem rnumS6 {H : H5} (hH : H = H5.real) (n : Nat) (hn : n < 18446744073709551616) : Sp 80 [rf6 H p, .s .u64 (n : Int)] (.new false 6 1 (ws6 H.lim n)) := by
  have h0 : H.lim n 0 = (n : Int) := by rw [hH]; exact limR_word hn
  have hs : ∀ i, 0 < i → H.lim n i = 0 := fun i hi => by
    rw [hH]
    show ((n / 2 ^ (64 * i) % 2 ^ 64 : Nat) : Int) = 0
    rw [Nat.div_eq_of_lt (Nat.lt_of_lt_of_le hn (Nat.le_trans (show 18446744073709551616 ≤ 2 ^ 64 by decide) (Nat.pow_le_pow_right (by decide) (by omega)))), Nat.zero_mod]; rfl
  refine mk Tryz.func80 rfl rfl L0 R0 (by decide +kernel) fun A S hA hS => ?_
  unfold bodyOf Tryz.f80
  cbv
  exact ⟨h0.symm, (hs 1 (by decide)).symm, (hs 2 (by decide)).symm, (hs 3 (by decide)).symm, (hs 4 (by decide)).symm, (hs 5 (by decide)).symm⟩
end
end Go.Proofs.YtmholgclgamnnaaGreat
end
section
set_option linter.unusedVariables false
set_option linter.unusedSectionVars false
set_option linter.unusedSimpArgs false
namespace Go.Proofs.YtmholgclgamnnaaGreat
open Go Eng
set_option maxRecDepth 100000
set_option exponentiation.threshold 2000
set_option maxHeartbeats 4000000
def RNone : Nat → Md := fun _ => .own
theorem ne_t {A : Ar} (hA : A = Ar.real) {x y : Int} (h : A.cmp .neq x y = true) : x ≠ y := by rw [i_ne hA] at h; simpa using h
theorem ne_f {A : Ar} (hA : A = Ar.real) {x y : Int} (h : A.cmp .neq x y = false) : x = y := by rw [i_ne hA] at h; simpa using h
section
variable {p : Nat} [NeZero p]
theorem rZeroS4 {H : H5} (hH : H = H5.real) (a : Nat) (ha : a < 2 ^ 256) : Sp 87 [.lst false 4 (ws4 H.lim a)] (.sb (decide (a = 0))) := by
  obtain ⟨t, ht⟩ : ∃ t, t = decide (a = 0) := ⟨_, rfl⟩
  rw [← ht]
  have l0 := lim04 hH
  have hn : ∀ i, H.lim a i ≠ 0 → false = t := fun i h => by rw [ht]; exact (decide_eq_false fun e => h (by rw [e]; exact l0 i)).symm
  have hy : H.lim a 0 = 0 → H.lim a 1 = 0 → H.lim a 2 = 0 → H.lim a 3 = 0 → true = t := fun h0 h1 h2 h3 => by
    rw [ht]; exact (decide_eq_true (lim_inj4 (H5.hlim hH) ha (by decide) ⟨h0.trans (l0 0).symm, h1.trans (l0 1).symm, h2.trans (l0 2).symm, h3.trans (l0 3).symm⟩)).symm
  clear ht
  refine mk Tryz.func87 rfl rfl L0 R1 (by decide +kernel) fun A S hA hS => ?_
  unfold bodyOf Tryz.f87
  cbv
  refine ABr.mk (fun h => ?_) (fun h0 => ?_)
  · cbv
    exact hn 0 (ne_t hA h)
  cbv
  refine ABr.mk (fun h => ?_) (fun h1 => ?_)
  · cbv
    exact hn 1 (ne_t hA h)
  cbv
  refine ABr.mk (fun h => ?_) (fun h2 => ?_)
  · cbv
    exact hn 2 (ne_t hA h)
  cbv
  refine ABr.mk (fun h => ?_) (fun h3 => ?_)
  · cbv
    exact hn 3 (ne_t hA h)
  cbv
  exact hy (ne_f hA h0) (ne_f hA h1) (ne_f hA h2) (ne_f hA h3)
theorem rZeroS6 {H : H5} (hH : H = H5.real) (a : Nat) (ha : a < 2 ^ 384) : Sp 87 [.lst false 6 (ws6 H.lim a)] (.sb (decide (a = 0))) := by
  obtain ⟨t, ht⟩ : ∃ t, t = decide (a = 0) := ⟨_, rfl⟩
  rw [← ht]
  have l0 := lim06 hH
  have hn : ∀ i, H.lim a i ≠ 0 → false = t := fun i h => by rw [ht]; exact (decide_eq_false fun e => h (by rw [e]; exact l0 i)).symm
  have hy : H.lim a 0 = 0 → H.lim a 1 = 0 → H.lim a 2 = 0 → H.lim a 3 = 0 → H.lim a 4 = 0 → H.lim a 5 = 0 → true = t := fun h0 h1 h2 h3 h4 h5 => by
    rw [ht]; exact (decide_eq_true (lim_inj6 (H5.hlim hH) ha (by decide) ⟨h0.trans (l0 0).symm, h1.trans (l0 1).symm, h2.trans (l0 2).symm, h3.trans (l0 3).symm, h4.trans (l0 4).symm, h5.trans (l0 5).symm⟩)).symm
  clear ht
  refine mk Tryz.func87 rfl rfl L0 R1 (by decide +kernel) fun A S hA hS => ?_
  unfold bodyOf Tryz.f87
  cbv
  refine ABr.mk (fun h => ?_) (fun h0 => ?_)
  · cbv
    exact hn 0 (ne_t hA h)
  cbv
  refine ABr.mk (fun h => ?_) (fun h1 => ?_)
  · cbv
    exact hn 1 (ne_t hA h)
  cbv
  refine ABr.mk (fun h => ?_) (fun h2 => ?_)
  · cbv
    exact hn 2 (ne_t hA h)
  cbv
  refine ABr.mk (fun h => ?_) (fun h3 => ?_)
  · cbv
    exact hn 3 (ne_t hA h)
  cbv
  refine ABr.mk (fun h => ?_) (fun h4 => ?_)
  · cbv
    exact hn 4 (ne_t hA h)
  cbv
  refine ABr.mk (fun h => ?_) (fun h5 => ?_)
  · cbv
    exact hn 5 (ne_t hA h)
  cbv
  exact hy (ne_f hA h0) (ne_f hA h1) (ne_f hA h2) (ne_f hA h3) (ne_f hA h4) (ne_f hA h5)
end
end Go.Proofs.YtmholgclgamnnaaGreat
end
section
set_option linter.unusedVariables false
set_option linter.unusedSectionVars false
set_option linter.unusedSimpArgs false
namespace Go.Proofs.YtmholgclgamnnaaGreat
open Go Eng
set_option maxRecDepth 100000
set_option exponentiation.threshold 2000
set_option maxHeartbeats 4000000
/-- The reference's elements as rows: what a walk is not to open. -/
structure Rk (α : Type) where
  O : Cv.Ops α
  row : α → List AVal
  d : Nat
  n : Nat
  M : List AVal
  f : Int
  T : List AVal
  D : Int
  R : List AVal
  BX : List AVal
  BY : List AVal
section
variable {α : Type} [DecidableEq α]
def Ct (k : Rk α) (b : α) : AVal := .agg [.lst true k.n k.M, .s .u64 k.f, .lst true k.n k.T, .s .i64 k.D, .lst true k.d (k.row b), .lst true 4 k.R, .lst true k.d k.BX, .lst true k.d k.BY, .b false]
def Et (k : Rk α) (a : α) : AVal := .lst true k.d (k.row a)
def Nt (k : Rk α) (a : α) : AVal := .new true k.d 1 (k.row a)
def Jt (k : Rk α) (p : Cv.Jac α) : AVal := .agg [.lst true k.d (k.row p.x), .lst true k.d (k.row p.y), .lst true k.d (k.row p.z)]
/-- A point. -/
def Pt_ (k : Rk α) : Cv.Pt α → AVal
  | none => .agg [.lst true k.d (k.row k.O.zero), .lst true k.d (k.row k.O.zero), .sb true]
  | some (x, y) => .agg [.lst true k.d (k.row x), .lst true k.d (k.row y), .sb false]
structure OkR (k : Rk α) (b : α) : Prop where
  add : ∀ a c, Sp 90 [Ct k b, Et k a, Et k c] (Nt k (k.O.add a c))
  sub : ∀ a c, Sp 118 [Ct k b, Et k a, Et k c] (Nt k (k.O.sub a c))
  mul : ∀ a c, Sp 89 [Ct k b, Et k a, Et k c] (Nt k (k.O.mul a c))
  inv : ∀ a, Sp 127 [Ct k b, Et k a] (Nt k (k.O.inv a))
  same : ∀ a c, Sp 88 [Et k a, Et k c] (.sb (decide (a = c)))
  zero : ∀ a, Sp 165 [Et k a] (.sb (decide (a = k.O.zero)))
  none : Sp 119 [Ct k b] (Nt k k.O.zero)
  one : Sp 208 [Ct k b] (Nt k k.O.one)
variable {k : Rk α} {b : α} (hK : OkR k b)
include hK
theorem infR : Sp 150 [Ct k b] (Pt_ k none) := by
  have h := hK.none
  refine mk Tryz.func150 rfl rfl L0 R1 (by decide +kernel) fun A S hA hS => ?_
  unfold bodyOf Tryz.f150
  cbv
  refine ACall.mk _ (cf hS h) ?_
  cbv
  refine ACall.mk _ (cf hS h) ?_
  cbv
theorem twiceR (p : Cv.Jac α) : Sp 166 [Ct k b, Jt k p] (Jt k (Cv.dblR k.O p)) := by
  obtain ⟨px, py, pz⟩ := p
  have z1 := hK.zero pz
  have z2 := hK.zero py
  have no := hK.none
  unfold Cv.dblR
  dsimp only
  by_cases h1 : pz = k.O.zero
  · rw [if_pos (.inl h1)]
    rw [decide_eq_true h1] at z1
    generalize k.O.zero = z at *
    refine mk Tryz.func166 rfl rfl L0 R1 (by decide +kernel) fun A S hA hS => ?_
    unfold bodyOf Tryz.f166
    cbv
    repeat (first
      | (refine ABr.t (by assumption) ?_; cbv)
      | (refine ABr.f (by assumption) ?_; cbv)
      | (refine ABr.t rfl ?_; cbv)
      | (refine ABr.f rfl ?_; cbv)
      | (refine ACall.mk _ (cf hS z1) ?_; cbv)
      | (refine ACall.mk _ (cf hS no) ?_; cbv))
  by_cases h2 : py = k.O.zero
  · rw [if_pos (.inr h2)]
    rw [decide_eq_false h1] at z1
    rw [decide_eq_true h2] at z2
    generalize k.O.zero = z at *
    refine mk Tryz.func166 rfl rfl L0 R1 (by decide +kernel) fun A S hA hS => ?_
    unfold bodyOf Tryz.f166
    cbv
    repeat (first
      | (refine ABr.t (by assumption) ?_; cbv)
      | (refine ABr.f (by assumption) ?_; cbv)
      | (refine ABr.t rfl ?_; cbv)
      | (refine ABr.f rfl ?_; cbv)
      | (refine ACall.mk _ (cf hS z1) ?_; cbv)
      | (refine ACall.mk _ (cf hS z2) ?_; cbv)
      | (refine ACall.mk _ (cf hS no) ?_; cbv))
  rw [if_neg (fun h => h.elim h1 h2)]
  rw [decide_eq_false h1] at z1
  rw [decide_eq_false h2] at z2
  unfold Cv.dbl
  dsimp only
  obtain ⟨a, ha⟩ : ∃ q_, q_ = k.O.mul px px := ⟨_, rfl⟩
  have ca := hK.mul px px
  rw [← ha] at ca ⊢
  obtain ⟨bb, hbb⟩ : ∃ q_, q_ = k.O.mul py py := ⟨_, rfl⟩
  have cbb := hK.mul py py
  rw [← hbb] at cbb ⊢
  obtain ⟨s0, hs0⟩ : ∃ q_, q_ = k.O.mul px bb := ⟨_, rfl⟩
  have cs0 := hK.mul px bb
  rw [← hs0] at cs0 ⊢
  obtain ⟨s1, hs1⟩ : ∃ q_, q_ = k.O.add s0 s0 := ⟨_, rfl⟩
  have cs1 := hK.add s0 s0
  rw [← hs1] at cs1 ⊢
  obtain ⟨s2, hs2⟩ : ∃ q_, q_ = k.O.add s1 s1 := ⟨_, rfl⟩
  have cs2 := hK.add s1 s1
  rw [← hs2] at cs2 ⊢
  obtain ⟨aa, haa⟩ : ∃ q_, q_ = k.O.add a a := ⟨_, rfl⟩
  have caa := hK.add a a
  rw [← haa] at caa ⊢
  obtain ⟨e, he⟩ : ∃ q_, q_ = k.O.add aa a := ⟨_, rfl⟩
  have ce := hK.add aa a
  rw [← he] at ce ⊢
  obtain ⟨c0, hc0⟩ : ∃ q_, q_ = k.O.mul bb bb := ⟨_, rfl⟩
  have cc0 := hK.mul bb bb
  rw [← hc0] at cc0 ⊢
  obtain ⟨d1, hd1⟩ : ∃ q_, q_ = k.O.add c0 c0 := ⟨_, rfl⟩
  have cd1 := hK.add c0 c0
  rw [← hd1] at cd1 ⊢
  obtain ⟨d2, hd2⟩ : ∃ q_, q_ = k.O.add d1 d1 := ⟨_, rfl⟩
  have cd2 := hK.add d1 d1
  rw [← hd2] at cd2 ⊢
  obtain ⟨d3, hd3⟩ : ∃ q_, q_ = k.O.add d2 d2 := ⟨_, rfl⟩
  have cd3 := hK.add d2 d2
  rw [← hd3] at cd3 ⊢
  obtain ⟨ee, hee⟩ : ∃ q_, q_ = k.O.mul e e := ⟨_, rfl⟩
  have cee := hK.mul e e
  rw [← hee] at cee ⊢
  obtain ⟨ss, hss⟩ : ∃ q_, q_ = k.O.add s2 s2 := ⟨_, rfl⟩
  have css := hK.add s2 s2
  rw [← hss] at css ⊢
  obtain ⟨x, hx⟩ : ∃ q_, q_ = k.O.sub ee ss := ⟨_, rfl⟩
  have cx := hK.sub ee ss
  rw [← hx] at cx ⊢
  obtain ⟨z0, hz0⟩ : ∃ q_, q_ = k.O.mul py pz := ⟨_, rfl⟩
  have cz0 := hK.mul py pz
  rw [← hz0] at cz0 ⊢
  obtain ⟨d, hd⟩ : ∃ q_, q_ = k.O.sub s2 x := ⟨_, rfl⟩
  have cd := hK.sub s2 x
  rw [← hd] at cd ⊢
  obtain ⟨ed, hed⟩ : ∃ q_, q_ = k.O.mul e d := ⟨_, rfl⟩
  have ced := hK.mul e d
  rw [← hed] at ced ⊢
  obtain ⟨y, hy⟩ : ∃ q_, q_ = k.O.sub ed d3 := ⟨_, rfl⟩
  have cy := hK.sub ed d3
  rw [← hy] at cy ⊢
  obtain ⟨z, hz⟩ : ∃ q_, q_ = k.O.add z0 z0 := ⟨_, rfl⟩
  have cz := hK.add z0 z0
  rw [← hz] at cz ⊢
  refine mk Tryz.func166 rfl rfl L0 R1 (by decide +kernel) fun A S hA hS => ?_
  unfold bodyOf Tryz.f166
  cbv
  repeat (first
    | (refine ABr.t (by assumption) ?_; cbv)
    | (refine ABr.f (by assumption) ?_; cbv)
    | (refine ABr.t rfl ?_; cbv)
    | (refine ABr.f rfl ?_; cbv)
    | (refine ACall.mk _ (cf hS z1) ?_; cbv)
    | (refine ACall.mk _ (cf hS z2) ?_; cbv)
    | (refine ACall.mk _ (cf hS ca) ?_; cbv)
    | (refine ACall.mk _ (cf hS cbb) ?_; cbv)
    | (refine ACall.mk _ (cf hS cs0) ?_; cbv)
    | (refine ACall.mk _ (cf hS cs1) ?_; cbv)
    | (refine ACall.mk _ (cf hS cs2) ?_; cbv)
    | (refine ACall.mk _ (cf hS caa) ?_; cbv)
    | (refine ACall.mk _ (cf hS ce) ?_; cbv)
    | (refine ACall.mk _ (cf hS cee) ?_; cbv)
    | (refine ACall.mk _ (cf hS css) ?_; cbv)
    | (refine ACall.mk _ (cf hS cx) ?_; cbv)
    | (refine ACall.mk _ (cf hS cc0) ?_; cbv)
    | (refine ACall.mk _ (cf hS cd1) ?_; cbv)
    | (refine ACall.mk _ (cf hS cd2) ?_; cbv)
    | (refine ACall.mk _ (cf hS cd3) ?_; cbv)
    | (refine ACall.mk _ (cf hS cz0) ?_; cbv)
    | (refine ACall.mk _ (cf hS cd) ?_; cbv)
    | (refine ACall.mk _ (cf hS ced) ?_; cbv)
    | (refine ACall.mk _ (cf hS cy) ?_; cbv)
    | (refine ACall.mk _ (cf hS cz) ?_; cbv))
theorem plusR (p : Cv.Jac α) (x y : α) : Sp 167 [Ct k b, Jt k p, .agg [.lst true k.d (k.row x), .lst true k.d (k.row y), .sb false]] (Jt k (Cv.plusR k.O p x y)) := by
  have tw := twiceR hK p
  obtain ⟨px, py, pz⟩ := p
  have z1 := hK.zero pz
  have no := hK.none
  have on := hK.one
  unfold Cv.plusR
  dsimp only
  by_cases h1 : pz = k.O.zero
  · rw [if_pos h1]
    rw [decide_eq_true h1] at z1
    generalize k.O.zero = z at *
    generalize k.O.one = o at *
    refine mk Tryz.func167 rfl rfl L0 R1 (by decide +kernel) fun A S hA hS => ?_
    unfold bodyOf Tryz.f167
    cbv
    repeat (first
      | (refine ABr.t (by assumption) ?_; cbv)
      | (refine ABr.f (by assumption) ?_; cbv)
      | (refine ABr.t rfl ?_; cbv)
      | (refine ABr.f rfl ?_; cbv)
      | (refine ACall.mk _ (cf hS z1) ?_; cbv)
      | (refine ACall.mk _ (cf hS on) ?_; cbv))
  rw [if_neg h1]
  rw [decide_eq_false h1] at z1
  obtain ⟨zz, hzz⟩ : ∃ q_, q_ = k.O.mul pz pz := ⟨_, rfl⟩
  have czz := hK.mul pz pz
  rw [← hzz] at czz ⊢
  obtain ⟨qx, hqx⟩ : ∃ q_, q_ = k.O.mul x zz := ⟨_, rfl⟩
  have cqx := hK.mul x zz
  rw [← hqx] at cqx ⊢
  obtain ⟨h, hh⟩ : ∃ q_, q_ = k.O.sub qx px := ⟨_, rfl⟩
  have ch := hK.sub qx px
  rw [← hh] at ch ⊢
  obtain ⟨z3, hz3⟩ : ∃ q_, q_ = k.O.mul zz pz := ⟨_, rfl⟩
  have cz3 := hK.mul zz pz
  rw [← hz3] at cz3 ⊢
  obtain ⟨qy, hqy⟩ : ∃ q_, q_ = k.O.mul y z3 := ⟨_, rfl⟩
  have cqy := hK.mul y z3
  rw [← hqy] at cqy ⊢
  obtain ⟨r, hr⟩ : ∃ q_, q_ = k.O.sub qy py := ⟨_, rfl⟩
  have cr := hK.sub qy py
  rw [← hr] at cr ⊢
  have zh := hK.zero h
  have zr := hK.zero r
  by_cases h2 : h = k.O.zero
  · rw [if_pos h2]
    rw [decide_eq_true h2] at zh
    by_cases h3 : r = k.O.zero
    · rw [if_pos h3]
      rw [decide_eq_true h3] at zr
      clear hqx hh hz3 hqy hr hzz
      generalize Cv.dblR k.O ⟨px, py, pz⟩ = t at *
      refine mk Tryz.func167 rfl rfl L0 R1 (by decide +kernel) fun A S hA hS => ?_
      unfold bodyOf Tryz.f167
      cbv
      repeat (first
        | (refine ABr.t (by assumption) ?_; cbv)
        | (refine ABr.f (by assumption) ?_; cbv)
        | (refine ABr.t rfl ?_; cbv)
        | (refine ABr.f rfl ?_; cbv)
        | (refine ACall.mk _ (cf hS z1) ?_; cbv)
        | (refine ACall.mk _ (cf hS czz) ?_; cbv)
        | (refine ACall.mk _ (cf hS cqx) ?_; cbv)
        | (refine ACall.mk _ (cf hS ch) ?_; cbv)
        | (refine ACall.mk _ (cf hS cz3) ?_; cbv)
        | (refine ACall.mk _ (cf hS cqy) ?_; cbv)
        | (refine ACall.mk _ (cf hS cr) ?_; cbv)
        | (refine ACall.mk _ (cf hS zh) ?_; cbv)
        | (refine ACall.mk _ (cf hS zr) ?_; cbv)
        | (refine ACall.mk _ (cf hS tw) ?_; cbv))
    · rw [if_neg h3]
      rw [decide_eq_false h3] at zr
      clear hqx hh hz3 hqy hr hzz
      generalize k.O.zero = z at *
      refine mk Tryz.func167 rfl rfl L0 R1 (by decide +kernel) fun A S hA hS => ?_
      unfold bodyOf Tryz.f167
      cbv
      repeat (first
        | (refine ABr.t (by assumption) ?_; cbv)
        | (refine ABr.f (by assumption) ?_; cbv)
        | (refine ABr.t rfl ?_; cbv)
        | (refine ABr.f rfl ?_; cbv)
        | (refine ACall.mk _ (cf hS z1) ?_; cbv)
        | (refine ACall.mk _ (cf hS czz) ?_; cbv)
        | (refine ACall.mk _ (cf hS cqx) ?_; cbv)
        | (refine ACall.mk _ (cf hS ch) ?_; cbv)
        | (refine ACall.mk _ (cf hS cz3) ?_; cbv)
        | (refine ACall.mk _ (cf hS cqy) ?_; cbv)
        | (refine ACall.mk _ (cf hS cr) ?_; cbv)
        | (refine ACall.mk _ (cf hS zh) ?_; cbv)
        | (refine ACall.mk _ (cf hS zr) ?_; cbv)
        | (refine ACall.mk _ (cf hS no) ?_; cbv))
  rw [if_neg h2]
  rw [decide_eq_false h2] at zh
  obtain ⟨hh2, hhh2⟩ : ∃ q_, q_ = k.O.mul h h := ⟨_, rfl⟩
  have chh2 := hK.mul h h
  rw [← hhh2] at chh2 ⊢
  obtain ⟨hhh, hhhh⟩ : ∃ q_, q_ = k.O.mul hh2 h := ⟨_, rfl⟩
  have chhh := hK.mul hh2 h
  rw [← hhhh] at chhh ⊢
  obtain ⟨v, hv⟩ : ∃ q_, q_ = k.O.mul px hh2 := ⟨_, rfl⟩
  have cv := hK.mul px hh2
  rw [← hv] at cv ⊢
  obtain ⟨rr, hrr⟩ : ∃ q_, q_ = k.O.mul r r := ⟨_, rfl⟩
  have crr := hK.mul r r
  rw [← hrr] at crr ⊢
  obtain ⟨x0, hx0⟩ : ∃ q_, q_ = k.O.sub rr hhh := ⟨_, rfl⟩
  have cx0 := hK.sub rr hhh
  rw [← hx0] at cx0 ⊢
  obtain ⟨vv, hvv⟩ : ∃ q_, q_ = k.O.add v v := ⟨_, rfl⟩
  have cvv := hK.add v v
  rw [← hvv] at cvv ⊢
  obtain ⟨nx, hnx⟩ : ∃ q_, q_ = k.O.sub x0 vv := ⟨_, rfl⟩
  have cnx := hK.sub x0 vv
  rw [← hnx] at cnx ⊢
  obtain ⟨vx, hvx⟩ : ∃ q_, q_ = k.O.sub v nx := ⟨_, rfl⟩
  have cvx := hK.sub v nx
  rw [← hvx] at cvx ⊢
  obtain ⟨rv, hrv⟩ : ∃ q_, q_ = k.O.mul r vx := ⟨_, rfl⟩
  have crv := hK.mul r vx
  rw [← hrv] at crv ⊢
  obtain ⟨yh, hyh⟩ : ∃ q_, q_ = k.O.mul py hhh := ⟨_, rfl⟩
  have cyh := hK.mul py hhh
  rw [← hyh] at cyh ⊢
  obtain ⟨ny, hny⟩ : ∃ q_, q_ = k.O.sub rv yh := ⟨_, rfl⟩
  have cny := hK.sub rv yh
  rw [← hny] at cny ⊢
  obtain ⟨nz, hnz⟩ : ∃ q_, q_ = k.O.mul pz h := ⟨_, rfl⟩
  have cnz := hK.mul pz h
  rw [← hnz] at cnz ⊢
  refine mk Tryz.func167 rfl rfl L0 R1 (by decide +kernel) fun A S hA hS => ?_
  unfold bodyOf Tryz.f167
  cbv
  repeat (first
    | (refine ABr.t (by assumption) ?_; cbv)
    | (refine ABr.f (by assumption) ?_; cbv)
    | (refine ABr.t rfl ?_; cbv)
    | (refine ABr.f rfl ?_; cbv)
    | (refine ACall.mk _ (cf hS z1) ?_; cbv)
    | (refine ACall.mk _ (cf hS czz) ?_; cbv)
    | (refine ACall.mk _ (cf hS cqx) ?_; cbv)
    | (refine ACall.mk _ (cf hS ch) ?_; cbv)
    | (refine ACall.mk _ (cf hS cz3) ?_; cbv)
    | (refine ACall.mk _ (cf hS cqy) ?_; cbv)
    | (refine ACall.mk _ (cf hS cr) ?_; cbv)
    | (refine ACall.mk _ (cf hS zh) ?_; cbv)
    | (refine ACall.mk _ (cf hS chh2) ?_; cbv)
    | (refine ACall.mk _ (cf hS chhh) ?_; cbv)
    | (refine ACall.mk _ (cf hS cv) ?_; cbv)
    | (refine ACall.mk _ (cf hS crr) ?_; cbv)
    | (refine ACall.mk _ (cf hS cx0) ?_; cbv)
    | (refine ACall.mk _ (cf hS cvv) ?_; cbv)
    | (refine ACall.mk _ (cf hS cnx) ?_; cbv)
    | (refine ACall.mk _ (cf hS cvx) ?_; cbv)
    | (refine ACall.mk _ (cf hS crv) ?_; cbv)
    | (refine ACall.mk _ (cf hS cyh) ?_; cbv)
    | (refine ACall.mk _ (cf hS cny) ?_; cbv)
    | (refine ACall.mk _ (cf hS cnz) ?_; cbv))
theorem sumRS (P Q : Cv.Pt α) : Sp 97 [Ct k b, Pt_ k P, Pt_ k Q] (Pt_ k (Cv.sumR k.O P Q)) := by
  have hi := infR hK
  obtain _ | ⟨x1, y1⟩ := P
  · have e : Cv.sumR k.O none Q = Q := by cases Q <;> rfl
    rw [e]
    obtain _ | ⟨x2, y2⟩ := Q
    · refine mk Tryz.func97 rfl rfl L0 R1 (by decide +kernel) fun A S hA hS => ?_
      unfold bodyOf Tryz.f97
      cbv
      repeat (first
        | (refine ABr.t (by assumption) ?_; cbv)
        | (refine ABr.f (by assumption) ?_; cbv)
        | (refine ABr.t rfl ?_; cbv)
        | (refine ABr.f rfl ?_; cbv)
        | (refine ACall.mk _ (cf hS hi) ?_; cbv))
    · refine mk Tryz.func97 rfl rfl L0 R1 (by decide +kernel) fun A S hA hS => ?_
      unfold bodyOf Tryz.f97
      cbv
      repeat (first
        | (refine ABr.t (by assumption) ?_; cbv)
        | (refine ABr.f (by assumption) ?_; cbv)
        | (refine ABr.t rfl ?_; cbv)
        | (refine ABr.f rfl ?_; cbv)
        | (refine ACall.mk _ (cf hS hi) ?_; cbv))
  obtain _ | ⟨x2, y2⟩ := Q
  · have e : Cv.sumR k.O (some (x1, y1)) none = some (x1, y1) := rfl
    rw [e]
    refine mk Tryz.func97 rfl rfl L0 R1 (by decide +kernel) fun A S hA hS => ?_
    unfold bodyOf Tryz.f97
    cbv
    repeat (first
      | (refine ABr.t (by assumption) ?_; cbv)
      | (refine ABr.f (by assumption) ?_; cbv)
      | (refine ABr.t rfl ?_; cbv)
      | (refine ABr.f rfl ?_; cbv)
      | (refine ACall.mk _ (cf hS hi) ?_; cbv))
  have sm := hK.same x1 x2
  unfold Cv.sumR
  dsimp only
  by_cases h1 : x1 = x2
  · rw [if_pos h1]
    rw [decide_eq_true h1] at sm
    obtain ⟨yy, hyy⟩ : ∃ q_, q_ = k.O.add y1 y2 := ⟨_, rfl⟩
    have cyy := hK.add y1 y2
    rw [← hyy] at cyy ⊢
    have zy := hK.zero yy
    by_cases h2 : yy = k.O.zero
    · rw [if_pos h2]
      rw [decide_eq_true h2] at zy
      clear hyy
      refine mk Tryz.func97 rfl rfl L0 R1 (by decide +kernel) fun A S hA hS => ?_
      unfold bodyOf Tryz.f97
      cbv
      repeat (first
        | (refine ABr.t (by assumption) ?_; cbv)
        | (refine ABr.f (by assumption) ?_; cbv)
        | (refine ABr.t rfl ?_; cbv)
        | (refine ABr.f rfl ?_; cbv)
        | (refine ACall.mk _ (cf hS sm) ?_; cbv)
        | (refine ACall.mk _ (cf hS cyy) ?_; cbv)
        | (refine ACall.mk _ (cf hS zy) ?_; cbv)
        | (refine ACall.mk _ (cf hS hi) ?_; cbv))
    · rw [if_neg h2]
      rw [decide_eq_false h2] at zy
      clear hyy
      unfold Cv.slope
      dsimp only
      obtain ⟨xx, hxx⟩ : ∃ q_, q_ = k.O.mul x1 x1 := ⟨_, rfl⟩
      have cxx := hK.mul x1 x1
      rw [← hxx] at cxx ⊢
      obtain ⟨x2x, hx2x⟩ : ∃ q_, q_ = k.O.add xx xx := ⟨_, rfl⟩
      have cx2x := hK.add xx xx
      rw [← hx2x] at cx2x ⊢
      obtain ⟨x3x, hx3x⟩ : ∃ q_, q_ = k.O.add x2x xx := ⟨_, rfl⟩
      have cx3x := hK.add x2x xx
      rw [← hx3x] at cx3x ⊢
      obtain ⟨y2y, hy2y⟩ : ∃ q_, q_ = k.O.add y1 y1 := ⟨_, rfl⟩
      have cy2y := hK.add y1 y1
      rw [← hy2y] at cy2y ⊢
      obtain ⟨iy, hiy⟩ : ∃ q_, q_ = k.O.inv y2y := ⟨_, rfl⟩
      have ciy := hK.inv y2y
      rw [← hiy] at ciy ⊢
      obtain ⟨s, hs⟩ : ∃ q_, q_ = k.O.mul x3x iy := ⟨_, rfl⟩
      have cs := hK.mul x3x iy
      rw [← hs] at cs ⊢
      obtain ⟨ss, hss⟩ : ∃ q_, q_ = k.O.mul s s := ⟨_, rfl⟩
      have css := hK.mul s s
      rw [← hss] at css ⊢
      obtain ⟨a1, ha1⟩ : ∃ q_, q_ = k.O.sub ss x1 := ⟨_, rfl⟩
      have ca1 := hK.sub ss x1
      rw [← ha1] at ca1 ⊢
      obtain ⟨nx, hnx⟩ : ∃ q_, q_ = k.O.sub a1 x2 := ⟨_, rfl⟩
      have cnx := hK.sub a1 x2
      rw [← hnx] at cnx ⊢
      obtain ⟨dx, hdx⟩ : ∃ q_, q_ = k.O.sub x1 nx := ⟨_, rfl⟩
      have cdx := hK.sub x1 nx
      rw [← hdx] at cdx ⊢
      obtain ⟨sd, hsd⟩ : ∃ q_, q_ = k.O.mul s dx := ⟨_, rfl⟩
      have csd := hK.mul s dx
      rw [← hsd] at csd ⊢
      obtain ⟨ny, hny⟩ : ∃ q_, q_ = k.O.sub sd y1 := ⟨_, rfl⟩
      have cny := hK.sub sd y1
      rw [← hny] at cny ⊢
      refine mk Tryz.func97 rfl rfl L0 R1 (by decide +kernel) fun A S hA hS => ?_
      unfold bodyOf Tryz.f97
      cbv
      repeat (first
        | (refine ABr.t (by assumption) ?_; cbv)
        | (refine ABr.f (by assumption) ?_; cbv)
        | (refine ABr.t rfl ?_; cbv)
        | (refine ABr.f rfl ?_; cbv)
        | (refine ACall.mk _ (cf hS sm) ?_; cbv)
        | (refine ACall.mk _ (cf hS cyy) ?_; cbv)
        | (refine ACall.mk _ (cf hS zy) ?_; cbv)
        | (refine ACall.mk _ (cf hS cxx) ?_; cbv)
        | (refine ACall.mk _ (cf hS cx2x) ?_; cbv)
        | (refine ACall.mk _ (cf hS cx3x) ?_; cbv)
        | (refine ACall.mk _ (cf hS cy2y) ?_; cbv)
        | (refine ACall.mk _ (cf hS ciy) ?_; cbv)
        | (refine ACall.mk _ (cf hS cs) ?_; cbv)
        | (refine ACall.mk _ (cf hS css) ?_; cbv)
        | (refine ACall.mk _ (cf hS ca1) ?_; cbv)
        | (refine ACall.mk _ (cf hS cnx) ?_; cbv)
        | (refine ACall.mk _ (cf hS cdx) ?_; cbv)
        | (refine ACall.mk _ (cf hS csd) ?_; cbv)
        | (refine ACall.mk _ (cf hS cny) ?_; cbv))
  · rw [if_neg h1]
    rw [decide_eq_false h1] at sm
    unfold Cv.slope
    dsimp only
    obtain ⟨n, hn⟩ : ∃ q_, q_ = k.O.sub y2 y1 := ⟨_, rfl⟩
    have cn := hK.sub y2 y1
    rw [← hn] at cn ⊢
    obtain ⟨d, hd⟩ : ∃ q_, q_ = k.O.sub x2 x1 := ⟨_, rfl⟩
    have cd := hK.sub x2 x1
    rw [← hd] at cd ⊢
    obtain ⟨i, hi⟩ : ∃ q_, q_ = k.O.inv d := ⟨_, rfl⟩
    have ci := hK.inv d
    rw [← hi] at ci ⊢
    obtain ⟨s, hs⟩ : ∃ q_, q_ = k.O.mul n i := ⟨_, rfl⟩
    have cs := hK.mul n i
    rw [← hs] at cs ⊢
    obtain ⟨ss, hss⟩ : ∃ q_, q_ = k.O.mul s s := ⟨_, rfl⟩
    have css := hK.mul s s
    rw [← hss] at css ⊢
    obtain ⟨a1, ha1⟩ : ∃ q_, q_ = k.O.sub ss x1 := ⟨_, rfl⟩
    have ca1 := hK.sub ss x1
    rw [← ha1] at ca1 ⊢
    obtain ⟨nx, hnx⟩ : ∃ q_, q_ = k.O.sub a1 x2 := ⟨_, rfl⟩
    have cnx := hK.sub a1 x2
    rw [← hnx] at cnx ⊢
    obtain ⟨dx, hdx⟩ : ∃ q_, q_ = k.O.sub x1 nx := ⟨_, rfl⟩
    have cdx := hK.sub x1 nx
    rw [← hdx] at cdx ⊢
    obtain ⟨sd, hsd⟩ : ∃ q_, q_ = k.O.mul s dx := ⟨_, rfl⟩
    have csd := hK.mul s dx
    rw [← hsd] at csd ⊢
    obtain ⟨ny, hny⟩ : ∃ q_, q_ = k.O.sub sd y1 := ⟨_, rfl⟩
    have cny := hK.sub sd y1
    rw [← hny] at cny ⊢
    refine mk Tryz.func97 rfl rfl L0 R1 (by decide +kernel) fun A S hA hS => ?_
    unfold bodyOf Tryz.f97
    cbv
    repeat (first
      | (refine ABr.t (by assumption) ?_; cbv)
      | (refine ABr.f (by assumption) ?_; cbv)
      | (refine ABr.t rfl ?_; cbv)
      | (refine ABr.f rfl ?_; cbv)
      | (refine ACall.mk _ (cf hS sm) ?_; cbv)
      | (refine ACall.mk _ (cf hS cn) ?_; cbv)
      | (refine ACall.mk _ (cf hS cd) ?_; cbv)
      | (refine ACall.mk _ (cf hS ci) ?_; cbv)
      | (refine ACall.mk _ (cf hS cs) ?_; cbv)
      | (refine ACall.mk _ (cf hS css) ?_; cbv)
      | (refine ACall.mk _ (cf hS ca1) ?_; cbv)
      | (refine ACall.mk _ (cf hS cnx) ?_; cbv)
      | (refine ACall.mk _ (cf hS cdx) ?_; cbv)
      | (refine ACall.mk _ (cf hS csd) ?_; cbv)
      | (refine ACall.mk _ (cf hS cny) ?_; cbv))
end
end Go.Proofs.YtmholgclgamnnaaGreat
end
