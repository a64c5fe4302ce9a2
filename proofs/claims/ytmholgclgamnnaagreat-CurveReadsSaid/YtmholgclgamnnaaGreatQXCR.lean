import Derived.Test.YtmholgclgamnnaaGreatQXCO
set_option linter.unusedVariables false
set_option linter.unusedSimpArgs false
set_option linter.unusedSectionVars false
set_option maxRecDepth 100000
set_option exponentiation.threshold 2000
set_option maxHeartbeats 4000000
section
namespace Go.Proofs.YtmholgclgamnnaaGreat
open Go Eng
def RNone : Nat → Md := fun _ => .own
theorem ne_t {A : Ar} (hA : A = Ar.real) {x y : Int} (h : A.cmp .neq x y = true) : x ≠ y := by rw [i_ne hA] at h; simpa using h
theorem ne_f {A : Ar} (hA : A = Ar.real) {x y : Int} (h : A.cmp .neq x y = false) : x = y := by rw [i_ne hA] at h; simpa using h
section
variable {p : Nat} [NeZero p]
theorem rZeroS4 {H : H5} (hH : H = H5.real) (a : Nat) (ha : a < 2 ^ 256) : Sp 87 [.lst false 4 (ws4 H.lim a)] (.sb (decide (a = 0))) := by
 obtain ⟨t, ht⟩ : ∃ t, t = decide (a = 0) := ⟨_, rfl⟩
 rw [← ht]
 have l0 := lim04 hH
 have hn : ∀ i, H.lim a i ≠ 0 → false = t := fun i h => by rw [ht]; exact (decide_eq_false fun e => h (by rw [e]; exact l0 i)).symm
 have hy : H.lim a 0 = 0 → H.lim a 1 = 0 → H.lim a 2 = 0 → H.lim a 3 = 0 → true = t := fun h0 h1 h2 h3 => by
   rw [ht]; exact (decide_eq_true (lim_inj4 (H5.hlim hH) ha (by decide) ⟨h0.trans (l0 0).symm, h1.trans (l0 1).symm, h2.trans (l0 2).symm, h3.trans (l0 3).symm⟩)).symm
 clear ht
 refine mk Tryz.func87 rfl rfl L0 R1 (by decide +kernel) fun A S hA hS => ?_
 unfold bodyOf Tryz.f87
 cbv
 refine ABr.mk (fun h => ?_) (fun h0 => ?_)
 . cbv
   exact hn 0 (ne_t hA h)
 cbv
 refine ABr.mk (fun h => ?_) (fun h1 => ?_)
 . cbv
   exact hn 1 (ne_t hA h)
 cbv
 refine ABr.mk (fun h => ?_) (fun h2 => ?_)
 . cbv
   exact hn 2 (ne_t hA h)
 cbv
 refine ABr.mk (fun h => ?_) (fun h3 => ?_)
 . cbv
   exact hn 3 (ne_t hA h)
 cbv
 exact hy (ne_f hA h0) (ne_f hA h1) (ne_f hA h2) (ne_f hA h3)
theorem sameR4_1 {H : H5} (hH : H = H5.real) (hp : PrM 256 p) (a b : Fin p) : Sp 88 [Er4_1 H a, Er4_1 H b] (.sb (decide (a = b))) := by
 obtain ⟨t, ht⟩ : ∃ t, t = decide (a = b) := ⟨_, rfl⟩
 rw [← ht]
 have hn0 : ∀ i, H.lim a.val i ≠ H.lim b.val i → false = t := fun i h => by rw [ht]; exact (decide_eq_false fun e => h (by rw [e])).symm
 have hy : (H.lim a.val 0 = H.lim b.val 0 ∧ H.lim a.val 1 = H.lim b.val 1 ∧ H.lim a.val 2 = H.lim b.val 2 ∧ H.lim a.val 3 = H.lim b.val 3) → true = t := fun h => by
   rw [ht]; exact (decide_eq_true (Fin.ext (lim_inj4 (H5.hlim hH) (Nat.lt_trans a.isLt hp.lt) (Nat.lt_trans b.isLt hp.lt) h))).symm
 clear ht
 refine mk Tryz.func88 rfl rfl L0 R1 (by decide +kernel) fun A S hA hS => ?_
 unfold bodyOf Tryz.f88
 cbv
 refine ABr.mk (fun h => ?_) (fun g0_0 => ?_)
 . cbv
   exact hn0 0 (ne_t hA h)
 cbv
 refine ABr.mk (fun h => ?_) (fun g0_1 => ?_)
 . cbv
   exact hn0 1 (ne_t hA h)
 cbv
 refine ABr.mk (fun h => ?_) (fun g0_2 => ?_)
 . cbv
   exact hn0 2 (ne_t hA h)
 cbv
 refine ABr.mk (fun h => ?_) (fun g0_3 => ?_)
 . cbv
   exact hn0 3 (ne_t hA h)
 cbv
 exact hy ⟨ne_f hA g0_0, ne_f hA g0_1, ne_f hA g0_2, ne_f hA g0_3⟩
theorem sameR4_2 {H : H5} (hH : H = H5.real) (hp : PrM 256 p) (a b : Cv.F2 p) : Sp 88 [Er4_2 H a, Er4_2 H b] (.sb (decide (a = b))) := by
 obtain ⟨t, ht⟩ : ∃ t, t = decide (a = b) := ⟨_, rfl⟩
 rw [← ht]
 have hn0 : ∀ i, H.lim a.a.val i ≠ H.lim b.a.val i → false = t := fun i h => by rw [ht]; exact (decide_eq_false fun e => h (by rw [e])).symm
 have hn1 : ∀ i, H.lim a.b.val i ≠ H.lim b.b.val i → false = t := fun i h => by rw [ht]; exact (decide_eq_false fun e => h (by rw [e])).symm
 have hy : (H.lim a.a.val 0 = H.lim b.a.val 0 ∧ H.lim a.a.val 1 = H.lim b.a.val 1 ∧ H.lim a.a.val 2 = H.lim b.a.val 2 ∧ H.lim a.a.val 3 = H.lim b.a.val 3) → (H.lim a.b.val 0 = H.lim b.b.val 0 ∧ H.lim a.b.val 1 = H.lim b.b.val 1 ∧ H.lim a.b.val 2 = H.lim b.b.val 2 ∧ H.lim a.b.val 3 = H.lim b.b.val 3) → true = t := fun h1 h2 => by
   have e1 := Fin.ext (lim_inj4 (H5.hlim hH) (Nat.lt_trans a.a.isLt hp.lt) (Nat.lt_trans b.a.isLt hp.lt) h1)
   have e2 := Fin.ext (lim_inj4 (H5.hlim hH) (Nat.lt_trans a.b.isLt hp.lt) (Nat.lt_trans b.b.isLt hp.lt) h2)
   rw [ht]; exact (decide_eq_true (by cases a; cases b; simp only at e1 e2; rw [e1, e2])).symm
 clear ht
 refine mk Tryz.func88 rfl rfl L0 R1 (by decide +kernel) fun A S hA hS => ?_
 unfold bodyOf Tryz.f88
 cbv
 refine ABr.mk (fun h => ?_) (fun g0_0 => ?_)
 . cbv
   exact hn0 0 (ne_t hA h)
 cbv
 refine ABr.mk (fun h => ?_) (fun g0_1 => ?_)
 . cbv
   exact hn0 1 (ne_t hA h)
 cbv
 refine ABr.mk (fun h => ?_) (fun g0_2 => ?_)
 . cbv
   exact hn0 2 (ne_t hA h)
 cbv
 refine ABr.mk (fun h => ?_) (fun g0_3 => ?_)
 . cbv
   exact hn0 3 (ne_t hA h)
 cbv
 refine ABr.mk (fun h => ?_) (fun g1_0 => ?_)
 . cbv
   exact hn1 0 (ne_t hA h)
 cbv
 refine ABr.mk (fun h => ?_) (fun g1_1 => ?_)
 . cbv
   exact hn1 1 (ne_t hA h)
 cbv
 refine ABr.mk (fun h => ?_) (fun g1_2 => ?_)
 . cbv
   exact hn1 2 (ne_t hA h)
 cbv
 refine ABr.mk (fun h => ?_) (fun g1_3 => ?_)
 . cbv
   exact hn1 3 (ne_t hA h)
 cbv
 exact hy ⟨ne_f hA g0_0, ne_f hA g0_1, ne_f hA g0_2, ne_f hA g0_3⟩ ⟨ne_f hA g1_0, ne_f hA g1_1, ne_f hA g1_2, ne_f hA g1_3⟩
theorem zeroR4_2 {H : H5} (hH : H = H5.real) (hp : PrM 256 p) (a : Cv.F2 p) : Sp 165 [Er4_2 H a] (.sb (decide (a = ⟨0, 0⟩))) := by
 have h1 := rZeroS4 hH a.a.val (Nat.lt_trans a.a.isLt hp.lt)
 have h2 := rZeroS4 hH a.b.val (Nat.lt_trans a.b.isLt hp.lt)
 have e : ∀ x : Fin p, decide (x.val = 0) = decide (x = 0) := fun x => by
   by_cases h : x = 0
   . rw [decide_eq_true h, h, Cv.val_zero]; rfl
   . rw [decide_eq_false h, decide_eq_false fun e => h (Fin.ext (by rw [e, Cv.val_zero]))]
 rw [e] at h1 h2
 have e2 : decide (a = ⟨0, 0⟩) = (decide (a.a = 0) && decide (a.b = 0)) := by
   obtain ⟨x, y⟩ := a
   by_cases hx : x = 0
   . by_cases hy : y = 0
     . subst hx; subst hy; simp
     . rw [decide_eq_false (fun e => hy (Cv.F2.mk.inj e).2)]; simp [hy]
   . rw [decide_eq_false (fun e => hx (Cv.F2.mk.inj e).1)]; simp [hx]
 rw [e2]
 generalize decide (a.a = 0) = t at *
 generalize decide (a.b = 0) = s at *
 refine mk Tryz.func165 rfl rfl L0 R1 (by decide +kernel) fun A S hA hS => ?_
 have n := i_not hA (rfl : t = t)
 have n2 := i_not hA (rfl : s = s)
 unfold bodyOf Tryz.f165
 cbv
 refine aF hS h1 ?_
 cbv
 cases t
 . refine ABr.t n ?_
   cbv
 . refine ABr.f n ?_
   cbv
   refine aF hS h2 ?_
   cbv
   cases s
   . refine ABr.t n2 ?_
     cbv
   . refine ABr.f n2 ?_
     cbv
theorem noneR4_2 {H : H5} (hH : H = H5.real) (hp : PrM 256 p) (c : Cu p) : Sp 119 [Cr4_2 H c] (Nr4_2 H (⟨0, 0⟩ : Cv.F2 p)) := by
 have h1 : Sp 80 [rf4 H p, .s .u64 0] (.new false 4 1 (ws4 H.lim ((0 : Fin p)).val)) := by rw [Cv.val_zero]; exact rnumS4 (p := p) hH 0 (by decide)
 generalize (0 : Fin p) = z at *
 refine mk Tryz.func119 rfl rfl L0 RNone (by decide +kernel) fun A S hA hS => ?_
 unfold bodyOf Tryz.f119
 cbv
 refine ACall.mk _ (cg hS h1 (by first | (cbv; done) | (cbv; exact rfl) | (cbv; exact ⟨rfl, trivial⟩) | (cbv; simp))) ?_
 cbv
 refine ACall.mk _ (cg hS h1 (by first | (cbv; done) | (cbv; exact rfl) | (cbv; exact ⟨rfl, trivial⟩) | (cbv; simp))) ?_
 cbv
theorem oneR4_2 {H : H5} (hH : H = H5.real) (hp : PrM 256 p) {c : Cu p} (h1c : c.one = fo p 1) : Sp 208 [Cr4_2 H c] (Nr4_2 H ⟨c.one, 0⟩) := by
 have h0 := noneR4_2 hH hp c
 have o : c.one.val = 1 := by rw [h1c]; exact hp.ne
 have h1 : Sp 80 [rf4 H p, .s .u64 1] (.new false 4 1 (ws4 H.lim c.one.val)) := by rw [o]; exact rnumS4 (p := p) hH 1 (by decide)
 clear o h1c
 generalize (0 : Fin p) = z at *
 refine mk Tryz.func208 rfl rfl L0 RNone (by decide +kernel) fun A S hA hS => ?_
 unfold bodyOf Tryz.f208
 cbv
 refine aF hS h0 ?_
 cbv
 refine ACall.mk _ (cg hS h1 (by first | (cbv; done) | (cbv; exact rfl) | (cbv; exact ⟨rfl, trivial⟩) | (cbv; simp))) ?_
 cbv
theorem rZeroS6 {H : H5} (hH : H = H5.real) (a : Nat) (ha : a < 2 ^ 384) : Sp 87 [.lst false 6 (ws6 H.lim a)] (.sb (decide (a = 0))) := by
 obtain ⟨t, ht⟩ : ∃ t, t = decide (a = 0) := ⟨_, rfl⟩
 rw [← ht]
 have l0 := lim06 hH
 have hn : ∀ i, H.lim a i ≠ 0 → false = t := fun i h => by rw [ht]; exact (decide_eq_false fun e => h (by rw [e]; exact l0 i)).symm
 have hy : H.lim a 0 = 0 → H.lim a 1 = 0 → H.lim a 2 = 0 → H.lim a 3 = 0 → H.lim a 4 = 0 → H.lim a 5 = 0 → true = t := fun h0 h1 h2 h3 h4 h5 => by
   rw [ht]; exact (decide_eq_true (lim_inj6 (H5.hlim hH) ha (by decide) ⟨h0.trans (l0 0).symm, h1.trans (l0 1).symm, h2.trans (l0 2).symm, h3.trans (l0 3).symm, h4.trans (l0 4).symm, h5.trans (l0 5).symm⟩)).symm
 clear ht
 refine mk Tryz.func87 rfl rfl L0 R1 (by decide +kernel) fun A S hA hS => ?_
 unfold bodyOf Tryz.f87
 cbv
 refine ABr.mk (fun h => ?_) (fun h0 => ?_)
 . cbv
   exact hn 0 (ne_t hA h)
 cbv
 refine ABr.mk (fun h => ?_) (fun h1 => ?_)
 . cbv
   exact hn 1 (ne_t hA h)
 cbv
 refine ABr.mk (fun h => ?_) (fun h2 => ?_)
 . cbv
   exact hn 2 (ne_t hA h)
 cbv
 refine ABr.mk (fun h => ?_) (fun h3 => ?_)
 . cbv
   exact hn 3 (ne_t hA h)
 cbv
 refine ABr.mk (fun h => ?_) (fun h4 => ?_)
 . cbv
   exact hn 4 (ne_t hA h)
 cbv
 refine ABr.mk (fun h => ?_) (fun h5 => ?_)
 . cbv
   exact hn 5 (ne_t hA h)
 cbv
 exact hy (ne_f hA h0) (ne_f hA h1) (ne_f hA h2) (ne_f hA h3) (ne_f hA h4) (ne_f hA h5)
theorem sameR6_1 {H : H5} (hH : H = H5.real) (hp : PrM 384 p) (a b : Fin p) : Sp 88 [Er6_1 H a, Er6_1 H b] (.sb (decide (a = b))) := by
 obtain ⟨t, ht⟩ : ∃ t, t = decide (a = b) := ⟨_, rfl⟩
 rw [← ht]
 have hn0 : ∀ i, H.lim a.val i ≠ H.lim b.val i → false = t := fun i h => by rw [ht]; exact (decide_eq_false fun e => h (by rw [e])).symm
 have hy : (H.lim a.val 0 = H.lim b.val 0 ∧ H.lim a.val 1 = H.lim b.val 1 ∧ H.lim a.val 2 = H.lim b.val 2 ∧ H.lim a.val 3 = H.lim b.val 3 ∧ H.lim a.val 4 = H.lim b.val 4 ∧ H.lim a.val 5 = H.lim b.val 5) → true = t := fun h => by
   rw [ht]; exact (decide_eq_true (Fin.ext (lim_inj6 (H5.hlim hH) (Nat.lt_trans a.isLt hp.lt) (Nat.lt_trans b.isLt hp.lt) h))).symm
 clear ht
 refine mk Tryz.func88 rfl rfl L0 R1 (by decide +kernel) fun A S hA hS => ?_
 unfold bodyOf Tryz.f88
 cbv
 refine ABr.mk (fun h => ?_) (fun g0_0 => ?_)
 . cbv
   exact hn0 0 (ne_t hA h)
 cbv
 refine ABr.mk (fun h => ?_) (fun g0_1 => ?_)
 . cbv
   exact hn0 1 (ne_t hA h)
 cbv
 refine ABr.mk (fun h => ?_) (fun g0_2 => ?_)
 . cbv
   exact hn0 2 (ne_t hA h)
 cbv
 refine ABr.mk (fun h => ?_) (fun g0_3 => ?_)
 . cbv
   exact hn0 3 (ne_t hA h)
 cbv
 refine ABr.mk (fun h => ?_) (fun g0_4 => ?_)
 . cbv
   exact hn0 4 (ne_t hA h)
 cbv
 refine ABr.mk (fun h => ?_) (fun g0_5 => ?_)
 . cbv
   exact hn0 5 (ne_t hA h)
 cbv
 exact hy ⟨ne_f hA g0_0, ne_f hA g0_1, ne_f hA g0_2, ne_f hA g0_3, ne_f hA g0_4, ne_f hA g0_5⟩
theorem zeroR6_1 {H : H5} (hH : H = H5.real) (hp : PrM 384 p) (a : Fin p) : Sp 165 [Er6_1 H a] (.sb (decide (a = 0))) := by
 have h1 := rZeroS6 hH a.val (Nat.lt_trans a.isLt hp.lt)
 have e : decide (a.val = 0) = decide (a = 0) := by
   by_cases h : a = 0
   . rw [decide_eq_true h, h, Cv.val_zero]; rfl
   . rw [decide_eq_false h, decide_eq_false fun e => h (Fin.ext (by rw [e, Cv.val_zero]))]
 rw [e] at h1
 generalize decide (a = 0) = t at *
 refine mk Tryz.func165 rfl rfl L0 R1 (by decide +kernel) fun A S hA hS => ?_
 have n := i_not hA (rfl : t = t)
 unfold bodyOf Tryz.f165
 cbv
 refine aF hS h1 ?_
 cbv
 cases t
 . refine ABr.t n ?_
   cbv
 . refine ABr.f n ?_
   cbv
theorem noneR6_1 {H : H5} (hH : H = H5.real) (hp : PrM 384 p) (c : Cu p) : Sp 119 [Cr6_1 H c] (Nr6_1 H (0 : Fin p)) := by
 have h1 : Sp 80 [rf6 H p, .s .u64 0] (.new false 6 1 (ws6 H.lim ((0 : Fin p)).val)) := by rw [Cv.val_zero]; exact rnumS6 (p := p) hH 0 (by decide)
 generalize (0 : Fin p) = z at *
 refine mk Tryz.func119 rfl rfl L0 RNone (by decide +kernel) fun A S hA hS => ?_
 unfold bodyOf Tryz.f119
 cbv
 refine ACall.mk _ (cg hS h1 (by first | (cbv; done) | (cbv; exact rfl) | (cbv; exact ⟨rfl, trivial⟩) | (cbv; simp))) ?_
 cbv
theorem oneR6_1 {H : H5} (hH : H = H5.real) (hp : PrM 384 p) {c : Cu p} (h1c : c.one = fo p 1) : Sp 208 [Cr6_1 H c] (Nr6_1 H c.one) := by
 have h0 := noneR6_1 hH hp c
 have o : c.one.val = 1 := by rw [h1c]; exact hp.ne
 have h1 : Sp 80 [rf6 H p, .s .u64 1] (.new false 6 1 (ws6 H.lim c.one.val)) := by rw [o]; exact rnumS6 (p := p) hH 1 (by decide)
 clear o h1c
 generalize (0 : Fin p) = z at *
 refine mk Tryz.func208 rfl rfl L0 RNone (by decide +kernel) fun A S hA hS => ?_
 unfold bodyOf Tryz.f208
 cbv
 refine aF hS h0 ?_
 cbv
 refine ACall.mk _ (cg hS h1 (by first | (cbv; done) | (cbv; exact rfl) | (cbv; exact ⟨rfl, trivial⟩) | (cbv; simp))) ?_
 cbv
end
structure Rk (α : Type) where
 O : Cv.Ops α
 row : α → List AVal
 d : Nat
 n : Nat
 M : List AVal
 f : Int
 T : List AVal
 D : Int
 R : List AVal
 BX : List AVal
 BY : List AVal
section
variable {α : Type} [DecidableEq α]
def Ct (k : Rk α) (b : α) : AVal := .agg [.lst true k.n k.M, .s .u64 k.f, .lst true k.n k.T, .s .i64 k.D, .lst true k.d (k.row b), .lst true 4 k.R, .lst true k.d k.BX, .lst true k.d k.BY, .b false]
def Et (k : Rk α) (a : α) : AVal := .lst true k.d (k.row a)
def Nt (k : Rk α) (a : α) : AVal := .new true k.d 1 (k.row a)
def Jt (k : Rk α) (p : Cv.Jac α) : AVal := .agg [.lst true k.d (k.row p.x), .lst true k.d (k.row p.y), .lst true k.d (k.row p.z)]
def Pt_ (k : Rk α) : Cv.Pt α → AVal
 | none => .agg [.lst true k.d (k.row k.O.zero), .lst true k.d (k.row k.O.zero), .sb true]
 | some (x, y) => .agg [.lst true k.d (k.row x), .lst true k.d (k.row y), .sb false]
structure OkR (k : Rk α) (b : α) : Prop where
 add : ∀ a c, Sp 90 [Ct k b, Et k a, Et k c] (Nt k (k.O.add a c))
 sub : ∀ a c, Sp 118 [Ct k b, Et k a, Et k c] (Nt k (k.O.sub a c))
 mul : ∀ a c, Sp 89 [Ct k b, Et k a, Et k c] (Nt k (k.O.mul a c))
 inv : ∀ a, Sp 127 [Ct k b, Et k a] (Nt k (k.O.inv a))
 same : ∀ a c, Sp 88 [Et k a, Et k c] (.sb (decide (a = c)))
 zero : ∀ a, Sp 165 [Et k a] (.sb (decide (a = k.O.zero)))
 none : Sp 119 [Ct k b] (Nt k k.O.zero)
 one : Sp 208 [Ct k b] (Nt k k.O.one)
variable {k : Rk α} {b : α} (hK : OkR k b)
include hK
theorem infR : Sp 150 [Ct k b] (Pt_ k none) := by
 have h := hK.none
 refine mk Tryz.func150 rfl rfl L0 R1 (by decide +kernel) fun A S hA hS => ?_
 unfold bodyOf Tryz.f150
 cbv
 refine aF hS h ?_
 cbv
 refine aF hS h ?_
 cbv
theorem twiceR (p : Cv.Jac α) : Sp 166 [Ct k b, Jt k p] (Jt k (Cv.dblR k.O p)) := by
 obtain ⟨px, py, pz⟩ := p
 have z1 := hK.zero pz
 have z2 := hK.zero py
 have no := hK.none
 unfold Cv.dblR
 dsimp only
 by_cases h1 : pz = k.O.zero
 . rw [if_pos (.inl h1)]
   rw [decide_eq_true h1] at z1
   generalize k.O.zero = z at *
   refine mk Tryz.func166 rfl rfl L0 R1 (by decide +kernel) fun A S hA hS => ?_
   unfold bodyOf Tryz.f166
   cbv
   repeat ((first | refine ABr.t (by first | assumption | rfl) ?_ | refine ABr.f (by first | assumption | rfl) ?_ | refine aF hS z1 ?_ | refine aF hS no ?_); cbv)
 by_cases h2 : py = k.O.zero
 . rw [if_pos (.inr h2)]
   rw [decide_eq_false h1] at z1
   rw [decide_eq_true h2] at z2
   generalize k.O.zero = z at *
   refine mk Tryz.func166 rfl rfl L0 R1 (by decide +kernel) fun A S hA hS => ?_
   unfold bodyOf Tryz.f166
   cbv
   repeat ((first | refine ABr.t (by first | assumption | rfl) ?_ | refine ABr.f (by first | assumption | rfl) ?_ | refine aF hS z1 ?_ | refine aF hS z2 ?_ | refine aF hS no ?_); cbv)
 rw [if_neg (fun h => h.elim h1 h2)]
 rw [decide_eq_false h1] at z1
 rw [decide_eq_false h2] at z2
 unfold Cv.dbl
 dsimp only
 obtain ⟨a, ha⟩ : ∃ q_, q_ = k.O.mul px px := ⟨_, rfl⟩
 have ca := hK.mul px px
 rw [← ha] at ca ⊢
 obtain ⟨bb, hbb⟩ : ∃ q_, q_ = k.O.mul py py := ⟨_, rfl⟩
 have cbb := hK.mul py py
 rw [← hbb] at cbb ⊢
 obtain ⟨s0, hs0⟩ : ∃ q_, q_ = k.O.mul px bb := ⟨_, rfl⟩
 have cs0 := hK.mul px bb
 rw [← hs0] at cs0 ⊢
 obtain ⟨s1, hs1⟩ : ∃ q_, q_ = k.O.add s0 s0 := ⟨_, rfl⟩
 have cs1 := hK.add s0 s0
 rw [← hs1] at cs1 ⊢
 obtain ⟨s2, hs2⟩ : ∃ q_, q_ = k.O.add s1 s1 := ⟨_, rfl⟩
 have cs2 := hK.add s1 s1
 rw [← hs2] at cs2 ⊢
 obtain ⟨aa, haa⟩ : ∃ q_, q_ = k.O.add a a := ⟨_, rfl⟩
 have caa := hK.add a a
 rw [← haa] at caa ⊢
 obtain ⟨e, he⟩ : ∃ q_, q_ = k.O.add aa a := ⟨_, rfl⟩
 have ce := hK.add aa a
 rw [← he] at ce ⊢
 obtain ⟨c0, hc0⟩ : ∃ q_, q_ = k.O.mul bb bb := ⟨_, rfl⟩
 have cc0 := hK.mul bb bb
 rw [← hc0] at cc0 ⊢
 obtain ⟨d1, hd1⟩ : ∃ q_, q_ = k.O.add c0 c0 := ⟨_, rfl⟩
 have cd1 := hK.add c0 c0
 rw [← hd1] at cd1 ⊢
 obtain ⟨d2, hd2⟩ : ∃ q_, q_ = k.O.add d1 d1 := ⟨_, rfl⟩
 have cd2 := hK.add d1 d1
 rw [← hd2] at cd2 ⊢
 obtain ⟨d3, hd3⟩ : ∃ q_, q_ = k.O.add d2 d2 := ⟨_, rfl⟩
 have cd3 := hK.add d2 d2
 rw [← hd3] at cd3 ⊢
 obtain ⟨ee, hee⟩ : ∃ q_, q_ = k.O.mul e e := ⟨_, rfl⟩
 have cee := hK.mul e e
 rw [← hee] at cee ⊢
 obtain ⟨ss, hss⟩ : ∃ q_, q_ = k.O.add s2 s2 := ⟨_, rfl⟩
 have css := hK.add s2 s2
 rw [← hss] at css ⊢
 obtain ⟨x, hx⟩ : ∃ q_, q_ = k.O.sub ee ss := ⟨_, rfl⟩
 have cx := hK.sub ee ss
 rw [← hx] at cx ⊢
 obtain ⟨z0, hz0⟩ : ∃ q_, q_ = k.O.mul py pz := ⟨_, rfl⟩
 have cz0 := hK.mul py pz
 rw [← hz0] at cz0 ⊢
 obtain ⟨d, hd⟩ : ∃ q_, q_ = k.O.sub s2 x := ⟨_, rfl⟩
 have cd := hK.sub s2 x
 rw [← hd] at cd ⊢
 obtain ⟨ed, hed⟩ : ∃ q_, q_ = k.O.mul e d := ⟨_, rfl⟩
 have ced := hK.mul e d
 rw [← hed] at ced ⊢
 obtain ⟨y, hy⟩ : ∃ q_, q_ = k.O.sub ed d3 := ⟨_, rfl⟩
 have cy := hK.sub ed d3
 rw [← hy] at cy ⊢
 obtain ⟨z, hz⟩ : ∃ q_, q_ = k.O.add z0 z0 := ⟨_, rfl⟩
 have cz := hK.add z0 z0
 rw [← hz] at cz ⊢
 refine mk Tryz.func166 rfl rfl L0 R1 (by decide +kernel) fun A S hA hS => ?_
 unfold bodyOf Tryz.f166
 cbv
 repeat ((first | refine ABr.t (by first | assumption | rfl) ?_ | refine ABr.f (by first | assumption | rfl) ?_ | refine aF hS z1 ?_ | refine aF hS z2 ?_ | refine aF hS ca ?_ | refine aF hS cbb ?_ | refine aF hS cs0 ?_ | refine aF hS cs1 ?_ | refine aF hS cs2 ?_ | refine aF hS caa ?_ | refine aF hS ce ?_ | refine aF hS cee ?_ | refine aF hS css ?_ | refine aF hS cx ?_ | refine aF hS cc0 ?_ | refine aF hS cd1 ?_ | refine aF hS cd2 ?_ | refine aF hS cd3 ?_ | refine aF hS cz0 ?_ | refine aF hS cd ?_ | refine aF hS ced ?_ | refine aF hS cy ?_ | refine aF hS cz ?_); cbv)
theorem plusR (p : Cv.Jac α) (x y : α) : Sp 167 [Ct k b, Jt k p, .agg [.lst true k.d (k.row x), .lst true k.d (k.row y), .sb false]] (Jt k (Cv.plusR k.O p x y)) := by
 have tw := twiceR hK p
 obtain ⟨px, py, pz⟩ := p
 have z1 := hK.zero pz
 have no := hK.none
 have on := hK.one
 unfold Cv.plusR
 dsimp only
 by_cases h1 : pz = k.O.zero
 . rw [if_pos h1]
   rw [decide_eq_true h1] at z1
   generalize k.O.zero = z at *
   generalize k.O.one = o at *
   refine mk Tryz.func167 rfl rfl L0 R1 (by decide +kernel) fun A S hA hS => ?_
   unfold bodyOf Tryz.f167
   cbv
   repeat ((first | refine ABr.t (by first | assumption | rfl) ?_ | refine ABr.f (by first | assumption | rfl) ?_ | refine aF hS z1 ?_ | refine aF hS on ?_); cbv)
 rw [if_neg h1]
 rw [decide_eq_false h1] at z1
 obtain ⟨zz, hzz⟩ : ∃ q_, q_ = k.O.mul pz pz := ⟨_, rfl⟩
 have czz := hK.mul pz pz
 rw [← hzz] at czz ⊢
 obtain ⟨qx, hqx⟩ : ∃ q_, q_ = k.O.mul x zz := ⟨_, rfl⟩
 have cqx := hK.mul x zz
 rw [← hqx] at cqx ⊢
 obtain ⟨h, hh⟩ : ∃ q_, q_ = k.O.sub qx px := ⟨_, rfl⟩
 have ch := hK.sub qx px
 rw [← hh] at ch ⊢
 obtain ⟨z3, hz3⟩ : ∃ q_, q_ = k.O.mul zz pz := ⟨_, rfl⟩
 have cz3 := hK.mul zz pz
 rw [← hz3] at cz3 ⊢
 obtain ⟨qy, hqy⟩ : ∃ q_, q_ = k.O.mul y z3 := ⟨_, rfl⟩
 have cqy := hK.mul y z3
 rw [← hqy] at cqy ⊢
 obtain ⟨r, hr⟩ : ∃ q_, q_ = k.O.sub qy py := ⟨_, rfl⟩
 have cr := hK.sub qy py
 rw [← hr] at cr ⊢
 have zh := hK.zero h
 have zr := hK.zero r
 by_cases h2 : h = k.O.zero
 . rw [if_pos h2]
   rw [decide_eq_true h2] at zh
   by_cases h3 : r = k.O.zero
   . rw [if_pos h3]
     rw [decide_eq_true h3] at zr
     clear hqx hh hz3 hqy hr hzz
     generalize Cv.dblR k.O ⟨px, py, pz⟩ = t at *
     refine mk Tryz.func167 rfl rfl L0 R1 (by decide +kernel) fun A S hA hS => ?_
     unfold bodyOf Tryz.f167
     cbv
     repeat ((first | refine ABr.t (by first | assumption | rfl) ?_ | refine ABr.f (by first | assumption | rfl) ?_ | refine aF hS z1 ?_ | refine aF hS czz ?_ | refine aF hS cqx ?_ | refine aF hS ch ?_ | refine aF hS cz3 ?_ | refine aF hS cqy ?_ | refine aF hS cr ?_ | refine aF hS zh ?_ | refine aF hS zr ?_ | refine aF hS tw ?_); cbv)
   . rw [if_neg h3]
     rw [decide_eq_false h3] at zr
     clear hqx hh hz3 hqy hr hzz
     generalize k.O.zero = z at *
     refine mk Tryz.func167 rfl rfl L0 R1 (by decide +kernel) fun A S hA hS => ?_
     unfold bodyOf Tryz.f167
     cbv
     repeat ((first | refine ABr.t (by first | assumption | rfl) ?_ | refine ABr.f (by first | assumption | rfl) ?_ | refine aF hS z1 ?_ | refine aF hS czz ?_ | refine aF hS cqx ?_ | refine aF hS ch ?_ | refine aF hS cz3 ?_ | refine aF hS cqy ?_ | refine aF hS cr ?_ | refine aF hS zh ?_ | refine aF hS zr ?_ | refine aF hS no ?_); cbv)
 rw [if_neg h2]
 rw [decide_eq_false h2] at zh
 obtain ⟨hh2, hhh2⟩ : ∃ q_, q_ = k.O.mul h h := ⟨_, rfl⟩
 have chh2 := hK.mul h h
 rw [← hhh2] at chh2 ⊢
 obtain ⟨hhh, hhhh⟩ : ∃ q_, q_ = k.O.mul hh2 h := ⟨_, rfl⟩
 have chhh := hK.mul hh2 h
 rw [← hhhh] at chhh ⊢
 obtain ⟨v, hv⟩ : ∃ q_, q_ = k.O.mul px hh2 := ⟨_, rfl⟩
 have cv := hK.mul px hh2
 rw [← hv] at cv ⊢
 obtain ⟨rr, hrr⟩ : ∃ q_, q_ = k.O.mul r r := ⟨_, rfl⟩
 have crr := hK.mul r r
 rw [← hrr] at crr ⊢
 obtain ⟨x0, hx0⟩ : ∃ q_, q_ = k.O.sub rr hhh := ⟨_, rfl⟩
 have cx0 := hK.sub rr hhh
 rw [← hx0] at cx0 ⊢
 obtain ⟨vv, hvv⟩ : ∃ q_, q_ = k.O.add v v := ⟨_, rfl⟩
 have cvv := hK.add v v
 rw [← hvv] at cvv ⊢
 obtain ⟨nx, hnx⟩ : ∃ q_, q_ = k.O.sub x0 vv := ⟨_, rfl⟩
 have cnx := hK.sub x0 vv
 rw [← hnx] at cnx ⊢
 obtain ⟨vx, hvx⟩ : ∃ q_, q_ = k.O.sub v nx := ⟨_, rfl⟩
 have cvx := hK.sub v nx
 rw [← hvx] at cvx ⊢
 obtain ⟨rv, hrv⟩ : ∃ q_, q_ = k.O.mul r vx := ⟨_, rfl⟩
 have crv := hK.mul r vx
 rw [← hrv] at crv ⊢
 obtain ⟨yh, hyh⟩ : ∃ q_, q_ = k.O.mul py hhh := ⟨_, rfl⟩
 have cyh := hK.mul py hhh
 rw [← hyh] at cyh ⊢
 obtain ⟨ny, hny⟩ : ∃ q_, q_ = k.O.sub rv yh := ⟨_, rfl⟩
 have cny := hK.sub rv yh
 rw [← hny] at cny ⊢
 obtain ⟨nz, hnz⟩ : ∃ q_, q_ = k.O.mul pz h := ⟨_, rfl⟩
 have cnz := hK.mul pz h
 rw [← hnz] at cnz ⊢
 refine mk Tryz.func167 rfl rfl L0 R1 (by decide +kernel) fun A S hA hS => ?_
 unfold bodyOf Tryz.f167
 cbv
 repeat ((first | refine ABr.t (by first | assumption | rfl) ?_ | refine ABr.f (by first | assumption | rfl) ?_ | refine aF hS z1 ?_ | refine aF hS czz ?_ | refine aF hS cqx ?_ | refine aF hS ch ?_ | refine aF hS cz3 ?_ | refine aF hS cqy ?_ | refine aF hS cr ?_ | refine aF hS zh ?_ | refine aF hS chh2 ?_ | refine aF hS chhh ?_ | refine aF hS cv ?_ | refine aF hS crr ?_ | refine aF hS cx0 ?_ | refine aF hS cvv ?_ | refine aF hS cnx ?_ | refine aF hS cvx ?_ | refine aF hS crv ?_ | refine aF hS cyh ?_ | refine aF hS cny ?_ | refine aF hS cnz ?_); cbv)
end
def timesPt {α : Type} [DecidableEq α] (O : Cv.Ops α) (P : Cv.Pt α) (e : Nat) : Cv.Pt α :=
 match P with
 | none => none
 | some (x, y) => let z := Cv.tr O x y e 256 256
   if z.z = O.zero then none else some (O.mul z.x (O.mul (O.inv z.z) (O.inv z.z)), O.mul z.y (O.mul (O.mul (O.inv z.z) (O.inv z.z)) (O.inv z.z)))
section
variable {α : Type} [DecidableEq α] {k : Rk α} {b : α}
def timesT (k : Rk α) (row : List AVal) (i : AVal) (v : AVal) : List AVal := [.any, .any, .lst true 4 row, .own 0 0, .own 1 0, .any, .own 2 0, .own 3 0, i, v, .any, .any, .any, .any, .any, .any, .any, .any, .any, .any, .any, .any, .any, .any, .any, .any, .any, .any, .any, .any, .any, .any, .any, .any, .any, .any, .any, .any, .any, .any, .any, .any, .any, .any, .any, .any, .any, .any, .any, .any, .any, .any, .any, .any, .any, .any, .any, .any, .any, .any, .any, .any, .any, .any, .any, .any, .any, .any, .any, .any, .any, .any, .any, .any, .any, .any, .any, .any, .any, .any]
def timesHp (k : Rk α) (b x y : α) (z : Cv.Jac α) : List Blk := [⟨true, true, [.lst true k.n k.M, .s .u64 k.f, .lst true k.n k.T, .s .i64 k.D, .lst true k.d (k.row b), .lst true 4 k.R, .lst true k.d k.BX, .lst true k.d k.BY, .b false]⟩,
 ⟨true, true, [.lst true k.d (k.row x), .lst true k.d (k.row y), .sb false]⟩, ⟨true, true, [.v (.slice none 0 0), .v (.slice none 0 0), .b false]⟩, ⟨true, true, [.lst true k.d (k.row z.x), .lst true k.d (k.row z.y), .lst true k.d (k.row z.z)]⟩]
theorem timesRS (hK : OkR k b) (P : Cv.Pt α) {lim : Lim} (hl : lim = limR) {row : List AVal} {e : Nat} (hrow : IsRow row (lim e) 4) : Sp 93 [Ct k b, Pt_ k P, .lst true 4 row] (Pt_ k (timesPt k.O P e)) := by
 have hi := infR hK
 obtain _ | ⟨x, y⟩ := P
 . refine mk Tryz.func93 rfl rfl LN R1 (by decide +kernel) fun A S hA hS => ?_
   unfold bodyOf Tryz.f93
   cbv
   repeat ((first | refine ABr.t (by first | assumption | rfl) ?_ | refine ABr.f (by first | assumption | rfl) ?_ | refine aF hS hi ?_); cbv)
 have zr := hK.zero
 have no := hK.none
 have tw := twiceR hK
 have pl := fun p => plusR hK p x y
 obtain ⟨Z, hZ⟩ : ∃ Z : Nat → Nat → Cv.Jac α, Z = fun j q => Cv.tr k.O x y e 256 (256 - (64 * j + q)) := ⟨_, rfl⟩
 have hZ0 : Z 4 0 = ⟨x, y, k.O.zero⟩ := by rw [hZ]; rfl
 have hZe : Cv.tr k.O x y e 256 256 = Z 0 0 := by rw [hZ]
 have hZj : ∀ j, Z j 64 = Z (j + 1) 0 := fun j => by rw [hZ]; show Cv.tr k.O x y e 256 (256 - (64 * j + 64)) = Cv.tr k.O x y e 256 (256 - (64 * (j + 1) + 0)); rw [Nat.mul_succ, Nat.add_zero]
 have hst : ∀ j q, 64 * j + q < 256 → Z j q = if e / 2 ^ (64 * j + q) % 2 = 1 then Cv.plusR k.O (Cv.stepR k.O (Z j (q + 1))) x y else Cv.stepR k.O (Z j (q + 1)) := fun j q h => by
   rw [hZ]
   show Cv.tr k.O x y e 256 (256 - (64 * j + q)) = _
   obtain ⟨i, hi⟩ : ∃ i, 256 - (64 * j + q) = i + 1 := ⟨255 - (64 * j + q), by omega⟩
   have e1 : 256 - (64 * j + (q + 1)) = i := by omega
   have e2 : 256 - 1 - i = 64 * j + q := by omega
   rw [hi, Cv.tr, e2]
   simp only [e1]
 have le := fun i => lim_range hl e i
 unfold timesPt
 dsimp only
 rw [hZe]
 clear hZ hZe
 refine mk Tryz.func93 rfl rfl LN R1 (by decide +kernel) ?_
 intro A S hA hS
 have e41 : A.bin .sub .i64 (A.len 4) 1 = 3 := e_sub hA (a_len hA 4) rfl rfl (by decide)
 unfold bodyOf Tryz.f93
 cbv
 repeat ((first | refine ABr.t (by first | assumption | rfl) ?_ | refine ABr.f (by first | assumption | rfl) ?_ | refine aF hS no ?_); cbv)
 refine .inv (α := Nat × Int) (fun p => ⟨timesT k row (.s .i64 p.2) .any, timesHp k b x y (Z p.1 0)⟩)
   (fun p => p.1 ≤ 4 ∧ p.2 = (p.1 : Int) - 1) (fun p => p.1) (4, 3) ?_ ⟨Nat.le_refl _, rfl⟩ ?_
 . rw [hZ0]
   cbv
   simp only [and_true, true_and]
   exact e41
 rintro ⟨j, i⟩ ⟨hj, hi⟩
 dsimp only at hj hi ⊢
 by_cases h1 : i ≥ 0
 . obtain ⟨j, rfl⟩ : ∃ t, j = t + 1 := ⟨j - 1, by omega⟩
   have hij : i = (j : Int) := by omega
   have hge : A.cmp .geq i 0 = true := (i_ge hA).trans (decide_eq_true h1)
   have hjk : j < 4 := by omega
   have hsub : A.bin .sub .i64 i 1 = (j : Int) - 1 := e_sub hA hij rfl rfl (by omega)
   obtain ⟨w, hw⟩ : ∃ w : Int, w = (j : Int) - 1 := ⟨_, rfl⟩
   rw [← hw] at hsub
   have hle : j ≤ 4 := by omega
   have hmu : j < j + 1 := by omega
   have hy1 := hZj j
   have hrj := hrow.2 j hjk
   rw [← hy1]
   clear no hZj hZ0
   cbv
   refine ABr.t hge ?_
   cbv
   refine .inv (α := Nat × Int) (fun p => ⟨timesT k row (.s .i64 i) (.s .i64 p.2), timesHp k b x y (Z j p.1)⟩)
     (fun p => p.1 ≤ 64 ∧ p.2 = (p.1 : Int) - 1) (fun p => p.1) (64, 63) ?_ ⟨Nat.le_refl _, rfl⟩ ?_
   . cbv
     try (repeat' (first | exact rfl | exact trivial | constructor))
   rintro ⟨q, v⟩ ⟨hq, hv⟩
   dsimp only at hq hv ⊢
   by_cases h2 : v ≥ 0
   . obtain ⟨q, rfl⟩ : ∃ t, q = t + 1 := ⟨q - 1, by omega⟩
     have hvq : v = (q : Int) := by omega
     have hge2 : A.cmp .geq v 0 = true := (i_ge hA).trans (decide_eq_true h2)
     have hsub2 : A.bin .sub .i64 v 1 = (q : Int) - 1 := e_sub hA hvq rfl rfl (by omega)
     obtain ⟨u, hu⟩ : ∃ u : Int, u = (q : Int) - 1 := ⟨_, rfl⟩
     rw [← hu] at hsub2
     have hle2 : q ≤ 64 := by omega
     have hmu2 : q < q + 1 := by omega
     have hbit : A.bin .and .u64 (A.bin .shr .u64 (lim e j) (A.wrap .u64 v)) 1 = ((e / 2 ^ (64 * j + q) % 2 : Nat) : Int) := by
       rw [u_bit hA (le j) (wrap_small hA hvq (by omega)) (by omega), hl, limR_bit _ _ _ (by omega)]
     have hstep := hst j q (by omega)
     obtain ⟨c, hc⟩ : ∃ c, c = e / 2 ^ (64 * j + q) % 2 := ⟨_, rfl⟩
     rw [← hc] at hbit hstep
     have hok := okb_small hA hvq (by omega)
     have hcmp : A.cmp .eql (A.bin .and .u64 (A.bin .shr .u64 (lim e j) (A.wrap .u64 v)) 1) 1 = decide (c = 1) := by rw [hbit]; exact bit_eq hA c
     have zrq := zr (Z j (q + 1)).z
     have twq := tw (Z j (q + 1))
     have plq := pl (Cv.stepR k.O (Z j (q + 1)))
     have hS1 : (Cv.stepR k.O (Z j (q + 1))) = if (Z j (q + 1)).z = k.O.zero then Z j (q + 1) else Cv.dblR k.O (Z j (q + 1)) := rfl
     generalize Cv.stepR k.O (Z j (q + 1)) = Sq at *
     generalize Cv.plusR k.O Sq x y = Pq at *
     generalize Cv.dblR k.O (Z j (q + 1)) = Dq at *
     obtain ⟨Zn, hZn⟩ : ∃ t, t = Z j q := ⟨_, rfl⟩
     rw [← hZn] at hstep
     generalize Z j (q + 1) = Zq at *
     clear hst hbit hc zr tw pl
     by_cases h0 : Zq.z = k.O.zero
     . rw [if_pos h0] at hS1
       rw [decide_eq_true h0] at zrq
       have n := i_not hA (rfl : true = true)
       subst hS1
       by_cases h3 : c = 1
       . rw [if_pos h3] at hstep
         replace hcmp := hcmp.trans (decide_eq_true h3)
         cbv
         refine ABr.t hge2 ?_
         cbv
         repeat ((first | refine ABr.t (by first | assumption | rfl) ?_ | refine ABr.f (by first | assumption | rfl) ?_ | refine aF hS zrq ?_); cbv)
         refine .mk j hij hjk ?_
         cbv
         refine .mk _ hrj ?_
         cbv
         refine .mk hok ?_
         cbv
         refine ABr.t hcmp ?_
         cbv
         refine aF hS plq ?_
         cbv
         refine ⟨(q, u), ?_, ⟨hle2, hu⟩, hmu2⟩
         dsimp only
         rw [← hZn, hstep]
         cbv
         simp only [and_true, true_and]
         exact hsub2
       . rw [if_neg h3] at hstep
         replace hcmp := hcmp.trans (decide_eq_false h3)
         cbv
         refine ABr.t hge2 ?_
         cbv
         repeat ((first | refine ABr.t (by first | assumption | rfl) ?_ | refine ABr.f (by first | assumption | rfl) ?_ | refine aF hS zrq ?_); cbv)
         refine .mk j hij hjk ?_
         cbv
         refine .mk _ hrj ?_
         cbv
         refine .mk hok ?_
         cbv
         refine ABr.f hcmp ?_
         cbv
         refine ⟨(q, u), ?_, ⟨hle2, hu⟩, hmu2⟩
         dsimp only
         rw [← hZn, hstep]
         cbv
         simp only [and_true, true_and]
         exact hsub2
     . rw [if_neg h0] at hS1
       rw [decide_eq_false h0] at zrq
       have n := i_not hA (rfl : false = false)
       subst hS1
       by_cases h3 : c = 1
       . rw [if_pos h3] at hstep
         replace hcmp := hcmp.trans (decide_eq_true h3)
         cbv
         refine ABr.t hge2 ?_
         cbv
         repeat ((first | refine ABr.t (by first | assumption | rfl) ?_ | refine ABr.f (by first | assumption | rfl) ?_ | refine aF hS zrq ?_ | refine aF hS twq ?_); cbv)
         refine .mk j hij hjk ?_
         cbv
         refine .mk _ hrj ?_
         cbv
         refine .mk hok ?_
         cbv
         refine ABr.t hcmp ?_
         cbv
         refine aF hS plq ?_
         cbv
         refine ⟨(q, u), ?_, ⟨hle2, hu⟩, hmu2⟩
         dsimp only
         rw [← hZn, hstep]
         cbv
         simp only [and_true, true_and]
         exact hsub2
       . rw [if_neg h3] at hstep
         replace hcmp := hcmp.trans (decide_eq_false h3)
         cbv
         refine ABr.t hge2 ?_
         cbv
         repeat ((first | refine ABr.t (by first | assumption | rfl) ?_ | refine ABr.f (by first | assumption | rfl) ?_ | refine aF hS zrq ?_ | refine aF hS twq ?_); cbv)
         refine .mk j hij hjk ?_
         cbv
         refine .mk _ hrj ?_
         cbv
         refine .mk hok ?_
         cbv
         refine ABr.f hcmp ?_
         cbv
         refine ⟨(q, u), ?_, ⟨hle2, hu⟩, hmu2⟩
         dsimp only
         rw [← hZn, hstep]
         cbv
         simp only [and_true, true_and]
         exact hsub2
   . have hge2 : A.cmp .geq v 0 = false := (i_ge hA).trans (decide_eq_false h2)
     obtain rfl : q = 0 := by omega
     clear hst
     cbv
     refine ABr.f hge2 ?_
     cbv
     refine ⟨(j, w), ?_, ⟨hle, hw⟩, hmu⟩
     cbv
     simp only [and_true, true_and]
     exact hsub
 . have hge : A.cmp .geq i 0 = false := (i_ge hA).trans (decide_eq_false h1)
   obtain rfl : j = 0 := by omega
   clear hst hZj hZ0 tw pl
   generalize Z 0 0 = z at *
   have zrz := zr z.z
   obtain ⟨zx, zy, zz⟩ := z
   dsimp only at zrz ⊢
   by_cases h0 : zz = k.O.zero
   . rw [if_pos h0]
     rw [decide_eq_true h0] at zrz
     have hif := infR hK
     cbv
     refine ABr.f hge ?_
     cbv
     repeat ((first | refine ABr.t (by first | assumption | rfl) ?_ | refine ABr.f (by first | assumption | rfl) ?_ | refine aF hS zrz ?_ | refine aF hS hif ?_); cbv)
   . rw [if_neg h0]
     rw [decide_eq_false h0] at zrz
     obtain ⟨i, hi⟩ : ∃ q_, q_ = k.O.inv zz := ⟨_, rfl⟩
     have ci := hK.inv zz
     rw [← hi] at ci ⊢
     obtain ⟨ii, hii⟩ : ∃ q_, q_ = k.O.mul i i := ⟨_, rfl⟩
     have cii := hK.mul i i
     rw [← hii] at cii ⊢
     obtain ⟨nx, hnx⟩ : ∃ q_, q_ = k.O.mul zx ii := ⟨_, rfl⟩
     have cnx := hK.mul zx ii
     rw [← hnx] at cnx ⊢
     obtain ⟨i3, hi3⟩ : ∃ q_, q_ = k.O.mul ii i := ⟨_, rfl⟩
     have ci3 := hK.mul ii i
     rw [← hi3] at ci3 ⊢
     obtain ⟨ny, hny⟩ : ∃ q_, q_ = k.O.mul zy i3 := ⟨_, rfl⟩
     have cny := hK.mul zy i3
     rw [← hny] at cny ⊢
     cbv
     refine ABr.f hge ?_
     cbv
     repeat ((first | refine ABr.t (by first | assumption | rfl) ?_ | refine ABr.f (by first | assumption | rfl) ?_ | refine aF hS zrz ?_ | refine aF hS ci ?_ | refine aF hS cii ?_ | refine aF hS cnx ?_ | refine aF hS ci3 ?_ | refine aF hS cny ?_); cbv)
end
end Go.Proofs.YtmholgclgamnnaaGreat
end
