import Derived.Test.YtmholgclgamnnaaGreatQZCQ
section
set_option linter.unusedVariables false
set_option linter.unusedSectionVars false
set_option linter.unusedSimpArgs false
namespace Go.Proofs.YtmholgclgamnnaaGreat
open Go Eng
set_option maxRecDepth 100000
set_option exponentiation.threshold 2000
set_option maxHeartbeats 4000000
/-- The reference's multiple. -/
def timesPt {α : Type} [DecidableEq α] (O : Cv.Ops α) (P : Cv.Pt α) (e : Nat) : Cv.Pt α :=
  match P with
  | none => none
  | some (x, y) => let z := Cv.tr O x y e 256 256
    if z.z = O.zero then none else some (O.mul z.x (O.mul (O.inv z.z) (O.inv z.z)), O.mul z.y (O.mul (O.mul (O.inv z.z) (O.inv z.z)) (O.inv z.z)))
section
variable {α : Type} [DecidableEq α] {k : Rk α} {b : α}
def timesT (k : Rk α) (row : List AVal) (i : AVal) (v : AVal) : List AVal := [.any, .any, .lst true 4 row, .own 0 0, .own 1 0, .any, .own 2 0, .own 3 0, i, v, .any, .any, .any, .any, .any, .any, .any, .any, .any, .any, .any, .any, .any, .any, .any, .any, .any, .any, .any, .any, .any, .any, .any, .any, .any, .any, .any, .any, .any, .any, .any, .any, .any, .any, .any, .any, .any, .any, .any, .any, .any, .any, .any, .any, .any, .any, .any, .any, .any, .any, .any, .any, .any, .any, .any, .any, .any, .any, .any, .any, .any, .any, .any, .any, .any, .any, .any, .any, .any, .any]
def timesHp (k : Rk α) (b x y : α) (z : Cv.Jac α) : List Blk := [⟨true, true, [.lst true k.n k.M, .s .u64 k.f, .lst true k.n k.T, .s .i64 k.D, .lst true k.d (k.row b), .lst true 4 k.R, .lst true k.d k.BX, .lst true k.d k.BY, .b false]⟩,
  ⟨true, true, [.lst true k.d (k.row x), .lst true k.d (k.row y), .sb false]⟩, ⟨true, true, [.v (.slice none 0 0), .v (.slice none 0 0), .b false]⟩, ⟨true, true, [.lst true k.d (k.row z.x), .lst true k.d (k.row z.y), .lst true k.d (k.row z.z)]⟩]
theorem timesRS (hK : OkR k b) (P : Cv.Pt α) {lim : Lim} (hl : lim = limR) {row : List AVal} {e : Nat} (hrow : IsRow row (lim e) 4) : Sp 93 [Ct k b, Pt_ k P, .lst true 4 row] (Pt_ k (timesPt k.O P e)) := by
  have hi := infR hK
  obtain _ | ⟨x, y⟩ := P
  · refine mk Tryz.func93 rfl rfl LN R1 (by decide +kernel) fun A S hA hS => ?_
    unfold bodyOf Tryz.f93
    cbv
    repeat (first
      | (refine ABr.t (by assumption) ?_; cbv)
      | (refine ABr.f (by assumption) ?_; cbv)
      | (refine ABr.t rfl ?_; cbv)
      | (refine ABr.f rfl ?_; cbv)
      | (refine ACall.mk _ (cf hS hi) ?_; cbv))
  have zr := hK.zero
  have no := hK.none
  have tw := twiceR hK
  have pl := fun p => plusR hK p x y
  obtain ⟨Z, hZ⟩ : ∃ Z : Nat → Nat → Cv.Jac α, Z = fun j q => Cv.tr k.O x y e 256 (256 - (64 * j + q)) := ⟨_, rfl⟩
  have hZ0 : Z 4 0 = ⟨x, y, k.O.zero⟩ := by rw [hZ]; rfl
  have hZe : Cv.tr k.O x y e 256 256 = Z 0 0 := by rw [hZ]
  have hZj : ∀ j, Z j 64 = Z (j + 1) 0 := fun j => by rw [hZ]; show Cv.tr k.O x y e 256 (256 - (64 * j + 64)) = Cv.tr k.O x y e 256 (256 - (64 * (j + 1) + 0)); rw [Nat.mul_succ, Nat.add_zero]
  have hst : ∀ j q, 64 * j + q < 256 → Z j q = if e / 2 ^ (64 * j + q) % 2 = 1 then Cv.plusR k.O (Cv.stepR k.O (Z j (q + 1))) x y else Cv.stepR k.O (Z j (q + 1)) := fun j q h => by
    rw [hZ]
    show Cv.tr k.O x y e 256 (256 - (64 * j + q)) = _
    obtain ⟨i, hi⟩ : ∃ i, 256 - (64 * j + q) = i + 1 := ⟨255 - (64 * j + q), by omega⟩
    have e1 : 256 - (64 * j + (q + 1)) = i := by omega
    have e2 : 256 - 1 - i = 64 * j + q := by omega
    rw [hi, Cv.tr, e2]
    simp only [e1]
  have le := fun i => lim_range hl e i
  unfold timesPt
  dsimp only
  rw [hZe]
  clear hZ hZe
  refine mk Tryz.func93 rfl rfl LN R1 (by decide +kernel) ?_
  intro A S hA hS
  have e41 : A.bin .sub .i64 (A.len 4) 1 = 3 := e_sub hA (a_len hA 4) rfl rfl (by decide)
  unfold bodyOf Tryz.f93
  cbv
  repeat (first
    | (refine ABr.t (by assumption) ?_; cbv)
    | (refine ABr.f (by assumption) ?_; cbv)
    | (refine ABr.t rfl ?_; cbv)
    | (refine ABr.f rfl ?_; cbv)
    | (refine ACall.mk _ (cf hS no) ?_; cbv))
  refine .inv (α := Nat × Int) (fun p => ⟨timesT k row (.s .i64 p.2) .any, timesHp k b x y (Z p.1 0)⟩)
    (fun p => p.1 ≤ 4 ∧ p.2 = (p.1 : Int) - 1) (fun p => p.1) (4, 3) ?_ ⟨Nat.le_refl _, rfl⟩ ?_
  · rw [hZ0]
    cbv
    simp only [and_true, true_and]
    exact e41
  rintro ⟨j, i⟩ ⟨hj, hi⟩
  dsimp only at hj hi ⊢
  by_cases h1 : i ≥ 0
  · obtain ⟨j, rfl⟩ : ∃ t, j = t + 1 := ⟨j - 1, by omega⟩
    have hij : i = (j : Int) := by omega
    have hge : A.cmp .geq i 0 = true := (i_ge hA).trans (decide_eq_true h1)
    have hjk : j < 4 := by omega
    have hsub : A.bin .sub .i64 i 1 = (j : Int) - 1 := e_sub hA hij rfl rfl (by omega)
    obtain ⟨w, hw⟩ : ∃ w : Int, w = (j : Int) - 1 := ⟨_, rfl⟩
    rw [← hw] at hsub
    have hle : j ≤ 4 := by omega
    have hmu : j < j + 1 := by omega
    have hy1 := hZj j
    have hrj := hrow.2 j hjk
    rw [← hy1]
    clear no hZj hZ0
    cbv
    refine ABr.t hge ?_
    cbv
    refine .inv (α := Nat × Int) (fun p => ⟨timesT k row (.s .i64 i) (.s .i64 p.2), timesHp k b x y (Z j p.1)⟩)
      (fun p => p.1 ≤ 64 ∧ p.2 = (p.1 : Int) - 1) (fun p => p.1) (64, 63) ?_ ⟨Nat.le_refl _, rfl⟩ ?_
    · cbv
      try (repeat' (first | exact rfl | exact trivial | constructor))
    rintro ⟨q, v⟩ ⟨hq, hv⟩
    dsimp only at hq hv ⊢
    by_cases h2 : v ≥ 0
    · obtain ⟨q, rfl⟩ : ∃ t, q = t + 1 := ⟨q - 1, by omega⟩
      have hvq : v = (q : Int) := by omega
      have hge2 : A.cmp .geq v 0 = true := (i_ge hA).trans (decide_eq_true h2)
      have hsub2 : A.bin .sub .i64 v 1 = (q : Int) - 1 := e_sub hA hvq rfl rfl (by omega)
      obtain ⟨u, hu⟩ : ∃ u : Int, u = (q : Int) - 1 := ⟨_, rfl⟩
      rw [← hu] at hsub2
      have hle2 : q ≤ 64 := by omega
      have hmu2 : q < q + 1 := by omega
      have hbit : A.bin .and .u64 (A.bin .shr .u64 (lim e j) (A.wrap .u64 v)) 1 = ((e / 2 ^ (64 * j + q) % 2 : Nat) : Int) := by
        rw [u_bit hA (le j) (wrap_small hA hvq (by omega)) (by omega), hl, limR_bit _ _ _ (by omega)]
      have hstep := hst j q (by omega)
      obtain ⟨c, hc⟩ : ∃ c, c = e / 2 ^ (64 * j + q) % 2 := ⟨_, rfl⟩
      rw [← hc] at hbit hstep
      have hok := okb_small hA hvq (by omega)
      have hcmp : A.cmp .eql (A.bin .and .u64 (A.bin .shr .u64 (lim e j) (A.wrap .u64 v)) 1) 1 = decide (c = 1) := by rw [hbit]; exact bit_eq hA c
      have zrq := zr (Z j (q + 1)).z
      have twq := tw (Z j (q + 1))
      have plq := pl (Cv.stepR k.O (Z j (q + 1)))
      have hS1 : (Cv.stepR k.O (Z j (q + 1))) = if (Z j (q + 1)).z = k.O.zero then Z j (q + 1) else Cv.dblR k.O (Z j (q + 1)) := rfl
      generalize Cv.stepR k.O (Z j (q + 1)) = Sq at *
      generalize Cv.plusR k.O Sq x y = Pq at *
      generalize Cv.dblR k.O (Z j (q + 1)) = Dq at *
      obtain ⟨Zn, hZn⟩ : ∃ t, t = Z j q := ⟨_, rfl⟩
      rw [← hZn] at hstep
      generalize Z j (q + 1) = Zq at *
      clear hst hbit hc zr tw pl
      by_cases h0 : Zq.z = k.O.zero
      · rw [if_pos h0] at hS1
        rw [decide_eq_true h0] at zrq
        have n := i_not hA (rfl : true = true)
        subst hS1
        by_cases h3 : c = 1
        · rw [if_pos h3] at hstep
          replace hcmp := hcmp.trans (decide_eq_true h3)
          cbv
          refine ABr.t hge2 ?_
          cbv
          repeat (first
            | (refine ABr.t (by assumption) ?_; cbv)
            | (refine ABr.f (by assumption) ?_; cbv)
            | (refine ABr.t rfl ?_; cbv)
            | (refine ABr.f rfl ?_; cbv)
            | (refine ACall.mk _ (cf hS zrq) ?_; cbv))
          refine .mk j hij hjk ?_
          cbv
          refine .mk _ hrj ?_
          cbv
          refine .mk hok ?_
          cbv
          refine ABr.t hcmp ?_
          cbv
          refine ACall.mk _ (cf hS plq) ?_
          cbv
          refine ⟨(q, u), ?_, ⟨hle2, hu⟩, hmu2⟩
          dsimp only
          rw [← hZn, hstep]
          cbv
          simp only [and_true, true_and]
          exact hsub2
        · rw [if_neg h3] at hstep
          replace hcmp := hcmp.trans (decide_eq_false h3)
          cbv
          refine ABr.t hge2 ?_
          cbv
          repeat (first
            | (refine ABr.t (by assumption) ?_; cbv)
            | (refine ABr.f (by assumption) ?_; cbv)
            | (refine ABr.t rfl ?_; cbv)
            | (refine ABr.f rfl ?_; cbv)
            | (refine ACall.mk _ (cf hS zrq) ?_; cbv))
          refine .mk j hij hjk ?_
          cbv
          refine .mk _ hrj ?_
          cbv
          refine .mk hok ?_
          cbv
          refine ABr.f hcmp ?_
          cbv
          refine ⟨(q, u), ?_, ⟨hle2, hu⟩, hmu2⟩
          dsimp only
          rw [← hZn, hstep]
          cbv
          simp only [and_true, true_and]
          exact hsub2
      · rw [if_neg h0] at hS1
        rw [decide_eq_false h0] at zrq
        have n := i_not hA (rfl : false = false)
        subst hS1
        by_cases h3 : c = 1
        · rw [if_pos h3] at hstep
          replace hcmp := hcmp.trans (decide_eq_true h3)
          cbv
          refine ABr.t hge2 ?_
          cbv
          repeat (first
            | (refine ABr.t (by assumption) ?_; cbv)
            | (refine ABr.f (by assumption) ?_; cbv)
            | (refine ABr.t rfl ?_; cbv)
            | (refine ABr.f rfl ?_; cbv)
            | (refine ACall.mk _ (cf hS zrq) ?_; cbv)
            | (refine ACall.mk _ (cf hS twq) ?_; cbv))
          refine .mk j hij hjk ?_
          cbv
          refine .mk _ hrj ?_
          cbv
          refine .mk hok ?_
          cbv
          refine ABr.t hcmp ?_
          cbv
          refine ACall.mk _ (cf hS plq) ?_
          cbv
          refine ⟨(q, u), ?_, ⟨hle2, hu⟩, hmu2⟩
          dsimp only
          rw [← hZn, hstep]
          cbv
          simp only [and_true, true_and]
          exact hsub2
        · rw [if_neg h3] at hstep
          replace hcmp := hcmp.trans (decide_eq_false h3)
          cbv
          refine ABr.t hge2 ?_
          cbv
          repeat (first
            | (refine ABr.t (by assumption) ?_; cbv)
            | (refine ABr.f (by assumption) ?_; cbv)
            | (refine ABr.t rfl ?_; cbv)
            | (refine ABr.f rfl ?_; cbv)
            | (refine ACall.mk _ (cf hS zrq) ?_; cbv)
            | (refine ACall.mk _ (cf hS twq) ?_; cbv))
          refine .mk j hij hjk ?_
          cbv
          refine .mk _ hrj ?_
          cbv
          refine .mk hok ?_
          cbv
          refine ABr.f hcmp ?_
          cbv
          refine ⟨(q, u), ?_, ⟨hle2, hu⟩, hmu2⟩
          dsimp only
          rw [← hZn, hstep]
          cbv
          simp only [and_true, true_and]
          exact hsub2
    · have hge2 : A.cmp .geq v 0 = false := (i_ge hA).trans (decide_eq_false h2)
      obtain rfl : q = 0 := by omega
      clear hst
      cbv
      refine ABr.f hge2 ?_
      cbv
      refine ⟨(j, w), ?_, ⟨hle, hw⟩, hmu⟩
      cbv
      simp only [and_true, true_and]
      exact hsub
  · have hge : A.cmp .geq i 0 = false := (i_ge hA).trans (decide_eq_false h1)
    obtain rfl : j = 0 := by omega
    clear hst hZj hZ0 tw pl
    generalize Z 0 0 = z at *
    have zrz := zr z.z
    obtain ⟨zx, zy, zz⟩ := z
    dsimp only at zrz ⊢
    by_cases h0 : zz = k.O.zero
    · rw [if_pos h0]
      rw [decide_eq_true h0] at zrz
      have hif := infR hK
      cbv
      refine ABr.f hge ?_
      cbv
      repeat (first
        | (refine ABr.t (by assumption) ?_; cbv)
        | (refine ABr.f (by assumption) ?_; cbv)
        | (refine ABr.t rfl ?_; cbv)
        | (refine ABr.f rfl ?_; cbv)
        | (refine ACall.mk _ (cf hS zrz) ?_; cbv)
        | (refine ACall.mk _ (cf hS hif) ?_; cbv))
    · rw [if_neg h0]
      rw [decide_eq_false h0] at zrz
      obtain ⟨i, hi⟩ : ∃ q_, q_ = k.O.inv zz := ⟨_, rfl⟩
      have ci := hK.inv zz
      rw [← hi] at ci ⊢
      obtain ⟨ii, hii⟩ : ∃ q_, q_ = k.O.mul i i := ⟨_, rfl⟩
      have cii := hK.mul i i
      rw [← hii] at cii ⊢
      obtain ⟨nx, hnx⟩ : ∃ q_, q_ = k.O.mul zx ii := ⟨_, rfl⟩
      have cnx := hK.mul zx ii
      rw [← hnx] at cnx ⊢
      obtain ⟨i3, hi3⟩ : ∃ q_, q_ = k.O.mul ii i := ⟨_, rfl⟩
      have ci3 := hK.mul ii i
      rw [← hi3] at ci3 ⊢
      obtain ⟨ny, hny⟩ : ∃ q_, q_ = k.O.mul zy i3 := ⟨_, rfl⟩
      have cny := hK.mul zy i3
      rw [← hny] at cny ⊢
      cbv
      refine ABr.f hge ?_
      cbv
      repeat (first
        | (refine ABr.t (by assumption) ?_; cbv)
        | (refine ABr.f (by assumption) ?_; cbv)
        | (refine ABr.t rfl ?_; cbv)
        | (refine ABr.f rfl ?_; cbv)
        | (refine ACall.mk _ (cf hS zrz) ?_; cbv)
        | (refine ACall.mk _ (cf hS ci) ?_; cbv)
        | (refine ACall.mk _ (cf hS cii) ?_; cbv)
        | (refine ACall.mk _ (cf hS cnx) ?_; cbv)
        | (refine ACall.mk _ (cf hS ci3) ?_; cbv)
        | (refine ACall.mk _ (cf hS cny) ?_; cbv))
end
end Go.Proofs.YtmholgclgamnnaaGreat
end
section
set_option linter.unusedVariables false
set_option linter.unusedSectionVars false
set_option linter.unusedSimpArgs false
namespace Go.Proofs.YtmholgclgamnnaaGreat
open Go Eng
set_option maxRecDepth 100000
set_option exponentiation.threshold 2000
set_option maxHeartbeats 4000000
def RGood : Nat → Md := fun r => match r with | 0 => .all | 1 => .owl [7, 10] | _ => .mid
section
variable {p : Nat} [NeZero p]
theorem fo_val (u : Fin p) : fo p u.val = u := Fin.ext (Nat.mod_eq_of_lt u.isLt)
/-- A point by its numbers, whatever they are. -/
def PR4_1 (H : H5) (P : PtA) : AVal := .agg [.lst false 1 [.lst false 4 (ws4 H.lim P.x)], .lst false 1 [.lst false 4 (ws4 H.lim P.y)], .sb P.inf]
/-- A point by its numbers, whatever they are. -/
def PR4_2 (H : H5) (P : PtB) : AVal := .agg [.lst false 2 [.lst false 4 (ws4 H.lim P.xa), .lst false 4 (ws4 H.lim P.xb)], .lst false 2 [.lst false 4 (ws4 H.lim P.ya), .lst false 4 (ws4 H.lim P.yb)], .sb P.inf]
/-- A point by its numbers, whatever they are. -/
def PR6_1 (H : H5) (P : PtA) : AVal := .agg [.lst false 1 [.lst false 6 (ws6 H.lim P.x)], .lst false 1 [.lst false 6 (ws6 H.lim P.y)], .sb P.inf]
/-- A point by its numbers, whatever they are. -/
def PR6_2 (H : H5) (P : PtB) : AVal := .agg [.lst false 2 [.lst false 6 (ws6 H.lim P.xa), .lst false 6 (ws6 H.lim P.xb)], .lst false 2 [.lst false 6 (ws6 H.lim P.ya), .lst false 6 (ws6 H.lim P.yb)], .sb P.inf]
end
end Go.Proofs.YtmholgclgamnnaaGreat
end
section
set_option linter.unusedVariables false
set_option linter.unusedSectionVars false
set_option linter.unusedSimpArgs false
namespace Go.Proofs.YtmholgclgamnnaaGreat
open Go Eng
set_option maxRecDepth 100000
set_option exponentiation.threshold 2000
set_option maxHeartbeats 4000000
theorem pt_agg {α : Type} (k : Rk α) (P : Cv.Pt α) : ∃ X Y t, Pt_ k P = .agg [.lst true k.d X, .lst true k.d Y, .sb t] := by
  obtain _ | ⟨x, y⟩ := P
  · exact ⟨_, _, _, rfl⟩
  · exact ⟨_, _, _, rfl⟩
def addE (a b : Nat) : Nat := match a with | 0 => b | n + 1 => n + 1
def grpE {α : Type} (a : Nat) (P : Cv.Pt α) : Nat := match a with | 0 => (match P with | none => 0 | some _ => 72) | n + 1 => n + 1
section
variable {p : Nat} [NeZero p]
end
end Go.Proofs.YtmholgclgamnnaaGreat
end
section
set_option linter.unusedVariables false
set_option linter.unusedSectionVars false
set_option linter.unusedSimpArgs false
namespace Go.Proofs.YtmholgclgamnnaaGreat
open Go Eng
set_option maxRecDepth 100000
set_option exponentiation.threshold 2000
set_option maxHeartbeats 4000000
/-- The words that a plain point holds. -/
def PLv (H : H5) (x0 x1 y0 y1 : Nat) (inf : Bool) : AVal := .agg [.s .u64 (H.lim x0 0), .s .u64 (H.lim x0 1), .s .u64 (H.lim x0 2), .s .u64 (H.lim x0 3), .s .u64 (H.lim x0 4), .s .u64 (H.lim x0 5), .s .u64 (H.lim x1 0), .s .u64 (H.lim x1 1), .s .u64 (H.lim x1 2), .s .u64 (H.lim x1 3), .s .u64 (H.lim x1 4), .s .u64 (H.lim x1 5), .s .u64 (H.lim y0 0), .s .u64 (H.lim y0 1), .s .u64 (H.lim y0 2), .s .u64 (H.lim y0 3), .s .u64 (H.lim y0 4), .s .u64 (H.lim y0 5), .s .u64 (H.lim y1 0), .s .u64 (H.lim y1 1), .s .u64 (H.lim y1 2), .s .u64 (H.lim y1 3), .s .u64 (H.lim y1 4), .s .u64 (H.lim y1 5), .sb inf]
theorem lim_red {H : H5} (hH : H = H5.real) (x n i : Nat) (hi : i < n) : H.lim (x % 2 ^ (64 * n)) i = H.lim x i := by
  rw [hH]
  show ((x % 2 ^ (64 * n) / 2 ^ (64 * i) % 2 ^ 64 : Nat) : Int) = ((x / 2 ^ (64 * i) % 2 ^ 64 : Nat) : Int)
  congr 1
  rw [show 64 * n = 64 * i + (64 + 64 * (n - 1 - i)) by omega, Nat.pow_add, Nat.mod_mul_right_div_self, Nat.pow_add, Nat.mod_mul_right_mod]
theorem lim_top {H : H5} (hH : H = H5.real) {x n : Nat} (hx : x < 2 ^ (64 * n)) (i : Nat) (hi : n ≤ i) : H.lim x i = 0 := by
  rw [hH]
  show ((x / 2 ^ (64 * i) % 2 ^ 64 : Nat) : Int) = 0
  rw [Nat.div_eq_of_lt (Nat.lt_of_lt_of_le hx (Nat.pow_le_pow_right (by decide) (by omega))), Nat.zero_mod]; rfl
theorem lim_z {H : H5} (hH : H = H5.real) (i : Nat) : H.lim 0 i = 0 := by rw [hH]; show ((0 / 2 ^ (64 * i) % 2 ^ 64 : Nat) : Int) = 0; rw [Nat.zero_div]; rfl
def RTo : Nat → Md := fun _ => .own
def RRef : Nat → Md := fun r => match r with | 2 => .all | 3 => .all | _ => .mid
def ROf : Nat → Md := fun _ => .mid
def short_ (k : Nat) : Nat := if k % 8 = 1 then k else k % 18446744073709551616
theorem shortS {H : H5} (hH : H = H5.real) (k : Nat) (hk : k < 2 ^ 256) : Sp 17 [u4 H.lim k] (u4 H.lim (short_ k)) := by
  have l0 : H.lim k 0 = ((k % 18446744073709551616 : Nat) : Int) := by rw [hH]; exact lim_mod rfl k
  have hr := fun A hA => i_ne (A := A) hA (x := A.bin .rem .u64 (H.lim k 0) 8) (y := 1)
  have hq : ∀ A : Ar, A = Ar.real → A.bin .rem .u64 (H.lim k 0) 8 = ((k % 8 : Nat) : Int) := fun A hA => by
    rw [hA, l0]
    show ((k % 18446744073709551616 : Nat) : Int).tmod 8 = _
    rw [Int.tmod_eq_emod_of_nonneg (by omega)]
    omega
  unfold short_
  by_cases h : k % 8 = 1
  · rw [if_pos h]
    refine mk Tryz.func17 rfl rfl L0 R1 (by decide +kernel) fun A S hA hS => ?_
    have e : A.cmp .neq (A.bin .rem .u64 (H.lim k 0) 8) 1 = false := by rw [hr A hA, hq A hA, h]; rfl
    unfold bodyOf Tryz.f17
    cbv
    refine ABr.f e ?_
    cbv
  · rw [if_neg h]
    have e0 : H.lim (k % 18446744073709551616) 0 = H.lim k 0 := lim_red hH k 1 0 (by decide)
    have es : ∀ i, 1 ≤ i → H.lim (k % 18446744073709551616) i = 0 := fun i hi => lim_top hH (n := 1) (Nat.mod_lt _ (by decide)) i hi
    refine mk Tryz.func17 rfl rfl L0 R1 (by decide +kernel) fun A S hA hS => ?_
    have e : A.cmp .neq (A.bin .rem .u64 (H.lim k 0) 8) 1 = true := by rw [hr A hA, hq A hA, decide_eq_false (by omega)]; rfl
    generalize k % 18446744073709551616 = r at *
    unfold bodyOf Tryz.f17
    cbv
    refine ABr.t e ?_
    cbv
    exact ⟨e0.symm, (es 1 (by decide)).symm, (es 2 (by decide)).symm, (es 3 (by decide)).symm⟩
theorem cutS4 {H : H5} (a : Nat) : Sp 81 [u6 H.lim a, .i .i64 4] (.new false 4 1 [.s .u64 (H.lim a 0), .s .u64 (H.lim a 1), .s .u64 (H.lim a 2), .s .u64 (H.lim a 3)]) := by
  refine mk Tryz.func81 rfl rfl L0 R0 (by decide +kernel) fun A S hA hS => ?_
  unfold bodyOf Tryz.f81
  cbv
theorem cutS6 {H : H5} (a : Nat) : Sp 81 [u6 H.lim a, .i .i64 6] (.new false 6 1 [.s .u64 (H.lim a 0), .s .u64 (H.lim a 1), .s .u64 (H.lim a 2), .s .u64 (H.lim a 3), .s .u64 (H.lim a 4), .s .u64 (H.lim a 5)]) := by
  refine mk Tryz.func81 rfl rfl L0 R0 (by decide +kernel) fun A S hA hS => ?_
  unfold bodyOf Tryz.f81
  cbv
theorem to4_1 {H : H5} (hH : H = H5.real) (x0 x1 y0 y1 : Nat) (inf : Bool) : Sp 30 [PLv H x0 x1 y0 y1 inf] (P1_4 H ⟨x0 % 2 ^ (64 * 4), y0 % 2 ^ (64 * 4), inf⟩) := by
  have rx0 := fun i hi => lim_red hH x0 4 i hi
  have ry0 := fun i hi => lim_red hH y0 4 i hi
  generalize x0 % 2 ^ (64 * 4) = mx0 at *
  generalize y0 % 2 ^ (64 * 4) = my0 at *
  refine mk Tryz.func30 rfl rfl L0 RTo (by decide +kernel) fun A S hA hS => ?_
  unfold bodyOf Tryz.f30
  cbv
  exact ⟨(rx0 0 (by decide)).symm, (rx0 1 (by decide)).symm, (rx0 2 (by decide)).symm, (rx0 3 (by decide)).symm, (ry0 0 (by decide)).symm, (ry0 1 (by decide)).symm, (ry0 2 (by decide)).symm, (ry0 3 (by decide)).symm, trivial⟩
theorem from4_1 {H : H5} (hH : H = H5.real) (P : PtA) (hx : P.x < 2 ^ 256) (hy : P.y < 2 ^ 256) : Sp 34 [P1_4 H P] (PLv H P.x 0 P.y 0 P.inf) := by
  have tx := fun i hi => lim_top hH (n := 4) hx i hi
  have ty := fun i hi => lim_top hH (n := 4) hy i hi
  have z := lim_z hH
  obtain ⟨x, y, inf⟩ := P
  dsimp only at *
  refine mk Tryz.func34 rfl rfl L0 RTo (by decide +kernel) fun A S hA hS => ?_
  unfold bodyOf Tryz.f34
  cbv
  exact ⟨(tx 4 (by decide)).symm, (tx 5 (by decide)).symm, (z 0).symm, (z 1).symm, (z 2).symm, (z 3).symm, (z 4).symm, (z 5).symm, (ty 4 (by decide)).symm, (ty 5 (by decide)).symm, (z 0).symm, (z 1).symm, (z 2).symm, (z 3).symm, (z 4).symm, (z 5).symm, trivial⟩
theorem of4_1 {H : H5} (hH : H = H5.real) (P : PtA) (hx : P.x < 2 ^ 256) (hy : P.y < 2 ^ 256) : Sp 45 [PR4_1 H P] (PLv H P.x 0 P.y 0 P.inf) := by
  have tx := fun i hi => lim_top hH (n := 4) hx i hi
  have ty := fun i hi => lim_top hH (n := 4) hy i hi
  have z := lim_z hH
  obtain ⟨x, y, inf⟩ := P
  dsimp only at *
  refine mk Tryz.func45 rfl rfl L0 ROf (by decide +kernel) fun A S hA hS => ?_
  unfold bodyOf Tryz.f45
  cbv
  exact ⟨(tx 4 (by decide)).symm, (tx 5 (by decide)).symm, (z 0).symm, (z 1).symm, (z 2).symm, (z 3).symm, (z 4).symm, (z 5).symm, (ty 4 (by decide)).symm, (ty 5 (by decide)).symm, (z 0).symm, (z 1).symm, (z 2).symm, (z 3).symm, (z 4).symm, (z 5).symm, trivial⟩
theorem to4_2 {H : H5} (hH : H = H5.real) (x0 x1 y0 y1 : Nat) (inf : Bool) : Sp 58 [PLv H x0 x1 y0 y1 inf] (P2_4 H ⟨x0 % 2 ^ (64 * 4), x1 % 2 ^ (64 * 4), y0 % 2 ^ (64 * 4), y1 % 2 ^ (64 * 4), inf⟩) := by
  have rx0 := fun i hi => lim_red hH x0 4 i hi
  have rx1 := fun i hi => lim_red hH x1 4 i hi
  have ry0 := fun i hi => lim_red hH y0 4 i hi
  have ry1 := fun i hi => lim_red hH y1 4 i hi
  generalize x0 % 2 ^ (64 * 4) = mx0 at *
  generalize x1 % 2 ^ (64 * 4) = mx1 at *
  generalize y0 % 2 ^ (64 * 4) = my0 at *
  generalize y1 % 2 ^ (64 * 4) = my1 at *
  refine mk Tryz.func58 rfl rfl L0 RTo (by decide +kernel) fun A S hA hS => ?_
  unfold bodyOf Tryz.f58
  cbv
  exact ⟨(rx0 0 (by decide)).symm, (rx0 1 (by decide)).symm, (rx0 2 (by decide)).symm, (rx0 3 (by decide)).symm, (rx1 0 (by decide)).symm, (rx1 1 (by decide)).symm, (rx1 2 (by decide)).symm, (rx1 3 (by decide)).symm, (ry0 0 (by decide)).symm, (ry0 1 (by decide)).symm, (ry0 2 (by decide)).symm, (ry0 3 (by decide)).symm, (ry1 0 (by decide)).symm, (ry1 1 (by decide)).symm, (ry1 2 (by decide)).symm, (ry1 3 (by decide)).symm, trivial⟩
theorem from4_2 {H : H5} (hH : H = H5.real) (P : PtB) (hxa : P.xa < 2 ^ 256) (hxb : P.xb < 2 ^ 256) (hya : P.ya < 2 ^ 256) (hyb : P.yb < 2 ^ 256) : Sp 46 [P2_4 H P] (PLv H P.xa P.xb P.ya P.yb P.inf) := by
  have txa := fun i hi => lim_top hH (n := 4) hxa i hi
  have txb := fun i hi => lim_top hH (n := 4) hxb i hi
  have tya := fun i hi => lim_top hH (n := 4) hya i hi
  have tyb := fun i hi => lim_top hH (n := 4) hyb i hi
  have z := lim_z hH
  obtain ⟨xa, xb, ya, yb, inf⟩ := P
  dsimp only at *
  refine mk Tryz.func46 rfl rfl L0 RTo (by decide +kernel) fun A S hA hS => ?_
  unfold bodyOf Tryz.f46
  cbv
  exact ⟨(txa 4 (by decide)).symm, (txa 5 (by decide)).symm, (txb 4 (by decide)).symm, (txb 5 (by decide)).symm, (tya 4 (by decide)).symm, (tya 5 (by decide)).symm, (tyb 4 (by decide)).symm, (tyb 5 (by decide)).symm, trivial⟩
theorem of4_2 {H : H5} (hH : H = H5.real) (P : PtB) (hxa : P.xa < 2 ^ 256) (hxb : P.xb < 2 ^ 256) (hya : P.ya < 2 ^ 256) (hyb : P.yb < 2 ^ 256) : Sp 45 [PR4_2 H P] (PLv H P.xa P.xb P.ya P.yb P.inf) := by
  have txa := fun i hi => lim_top hH (n := 4) hxa i hi
  have txb := fun i hi => lim_top hH (n := 4) hxb i hi
  have tya := fun i hi => lim_top hH (n := 4) hya i hi
  have tyb := fun i hi => lim_top hH (n := 4) hyb i hi
  have z := lim_z hH
  obtain ⟨xa, xb, ya, yb, inf⟩ := P
  dsimp only at *
  refine mk Tryz.func45 rfl rfl L0 ROf (by decide +kernel) fun A S hA hS => ?_
  unfold bodyOf Tryz.f45
  cbv
  exact ⟨(txa 4 (by decide)).symm, (txa 5 (by decide)).symm, (txb 4 (by decide)).symm, (txb 5 (by decide)).symm, (tya 4 (by decide)).symm, (tya 5 (by decide)).symm, (tyb 4 (by decide)).symm, (tyb 5 (by decide)).symm, trivial⟩
theorem from6_1 {H : H5} (hH : H = H5.real) (P : PtA) (hx : P.x < 2 ^ 384) (hy : P.y < 2 ^ 384) : Sp 25 [P1_6 H P] (PLv H P.x 0 P.y 0 P.inf) := by
  have tx := fun i hi => lim_top hH (n := 6) hx i hi
  have ty := fun i hi => lim_top hH (n := 6) hy i hi
  have z := lim_z hH
  obtain ⟨x, y, inf⟩ := P
  dsimp only at *
  refine mk Tryz.func25 rfl rfl L0 RTo (by decide +kernel) fun A S hA hS => ?_
  unfold bodyOf Tryz.f25
  cbv
  exact ⟨(z 0).symm, (z 1).symm, (z 2).symm, (z 3).symm, (z 4).symm, (z 5).symm, (z 0).symm, (z 1).symm, (z 2).symm, (z 3).symm, (z 4).symm, (z 5).symm, trivial⟩
theorem of6_1 {H : H5} (hH : H = H5.real) (P : PtA) (hx : P.x < 2 ^ 384) (hy : P.y < 2 ^ 384) : Sp 45 [PR6_1 H P] (PLv H P.x 0 P.y 0 P.inf) := by
  have tx := fun i hi => lim_top hH (n := 6) hx i hi
  have ty := fun i hi => lim_top hH (n := 6) hy i hi
  have z := lim_z hH
  obtain ⟨x, y, inf⟩ := P
  dsimp only at *
  refine mk Tryz.func45 rfl rfl L0 ROf (by decide +kernel) fun A S hA hS => ?_
  unfold bodyOf Tryz.f45
  cbv
  exact ⟨(z 0).symm, (z 1).symm, (z 2).symm, (z 3).symm, (z 4).symm, (z 5).symm, (z 0).symm, (z 1).symm, (z 2).symm, (z 3).symm, (z 4).symm, (z 5).symm, trivial⟩
theorem from6_2 {H : H5} (hH : H = H5.real) (P : PtB) (hxa : P.xa < 2 ^ 384) (hxb : P.xb < 2 ^ 384) (hya : P.ya < 2 ^ 384) (hyb : P.yb < 2 ^ 384) : Sp 42 [P2_6 H P] (PLv H P.xa P.xb P.ya P.yb P.inf) := by
  have txa := fun i hi => lim_top hH (n := 6) hxa i hi
  have txb := fun i hi => lim_top hH (n := 6) hxb i hi
  have tya := fun i hi => lim_top hH (n := 6) hya i hi
  have tyb := fun i hi => lim_top hH (n := 6) hyb i hi
  have z := lim_z hH
  obtain ⟨xa, xb, ya, yb, inf⟩ := P
  dsimp only at *
  refine mk Tryz.func42 rfl rfl L0 RTo (by decide +kernel) fun A S hA hS => ?_
  unfold bodyOf Tryz.f42
  cbv
  skip
theorem of6_2 {H : H5} (hH : H = H5.real) (P : PtB) (hxa : P.xa < 2 ^ 384) (hxb : P.xb < 2 ^ 384) (hya : P.ya < 2 ^ 384) (hyb : P.yb < 2 ^ 384) : Sp 45 [PR6_2 H P] (PLv H P.xa P.xb P.ya P.yb P.inf) := by
  have txa := fun i hi => lim_top hH (n := 6) hxa i hi
  have txb := fun i hi => lim_top hH (n := 6) hxb i hi
  have tya := fun i hi => lim_top hH (n := 6) hya i hi
  have tyb := fun i hi => lim_top hH (n := 6) hyb i hi
  have z := lim_z hH
  obtain ⟨xa, xb, ya, yb, inf⟩ := P
  dsimp only at *
  refine mk Tryz.func45 rfl rfl L0 ROf (by decide +kernel) fun A S hA hS => ?_
  unfold bodyOf Tryz.f45
  cbv
  skip
end Go.Proofs.YtmholgclgamnnaaGreat
end
