import Derived.Test.YtlmlganfjnokiaaBP
import Derived.Test.YtlmlganfjnokiaaBL
set_option linter.unusedVariables false
set_option linter.unusedSimpArgs false
namespace Go.Proofs.Ytlmlganfjnokiaa
open Go Eng
set_option maxRecDepth 100000
set_option exponentiation.threshold 2000
set_option maxHeartbeats 8000000
theorem bigs4 {lim : Lim} (hl : lim = limR) {row : List AVal} {bs : Nat → Nat} {k : Nat} (hrow : IsRowB row bs k) (hk : k ≤ 140737488355328) : ∃ v : Nat,
    (Sp 61 [.lst true k row] (.tup [u4 lim v, .i .i64 0]) ∧ Sp 62 [.lst true k row, .i .i64 4] (.tup [.new false 4 1 (ws4 lim v), .i .i64 0])) ∨
    (Sp 61 [.lst true k row] (.tup [u4 lim v, .i .i64 2]) ∧ Sp 62 [.lst true k row, .i .i64 4] (.tup [.new false 4 1 (ws4 lim v), .i .i64 2])) := by
  by_cases h : k ≤ 8 * 4
  · exact ⟨_, .inl ⟨bigS4 hl hrow h, rBig4 hl hrow h⟩⟩
  · exact ⟨0, .inr ⟨bigL4 hl hk (by omega), rBigL4 hl hk (by omega)⟩⟩
theorem bigs6 {lim : Lim} (hl : lim = limR) {row : List AVal} {bs : Nat → Nat} {k : Nat} (hrow : IsRowB row bs k) (hk : k ≤ 140737488355328) : ∃ v : Nat,
    (Sp 63 [.lst true k row] (.tup [u6 lim v, .i .i64 0]) ∧ Sp 62 [.lst true k row, .i .i64 6] (.tup [.new false 6 1 (ws6 lim v), .i .i64 0])) ∨
    (Sp 63 [.lst true k row] (.tup [u6 lim v, .i .i64 2]) ∧ Sp 62 [.lst true k row, .i .i64 6] (.tup [.new false 6 1 (ws6 lim v), .i .i64 2])) := by
  by_cases h : k ≤ 8 * 6
  · exact ⟨_, .inl ⟨bigS6 hl hrow h, rBig6 hl hrow h⟩⟩
  · exact ⟨0, .inr ⟨bigL6 hl hk (by omega), rBigL6 hl hk (by omega)⟩⟩
theorem fieldBytesS {H : H5} (hH : H = H5.real) (x y u v : Nat) (hx : x < 2 ^ 256) (hy : y < 2 ^ 256) (hu : u < 2 ^ 384) (hv : v < 2 ^ 384) {row : List AVal} {bs : Nat → Nat} {k : Nat} (hrow : IsRowB row bs k) (hk : k ≤ 140737488355328) :
    Sp 10 [.lst true k row, u4 H.lim x, u4 H.lim y, u6 H.lim u, u6 H.lim v] (.sb true) := by
  have hl := H5.hlim hH
  obtain ⟨a4, hb4⟩ := bigs4 hl hrow hk
  obtain ⟨a6, hb6⟩ := bigs6 hl hrow hk
  obtain ⟨B, hB⟩ : ∃ B, B = byteN := ⟨_, rfl⟩
  have p1 := bytesS4 hl hB x
  have p2 := rBytesS4 hl hB x
  have p3 := bytesS6 hl hB u
  have p4 := rBytesS6 hl hB u
  have q1 := LessS4 hH x y hx hy
  have q2 := rLess4 hl x y hx hy (H.lt x y) (by rw [hH]; rfl)
  have q3 := LessS6 hH u v hu hv
  have q4 := rLess6 hl u v hu hv (H.lt u v) (by rw [hH]; rfl)
  have four := fun v => fourS (H := H) v
  have six := fun v => sixS (H := H) v
  have lists := fun v => listS (H := H) v
  have list6s := fun v => list6S (H := H) v
  have hrowl := hrow.1
  have aw := awakeS hH
  generalize H.lt x y = t1 at *
  generalize H.lt u v = t2 at *
  rcases hb4 with ⟨c1, c2⟩ | ⟨c1, c2⟩ <;> rcases hb6 with ⟨c3, c4⟩ | ⟨c3, c4⟩
  all_goals
    refine mk Try.func10 rfl rfl L0 R1 (by decide +kernel) ?_
    intro A S hA hS
    unfold bodyOf Try.f10
    cbv
    refine ACall.mk _ (cf hS aw) ?_
    cbv
    have n4 := fun v => nsame4' hA (lim := H.lim) v
    have n6 := fun v => nsame6' hA (lim := H.lim) v
    have nt := (a_not hA true).trans (rfl : (!true) = false)
    have hroom : A.room k 1 = true := by rw [hA]; exact decide_eq_true (by omega)
    have hend : A.rowend row k 1 = true := by rw [hA]; show (row.length == k * 1) = true; rw [hrowl]; simp
    have es := eqs_str hA
    have eb := eqs_bool hA
    refine ABr.f nt ?_
    cbv
    repeat (first
      | (refine .mk hend ?_; cbv)
      | (refine .mk hroom ?_; cbv)
      | (refine ACall.mk _ (cf hS c1) ?_; cbv)
      | (refine ACall.mk _ (cf hS c2) ?_; cbv)
      | (refine ACall.mk _ (cf hS c3) ?_; cbv)
      | (refine ACall.mk _ (cf hS c4) ?_; cbv)
      | (refine ACall.mk _ (cf hS (four _)) ?_; cbv)
      | (refine ACall.mk _ (cf hS (six _)) ?_; cbv)
      | (refine ABr.f (n4 _) ?_; cbv)
      | (refine ABr.f (n6 _) ?_; cbv)
      | (refine ACall.mk _ (cf hS p1) ?_; cbv)
      | (refine ACall.mk _ (cf hS (lists _)) ?_; cbv)
      | (refine ACall.mk _ (cf hS (list6s _)) ?_; cbv)
      | (refine ACall.mk _ (cf hS p2) ?_; cbv)
      | (refine ACall.mk _ (cf hS p3) ?_; cbv)
      | (refine ACall.mk _ (cf hS p4) ?_; cbv)
      | (refine ABr.t (es _) ?_; cbv)
      | (refine ACall.mk _ (cf hS q1) ?_; cbv)
      | (refine ACall.mk _ (cf hS q2) ?_; cbv)
      | (refine ACall.mk _ (cf hS q3) ?_; cbv)
      | (refine ACall.mk _ (cf hS q4) ?_; cbv)
      | (refine ABr.t (eb _) ?_; cbv))
    exact eb _
end Go.Proofs.Ytlmlganfjnokiaa
