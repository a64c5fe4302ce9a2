import Derived.Test.YtkhipnhdbaahcaaGreatQBWA
import Derived.Test.YtkhipnhdbaahcaaGreatQBF
section
set_option linter.unusedVariables false
set_option linter.unusedSimpArgs false
namespace Go.Proofs.YtkhipnhdbaahcaaGreat
open Go Eng
set_option maxRecDepth 100000
set_option exponentiation.threshold 2000
set_option maxHeartbeats 4000000
/-- A number's bits are so many. -/
def IsLen (x n : Nat) : Prop := x < 2 ^ n ∧ (0 < n → 2 ^ (n - 1) ≤ x)
instance (x n : Nat) : Decidable (IsLen x n) := inferInstanceAs (Decidable (_ ∧ _))
theorem IsLen.le {x n k : Nat} (h : IsLen x n) (hx : 2 ^ k ≤ x) : k < n := by
  rcases Nat.lt_or_ge k n with h1 | h1
  · exact h1
  · have := Nat.pow_le_pow_right (n := 2) (by decide) h1
    have := h.1
    omega
theorem IsLen.ge {x n k : Nat} (h : IsLen x n) (hx : x < 2 ^ k) : n ≤ k := by
  rcases Nat.lt_or_ge k n with h1 | h1
  · have h2 := h.2 (by omega)
    have := Nat.pow_le_pow_right (n := 2) (by decide) (show k ≤ n - 1 by omega)
    omega
  · exact h1
theorem IsLen.div {x n k : Nat} (h : IsLen x n) (hx : 2 ^ k ≤ x) : IsLen (x / 2 ^ k) (n - k) := by
  have hk := h.le hx
  refine ⟨Nat.div_lt_of_lt_mul ?_, fun h0 => (Nat.le_div_iff_mul_le (Nat.two_pow_pos k)).2 ?_⟩
  · rw [← Nat.pow_add, show k + (n - k) = n by omega]; exact h.1
  · rw [← Nat.pow_add, show n - k - 1 + k = n - 1 by omega]; exact h.2 (by omega)
theorem isLen_ex (x : Nat) : ∃ n, IsLen x n := by
  by_cases h : x = 0
  · subst h; exact ⟨0, by decide⟩
  · refine ⟨Nat.log2 x + 1, Nat.lt_log2_self, fun _ => ?_⟩
    exact Nat.log2_self_le h
theorem IsLen.uniq {x n m : Nat} (h : IsLen x n) (k : IsLen x m) : n = m := Nat.le_antisymm (h.ge k.1) (k.ge h.1)
def lenTab : ByteArray := ⟨#[0, 1, 2, 2, 3, 3, 3, 3, 4, 4, 4, 4, 4, 4, 4, 4, 5, 5, 5, 5, 5, 5, 5, 5, 5, 5, 5, 5, 5, 5, 5, 5, 6, 6, 6, 6, 6, 6, 6, 6, 6, 6, 6, 6, 6, 6, 6, 6, 6, 6, 6, 6, 6, 6, 6, 6, 6, 6, 6, 6, 6, 6, 6, 6, 7, 7, 7, 7, 7, 7, 7, 7, 7, 7, 7, 7, 7, 7, 7, 7, 7, 7, 7, 7, 7, 7, 7, 7, 7, 7, 7, 7, 7, 7, 7, 7, 7, 7, 7, 7, 7, 7, 7, 7, 7, 7, 7, 7, 7, 7, 7, 7, 7, 7, 7, 7, 7, 7, 7, 7, 7, 7, 7, 7, 7, 7, 7, 7, 8, 8, 8, 8, 8, 8, 8, 8, 8, 8, 8, 8, 8, 8, 8, 8, 8, 8, 8, 8, 8, 8, 8, 8, 8, 8, 8, 8, 8, 8, 8, 8, 8, 8, 8, 8, 8, 8, 8, 8, 8, 8, 8, 8, 8, 8, 8, 8, 8, 8, 8, 8, 8, 8, 8, 8, 8, 8, 8, 8, 8, 8, 8, 8, 8, 8, 8, 8, 8, 8, 8, 8, 8, 8, 8, 8, 8, 8, 8, 8, 8, 8, 8, 8, 8, 8, 8, 8, 8, 8, 8, 8, 8, 8, 8, 8, 8, 8, 8, 8, 8, 8, 8, 8, 8, 8, 8, 8, 8, 8, 8, 8, 8, 8, 8, 8, 8, 8, 8, 8, 8, 8, 8, 8, 8, 8, 8, 8]⟩
theorem lenTab_ok : ∀ i, i < 256 → ∀ n, n < 9 → IsLen i n → Ar.real.byte lenTab i = (n : Int) := by decide +kernel
theorem u_ge {A : Ar} (hA : A = Ar.real) {x y : Int} : A.cmp .geq x y = decide (x ≥ y) := by rw [hA]; rfl
theorem len64S (x n : Nat) (hx : x < 18446744073709551616) (hn : IsLen x n) : Sp 166 [.s .u64 (x : Int)] (.s .i64 (n : Int)) := by
  have hn64 : n ≤ 64 := hn.ge (k := 64) (by simpa using hx)
  obtain ⟨xi, hxi⟩ : ∃ z : Int, z = (x : Int) := ⟨_, rfl⟩
  obtain ⟨ni, hni⟩ : ∃ z : Int, z = (n : Int) := ⟨_, rfl⟩
  rw [← hxi, ← hni]
  have shr : ∀ (y k : Nat), k ≤ 64 → rbin .shr .u64 (y : Int) (k : Int) = ((y / 2 ^ k : Nat) : Int) := fun y k hk => u_shr y k hk
  by_cases h1 : 2 ^ 32 ≤ x
  · obtain ⟨y1, e1⟩ : ∃ z, z = x / 2 ^ 32 := ⟨_, rfl⟩
    have q1 := hn.div h1
    rw [← e1] at q1
    have w1 := hn.le h1
    have b1 : y1 < 2 ^ 32 := by omega
    by_cases h2 : 2 ^ 16 ≤ y1
    · obtain ⟨y2, e2⟩ : ∃ z, z = y1 / 2 ^ 16 := ⟨_, rfl⟩
      have q2 := q1.div h2
      rw [← e2] at q2
      have w2 := q1.le h2
      have b2 : y2 < 2 ^ 16 := by omega
      by_cases h3 : 2 ^ 8 ≤ y2
      · obtain ⟨y3, e3⟩ : ∃ z, z = y2 / 2 ^ 8 := ⟨_, rfl⟩
        have q3 := q2.div h3
        rw [← e3] at q3
        have w3 := q2.le h3
        have b3 : y3 < 2 ^ 8 := by omega
        have f3 : ∀ A : Ar, A = Ar.real → A.cmp .geq xi 4294967296 = true ∧ A.cmp .geq (A.bin .shr .u64 xi 32) 65536 = true ∧ A.cmp .geq (A.bin .shr .u64 (A.bin .shr .u64 xi 32) 16) 256 = true ∧ A.wrap .u8 (A.bin .shr .u64 (A.bin .shr .u64 (A.bin .shr .u64 xi 32) 16) 8) = (y3 : Int) := by
          intro A hA
          subst hA
          rw [u_ge rfl, u_ge rfl, u_ge rfl]
          show decide (xi ≥ 4294967296) = _ ∧ decide (rbin .shr .u64 xi 32 ≥ 65536) = _ ∧ decide (rbin .shr .u64 (rbin .shr .u64 xi 32) 16 ≥ 256) = _ ∧ IntKind.u8.wrap (rbin .shr .u64 (rbin .shr .u64 (rbin .shr .u64 xi 32) 16) 8) = _
          rw [hxi]
          have g1 := shr x 32 (by decide)
          have g1 : rbin .shr .u64 (x : Int) 32 = (y1 : Int) := by rw [e1]; exact g1
          rw [g1]
          have g2 : rbin .shr .u64 (y1 : Int) 16 = (y2 : Int) := by rw [e2]; exact shr y1 16 (by decide)
          rw [g2]
          have g3 : rbin .shr .u64 (y2 : Int) 8 = (y3 : Int) := by rw [e3]; exact shr y2 8 (by decide)
          rw [g3]
          refine ⟨decide_eq_true (by omega), decide_eq_true (by omega), decide_eq_true (by omega), ?_⟩
          rw [wrap_u8]
          omega
        have hfin : rbin .add .i64 56 (IntKind.i64.wrap (Ar.real.byte lenTab y3)) = ni := by
          rw [lenTab_ok y3 (by omega) (n - 56) (by omega) q3, hni]
          rw [wrap_i64 _ (by omega)]
          show IntKind.i64.wrap (56 + ((n - 56 : Nat) : Int)) = _
          rw [wrap_i64 _ (by omega)]
          omega
        have hy3 : y3 < 256 := by omega
        clear shr
        refine mk Tryz.func166 rfl rfl L0 R1 (by decide +kernel) fun A S hA hS => ?_
        obtain ⟨t1, t2, t3, t4⟩ := f3 A hA
        clear f3
        unfold bodyOf Tryz.f166
        cbv
        refine ABr.t t1 ?_
        cbv
        refine ABr.t t2 ?_
        cbv
        refine ABr.t t3 ?_
        cbv
        refine .mk y3 t4 (by subst hA; exact hy3) ?_
        cbv
        subst hA
        exact hfin
      · obtain ⟨y3, e3⟩ : ∃ z, z = y2 := ⟨_, rfl⟩
        have q3 := q2
        rw [← e3] at q3
        have w3 := q2.ge (Nat.lt_of_not_le h3)
        have b3 : y3 < 2 ^ 8 := by omega
        have f3 : ∀ A : Ar, A = Ar.real → A.cmp .geq xi 4294967296 = true ∧ A.cmp .geq (A.bin .shr .u64 xi 32) 65536 = true ∧ A.cmp .geq (A.bin .shr .u64 (A.bin .shr .u64 xi 32) 16) 256 = false ∧ A.wrap .u8 (A.bin .shr .u64 (A.bin .shr .u64 xi 32) 16) = (y3 : Int) := by
          intro A hA
          subst hA
          rw [u_ge rfl, u_ge rfl, u_ge rfl]
          show decide (xi ≥ 4294967296) = _ ∧ decide (rbin .shr .u64 xi 32 ≥ 65536) = _ ∧ decide (rbin .shr .u64 (rbin .shr .u64 xi 32) 16 ≥ 256) = _ ∧ IntKind.u8.wrap (rbin .shr .u64 (rbin .shr .u64 xi 32) 16) = _
          rw [hxi]
          have g1 := shr x 32 (by decide)
          have g1 : rbin .shr .u64 (x : Int) 32 = (y1 : Int) := by rw [e1]; exact g1
          rw [g1]
          have g2 : rbin .shr .u64 (y1 : Int) 16 = (y2 : Int) := by rw [e2]; exact shr y1 16 (by decide)
          rw [g2]
          refine ⟨decide_eq_true (by omega), decide_eq_true (by omega), decide_eq_false (by omega), ?_⟩
          rw [wrap_u8]
          omega
        have hfin : rbin .add .i64 48 (IntKind.i64.wrap (Ar.real.byte lenTab y3)) = ni := by
          rw [lenTab_ok y3 (by omega) (n - 48) (by omega) q3, hni]
          rw [wrap_i64 _ (by omega)]
          show IntKind.i64.wrap (48 + ((n - 48 : Nat) : Int)) = _
          rw [wrap_i64 _ (by omega)]
          omega
        have hy3 : y3 < 256 := by omega
        clear shr
        refine mk Tryz.func166 rfl rfl L0 R1 (by decide +kernel) fun A S hA hS => ?_
        obtain ⟨t1, t2, t3, t4⟩ := f3 A hA
        clear f3
        unfold bodyOf Tryz.f166
        cbv
        refine ABr.t t1 ?_
        cbv
        refine ABr.t t2 ?_
        cbv
        refine ABr.f t3 ?_
        cbv
        refine .mk y3 t4 (by subst hA; exact hy3) ?_
        cbv
        subst hA
        exact hfin
    · obtain ⟨y2, e2⟩ : ∃ z, z = y1 := ⟨_, rfl⟩
      have q2 := q1
      rw [← e2] at q2
      have w2 := q1.ge (Nat.lt_of_not_le h2)
      have b2 : y2 < 2 ^ 16 := by omega
      by_cases h3 : 2 ^ 8 ≤ y2
      · obtain ⟨y3, e3⟩ : ∃ z, z = y2 / 2 ^ 8 := ⟨_, rfl⟩
        have q3 := q2.div h3
        rw [← e3] at q3
        have w3 := q2.le h3
        have b3 : y3 < 2 ^ 8 := by omega
        have f3 : ∀ A : Ar, A = Ar.real → A.cmp .geq xi 4294967296 = true ∧ A.cmp .geq (A.bin .shr .u64 xi 32) 65536 = false ∧ A.cmp .geq (A.bin .shr .u64 xi 32) 256 = true ∧ A.wrap .u8 (A.bin .shr .u64 (A.bin .shr .u64 xi 32) 8) = (y3 : Int) := by
          intro A hA
          subst hA
          rw [u_ge rfl, u_ge rfl, u_ge rfl]
          show decide (xi ≥ 4294967296) = _ ∧ decide (rbin .shr .u64 xi 32 ≥ 65536) = _ ∧ decide (rbin .shr .u64 xi 32 ≥ 256) = _ ∧ IntKind.u8.wrap (rbin .shr .u64 (rbin .shr .u64 xi 32) 8) = _
          rw [hxi]
          have g1 := shr x 32 (by decide)
          have g1 : rbin .shr .u64 (x : Int) 32 = (y1 : Int) := by rw [e1]; exact g1
          rw [g1]
          have g3 : rbin .shr .u64 (y2 : Int) 8 = (y3 : Int) := by rw [e3]; exact shr y2 8 (by decide)
          rw [← e2]
          rw [g3]
          refine ⟨decide_eq_true (by omega), decide_eq_false (by omega), decide_eq_true (by omega), ?_⟩
          rw [wrap_u8]
          omega
        have hfin : rbin .add .i64 40 (IntKind.i64.wrap (Ar.real.byte lenTab y3)) = ni := by
          rw [lenTab_ok y3 (by omega) (n - 40) (by omega) q3, hni]
          rw [wrap_i64 _ (by omega)]
          show IntKind.i64.wrap (40 + ((n - 40 : Nat) : Int)) = _
          rw [wrap_i64 _ (by omega)]
          omega
        have hy3 : y3 < 256 := by omega
        clear shr
        refine mk Tryz.func166 rfl rfl L0 R1 (by decide +kernel) fun A S hA hS => ?_
        obtain ⟨t1, t2, t3, t4⟩ := f3 A hA
        clear f3
        unfold bodyOf Tryz.f166
        cbv
        refine ABr.t t1 ?_
        cbv
        refine ABr.f t2 ?_
        cbv
        refine ABr.t t3 ?_
        cbv
        refine .mk y3 t4 (by subst hA; exact hy3) ?_
        cbv
        subst hA
        exact hfin
      · obtain ⟨y3, e3⟩ : ∃ z, z = y2 := ⟨_, rfl⟩
        have q3 := q2
        rw [← e3] at q3
        have w3 := q2.ge (Nat.lt_of_not_le h3)
        have b3 : y3 < 2 ^ 8 := by omega
        have f3 : ∀ A : Ar, A = Ar.real → A.cmp .geq xi 4294967296 = true ∧ A.cmp .geq (A.bin .shr .u64 xi 32) 65536 = false ∧ A.cmp .geq (A.bin .shr .u64 xi 32) 256 = false ∧ A.wrap .u8 (A.bin .shr .u64 xi 32) = (y3 : Int) := by
          intro A hA
          subst hA
          rw [u_ge rfl, u_ge rfl, u_ge rfl]
          show decide (xi ≥ 4294967296) = _ ∧ decide (rbin .shr .u64 xi 32 ≥ 65536) = _ ∧ decide (rbin .shr .u64 xi 32 ≥ 256) = _ ∧ IntKind.u8.wrap (rbin .shr .u64 xi 32) = _
          rw [hxi]
          have g1 := shr x 32 (by decide)
          have g1 : rbin .shr .u64 (x : Int) 32 = (y1 : Int) := by rw [e1]; exact g1
          rw [g1]
          refine ⟨decide_eq_true (by omega), decide_eq_false (by omega), decide_eq_false (by omega), ?_⟩
          rw [wrap_u8]
          omega
        have hfin : rbin .add .i64 32 (IntKind.i64.wrap (Ar.real.byte lenTab y3)) = ni := by
          rw [lenTab_ok y3 (by omega) (n - 32) (by omega) q3, hni]
          rw [wrap_i64 _ (by omega)]
          show IntKind.i64.wrap (32 + ((n - 32 : Nat) : Int)) = _
          rw [wrap_i64 _ (by omega)]
          omega
        have hy3 : y3 < 256 := by omega
        clear shr
        refine mk Tryz.func166 rfl rfl L0 R1 (by decide +kernel) fun A S hA hS => ?_
        obtain ⟨t1, t2, t3, t4⟩ := f3 A hA
        clear f3
        unfold bodyOf Tryz.f166
        cbv
        refine ABr.t t1 ?_
        cbv
        refine ABr.f t2 ?_
        cbv
        refine ABr.f t3 ?_
        cbv
        refine .mk y3 t4 (by subst hA; exact hy3) ?_
        cbv
        subst hA
        exact hfin
  · obtain ⟨y1, e1⟩ : ∃ z, z = x := ⟨_, rfl⟩
    have q1 := hn
    rw [← e1] at q1
    have w1 := hn.ge (Nat.lt_of_not_le h1)
    have b1 : y1 < 2 ^ 32 := by omega
    by_cases h2 : 2 ^ 16 ≤ y1
    · obtain ⟨y2, e2⟩ : ∃ z, z = y1 / 2 ^ 16 := ⟨_, rfl⟩
      have q2 := q1.div h2
      rw [← e2] at q2
      have w2 := q1.le h2
      have b2 : y2 < 2 ^ 16 := by omega
      by_cases h3 : 2 ^ 8 ≤ y2
      · obtain ⟨y3, e3⟩ : ∃ z, z = y2 / 2 ^ 8 := ⟨_, rfl⟩
        have q3 := q2.div h3
        rw [← e3] at q3
        have w3 := q2.le h3
        have b3 : y3 < 2 ^ 8 := by omega
        have f3 : ∀ A : Ar, A = Ar.real → A.cmp .geq xi 4294967296 = false ∧ A.cmp .geq (xi) 65536 = true ∧ A.cmp .geq (A.bin .shr .u64 (xi) 16) 256 = true ∧ A.wrap .u8 (A.bin .shr .u64 (A.bin .shr .u64 (xi) 16) 8) = (y3 : Int) := by
          intro A hA
          subst hA
          rw [u_ge rfl, u_ge rfl, u_ge rfl]
          show decide (xi ≥ 4294967296) = _ ∧ decide (xi ≥ 65536) = _ ∧ decide (rbin .shr .u64 (xi) 16 ≥ 256) = _ ∧ IntKind.u8.wrap (rbin .shr .u64 (rbin .shr .u64 (xi) 16) 8) = _
          rw [hxi]
          have g2 : rbin .shr .u64 (y1 : Int) 16 = (y2 : Int) := by rw [e2]; exact shr y1 16 (by decide)
          rw [← e1]
          rw [g2]
          have g3 : rbin .shr .u64 (y2 : Int) 8 = (y3 : Int) := by rw [e3]; exact shr y2 8 (by decide)
          rw [g3]
          refine ⟨decide_eq_false (by omega), decide_eq_true (by omega), decide_eq_true (by omega), ?_⟩
          rw [wrap_u8]
          omega
        have hfin : rbin .add .i64 24 (IntKind.i64.wrap (Ar.real.byte lenTab y3)) = ni := by
          rw [lenTab_ok y3 (by omega) (n - 24) (by omega) q3, hni]
          rw [wrap_i64 _ (by omega)]
          show IntKind.i64.wrap (24 + ((n - 24 : Nat) : Int)) = _
          rw [wrap_i64 _ (by omega)]
          omega
        have hy3 : y3 < 256 := by omega
        clear shr
        refine mk Tryz.func166 rfl rfl L0 R1 (by decide +kernel) fun A S hA hS => ?_
        obtain ⟨t1, t2, t3, t4⟩ := f3 A hA
        clear f3
        unfold bodyOf Tryz.f166
        cbv
        refine ABr.f t1 ?_
        cbv
        refine ABr.t t2 ?_
        cbv
        refine ABr.t t3 ?_
        cbv
        refine .mk y3 t4 (by subst hA; exact hy3) ?_
        cbv
        subst hA
        exact hfin
      · obtain ⟨y3, e3⟩ : ∃ z, z = y2 := ⟨_, rfl⟩
        have q3 := q2
        rw [← e3] at q3
        have w3 := q2.ge (Nat.lt_of_not_le h3)
        have b3 : y3 < 2 ^ 8 := by omega
        have f3 : ∀ A : Ar, A = Ar.real → A.cmp .geq xi 4294967296 = false ∧ A.cmp .geq (xi) 65536 = true ∧ A.cmp .geq (A.bin .shr .u64 (xi) 16) 256 = false ∧ A.wrap .u8 (A.bin .shr .u64 (xi) 16) = (y3 : Int) := by
          intro A hA
          subst hA
          rw [u_ge rfl, u_ge rfl, u_ge rfl]
          show decide (xi ≥ 4294967296) = _ ∧ decide (xi ≥ 65536) = _ ∧ decide (rbin .shr .u64 (xi) 16 ≥ 256) = _ ∧ IntKind.u8.wrap (rbin .shr .u64 (xi) 16) = _
          rw [hxi]
          have g2 : rbin .shr .u64 (y1 : Int) 16 = (y2 : Int) := by rw [e2]; exact shr y1 16 (by decide)
          rw [← e1]
          rw [g2]
          refine ⟨decide_eq_false (by omega), decide_eq_true (by omega), decide_eq_false (by omega), ?_⟩
          rw [wrap_u8]
          omega
        have hfin : rbin .add .i64 16 (IntKind.i64.wrap (Ar.real.byte lenTab y3)) = ni := by
          rw [lenTab_ok y3 (by omega) (n - 16) (by omega) q3, hni]
          rw [wrap_i64 _ (by omega)]
          show IntKind.i64.wrap (16 + ((n - 16 : Nat) : Int)) = _
          rw [wrap_i64 _ (by omega)]
          omega
        have hy3 : y3 < 256 := by omega
        clear shr
        refine mk Tryz.func166 rfl rfl L0 R1 (by decide +kernel) fun A S hA hS => ?_
        obtain ⟨t1, t2, t3, t4⟩ := f3 A hA
        clear f3
        unfold bodyOf Tryz.f166
        cbv
        refine ABr.f t1 ?_
        cbv
        refine ABr.t t2 ?_
        cbv
        refine ABr.f t3 ?_
        cbv
        refine .mk y3 t4 (by subst hA; exact hy3) ?_
        cbv
        subst hA
        exact hfin
    · obtain ⟨y2, e2⟩ : ∃ z, z = y1 := ⟨_, rfl⟩
      have q2 := q1
      rw [← e2] at q2
      have w2 := q1.ge (Nat.lt_of_not_le h2)
      have b2 : y2 < 2 ^ 16 := by omega
      by_cases h3 : 2 ^ 8 ≤ y2
      · obtain ⟨y3, e3⟩ : ∃ z, z = y2 / 2 ^ 8 := ⟨_, rfl⟩
        have q3 := q2.div h3
        rw [← e3] at q3
        have w3 := q2.le h3
        have b3 : y3 < 2 ^ 8 := by omega
        have f3 : ∀ A : Ar, A = Ar.real → A.cmp .geq xi 4294967296 = false ∧ A.cmp .geq (xi) 65536 = false ∧ A.cmp .geq (xi) 256 = true ∧ A.wrap .u8 (A.bin .shr .u64 (xi) 8) = (y3 : Int) := by
          intro A hA
          subst hA
          rw [u_ge rfl, u_ge rfl, u_ge rfl]
          show decide (xi ≥ 4294967296) = _ ∧ decide (xi ≥ 65536) = _ ∧ decide (xi ≥ 256) = _ ∧ IntKind.u8.wrap (rbin .shr .u64 (xi) 8) = _
          rw [hxi]
          have g3 : rbin .shr .u64 (y2 : Int) 8 = (y3 : Int) := by rw [e3]; exact shr y2 8 (by decide)
          rw [← e1, ← e2]
          rw [g3]
          refine ⟨decide_eq_false (by omega), decide_eq_false (by omega), decide_eq_true (by omega), ?_⟩
          rw [wrap_u8]
          omega
        have hfin : rbin .add .i64 8 (IntKind.i64.wrap (Ar.real.byte lenTab y3)) = ni := by
          rw [lenTab_ok y3 (by omega) (n - 8) (by omega) q3, hni]
          rw [wrap_i64 _ (by omega)]
          show IntKind.i64.wrap (8 + ((n - 8 : Nat) : Int)) = _
          rw [wrap_i64 _ (by omega)]
          omega
        have hy3 : y3 < 256 := by omega
        clear shr
        refine mk Tryz.func166 rfl rfl L0 R1 (by decide +kernel) fun A S hA hS => ?_
        obtain ⟨t1, t2, t3, t4⟩ := f3 A hA
        clear f3
        unfold bodyOf Tryz.f166
        cbv
        refine ABr.f t1 ?_
        cbv
        refine ABr.f t2 ?_
        cbv
        refine ABr.t t3 ?_
        cbv
        refine .mk y3 t4 (by subst hA; exact hy3) ?_
        cbv
        subst hA
        exact hfin
      · obtain ⟨y3, e3⟩ : ∃ z, z = y2 := ⟨_, rfl⟩
        have q3 := q2
        rw [← e3] at q3
        have w3 := q2.ge (Nat.lt_of_not_le h3)
        have b3 : y3 < 2 ^ 8 := by omega
        have f3 : ∀ A : Ar, A = Ar.real → A.cmp .geq xi 4294967296 = false ∧ A.cmp .geq (xi) 65536 = false ∧ A.cmp .geq (xi) 256 = false ∧ A.wrap .u8 (xi) = (y3 : Int) := by
          intro A hA
          subst hA
          rw [u_ge rfl, u_ge rfl, u_ge rfl]
          show decide (xi ≥ 4294967296) = _ ∧ decide (xi ≥ 65536) = _ ∧ decide (xi ≥ 256) = _ ∧ IntKind.u8.wrap (xi) = _
          rw [hxi]
          refine ⟨decide_eq_false (by omega), decide_eq_false (by omega), decide_eq_false (by omega), ?_⟩
          rw [wrap_u8]
          omega
        have hfin : rbin .add .i64 0 (IntKind.i64.wrap (Ar.real.byte lenTab y3)) = ni := by
          rw [lenTab_ok y3 (by omega) (n - 0) (by omega) q3, hni]
          rw [wrap_i64 _ (by omega)]
          show IntKind.i64.wrap (0 + ((n - 0 : Nat) : Int)) = _
          rw [wrap_i64 _ (by omega)]
          omega
        have hy3 : y3 < 256 := by omega
        clear shr
        refine mk Tryz.func166 rfl rfl L0 R1 (by decide +kernel) fun A S hA hS => ?_
        obtain ⟨t1, t2, t3, t4⟩ := f3 A hA
        clear f3
        unfold bodyOf Tryz.f166
        cbv
        refine ABr.f t1 ?_
        cbv
        refine ABr.f t2 ?_
        cbv
        refine ABr.f t3 ?_
        cbv
        refine .mk y3 t4 (by subst hA; exact hy3) ?_
        cbv
        subst hA
        exact hfin
end Go.Proofs.YtkhipnhdbaahcaaGreat
end
section
set_option linter.unusedVariables false
set_option linter.unusedSimpArgs false
namespace Go.Proofs.YtkhipnhdbaahcaaGreat
open Go Eng
set_option maxRecDepth 100000
set_option exponentiation.threshold 2000
set_option maxHeartbeats 4000000
/-- A number has so many words. -/
def TopW (x k : Nat) : Prop := x < 2 ^ (64 * k) ∧ (0 < k → 2 ^ (64 * (k - 1)) ≤ x)
theorem topW_ex {x : Nat} (hx : x < 2 ^ 256) : ∃ k, k ≤ 4 ∧ TopW x k := by
  by_cases h3 : 2 ^ 192 ≤ x
  · exact ⟨4, by decide, hx, fun _ => h3⟩
  by_cases h2 : 2 ^ 128 ≤ x
  · exact ⟨3, by decide, Nat.lt_of_not_le h3, fun _ => h2⟩
  by_cases h1 : 2 ^ 64 ≤ x
  · exact ⟨2, by decide, Nat.lt_of_not_le h2, fun _ => h1⟩
  by_cases h0 : 2 ^ 0 ≤ x
  · exact ⟨1, by decide, Nat.lt_of_not_le h1, fun _ => h0⟩
  · exact ⟨0, by decide, Nat.lt_of_not_le h0, fun h => absurd h (by decide)⟩
theorem TopW.zero {x k : Nat} (h : TopW x k) {lim : Lim} (hl : lim = limR) {j : Nat} (hj : k ≤ j) : lim x j = 0 := by
  subst hl
  show ((x / 2 ^ (64 * j) % 2 ^ 64 : Nat) : Int) = 0
  rw [Nat.div_eq_of_lt (Nat.lt_of_lt_of_le h.1 (Nat.pow_le_pow_right (n := 2) (by decide) (by omega)))]; rfl
theorem TopW.top {x k : Nat} (h : TopW x (k + 1)) {lim : Lim} (hl : lim = limR) : lim x k = ((x / 2 ^ (64 * k) : Nat) : Int) ∧ x / 2 ^ (64 * k) < 18446744073709551616 ∧ lim x k ≠ 0 := by
  subst hl
  have h1 : x / 2 ^ (64 * k) < 2 ^ 64 := Nat.div_lt_of_lt_mul (by rw [← Nat.pow_add]; have := h.1; rwa [show 64 * k + 64 = 64 * (k + 1) by omega])
  have h2 : limR x k = ((x / 2 ^ (64 * k) : Nat) : Int) := by
    unfold limR; rw [Nat.mod_eq_of_lt h1]
  have h3 : 0 < x / 2 ^ (64 * k) := Nat.div_pos (h.2 (by omega)) (Nat.two_pow_pos _)
  exact ⟨h2, by simpa using h1, by rw [h2]; omega⟩
theorem ne0_t {A : Ar} (hA : A = Ar.real) {x : Int} (h : x ≠ 0) : A.cmp .neq x 0 = true := by rw [hA]; exact bne_iff_ne.2 h
theorem ne0_f {A : Ar} (hA : A = Ar.real) {x : Int} (h : x = 0) : A.cmp .neq x 0 = false := by rw [hA]; exact bne_eq_false_iff_eq.2 h
theorem eq0_t {A : Ar} (hA : A = Ar.real) {x : Int} (h : x = 0) : A.cmp .eql x 0 = true := by rw [hA]; exact beq_iff_eq.2 h
theorem eq0_f {A : Ar} (hA : A = Ar.real) {x : Int} (h : x ≠ 0) : A.cmp .eql x 0 = false := by rw [hA]; exact beq_eq_false_iff_ne.2 h
theorem bitsS {lim : Lim} (hl : lim = limR) (x n : Nat) (hx : x < 2 ^ 256) (hn : IsLen x n) : Sp 143 [u4 lim x] (.s .i64 (n : Int)) := by
  have hn256 := hn.ge hx
  obtain ⟨k, hk, ht⟩ := topW_ex hx
  rcases (by omega : k = 0 ∨ k = 1 ∨ k = 2 ∨ k = 3 ∨ k = 4) with rfl | rfl | rfl | rfl | rfl
  · have z0 := ht.zero hl (j := 0) (by decide)
    have z1 := ht.zero hl (j := 1) (by decide)
    have z2 := ht.zero hl (j := 2) (by decide)
    have z3 := ht.zero hl (j := 3) (by decide)
    have hn0 : n = 0 := by have := hn.ge (k := 0) ht.1; omega
    obtain ⟨ni, hni⟩ : ∃ z : Int, z = (n : Int) := ⟨_, rfl⟩
    rw [← hni]
    refine mk Tryz.func143 rfl rfl L0 R1 (by decide +kernel) fun A S hA hS => ?_
    have z0 := ne0_f hA z0
    have z1 := ne0_f hA z1
    have z2 := ne0_f hA z2
    have z3 := ne0_f hA z3
    have hfin : (0 : Int) = ni := by omega
    unfold bodyOf Tryz.f143
    cbv
    refine ABr.f z3 ?_
    cbv
    refine ABr.f z2 ?_
    cbv
    refine ABr.f z1 ?_
    cbv
    refine ABr.f z0 ?_
    cbv
    exact hfin
  · have z1 := ht.zero hl (j := 1) (by decide)
    have z2 := ht.zero hl (j := 2) (by decide)
    have z3 := ht.zero hl (j := 3) (by decide)
    obtain ⟨e, el, ez⟩ := ht.top (k := 0) hl
    have hle : 2 ^ 0 ≤ x := ht.2 (by decide)
    have hd : IsLen (x / 2 ^ (64 * 0)) (n - 0) := by rw [Nat.mul_zero, Nat.pow_zero, Nat.div_one]; exact hn
    have cl := len64S _ _ el hd
    rw [← e] at cl
    obtain ⟨ni, hni⟩ : ∃ z : Int, z = (n : Int) := ⟨_, rfl⟩
    rw [Nat.sub_zero, ← hni] at cl
    rw [← hni]
    refine mk Tryz.func143 rfl rfl L0 R1 (by decide +kernel) fun A S hA hS => ?_
    have z1 := ne0_f hA z1
    have z2 := ne0_f hA z2
    have z3 := ne0_f hA z3
    have ez := ne0_t hA ez
    have hfin : A.bin .add .i64 0 ni = ni := by rw [hA]; show IntKind.i64.wrap (0 + ni) = ni; rw [wrap_i64 _ (by omega)]; omega
    unfold bodyOf Tryz.f143
    cbv
    refine ABr.f z3 ?_
    cbv
    refine ABr.f z2 ?_
    cbv
    refine ABr.f z1 ?_
    cbv
    refine ABr.t ez ?_
    cbv
    refine ACall.mk _ (cf hS cl) ?_
    cbv
    exact hfin
  · have z2 := ht.zero hl (j := 2) (by decide)
    have z3 := ht.zero hl (j := 3) (by decide)
    obtain ⟨e, el, ez⟩ := ht.top (k := 1) hl
    have hle : 2 ^ 64 ≤ x := ht.2 (by decide)
    have hd := hn.div hle
    have hlt := hn.le hle
    have cl := len64S _ _ el hd
    rw [← e] at cl
    obtain ⟨ni, hni⟩ : ∃ z : Int, z = (n : Int) := ⟨_, rfl⟩
    obtain ⟨mi, hmi⟩ : ∃ z : Int, z = ((n - 64 : Nat) : Int) := ⟨_, rfl⟩
    rw [← hmi] at cl
    rw [← hni]
    refine mk Tryz.func143 rfl rfl L0 R1 (by decide +kernel) fun A S hA hS => ?_
    have z2 := ne0_f hA z2
    have z3 := ne0_f hA z3
    have ez := ne0_t hA ez
    have hfin : A.bin .add .i64 64 mi = ni := by rw [hA]; show IntKind.i64.wrap (64 + mi) = ni; rw [wrap_i64 _ (by omega)]; omega
    unfold bodyOf Tryz.f143
    cbv
    refine ABr.f z3 ?_
    cbv
    refine ABr.f z2 ?_
    cbv
    refine ABr.t ez ?_
    cbv
    refine ACall.mk _ (cf hS cl) ?_
    cbv
    exact hfin
  · have z3 := ht.zero hl (j := 3) (by decide)
    obtain ⟨e, el, ez⟩ := ht.top (k := 2) hl
    have hle : 2 ^ 128 ≤ x := ht.2 (by decide)
    have hd := hn.div hle
    have hlt := hn.le hle
    have cl := len64S _ _ el hd
    rw [← e] at cl
    obtain ⟨ni, hni⟩ : ∃ z : Int, z = (n : Int) := ⟨_, rfl⟩
    obtain ⟨mi, hmi⟩ : ∃ z : Int, z = ((n - 128 : Nat) : Int) := ⟨_, rfl⟩
    rw [← hmi] at cl
    rw [← hni]
    refine mk Tryz.func143 rfl rfl L0 R1 (by decide +kernel) fun A S hA hS => ?_
    have z3 := ne0_f hA z3
    have ez := ne0_t hA ez
    have hfin : A.bin .add .i64 128 mi = ni := by rw [hA]; show IntKind.i64.wrap (128 + mi) = ni; rw [wrap_i64 _ (by omega)]; omega
    unfold bodyOf Tryz.f143
    cbv
    refine ABr.f z3 ?_
    cbv
    refine ABr.t ez ?_
    cbv
    refine ACall.mk _ (cf hS cl) ?_
    cbv
    exact hfin
  · obtain ⟨e, el, ez⟩ := ht.top (k := 3) hl
    have hle : 2 ^ 192 ≤ x := ht.2 (by decide)
    have hd := hn.div hle
    have hlt := hn.le hle
    have cl := len64S _ _ el hd
    rw [← e] at cl
    obtain ⟨ni, hni⟩ : ∃ z : Int, z = (n : Int) := ⟨_, rfl⟩
    obtain ⟨mi, hmi⟩ : ∃ z : Int, z = ((n - 192 : Nat) : Int) := ⟨_, rfl⟩
    rw [← hmi] at cl
    rw [← hni]
    refine mk Tryz.func143 rfl rfl L0 R1 (by decide +kernel) fun A S hA hS => ?_
    have ez := ne0_t hA ez
    have hfin : A.bin .add .i64 192 mi = ni := by rw [hA]; show IntKind.i64.wrap (192 + mi) = ni; rw [wrap_i64 _ (by omega)]; omega
    unfold bodyOf Tryz.f143
    cbv
    refine ABr.t ez ?_
    cbv
    refine ACall.mk _ (cf hS cl) ?_
    cbv
    exact hfin
theorem trim0S {lim : Lim} (hl : lim = limR) (x : Nat) (ht : TopW x 0) : Sp 161 [.lst false 4 [.s .u64 (lim x 0), .s .u64 (lim x 1), .s .u64 (lim x 2), .s .u64 (lim x 3)]] (.lst false 0 []) := by
  have z0 := ht.zero hl (j := 0) (by decide)
  have z1 := ht.zero hl (j := 1) (by decide)
  have z2 := ht.zero hl (j := 2) (by decide)
  have z3 := ht.zero hl (j := 3) (by decide)
  refine mk Tryz.func161 rfl rfl L0 R1 (by decide +kernel) fun A S hA hS => ?_
  have z0 := eq0_t hA z0
  have z1 := eq0_t hA z1
  have z2 := eq0_t hA z2
  have z3 := eq0_t hA z3
  unfold bodyOf Tryz.f161
  cbv
  refine ABr.t z3 ?_
  cbv
  refine ABr.t z2 ?_
  cbv
  refine ABr.t z1 ?_
  cbv
  refine ABr.t z0 ?_
  cbv
theorem trim1S {lim : Lim} (hl : lim = limR) (x : Nat) (ht : TopW x 1) : Sp 161 [.lst false 4 [.s .u64 (lim x 0), .s .u64 (lim x 1), .s .u64 (lim x 2), .s .u64 (lim x 3)]] (.lst false 1 [.s .u64 (lim x 0)]) := by
  have z1 := ht.zero hl (j := 1) (by decide)
  have z2 := ht.zero hl (j := 2) (by decide)
  have z3 := ht.zero hl (j := 3) (by decide)
  obtain ⟨_, _, ez⟩ := ht.top (k := 0) hl
  refine mk Tryz.func161 rfl rfl L0 R1 (by decide +kernel) fun A S hA hS => ?_
  have z1 := eq0_t hA z1
  have z2 := eq0_t hA z2
  have z3 := eq0_t hA z3
  have ez := eq0_f hA ez
  unfold bodyOf Tryz.f161
  cbv
  refine ABr.t z3 ?_
  cbv
  refine ABr.t z2 ?_
  cbv
  refine ABr.t z1 ?_
  cbv
  refine ABr.f ez ?_
  cbv
theorem trim2S {lim : Lim} (hl : lim = limR) (x : Nat) (ht : TopW x 2) : Sp 161 [.lst false 4 [.s .u64 (lim x 0), .s .u64 (lim x 1), .s .u64 (lim x 2), .s .u64 (lim x 3)]] (.lst false 2 [.s .u64 (lim x 0), .s .u64 (lim x 1)]) := by
  have z2 := ht.zero hl (j := 2) (by decide)
  have z3 := ht.zero hl (j := 3) (by decide)
  obtain ⟨_, _, ez⟩ := ht.top (k := 1) hl
  refine mk Tryz.func161 rfl rfl L0 R1 (by decide +kernel) fun A S hA hS => ?_
  have z2 := eq0_t hA z2
  have z3 := eq0_t hA z3
  have ez := eq0_f hA ez
  unfold bodyOf Tryz.f161
  cbv
  refine ABr.t z3 ?_
  cbv
  refine ABr.t z2 ?_
  cbv
  refine ABr.f ez ?_
  cbv
theorem trim3S {lim : Lim} (hl : lim = limR) (x : Nat) (ht : TopW x 3) : Sp 161 [.lst false 4 [.s .u64 (lim x 0), .s .u64 (lim x 1), .s .u64 (lim x 2), .s .u64 (lim x 3)]] (.lst false 3 [.s .u64 (lim x 0), .s .u64 (lim x 1), .s .u64 (lim x 2)]) := by
  have z3 := ht.zero hl (j := 3) (by decide)
  obtain ⟨_, _, ez⟩ := ht.top (k := 2) hl
  refine mk Tryz.func161 rfl rfl L0 R1 (by decide +kernel) fun A S hA hS => ?_
  have z3 := eq0_t hA z3
  have ez := eq0_f hA ez
  unfold bodyOf Tryz.f161
  cbv
  refine ABr.t z3 ?_
  cbv
  refine ABr.f ez ?_
  cbv
theorem trim4S {lim : Lim} (hl : lim = limR) (x : Nat) (ht : TopW x 4) : Sp 161 [.lst false 4 [.s .u64 (lim x 0), .s .u64 (lim x 1), .s .u64 (lim x 2), .s .u64 (lim x 3)]] (.lst false 4 [.s .u64 (lim x 0), .s .u64 (lim x 1), .s .u64 (lim x 2), .s .u64 (lim x 3)]) := by
  obtain ⟨_, _, ez⟩ := ht.top (k := 3) hl
  refine mk Tryz.func161 rfl rfl L0 R1 (by decide +kernel) fun A S hA hS => ?_
  have ez := eq0_f hA ez
  unfold bodyOf Tryz.f161
  cbv
  refine ABr.f ez ?_
  cbv
theorem word0S {lim : Lim} (hl : lim = limR) (x : Nat) (ht : TopW x 0) : Sp 139 [.lst false 0 []] (u4 lim x) := by
  have z0 := ht.zero hl (j := 0) (by decide)
  have z1 := ht.zero hl (j := 1) (by decide)
  have z2 := ht.zero hl (j := 2) (by decide)
  have z3 := ht.zero hl (j := 3) (by decide)
  refine mk Tryz.func139 rfl rfl L0 R0 (by decide +kernel) fun A S hA hS => ?_
  unfold bodyOf Tryz.f139
  cbv
  repeat' (first | exact z0.symm | exact z1.symm | exact z2.symm | exact z3.symm | exact trivial | exact rfl | constructor)
theorem word1S {lim : Lim} (hl : lim = limR) (x : Nat) (ht : TopW x 1) : Sp 139 [.lst false 1 [.s .u64 (lim x 0)]] (u4 lim x) := by
  have z1 := ht.zero hl (j := 1) (by decide)
  have z2 := ht.zero hl (j := 2) (by decide)
  have z3 := ht.zero hl (j := 3) (by decide)
  refine mk Tryz.func139 rfl rfl L0 R0 (by decide +kernel) fun A S hA hS => ?_
  unfold bodyOf Tryz.f139
  cbv
  repeat' (first | exact z1.symm | exact z2.symm | exact z3.symm | exact trivial | exact rfl | constructor)
theorem word2S {lim : Lim} (hl : lim = limR) (x : Nat) (ht : TopW x 2) : Sp 139 [.lst false 2 [.s .u64 (lim x 0), .s .u64 (lim x 1)]] (u4 lim x) := by
  have z2 := ht.zero hl (j := 2) (by decide)
  have z3 := ht.zero hl (j := 3) (by decide)
  refine mk Tryz.func139 rfl rfl L0 R0 (by decide +kernel) fun A S hA hS => ?_
  unfold bodyOf Tryz.f139
  cbv
  repeat' (first | exact z2.symm | exact z3.symm | exact trivial | exact rfl | constructor)
theorem word3S {lim : Lim} (hl : lim = limR) (x : Nat) (ht : TopW x 3) : Sp 139 [.lst false 3 [.s .u64 (lim x 0), .s .u64 (lim x 1), .s .u64 (lim x 2)]] (u4 lim x) := by
  have z3 := ht.zero hl (j := 3) (by decide)
  refine mk Tryz.func139 rfl rfl L0 R0 (by decide +kernel) fun A S hA hS => ?_
  unfold bodyOf Tryz.f139
  cbv
  repeat' (first | exact z3.symm | exact trivial | exact rfl | constructor)
theorem word4S {lim : Lim} (x : Nat) : Sp 139 [.lst false 4 [.s .u64 (lim x 0), .s .u64 (lim x 1), .s .u64 (lim x 2), .s .u64 (lim x 3)]] (u4 lim x) := by
  refine mk Tryz.func139 rfl rfl L0 R0 (by decide +kernel) fun A S hA hS => ?_
  unfold bodyOf Tryz.f139
  cbv
  repeat' (first | exact rfl | exact trivial | exact rfl | constructor)
theorem shr0 {x : Int} (hx : 0 ≤ x) : rbin .shr .u64 x 0 = x := by
  obtain ⟨x, rfl⟩ : ∃ n : Nat, x = n := ⟨x.toNat, by omega⟩
  exact (u_shr x 0 (by decide)).trans (congrArg Int.ofNat (by rw [Nat.pow_zero, Nat.div_one]))
theorem shl0 {x : Int} (hx : 0 ≤ x ∧ x < 18446744073709551616) : rbin .or .u64 0 (rbin .shl .u64 x 0) = x := by
  obtain ⟨x, rfl⟩ : ∃ n : Nat, x = n := ⟨x.toNat, by omega⟩
  have e : rbin .shl .u64 (x : Int) 0 = (x : Int) := (u_shl x 0 (by decide)).trans (congrArg Int.ofNat (by rw [Nat.pow_zero, Nat.mul_one]; exact Nat.mod_eq_of_lt (by omega)))
  rw [e]
  exact (u_or 0 x (by decide) (by omega)).trans (congrArg Int.ofNat (Nat.zero_or x))
theorem shiftedS (w : Nat → Int) (hw : ∀ i, i < 4 → 0 ≤ w i ∧ w i < 18446744073709551616) : Sp 164 [.lst false 4 [.s .u64 (w 0), .s .u64 (w 1), .s .u64 (w 2), .s .u64 (w 3)], .i .u64 0] (.new false 5 1 [.s .u64 (w 0), .s .u64 (w 1), .s .u64 (w 2), .s .u64 (w 3), .i .u64 0]) := by
  have h := fun i hi => shl0 (hw i hi)
  refine mk Tryz.func164 rfl rfl L0 R0 (by decide +kernel) fun A S hA hS => ?_
  have h : ∀ i, i < 4 → A.bin .or .u64 0 (A.bin .shl .u64 (w i) 0) = w i := by subst hA; exact h
  have h0 := h 0 (by decide)
  have h1 := h 1 (by decide)
  have h2 := h 2 (by decide)
  have h3 := h 3 (by decide)
  clear h
  unfold bodyOf Tryz.f164
  cbv
  repeat' (first | exact h0 | exact h1 | exact h2 | exact h3 | exact trivial | exact rfl | constructor)
end Go.Proofs.YtkhipnhdbaahcaaGreat
end
section
set_option linter.unusedVariables false
set_option linter.unusedSimpArgs false
namespace Go.Proofs.YtkhipnhdbaahcaaGreat
open Go Eng
set_option maxRecDepth 100000
set_option exponentiation.threshold 2000
set_option maxHeartbeats 4000000
theorem lzS : Sp 163 [.s .u64 18446744073709551615] (.i .i64 0) := by
  have c := len64S 18446744073709551615 64 (by decide) (by decide)
  refine mk Tryz.func163 rfl rfl L0 R1 (by decide +kernel) fun A S hA hS => ?_
  have h : A.bin .sub .i64 64 64 = 0 := by rw [hA]; rfl
  unfold bodyOf Tryz.f163
  cbv
  refine ACall.mk _ (cf hS c) ?_
  cbv
  exact h
theorem quo_u {x y : Nat} (hx : x < 18446744073709551616) : rbin .quo .u64 (x : Int) (y : Int) = ((x / y : Nat) : Int) := by
  show IntKind.u64.wrap (Int.tdiv x y) = _
  rw [wrap_u64]
  have : x / y ≤ x := Nat.div_le_self _ _
  rw [← Int.ofNat_tdiv]
  generalize x / y = q at *
  omega
theorem rem_u {x y : Nat} : rbin .rem .u64 (x : Int) (y : Int) = ((x % y : Nat) : Int) := Int.ofNat_tmod x y
/-- A division of one word by one word. -/
theorem div0S (x y : Nat) (hx : x < 18446744073709551616) (hy : 0 < y) : Sp 168 [.i .u64 0, .s .u64 (x : Int), .s .u64 (y : Int)] (.tup [.s .u64 ((x / y : Nat) : Int), .s .u64 ((x % y : Nat) : Int)]) := by
  have q := quo_u (y := y) hx
  have r := rem_u (x := x) (y := y)
  generalize ((x / y : Nat) : Int) = qi at *
  generalize ((x % y : Nat) : Int) = ri at *
  obtain ⟨yi, hyi⟩ : ∃ z : Int, z = (y : Int) := ⟨_, rfl⟩
  have hy0 : yi ≠ 0 := by omega
  have hyp : ¬ yi ≤ 0 := by omega
  rw [← hyi] at q r ⊢
  generalize (x : Int) = xi at *
  clear hyi
  refine mk Tryz.func168 rfl rfl L0 R1 (by decide +kernel) fun A S hA hS => ?_
  have e1 := eq0_f hA hy0
  have e2 : A.cmp .leq yi 0 = false := by rw [hA]; exact decide_eq_false hyp
  have ok : A.okb .quo yi = true ∧ A.okb .rem yi = true := by
    rw [hA]
    have : rokb .quo yi = true := by show (!(yi == 0)) = true; rw [beq_eq_false_iff_ne.2 hy0]; rfl
    exact ⟨this, this⟩
  have q : A.bin .quo .u64 xi yi = qi := by rw [hA]; exact q
  have r : A.bin .rem .u64 xi yi = ri := by rw [hA]; exact r
  unfold bodyOf Tryz.f168
  cbv
  refine ABr.f e1 ?_
  cbv
  refine ABr.f e2 ?_
  cbv
  refine .mk ok.1 ?_
  cbv
  refine .mk ok.2 ?_
  cbv
  exact ⟨q, r⟩
theorem add00 {A : Ar} (hA : A = Ar.real) : A.bin .add .u64 0 0 = 0 := by rw [hA]; rfl
theorem mul0 (v : Int) (hv : 0 ≤ v ∧ v < 18446744073709551616) : Sp 167 [.s .u64 0, .s .u64 v] (.tup [.s .u64 0, .s .u64 0]) := by
  obtain ⟨v, rfl⟩ : ∃ n : Nat, v = n := ⟨v.toNat, by omega⟩
  exact mul64S 0 v 0 0 (by decide) (by have := hv.2; simpa using (by omega : v < 18446744073709551616)) (by rw [Nat.zero_mul]) (by decide)
theorem mul1 (v : Int) (hv : 0 ≤ v ∧ v < 18446744073709551616) : Sp 167 [.s .u64 1, .s .u64 v] (.tup [.s .u64 0, .s .u64 v]) := by
  obtain ⟨v, rfl⟩ : ∃ n : Nat, v = n := ⟨v.toNat, by omega⟩
  exact mul64S 1 v 0 v (by decide) (by have := hv.2; simpa using (by omega : v < 18446744073709551616)) (by rw [Nat.one_mul, Nat.mul_zero, Nat.add_zero]) (by have := hv.2; simpa using (by omega : v < 18446744073709551616))
theorem take0S (u0 u1 u2 u3 v0 v1 v2 v3 : Int) (hu0 : 0 ≤ u0 ∧ u0 < 18446744073709551616) (hu1 : 0 ≤ u1 ∧ u1 < 18446744073709551616) (hu2 : 0 ≤ u2 ∧ u2 < 18446744073709551616) (hu3 : 0 ≤ u3 ∧ u3 < 18446744073709551616) (hv0 : 0 ≤ v0 ∧ v0 < 18446744073709551616) (hv1 : 0 ≤ v1 ∧ v1 < 18446744073709551616) (hv2 : 0 ≤ v2 ∧ v2 < 18446744073709551616) (hv3 : 0 ≤ v3 ∧ v3 < 18446744073709551616) (C : Blk) : SpecM Tryz.prog 169 [⟨true, true, [.s .u64 u0, .s .u64 u1, .s .u64 u2, .s .u64 u3, .i .u64 0]⟩, ⟨true, true, [.s .u64 v0, .s .u64 v1, .s .u64 v2, .s .u64 v3, .i .u64 0]⟩, C] [.osl false 0 0 5 1, .osl false 1 0 4 1, .s .u64 0] (.sb false) [⟨true, true, [.s .u64 u0, .s .u64 u1, .s .u64 u2, .s .u64 u3, .s .u64 0]⟩, ⟨true, true, [.s .u64 v0, .s .u64 v1, .s .u64 v2, .s .u64 v3, .i .u64 0]⟩, C] := by
  refine mkM Tryz.func169 rfl rfl L0 R0 (by decide +kernel) fun A S hA hS => ?_
  have a00 := add00 hA
  have hne : A.cmp .neq 0 0 = false := ne0_f hA rfl
  unfold bodyOf Tryz.f169
  cbv
  refine ACall.mk _ (cf hS (mul0 v0 hv0)) ?_
  cbv
  refine ACall.mk (.tup [.s .u64 0, .s .u64 0]) (cg hS (add64S (x := 0) (y := 0) (z := 0) (.s _) (.i _) (.i _) (by omega) (by omega) (by omega) 0 0 (by omega) (by omega)) ?_) ?_
  · cbv
    repeat' (first | exact a00 | exact rfl | exact trivial | constructor)
  cbv
  refine ACall.mk (.tup [.s .u64 u0, .s .u64 0]) (cg hS (sub64S (x := u0) (y := 0) (z := 0) (.s _) (.s _) (.i _) hu0 (by omega) (by omega) u0 0 (by omega) hu0) ?_) ?_
  · cbv
    repeat' (first | exact rfl | exact trivial | constructor)
  cbv
  refine ACall.mk _ (cf hS (mul0 v1 hv1)) ?_
  cbv
  refine ACall.mk (.tup [.s .u64 0, .s .u64 0]) (cg hS (add64S (x := 0) (y := 0) (z := 0) (.s _) (.i _) (.i _) (by omega) (by omega) (by omega) 0 0 (by omega) (by omega)) ?_) ?_
  · cbv
    repeat' (first | exact a00 | exact rfl | exact trivial | constructor)
  cbv
  refine ACall.mk (.tup [.s .u64 u1, .s .u64 0]) (cg hS (sub64S (x := u1) (y := 0) (z := 0) (.s _) (.s _) (.i _) hu1 (by omega) (by omega) u1 0 (by omega) hu1) ?_) ?_
  · cbv
    repeat' (first | exact rfl | exact trivial | constructor)
  cbv
  refine ACall.mk _ (cf hS (mul0 v2 hv2)) ?_
  cbv
  refine ACall.mk (.tup [.s .u64 0, .s .u64 0]) (cg hS (add64S (x := 0) (y := 0) (z := 0) (.s _) (.i _) (.i _) (by omega) (by omega) (by omega) 0 0 (by omega) (by omega)) ?_) ?_
  · cbv
    repeat' (first | exact a00 | exact rfl | exact trivial | constructor)
  cbv
  refine ACall.mk (.tup [.s .u64 u2, .s .u64 0]) (cg hS (sub64S (x := u2) (y := 0) (z := 0) (.s _) (.s _) (.i _) hu2 (by omega) (by omega) u2 0 (by omega) hu2) ?_) ?_
  · cbv
    repeat' (first | exact rfl | exact trivial | constructor)
  cbv
  refine ACall.mk _ (cf hS (mul0 v3 hv3)) ?_
  cbv
  refine ACall.mk (.tup [.s .u64 0, .s .u64 0]) (cg hS (add64S (x := 0) (y := 0) (z := 0) (.s _) (.i _) (.i _) (by omega) (by omega) (by omega) 0 0 (by omega) (by omega)) ?_) ?_
  · cbv
    repeat' (first | exact a00 | exact rfl | exact trivial | constructor)
  cbv
  refine ACall.mk (.tup [.s .u64 u3, .s .u64 0]) (cg hS (sub64S (x := u3) (y := 0) (z := 0) (.s _) (.s _) (.i _) hu3 (by omega) (by omega) u3 0 (by omega) hu3) ?_) ?_
  · cbv
    repeat' (first | exact rfl | exact trivial | constructor)
  cbv
  refine ACall.mk (.tup [.s .u64 0, .s .u64 0]) (cg hS (sub64S (x := 0) (y := 0) (z := 0) (.i _) (.s _) (.s _) (by omega) (by omega) (by omega) 0 0 (by omega) (by omega)) ?_) ?_
  · cbv
    repeat' (first | exact a00 | exact rfl | exact trivial | constructor)
  cbv
  exact ⟨congrArg AVal.sb hne, trivial⟩
theorem take1S (u0 u1 u2 u3 v0 v1 v2 v3 o0 o1 o2 o3 k1 k2 k3 k4 : Int) (hu0 : 0 ≤ u0 ∧ u0 < 18446744073709551616) (hu1 : 0 ≤ u1 ∧ u1 < 18446744073709551616) (hu2 : 0 ≤ u2 ∧ u2 < 18446744073709551616) (hu3 : 0 ≤ u3 ∧ u3 < 18446744073709551616) (hv0 : 0 ≤ v0 ∧ v0 < 18446744073709551616) (hv1 : 0 ≤ v1 ∧ v1 < 18446744073709551616) (hv2 : 0 ≤ v2 ∧ v2 < 18446744073709551616) (hv3 : 0 ≤ v3 ∧ v3 < 18446744073709551616) (e0 : o0 - 18446744073709551616 * k1 = u0 - v0 - 0) (e1 : o1 - 18446744073709551616 * k2 = u1 - v1 - k1) (e2 : o2 - 18446744073709551616 * k3 = u2 - v2 - k2) (e3 : o3 - 18446744073709551616 * k4 = u3 - v3 - k3) (r0 : 0 ≤ o0 ∧ o0 < 18446744073709551616) (r1 : 0 ≤ o1 ∧ o1 < 18446744073709551616) (r2 : 0 ≤ o2 ∧ o2 < 18446744073709551616) (r3 : 0 ≤ o3 ∧ o3 < 18446744073709551616) (q1 : 0 ≤ k1 ∧ k1 ≤ 1) (q2 : 0 ≤ k2 ∧ k2 ≤ 1) (q3 : 0 ≤ k3 ∧ k3 ≤ 1) (q4 : 0 ≤ k4 ∧ k4 ≤ 1) (hk : k4 = 0) (C : Blk) : SpecM Tryz.prog 169 [⟨true, true, [.s .u64 u0, .s .u64 u1, .s .u64 u2, .s .u64 u3, .i .u64 0]⟩, ⟨true, true, [.s .u64 v0, .s .u64 v1, .s .u64 v2, .s .u64 v3, .i .u64 0]⟩, C] [.osl false 0 0 5 1, .osl false 1 0 4 1, .s .u64 1] (.sb false) [⟨true, true, [.s .u64 o0, .s .u64 o1, .s .u64 o2, .s .u64 o3, .s .u64 0]⟩, ⟨true, true, [.s .u64 v0, .s .u64 v1, .s .u64 v2, .s .u64 v3, .i .u64 0]⟩, C] := by
  subst hk
  refine mkM Tryz.func169 rfl rfl L0 R0 (by decide +kernel) fun A S hA hS => ?_
  have a00 := add00 hA
  have hne : A.cmp .neq 0 0 = false := ne0_f hA rfl
  unfold bodyOf Tryz.f169
  cbv
  refine ACall.mk _ (cf hS (mul1 v0 hv0)) ?_
  cbv
  refine ACall.mk (.tup [.s .u64 v0, .s .u64 0]) (cg hS (add64S (x := v0) (y := 0) (z := 0) (.s _) (.i _) (.i _) hv0.1 (by omega) (by omega) v0 0 (by omega) hv0) ?_) ?_
  · cbv
    repeat' (first | exact a00 | exact rfl | exact trivial | constructor)
  cbv
  refine ACall.mk (.tup [.s .u64 o0, .s .u64 k1]) (cg hS (sub64S (x := u0) (y := v0) (z := 0) (.s _) (.s _) (.s _) hu0 hv0 (by omega) o0 k1 (by omega) r0) ?_) ?_
  · cbv
    repeat' (first | exact rfl | exact trivial | constructor)
  cbv
  refine ACall.mk _ (cf hS (mul1 v1 hv1)) ?_
  cbv
  refine ACall.mk (.tup [.s .u64 v1, .s .u64 0]) (cg hS (add64S (x := v1) (y := 0) (z := 0) (.s _) (.i _) (.i _) hv1.1 (by omega) (by omega) v1 0 (by omega) hv1) ?_) ?_
  · cbv
    repeat' (first | exact a00 | exact rfl | exact trivial | constructor)
  cbv
  refine ACall.mk (.tup [.s .u64 o1, .s .u64 k2]) (cg hS (sub64S (x := u1) (y := v1) (z := k1) (.s _) (.s _) (.s _) hu1 hv1 q1 o1 k2 (by omega) r1) ?_) ?_
  · cbv
    repeat' (first | exact rfl | exact trivial | constructor)
  cbv
  refine ACall.mk _ (cf hS (mul1 v2 hv2)) ?_
  cbv
  refine ACall.mk (.tup [.s .u64 v2, .s .u64 0]) (cg hS (add64S (x := v2) (y := 0) (z := 0) (.s _) (.i _) (.i _) hv2.1 (by omega) (by omega) v2 0 (by omega) hv2) ?_) ?_
  · cbv
    repeat' (first | exact a00 | exact rfl | exact trivial | constructor)
  cbv
  refine ACall.mk (.tup [.s .u64 o2, .s .u64 k3]) (cg hS (sub64S (x := u2) (y := v2) (z := k2) (.s _) (.s _) (.s _) hu2 hv2 q2 o2 k3 (by omega) r2) ?_) ?_
  · cbv
    repeat' (first | exact rfl | exact trivial | constructor)
  cbv
  refine ACall.mk _ (cf hS (mul1 v3 hv3)) ?_
  cbv
  refine ACall.mk (.tup [.s .u64 v3, .s .u64 0]) (cg hS (add64S (x := v3) (y := 0) (z := 0) (.s _) (.i _) (.i _) hv3.1 (by omega) (by omega) v3 0 (by omega) hv3) ?_) ?_
  · cbv
    repeat' (first | exact a00 | exact rfl | exact trivial | constructor)
  cbv
  refine ACall.mk (.tup [.s .u64 o3, .s .u64 0]) (cg hS (sub64S (x := u3) (y := v3) (z := k3) (.s _) (.s _) (.s _) hu3 hv3 q3 o3 0 (by omega) r3) ?_) ?_
  · cbv
    repeat' (first | exact rfl | exact trivial | constructor)
  cbv
  refine ACall.mk (.tup [.s .u64 0, .s .u64 0]) (cg hS (sub64S (x := 0) (y := 0) (z := 0) (.i _) (.s _) (.s _) (by omega) (by omega) (by omega) 0 0 (by omega) (by omega)) ?_) ?_
  · cbv
    repeat' (first | exact a00 | exact rfl | exact trivial | constructor)
  cbv
  exact ⟨congrArg AVal.sb hne, trivial⟩
theorem take1bS (u0 u1 u2 u3 v0 v1 v2 v3 o0 o1 o2 o3 k1 k2 k3 k4 : Int) (hu0 : 0 ≤ u0 ∧ u0 < 18446744073709551616) (hu1 : 0 ≤ u1 ∧ u1 < 18446744073709551616) (hu2 : 0 ≤ u2 ∧ u2 < 18446744073709551616) (hu3 : 0 ≤ u3 ∧ u3 < 18446744073709551616) (hv0 : 0 ≤ v0 ∧ v0 < 18446744073709551616) (hv1 : 0 ≤ v1 ∧ v1 < 18446744073709551616) (hv2 : 0 ≤ v2 ∧ v2 < 18446744073709551616) (hv3 : 0 ≤ v3 ∧ v3 < 18446744073709551616) (e0 : o0 - 18446744073709551616 * k1 = u0 - v0 - 0) (e1 : o1 - 18446744073709551616 * k2 = u1 - v1 - k1) (e2 : o2 - 18446744073709551616 * k3 = u2 - v2 - k2) (e3 : o3 - 18446744073709551616 * k4 = u3 - v3 - k3) (r0 : 0 ≤ o0 ∧ o0 < 18446744073709551616) (r1 : 0 ≤ o1 ∧ o1 < 18446744073709551616) (r2 : 0 ≤ o2 ∧ o2 < 18446744073709551616) (r3 : 0 ≤ o3 ∧ o3 < 18446744073709551616) (q1 : 0 ≤ k1 ∧ k1 ≤ 1) (q2 : 0 ≤ k2 ∧ k2 ≤ 1) (q3 : 0 ≤ k3 ∧ k3 ≤ 1) (q4 : 0 ≤ k4 ∧ k4 ≤ 1) (hk : k4 = 1) (C : Blk) : SpecM Tryz.prog 169 [⟨true, true, [.s .u64 u0, .s .u64 u1, .s .u64 u2, .s .u64 u3, .i .u64 0]⟩, ⟨true, true, [.s .u64 v0, .s .u64 v1, .s .u64 v2, .s .u64 v3, .i .u64 0]⟩, C] [.osl false 0 0 5 1, .osl false 1 0 4 1, .s .u64 1] (.sb true) [⟨true, true, [.s .u64 o0, .s .u64 o1, .s .u64 o2, .s .u64 o3, .s .u64 18446744073709551615]⟩, ⟨true, true, [.s .u64 v0, .s .u64 v1, .s .u64 v2, .s .u64 v3, .i .u64 0]⟩, C] := by
  subst hk
  refine mkM Tryz.func169 rfl rfl L0 R0 (by decide +kernel) fun A S hA hS => ?_
  have a00 := add00 hA
  have hne : A.cmp .neq 1 0 = true := ne0_t hA (by decide)
  unfold bodyOf Tryz.f169
  cbv
  refine ACall.mk _ (cf hS (mul1 v0 hv0)) ?_
  cbv
  refine ACall.mk (.tup [.s .u64 v0, .s .u64 0]) (cg hS (add64S (x := v0) (y := 0) (z := 0) (.s _) (.i _) (.i _) hv0.1 (by omega) (by omega) v0 0 (by omega) hv0) ?_) ?_
  · cbv
    repeat' (first | exact a00 | exact rfl | exact trivial | constructor)
  cbv
  refine ACall.mk (.tup [.s .u64 o0, .s .u64 k1]) (cg hS (sub64S (x := u0) (y := v0) (z := 0) (.s _) (.s _) (.s _) hu0 hv0 (by omega) o0 k1 (by omega) r0) ?_) ?_
  · cbv
    repeat' (first | exact rfl | exact trivial | constructor)
  cbv
  refine ACall.mk _ (cf hS (mul1 v1 hv1)) ?_
  cbv
  refine ACall.mk (.tup [.s .u64 v1, .s .u64 0]) (cg hS (add64S (x := v1) (y := 0) (z := 0) (.s _) (.i _) (.i _) hv1.1 (by omega) (by omega) v1 0 (by omega) hv1) ?_) ?_
  · cbv
    repeat' (first | exact a00 | exact rfl | exact trivial | constructor)
  cbv
  refine ACall.mk (.tup [.s .u64 o1, .s .u64 k2]) (cg hS (sub64S (x := u1) (y := v1) (z := k1) (.s _) (.s _) (.s _) hu1 hv1 q1 o1 k2 (by omega) r1) ?_) ?_
  · cbv
    repeat' (first | exact rfl | exact trivial | constructor)
  cbv
  refine ACall.mk _ (cf hS (mul1 v2 hv2)) ?_
  cbv
  refine ACall.mk (.tup [.s .u64 v2, .s .u64 0]) (cg hS (add64S (x := v2) (y := 0) (z := 0) (.s _) (.i _) (.i _) hv2.1 (by omega) (by omega) v2 0 (by omega) hv2) ?_) ?_
  · cbv
    repeat' (first | exact a00 | exact rfl | exact trivial | constructor)
  cbv
  refine ACall.mk (.tup [.s .u64 o2, .s .u64 k3]) (cg hS (sub64S (x := u2) (y := v2) (z := k2) (.s _) (.s _) (.s _) hu2 hv2 q2 o2 k3 (by omega) r2) ?_) ?_
  · cbv
    repeat' (first | exact rfl | exact trivial | constructor)
  cbv
  refine ACall.mk _ (cf hS (mul1 v3 hv3)) ?_
  cbv
  refine ACall.mk (.tup [.s .u64 v3, .s .u64 0]) (cg hS (add64S (x := v3) (y := 0) (z := 0) (.s _) (.i _) (.i _) hv3.1 (by omega) (by omega) v3 0 (by omega) hv3) ?_) ?_
  · cbv
    repeat' (first | exact a00 | exact rfl | exact trivial | constructor)
  cbv
  refine ACall.mk (.tup [.s .u64 o3, .s .u64 1]) (cg hS (sub64S (x := u3) (y := v3) (z := k3) (.s _) (.s _) (.s _) hu3 hv3 q3 o3 1 (by omega) r3) ?_) ?_
  · cbv
    repeat' (first | exact rfl | exact trivial | constructor)
  cbv
  refine ACall.mk (.tup [.s .u64 18446744073709551615, .s .u64 1]) (cg hS (sub64S (x := 0) (y := 0) (z := 1) (.i _) (.s _) (.s _) (by omega) (by omega) (by omega) 18446744073709551615 1 (by omega) (by omega)) ?_) ?_
  · cbv
    repeat' (first | exact a00 | exact rfl | exact trivial | constructor)
  cbv
  exact ⟨congrArg AVal.sb hne, trivial⟩
theorem giveS (u0 u1 u2 u3 v0 v1 v2 v3 o0 o1 o2 o3 k1 k2 k3 k4 : Int) (hu0 : 0 ≤ u0 ∧ u0 < 18446744073709551616) (hu1 : 0 ≤ u1 ∧ u1 < 18446744073709551616) (hu2 : 0 ≤ u2 ∧ u2 < 18446744073709551616) (hu3 : 0 ≤ u3 ∧ u3 < 18446744073709551616) (hv0 : 0 ≤ v0 ∧ v0 < 18446744073709551616) (hv1 : 0 ≤ v1 ∧ v1 < 18446744073709551616) (hv2 : 0 ≤ v2 ∧ v2 < 18446744073709551616) (hv3 : 0 ≤ v3 ∧ v3 < 18446744073709551616) (e0 : o0 - 18446744073709551616 * k1 = u0 - v0 - 0) (e1 : o1 - 18446744073709551616 * k2 = u1 - v1 - k1) (e2 : o2 - 18446744073709551616 * k3 = u2 - v2 - k2) (e3 : o3 - 18446744073709551616 * k4 = u3 - v3 - k3) (r0 : 0 ≤ o0 ∧ o0 < 18446744073709551616) (r1 : 0 ≤ o1 ∧ o1 < 18446744073709551616) (r2 : 0 ≤ o2 ∧ o2 < 18446744073709551616) (r3 : 0 ≤ o3 ∧ o3 < 18446744073709551616) (q1 : 0 ≤ k1 ∧ k1 ≤ 1) (q2 : 0 ≤ k2 ∧ k2 ≤ 1) (q3 : 0 ≤ k3 ∧ k3 ≤ 1) (q4 : 0 ≤ k4 ∧ k4 ≤ 1) (hk : k4 = 1) (C : Blk) : SpecM Tryz.prog 170 [⟨true, true, [.s .u64 o0, .s .u64 o1, .s .u64 o2, .s .u64 o3, .s .u64 18446744073709551615]⟩, ⟨true, true, [.s .u64 v0, .s .u64 v1, .s .u64 v2, .s .u64 v3, .i .u64 0]⟩, C] [.osl false 0 0 5 1, .osl false 1 0 4 1] (.sb true) [⟨true, true, [.s .u64 u0, .s .u64 u1, .s .u64 u2, .s .u64 u3, .s .u64 0]⟩, ⟨true, true, [.s .u64 v0, .s .u64 v1, .s .u64 v2, .s .u64 v3, .i .u64 0]⟩, C] := by
  subst hk
  refine mkM Tryz.func170 rfl rfl L0 R0 (by decide +kernel) fun A S hA hS => ?_
  have hne : A.cmp .neq 1 0 = true := ne0_t hA (by decide)
  unfold bodyOf Tryz.f170
  cbv
  refine ACall.mk (.tup [.s .u64 u0, .s .u64 k1]) (cg hS (add64S (x := o0) (y := v0) (z := 0) (.s _) (.s _) (.s _) r0.1 hv0.1 (by omega) u0 k1 (by omega) hu0) ?_) ?_
  · cbv
    repeat' (first | exact rfl | exact trivial | constructor)
  cbv
  refine ACall.mk (.tup [.s .u64 u1, .s .u64 k2]) (cg hS (add64S (x := o1) (y := v1) (z := k1) (.s _) (.s _) (.s _) r1.1 hv1.1 q1 u1 k2 (by omega) hu1) ?_) ?_
  · cbv
    repeat' (first | exact rfl | exact trivial | constructor)
  cbv
  refine ACall.mk (.tup [.s .u64 u2, .s .u64 k3]) (cg hS (add64S (x := o2) (y := v2) (z := k2) (.s _) (.s _) (.s _) r2.1 hv2.1 q2 u2 k3 (by omega) hu2) ?_) ?_
  · cbv
    repeat' (first | exact rfl | exact trivial | constructor)
  cbv
  refine ACall.mk (.tup [.s .u64 u3, .s .u64 1]) (cg hS (add64S (x := o3) (y := v3) (z := k3) (.s _) (.s _) (.s _) r3.1 hv3.1 q3 u3 1 (by omega) hu3) ?_) ?_
  · cbv
    repeat' (first | exact rfl | exact trivial | constructor)
  cbv
  refine ACall.mk (.tup [.s .u64 0, .s .u64 1]) (cg hS (add64S (x := 18446744073709551615) (y := 0) (z := 1) (.s _) (.i _) (.s _) (by omega) (by omega) (by omega) 0 1 (by omega) (by omega)) ?_) ?_
  · cbv
    repeat' (first | exact rfl | exact trivial | constructor)
  cbv
  exact ⟨congrArg AVal.sb hne, trivial⟩
end Go.Proofs.YtkhipnhdbaahcaaGreat
end
