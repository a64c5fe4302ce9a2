import Derived.Test.YtmholgclgamnnaaGreatQZF
set_option linter.unusedVariables false
set_option linter.unusedSimpArgs false
namespace Go.Proofs.YtmholgclgamnnaaGreat
open Go Eng
set_option maxRecDepth 100000
set_option exponentiation.threshold 2000
set_option maxHeartbeats 8000000
/-- The carry into a word. -/
def carr (a b i : Nat) : Nat := (a % 2 ^ (64 * i) + b % 2 ^ (64 * i)) / 2 ^ (64 * i)
theorem carr_le (a b i : Nat) : carr a b i ≤ 1 := by
  unfold carr
  have hp : 0 < 2 ^ (64 * i) := Nat.two_pow_pos _
  have h1 := Nat.mod_lt a hp
  have h2 := Nat.mod_lt b hp
  have : (a % 2 ^ (64 * i) + b % 2 ^ (64 * i)) / 2 ^ (64 * i) < 2 := by rw [Nat.div_lt_iff_lt_mul hp]; omega
  omega
theorem add_limb (a b M : Nat) (hM : 0 < M) : a / M % 18446744073709551616 + b / M % 18446744073709551616 + (a % M + b % M) / M = (a + b) / M % 18446744073709551616 + 18446744073709551616 * ((a % (M * 18446744073709551616) + b % (M * 18446744073709551616)) / (M * 18446744073709551616)) := by
  obtain ⟨z, hz⟩ : ∃ z, z = (a % M + b % M) / M := ⟨_, rfl⟩
  have e1 : (a + b) / M = a / M + b / M + z := by
    have : a + b = a % M + b % M + M * (a / M + b / M) := by
      have h1 := Nat.div_add_mod a M
      have h2 := Nat.div_add_mod b M
      rw [Nat.mul_add]; omega
    rw [this, Nat.add_mul_div_left _ _ hM, ← hz]; omega
  have e2 : (a % (M * 18446744073709551616) + b % (M * 18446744073709551616)) / (M * 18446744073709551616) = (a / M % 18446744073709551616 + b / M % 18446744073709551616 + z) / 18446744073709551616 := by
    rw [Nat.mod_mul, Nat.mod_mul, ← Nat.div_div_eq_div_mul]
    have : a % M + M * (a / M % 18446744073709551616) + (b % M + M * (b / M % 18446744073709551616)) = a % M + b % M + M * (a / M % 18446744073709551616 + b / M % 18446744073709551616) := by rw [Nat.mul_add]; omega
    rw [this, Nat.add_mul_div_left _ _ hM, ← hz]; congr 1; omega
  rw [e1, e2, ← hz]
  omega
theorem carr_step (a b i : Nat) : limR a i + limR b i + carr a b i = limR (a + b) i + 18446744073709551616 * carr a b (i + 1) := by
  have h := add_limb a b (2 ^ (64 * i)) (Nat.two_pow_pos _)
  unfold limR carr
  rw [show 64 * (i + 1) = 64 * i + 64 by omega, Nat.pow_add, show (2 : Nat) ^ 64 = 18446744073709551616 from rfl]
  omega
theorem addj {A : Ar} (hA : A = Ar.real) {X Y C Z : Int} {c : Nat} (hX : 0 ≤ X ∧ X < 18446744073709551616) (hY : 0 ≤ Y ∧ Y < 18446744073709551616) (hC : 0 ≤ C ∧ C ≤ 1) (hZ : 0 ≤ Z ∧ Z < 18446744073709551616) (h : X + Y + C = Z + 18446744073709551616 * c) :
    ∃ v : Int, (A.cmp .lss (A.bin .add .u64 X Y) X = true → (1 : Int) = v) ∧ (A.cmp .lss (A.bin .add .u64 X Y) X = false → (0 : Int) = v) ∧
      (A.cmp .lss (A.bin .add .u64 (A.bin .add .u64 X Y) C) (A.bin .add .u64 X Y) = true → (1 : Int) = c) ∧ (A.cmp .lss (A.bin .add .u64 (A.bin .add .u64 X Y) C) (A.bin .add .u64 X Y) = false → v = c) ∧
      A.bin .add .u64 (A.bin .add .u64 X Y) C = Z := by
  obtain ⟨x, rfl⟩ : ∃ x : Nat, X = x := ⟨X.toNat, by omega⟩
  obtain ⟨y, rfl⟩ : ∃ x : Nat, Y = x := ⟨Y.toNat, by omega⟩
  obtain ⟨k, rfl⟩ : ∃ x : Nat, C = x := ⟨C.toNat, by omega⟩
  obtain ⟨p, hp⟩ : ∃ p, p = (x + y) % 18446744073709551616 := ⟨_, rfl⟩
  have e1 : A.bin .add .u64 (x : Int) (y : Int) = (p : Int) := by rw [hA, hp]; exact u_add x y
  have e2 : A.bin .add .u64 (p : Int) (k : Int) = (((p + k) % 18446744073709551616 : Nat) : Int) := by rw [hA]; exact u_add p k
  have e3 : (((p + k) % 18446744073709551616 : Nat) : Int) = Z := by omega
  rw [e1, e2, e3, i_lt hA, i_lt hA]
  refine ⟨if (p : Int) < x then 1 else 0, fun e => ?_, fun e => ?_, fun e => ?_, fun e => ?_, rfl⟩
  · rw [if_pos (of_decide_eq_true e)]
  · rw [if_neg (of_decide_eq_false e)]
  · have := of_decide_eq_true e; omega
  · have := of_decide_eq_false e; split <;> omega
theorem subj {A : Ar} (hA : A = Ar.real) {X Y C Z : Int} {c : Nat} (hX : 0 ≤ X ∧ X < 18446744073709551616) (hY : 0 ≤ Y ∧ Y < 18446744073709551616) (hC : 0 ≤ C ∧ C ≤ 1) (hZ : 0 ≤ Z ∧ Z < 18446744073709551616) (h : Y + Z + C = X + 18446744073709551616 * c) :
    ∃ v : Int, (A.cmp .lss X Y = true → (1 : Int) = v) ∧ (A.cmp .lss X Y = false → (0 : Int) = v) ∧
      (A.cmp .lss (A.bin .sub .u64 X Y) C = true → (1 : Int) = c) ∧ (A.cmp .lss (A.bin .sub .u64 X Y) C = false → v = c) ∧
      A.bin .sub .u64 (A.bin .sub .u64 X Y) C = Z := by
  obtain ⟨x, rfl⟩ : ∃ x : Nat, X = x := ⟨X.toNat, by omega⟩
  obtain ⟨y, rfl⟩ : ∃ x : Nat, Y = x := ⟨Y.toNat, by omega⟩
  obtain ⟨k, rfl⟩ : ∃ x : Nat, C = x := ⟨C.toNat, by omega⟩
  obtain ⟨p, hp⟩ : ∃ p, p = (x + 18446744073709551616 - y) % 18446744073709551616 := ⟨_, rfl⟩
  have e1 : A.bin .sub .u64 (x : Int) (y : Int) = (p : Int) := by rw [hA, hp]; exact u_sub x y (by omega)
  have e2 : A.bin .sub .u64 (p : Int) (k : Int) = (((p + 18446744073709551616 - k) % 18446744073709551616 : Nat) : Int) := by rw [hA]; exact u_sub p k (by omega)
  have e3 : (((p + 18446744073709551616 - k) % 18446744073709551616 : Nat) : Int) = Z := by omega
  rw [e1, e2, e3, i_lt hA, i_lt hA]
  refine ⟨if (x : Int) < y then 1 else 0, fun e => ?_, fun e => ?_, fun e => ?_, fun e => ?_, rfl⟩
  · rw [if_pos (of_decide_eq_true e)]
  · rw [if_neg (of_decide_eq_false e)]
  · have := of_decide_eq_true e; omega
  · have := of_decide_eq_false e; split <;> omega
/-- The lower words of a number. -/
theorem limR_low {a n i : Nat} (hi : i < n) : limR (a % 2 ^ (64 * n)) i = limR a i := by
  unfold limR
  rw [show 64 * n = 64 * i + (64 + (64 * n - 64 * i - 64)) by omega, Nat.pow_add, Nat.pow_add, Nat.mod_mul_right_div_self, Nat.mod_mul_right_mod]
def RJ : Nat → Md := fun _ => .jn
/-- The words of a number, as a list. -/
abbrev ws4 (lim : Lim) (a : Nat) : List AVal := [.s .u64 (lim a 0), .s .u64 (lim a 1), .s .u64 (lim a 2), .s .u64 (lim a 3)]
theorem rAdd4 {lim : Lim} (hl : lim = limR) (a b s c : Nat) (ha : a < 2 ^ 256) (hb : b < 2 ^ 256) (hs : s = (a + b) % 2 ^ 256) (hc : c = (a + b) / 2 ^ 256) :
    Sp 53 [.lst false 4 (ws4 lim a), .lst false 4 (ws4 lim b)] (.tup [.new false 4 1 (ws4 lim s), .s .u64 c]) := by
  obtain ⟨C, hC⟩ : ∃ C : Nat → Nat, C = carr a b := ⟨_, rfl⟩
  have hC0 : C 0 = 0 := by rw [hC]; unfold carr; simp [Nat.mod_one]
  have hCn : C 4 = c := by rw [hC, hc]; unfold carr; rw [Nat.mod_eq_of_lt ha, Nat.mod_eq_of_lt hb]
  have hC1 : ∀ i, C i ≤ 1 := fun i => by rw [hC]; exact carr_le a b i
  have hst : ∀ i, i < 4 → lim a i + lim b i + C i = lim s i + 18446744073709551616 * C (i + 1) := by
    intro i hi
    have := carr_step a b i
    rw [hl, hC, hs]
    rw [this]
    congr 1
    exact (limR_low (n := 4) hi).symm
  have le := fun x i => lim_range hl x i
  have h00 : lim a 0 + lim b 0 + 0 = lim s 0 + 18446744073709551616 * (C 1 : Nat) := by
    have := hst 0 (by decide)
    rw [hC0] at this
    exact this
  clear hC hs hc
  refine mk Tryz.func53 rfl rfl L0 RJ (by decide +kernel) ?_
  intro A S hA hS
  unfold bodyOf Tryz.f53
  cbv
  obtain ⟨v0, p0, q0, r0, s0, e0⟩ := addj hA (le a 0) (le b 0) (C := 0) (c := C 1) (by omega) (le s 0) h00
  obtain ⟨v1, p1, q1, r1, s1, e1⟩ := addj hA (le a 1) (le b 1) (C := (C 1 : Nat)) (c := C 2) (by have := hC1 1; omega) (le s 1) (hst 1 (by decide))
  obtain ⟨v2, p2, q2, r2, s2, e2⟩ := addj hA (le a 2) (le b 2) (C := (C 2 : Nat)) (c := C 3) (by have := hC1 2; omega) (le s 2) (hst 2 (by decide))
  obtain ⟨v3, p3, q3, r3, s3, e3⟩ := addj hA (le a 3) (le b 3) (C := (C 3 : Nat)) (c := C 4) (by have := hC1 3; omega) (le s 3) (hst 3 (by decide))
  refine AJ.mk v0 p0 q0 ?_
  cbv
  refine AJ.mk ((C 1 : Nat) : Int) r0 s0 ?_
  cbv
  refine AJ.mk v1 p1 q1 ?_
  cbv
  refine AJ.mk ((C 2 : Nat) : Int) r1 s1 ?_
  cbv
  refine AJ.mk v2 p2 q2 ?_
  cbv
  refine AJ.mk ((C 3 : Nat) : Int) r2 s2 ?_
  cbv
  refine AJ.mk v3 p3 q3 ?_
  cbv
  refine AJ.mk ((C 4 : Nat) : Int) r3 s3 ?_
  cbv
  exact ⟨⟨e0, e1, e2, e3⟩, congrArg Int.ofNat hCn⟩
theorem rSub4 {lim : Lim} (hl : lim = limR) (a b d k : Nat) (ha : a < 2 ^ 256) (hb : b < 2 ^ 256) (hd : d + b = a + 2 ^ 256 * k) (hk : d < 2 ^ 256) :
    Sp 199 [.lst false 4 (ws4 lim a), .lst false 4 (ws4 lim b)] (.tup [.new false 4 1 (ws4 lim d), .s .u64 k]) := by
  obtain ⟨C, hC⟩ : ∃ C : Nat → Nat, C = carr b d := ⟨_, rfl⟩
  have hC0 : C 0 = 0 := by rw [hC]; unfold carr; simp [Nat.mod_one]
  have hCn : C 4 = k := by rw [hC]; unfold carr; rw [Nat.mod_eq_of_lt hb, Nat.mod_eq_of_lt hk]; omega
  have hC1 : ∀ i, C i ≤ 1 := fun i => by rw [hC]; exact carr_le b d i
  have hst : ∀ i, i < 4 → lim b i + lim d i + C i = lim a i + 18446744073709551616 * C (i + 1) := by
    intro i hi
    have := carr_step b d i
    rw [hl, hC, this]
    congr 1
    rw [← limR_low (n := 4) hi, show (b + d) % 2 ^ (64 * 4) = a by omega]
  have le := fun x i => lim_range hl x i
  have h00 : lim b 0 + lim d 0 + 0 = lim a 0 + 18446744073709551616 * (C 1 : Nat) := by
    have := hst 0 (by decide)
    rw [hC0] at this
    exact this
  clear hC
  refine mk Tryz.func199 rfl rfl L0 RJ (by decide +kernel) ?_
  intro A S hA hS
  unfold bodyOf Tryz.f199
  cbv
  obtain ⟨v0, p0, q0, r0, s0, e0⟩ := subj hA (le a 0) (le b 0) (C := 0) (c := C 1) (by omega) (le d 0) h00
  obtain ⟨v1, p1, q1, r1, s1, e1⟩ := subj hA (le a 1) (le b 1) (C := (C 1 : Nat)) (c := C 2) (by have := hC1 1; omega) (le d 1) (hst 1 (by decide))
  obtain ⟨v2, p2, q2, r2, s2, e2⟩ := subj hA (le a 2) (le b 2) (C := (C 2 : Nat)) (c := C 3) (by have := hC1 2; omega) (le d 2) (hst 2 (by decide))
  obtain ⟨v3, p3, q3, r3, s3, e3⟩ := subj hA (le a 3) (le b 3) (C := (C 3 : Nat)) (c := C 4) (by have := hC1 3; omega) (le d 3) (hst 3 (by decide))
  refine AJ.mk v0 p0 q0 ?_
  cbv
  refine AJ.mk ((C 1 : Nat) : Int) r0 s0 ?_
  cbv
  refine AJ.mk v1 p1 q1 ?_
  cbv
  refine AJ.mk ((C 2 : Nat) : Int) r1 s1 ?_
  cbv
  refine AJ.mk v2 p2 q2 ?_
  cbv
  refine AJ.mk ((C 3 : Nat) : Int) r2 s2 ?_
  cbv
  refine AJ.mk v3 p3 q3 ?_
  cbv
  refine AJ.mk ((C 4 : Nat) : Int) r3 s3 ?_
  cbv
  exact ⟨⟨e0, e1, e2, e3⟩, congrArg Int.ofNat hCn⟩
theorem less_top4 {lim : Lim} (hl : lim = limR) {a b : Nat} (ha : a < 2 ^ 256) (hb : b < 2 ^ 256) (k : Nat) (hk : k < 4) (he : ∀ i, k < i → i < 4 → lim a i = lim b i) (hn : lim a k ≠ lim b k) : lim a k < lim b k ↔ a < b := by
  have sa := split4 hl a ha
  have sb := split4 hl b hb
  have a0 := lim_range hl a 0
  have b0 := lim_range hl b 0
  have a1 := lim_range hl a 1
  have b1 := lim_range hl b 1
  have a2 := lim_range hl a 2
  have b2 := lim_range hl b 2
  have a3 := lim_range hl a 3
  have b3 := lim_range hl b 3
  have hh : ∀ x y : Nat, (x : Int) < y ↔ x < y := fun x y => Int.ofNat_lt
  rw [← hh a b, sa, sb]
  clear sa sb hh ha hb
  rcases (by omega : k = 0 ∨ k = 1 ∨ k = 2 ∨ k = 3) with rfl | rfl | rfl | rfl
  all_goals
    try rw [he 1 (by decide) (by decide)]
    try rw [he 2 (by decide) (by decide)]
    try rw [he 3 (by decide) (by decide)]
    omega
theorem rLess4 {lim : Lim} (hl : lim = limR) (a b : Nat) (ha : a < 2 ^ 256) (hb : b < 2 ^ 256) (t : Bool) (ht : t = decide (a < b)) :
    Sp 86 [.lst false 4 (ws4 lim a), .lst false 4 (ws4 lim b)] (.sb t) := by
  have top := less_top4 hl ha hb
  have inj := lim_inj4 hl ha hb
  refine mk Tryz.func86 rfl rfl L0 RJ (by decide +kernel) ?_
  intro A S hA hS
  unfold bodyOf Tryz.f86
  cbv
  have n0 : A.cmp .neq (lim a 0) (lim b 0) = !decide (lim a 0 = lim b 0) := i_ne hA
  have l0 : A.cmp .lss (lim a 0) (lim b 0) = decide (lim a 0 < lim b 0) := i_lt hA
  have n1 : A.cmp .neq (lim a 1) (lim b 1) = !decide (lim a 1 = lim b 1) := i_ne hA
  have l1 : A.cmp .lss (lim a 1) (lim b 1) = decide (lim a 1 < lim b 1) := i_lt hA
  have n2 : A.cmp .neq (lim a 2) (lim b 2) = !decide (lim a 2 = lim b 2) := i_ne hA
  have l2 : A.cmp .lss (lim a 2) (lim b 2) = decide (lim a 2 < lim b 2) := i_lt hA
  have n3 : A.cmp .neq (lim a 3) (lim b 3) = !decide (lim a 3 = lim b 3) := i_ne hA
  have l3 : A.cmp .lss (lim a 3) (lim b 3) = decide (lim a 3 < lim b 3) := i_lt hA
  by_cases h3 : lim a 3 = lim b 3
  rotate_left
  · rw [decide_eq_false h3] at n3
    refine ABr.t n3 ?_
    cbv
    refine l3.trans (ht ▸ ?_)
    refine decide_eq_decide.2 (top 3 (by decide) (fun i h1 h2 => ?_) h3)
    rcases (by omega : i = 0 ∨ i = 1 ∨ i = 2 ∨ i = 3) with rfl | rfl | rfl | rfl
    all_goals first | assumption | (exfalso; omega)
  rw [decide_eq_true h3] at n3
  refine ABr.f n3 ?_
  cbv
  by_cases h2 : lim a 2 = lim b 2
  rotate_left
  · rw [decide_eq_false h2] at n2
    refine ABr.t n2 ?_
    cbv
    refine l2.trans (ht ▸ ?_)
    refine decide_eq_decide.2 (top 2 (by decide) (fun i h1 h2 => ?_) h2)
    rcases (by omega : i = 0 ∨ i = 1 ∨ i = 2 ∨ i = 3) with rfl | rfl | rfl | rfl
    all_goals first | assumption | (exfalso; omega)
  rw [decide_eq_true h2] at n2
  refine ABr.f n2 ?_
  cbv
  by_cases h1 : lim a 1 = lim b 1
  rotate_left
  · rw [decide_eq_false h1] at n1
    refine ABr.t n1 ?_
    cbv
    refine l1.trans (ht ▸ ?_)
    refine decide_eq_decide.2 (top 1 (by decide) (fun i h1 h2 => ?_) h1)
    rcases (by omega : i = 0 ∨ i = 1 ∨ i = 2 ∨ i = 3) with rfl | rfl | rfl | rfl
    all_goals first | assumption | (exfalso; omega)
  rw [decide_eq_true h1] at n1
  refine ABr.f n1 ?_
  cbv
  by_cases h0 : lim a 0 = lim b 0
  rotate_left
  · rw [decide_eq_false h0] at n0
    refine ABr.t n0 ?_
    cbv
    refine l0.trans (ht ▸ ?_)
    refine decide_eq_decide.2 (top 0 (by decide) (fun i h1 h2 => ?_) h0)
    rcases (by omega : i = 0 ∨ i = 1 ∨ i = 2 ∨ i = 3) with rfl | rfl | rfl | rfl
    all_goals first | assumption | (exfalso; omega)
  rw [decide_eq_true h0] at n0
  refine ABr.f n0 ?_
  cbv
  rw [ht, decide_eq_false (by rw [inj ⟨h0, h1, h2, h3⟩]; exact Nat.lt_irrefl _)]
/-- The words of a number, as a list. -/
abbrev ws6 (lim : Lim) (a : Nat) : List AVal := [.s .u64 (lim a 0), .s .u64 (lim a 1), .s .u64 (lim a 2), .s .u64 (lim a 3), .s .u64 (lim a 4), .s .u64 (lim a 5)]
theorem rAdd6 {lim : Lim} (hl : lim = limR) (a b s c : Nat) (ha : a < 2 ^ 384) (hb : b < 2 ^ 384) (hs : s = (a + b) % 2 ^ 384) (hc : c = (a + b) / 2 ^ 384) :
    Sp 53 [.lst false 6 (ws6 lim a), .lst false 6 (ws6 lim b)] (.tup [.new false 6 1 (ws6 lim s), .s .u64 c]) := by
  obtain ⟨C, hC⟩ : ∃ C : Nat → Nat, C = carr a b := ⟨_, rfl⟩
  have hC0 : C 0 = 0 := by rw [hC]; unfold carr; simp [Nat.mod_one]
  have hCn : C 6 = c := by rw [hC, hc]; unfold carr; rw [Nat.mod_eq_of_lt ha, Nat.mod_eq_of_lt hb]
  have hC1 : ∀ i, C i ≤ 1 := fun i => by rw [hC]; exact carr_le a b i
  have hst : ∀ i, i < 6 → lim a i + lim b i + C i = lim s i + 18446744073709551616 * C (i + 1) := by
    intro i hi
    have := carr_step a b i
    rw [hl, hC, hs]
    rw [this]
    congr 1
    exact (limR_low (n := 6) hi).symm
  have le := fun x i => lim_range hl x i
  have h00 : lim a 0 + lim b 0 + 0 = lim s 0 + 18446744073709551616 * (C 1 : Nat) := by
    have := hst 0 (by decide)
    rw [hC0] at this
    exact this
  clear hC hs hc
  refine mk Tryz.func53 rfl rfl L0 RJ (by decide +kernel) ?_
  intro A S hA hS
  unfold bodyOf Tryz.f53
  cbv
  obtain ⟨v0, p0, q0, r0, s0, e0⟩ := addj hA (le a 0) (le b 0) (C := 0) (c := C 1) (by omega) (le s 0) h00
  obtain ⟨v1, p1, q1, r1, s1, e1⟩ := addj hA (le a 1) (le b 1) (C := (C 1 : Nat)) (c := C 2) (by have := hC1 1; omega) (le s 1) (hst 1 (by decide))
  obtain ⟨v2, p2, q2, r2, s2, e2⟩ := addj hA (le a 2) (le b 2) (C := (C 2 : Nat)) (c := C 3) (by have := hC1 2; omega) (le s 2) (hst 2 (by decide))
  obtain ⟨v3, p3, q3, r3, s3, e3⟩ := addj hA (le a 3) (le b 3) (C := (C 3 : Nat)) (c := C 4) (by have := hC1 3; omega) (le s 3) (hst 3 (by decide))
  obtain ⟨v4, p4, q4, r4, s4, e4⟩ := addj hA (le a 4) (le b 4) (C := (C 4 : Nat)) (c := C 5) (by have := hC1 4; omega) (le s 4) (hst 4 (by decide))
  obtain ⟨v5, p5, q5, r5, s5, e5⟩ := addj hA (le a 5) (le b 5) (C := (C 5 : Nat)) (c := C 6) (by have := hC1 5; omega) (le s 5) (hst 5 (by decide))
  refine AJ.mk v0 p0 q0 ?_
  cbv
  refine AJ.mk ((C 1 : Nat) : Int) r0 s0 ?_
  cbv
  refine AJ.mk v1 p1 q1 ?_
  cbv
  refine AJ.mk ((C 2 : Nat) : Int) r1 s1 ?_
  cbv
  refine AJ.mk v2 p2 q2 ?_
  cbv
  refine AJ.mk ((C 3 : Nat) : Int) r2 s2 ?_
  cbv
  refine AJ.mk v3 p3 q3 ?_
  cbv
  refine AJ.mk ((C 4 : Nat) : Int) r3 s3 ?_
  cbv
  refine AJ.mk v4 p4 q4 ?_
  cbv
  refine AJ.mk ((C 5 : Nat) : Int) r4 s4 ?_
  cbv
  refine AJ.mk v5 p5 q5 ?_
  cbv
  refine AJ.mk ((C 6 : Nat) : Int) r5 s5 ?_
  cbv
  exact ⟨⟨e0, e1, e2, e3, e4, e5⟩, congrArg Int.ofNat hCn⟩
theorem rSub6 {lim : Lim} (hl : lim = limR) (a b d k : Nat) (ha : a < 2 ^ 384) (hb : b < 2 ^ 384) (hd : d + b = a + 2 ^ 384 * k) (hk : d < 2 ^ 384) :
    Sp 199 [.lst false 6 (ws6 lim a), .lst false 6 (ws6 lim b)] (.tup [.new false 6 1 (ws6 lim d), .s .u64 k]) := by
  obtain ⟨C, hC⟩ : ∃ C : Nat → Nat, C = carr b d := ⟨_, rfl⟩
  have hC0 : C 0 = 0 := by rw [hC]; unfold carr; simp [Nat.mod_one]
  have hCn : C 6 = k := by rw [hC]; unfold carr; rw [Nat.mod_eq_of_lt hb, Nat.mod_eq_of_lt hk]; omega
  have hC1 : ∀ i, C i ≤ 1 := fun i => by rw [hC]; exact carr_le b d i
  have hst : ∀ i, i < 6 → lim b i + lim d i + C i = lim a i + 18446744073709551616 * C (i + 1) := by
    intro i hi
    have := carr_step b d i
    rw [hl, hC, this]
    congr 1
    rw [← limR_low (n := 6) hi, show (b + d) % 2 ^ (64 * 6) = a by omega]
  have le := fun x i => lim_range hl x i
  have h00 : lim b 0 + lim d 0 + 0 = lim a 0 + 18446744073709551616 * (C 1 : Nat) := by
    have := hst 0 (by decide)
    rw [hC0] at this
    exact this
  clear hC
  refine mk Tryz.func199 rfl rfl L0 RJ (by decide +kernel) ?_
  intro A S hA hS
  unfold bodyOf Tryz.f199
  cbv
  obtain ⟨v0, p0, q0, r0, s0, e0⟩ := subj hA (le a 0) (le b 0) (C := 0) (c := C 1) (by omega) (le d 0) h00
  obtain ⟨v1, p1, q1, r1, s1, e1⟩ := subj hA (le a 1) (le b 1) (C := (C 1 : Nat)) (c := C 2) (by have := hC1 1; omega) (le d 1) (hst 1 (by decide))
  obtain ⟨v2, p2, q2, r2, s2, e2⟩ := subj hA (le a 2) (le b 2) (C := (C 2 : Nat)) (c := C 3) (by have := hC1 2; omega) (le d 2) (hst 2 (by decide))
  obtain ⟨v3, p3, q3, r3, s3, e3⟩ := subj hA (le a 3) (le b 3) (C := (C 3 : Nat)) (c := C 4) (by have := hC1 3; omega) (le d 3) (hst 3 (by decide))
  obtain ⟨v4, p4, q4, r4, s4, e4⟩ := subj hA (le a 4) (le b 4) (C := (C 4 : Nat)) (c := C 5) (by have := hC1 4; omega) (le d 4) (hst 4 (by decide))
  obtain ⟨v5, p5, q5, r5, s5, e5⟩ := subj hA (le a 5) (le b 5) (C := (C 5 : Nat)) (c := C 6) (by have := hC1 5; omega) (le d 5) (hst 5 (by decide))
  refine AJ.mk v0 p0 q0 ?_
  cbv
  refine AJ.mk ((C 1 : Nat) : Int) r0 s0 ?_
  cbv
  refine AJ.mk v1 p1 q1 ?_
  cbv
  refine AJ.mk ((C 2 : Nat) : Int) r1 s1 ?_
  cbv
  refine AJ.mk v2 p2 q2 ?_
  cbv
  refine AJ.mk ((C 3 : Nat) : Int) r2 s2 ?_
  cbv
  refine AJ.mk v3 p3 q3 ?_
  cbv
  refine AJ.mk ((C 4 : Nat) : Int) r3 s3 ?_
  cbv
  refine AJ.mk v4 p4 q4 ?_
  cbv
  refine AJ.mk ((C 5 : Nat) : Int) r4 s4 ?_
  cbv
  refine AJ.mk v5 p5 q5 ?_
  cbv
  refine AJ.mk ((C 6 : Nat) : Int) r5 s5 ?_
  cbv
  exact ⟨⟨e0, e1, e2, e3, e4, e5⟩, congrArg Int.ofNat hCn⟩
theorem less_top6 {lim : Lim} (hl : lim = limR) {a b : Nat} (ha : a < 2 ^ 384) (hb : b < 2 ^ 384) (k : Nat) (hk : k < 6) (he : ∀ i, k < i → i < 6 → lim a i = lim b i) (hn : lim a k ≠ lim b k) : lim a k < lim b k ↔ a < b := by
  have sa := split6 hl a ha
  have sb := split6 hl b hb
  have a0 := lim_range hl a 0
  have b0 := lim_range hl b 0
  have a1 := lim_range hl a 1
  have b1 := lim_range hl b 1
  have a2 := lim_range hl a 2
  have b2 := lim_range hl b 2
  have a3 := lim_range hl a 3
  have b3 := lim_range hl b 3
  have a4 := lim_range hl a 4
  have b4 := lim_range hl b 4
  have a5 := lim_range hl a 5
  have b5 := lim_range hl b 5
  have hh : ∀ x y : Nat, (x : Int) < y ↔ x < y := fun x y => Int.ofNat_lt
  rw [← hh a b, sa, sb]
  clear sa sb hh ha hb
  rcases (by omega : k = 0 ∨ k = 1 ∨ k = 2 ∨ k = 3 ∨ k = 4 ∨ k = 5) with rfl | rfl | rfl | rfl | rfl | rfl
  all_goals
    try rw [he 1 (by decide) (by decide)]
    try rw [he 2 (by decide) (by decide)]
    try rw [he 3 (by decide) (by decide)]
    try rw [he 4 (by decide) (by decide)]
    try rw [he 5 (by decide) (by decide)]
    omega
theorem rLess6 {lim : Lim} (hl : lim = limR) (a b : Nat) (ha : a < 2 ^ 384) (hb : b < 2 ^ 384) (t : Bool) (ht : t = decide (a < b)) :
    Sp 86 [.lst false 6 (ws6 lim a), .lst false 6 (ws6 lim b)] (.sb t) := by
  have top := less_top6 hl ha hb
  have inj := lim_inj6 hl ha hb
  refine mk Tryz.func86 rfl rfl L0 RJ (by decide +kernel) ?_
  intro A S hA hS
  unfold bodyOf Tryz.f86
  cbv
  have n0 : A.cmp .neq (lim a 0) (lim b 0) = !decide (lim a 0 = lim b 0) := i_ne hA
  have l0 : A.cmp .lss (lim a 0) (lim b 0) = decide (lim a 0 < lim b 0) := i_lt hA
  have n1 : A.cmp .neq (lim a 1) (lim b 1) = !decide (lim a 1 = lim b 1) := i_ne hA
  have l1 : A.cmp .lss (lim a 1) (lim b 1) = decide (lim a 1 < lim b 1) := i_lt hA
  have n2 : A.cmp .neq (lim a 2) (lim b 2) = !decide (lim a 2 = lim b 2) := i_ne hA
  have l2 : A.cmp .lss (lim a 2) (lim b 2) = decide (lim a 2 < lim b 2) := i_lt hA
  have n3 : A.cmp .neq (lim a 3) (lim b 3) = !decide (lim a 3 = lim b 3) := i_ne hA
  have l3 : A.cmp .lss (lim a 3) (lim b 3) = decide (lim a 3 < lim b 3) := i_lt hA
  have n4 : A.cmp .neq (lim a 4) (lim b 4) = !decide (lim a 4 = lim b 4) := i_ne hA
  have l4 : A.cmp .lss (lim a 4) (lim b 4) = decide (lim a 4 < lim b 4) := i_lt hA
  have n5 : A.cmp .neq (lim a 5) (lim b 5) = !decide (lim a 5 = lim b 5) := i_ne hA
  have l5 : A.cmp .lss (lim a 5) (lim b 5) = decide (lim a 5 < lim b 5) := i_lt hA
  by_cases h5 : lim a 5 = lim b 5
  rotate_left
  · rw [decide_eq_false h5] at n5
    refine ABr.t n5 ?_
    cbv
    refine l5.trans (ht ▸ ?_)
    refine decide_eq_decide.2 (top 5 (by decide) (fun i h1 h2 => ?_) h5)
    rcases (by omega : i = 0 ∨ i = 1 ∨ i = 2 ∨ i = 3 ∨ i = 4 ∨ i = 5) with rfl | rfl | rfl | rfl | rfl | rfl
    all_goals first | assumption | (exfalso; omega)
  rw [decide_eq_true h5] at n5
  refine ABr.f n5 ?_
  cbv
  by_cases h4 : lim a 4 = lim b 4
  rotate_left
  · rw [decide_eq_false h4] at n4
    refine ABr.t n4 ?_
    cbv
    refine l4.trans (ht ▸ ?_)
    refine decide_eq_decide.2 (top 4 (by decide) (fun i h1 h2 => ?_) h4)
    rcases (by omega : i = 0 ∨ i = 1 ∨ i = 2 ∨ i = 3 ∨ i = 4 ∨ i = 5) with rfl | rfl | rfl | rfl | rfl | rfl
    all_goals first | assumption | (exfalso; omega)
  rw [decide_eq_true h4] at n4
  refine ABr.f n4 ?_
  cbv
  by_cases h3 : lim a 3 = lim b 3
  rotate_left
  · rw [decide_eq_false h3] at n3
    refine ABr.t n3 ?_
    cbv
    refine l3.trans (ht ▸ ?_)
    refine decide_eq_decide.2 (top 3 (by decide) (fun i h1 h2 => ?_) h3)
    rcases (by omega : i = 0 ∨ i = 1 ∨ i = 2 ∨ i = 3 ∨ i = 4 ∨ i = 5) with rfl | rfl | rfl | rfl | rfl | rfl
    all_goals first | assumption | (exfalso; omega)
  rw [decide_eq_true h3] at n3
  refine ABr.f n3 ?_
  cbv
  by_cases h2 : lim a 2 = lim b 2
  rotate_left
  · rw [decide_eq_false h2] at n2
    refine ABr.t n2 ?_
    cbv
    refine l2.trans (ht ▸ ?_)
    refine decide_eq_decide.2 (top 2 (by decide) (fun i h1 h2 => ?_) h2)
    rcases (by omega : i = 0 ∨ i = 1 ∨ i = 2 ∨ i = 3 ∨ i = 4 ∨ i = 5) with rfl | rfl | rfl | rfl | rfl | rfl
    all_goals first | assumption | (exfalso; omega)
  rw [decide_eq_true h2] at n2
  refine ABr.f n2 ?_
  cbv
  by_cases h1 : lim a 1 = lim b 1
  rotate_left
  · rw [decide_eq_false h1] at n1
    refine ABr.t n1 ?_
    cbv
    refine l1.trans (ht ▸ ?_)
    refine decide_eq_decide.2 (top 1 (by decide) (fun i h1 h2 => ?_) h1)
    rcases (by omega : i = 0 ∨ i = 1 ∨ i = 2 ∨ i = 3 ∨ i = 4 ∨ i = 5) with rfl | rfl | rfl | rfl | rfl | rfl
    all_goals first | assumption | (exfalso; omega)
  rw [decide_eq_true h1] at n1
  refine ABr.f n1 ?_
  cbv
  by_cases h0 : lim a 0 = lim b 0
  rotate_left
  · rw [decide_eq_false h0] at n0
    refine ABr.t n0 ?_
    cbv
    refine l0.trans (ht ▸ ?_)
    refine decide_eq_decide.2 (top 0 (by decide) (fun i h1 h2 => ?_) h0)
    rcases (by omega : i = 0 ∨ i = 1 ∨ i = 2 ∨ i = 3 ∨ i = 4 ∨ i = 5) with rfl | rfl | rfl | rfl | rfl | rfl
    all_goals first | assumption | (exfalso; omega)
  rw [decide_eq_true h0] at n0
  refine ABr.f n0 ?_
  cbv
  rw [ht, decide_eq_false (by rw [inj ⟨h0, h1, h2, h3, h4, h5⟩]; exact Nat.lt_irrefl _)]
end Go.Proofs.YtmholgclgamnnaaGreat
