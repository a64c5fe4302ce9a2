import Derived.Test.YtmholgclgamnnaaGreatQYF
section
set_option linter.unusedVariables false
set_option linter.unusedSimpArgs false
namespace Go.Proofs.YtmholgclgamnnaaGreat
open Go Eng
set_option maxRecDepth 100000
set_option exponentiation.threshold 2000
set_option maxHeartbeats 8000000
/-- The carry into a word. -/
def carr (a b i : Nat) : Nat := (a % 2 ^ (64 * i) + b % 2 ^ (64 * i)) / 2 ^ (64 * i)
theorem carr_le (a b i : Nat) : carr a b i ≤ 1 := by
  unfold carr
  have hp : 0 < 2 ^ (64 * i) := Nat.two_pow_pos _
  have h1 := Nat.mod_lt a hp
  have h2 := Nat.mod_lt b hp
  have : (a % 2 ^ (64 * i) + b % 2 ^ (64 * i)) / 2 ^ (64 * i) < 2 := by rw [Nat.div_lt_iff_lt_mul hp]; omega
  omega
theorem add_limb (a b M : Nat) (hM : 0 < M) : a / M % 18446744073709551616 + b / M % 18446744073709551616 + (a % M + b % M) / M = (a + b) / M % 18446744073709551616 + 18446744073709551616 * ((a % (M * 18446744073709551616) + b % (M * 18446744073709551616)) / (M * 18446744073709551616)) := by
  obtain ⟨z, hz⟩ : ∃ z, z = (a % M + b % M) / M := ⟨_, rfl⟩
  have e1 : (a + b) / M = a / M + b / M + z := by
    have : a + b = a % M + b % M + M * (a / M + b / M) := by
      have h1 := Nat.div_add_mod a M
      have h2 := Nat.div_add_mod b M
      rw [Nat.mul_add]; omega
    rw [this, Nat.add_mul_div_left _ _ hM, ← hz]; omega
  have e2 : (a % (M * 18446744073709551616) + b % (M * 18446744073709551616)) / (M * 18446744073709551616) = (a / M % 18446744073709551616 + b / M % 18446744073709551616 + z) / 18446744073709551616 := by
    rw [Nat.mod_mul, Nat.mod_mul, ← Nat.div_div_eq_div_mul]
    have : a % M + M * (a / M % 18446744073709551616) + (b % M + M * (b / M % 18446744073709551616)) = a % M + b % M + M * (a / M % 18446744073709551616 + b / M % 18446744073709551616) := by rw [Nat.mul_add]; omega
    rw [this, Nat.add_mul_div_left _ _ hM, ← hz]; congr 1; omega
  rw [e1, e2, ← hz]
  omega
theorem carr_step (a b i : Nat) : limR a i + limR b i + carr a b i = limR (a + b) i + 18446744073709551616 * carr a b (i + 1) := by
  have h := add_limb a b (2 ^ (64 * i)) (Nat.two_pow_pos _)
  unfold limR carr
  rw [show 64 * (i + 1) = 64 * i + 64 by omega, Nat.pow_add, show (2 : Nat) ^ 64 = 18446744073709551616 from rfl]
  omega
theorem addj {A : Ar} (hA : A = Ar.real) {X Y C Z : Int} {c : Nat} (hX : 0 ≤ X ∧ X < 18446744073709551616) (hY : 0 ≤ Y ∧ Y < 18446744073709551616) (hC : 0 ≤ C ∧ C ≤ 1) (hZ : 0 ≤ Z ∧ Z < 18446744073709551616) (h : X + Y + C = Z + 18446744073709551616 * c) :
    ∃ v : Int, (A.cmp .lss (A.bin .add .u64 X Y) X = true → (1 : Int) = v) ∧ (A.cmp .lss (A.bin .add .u64 X Y) X = false → (0 : Int) = v) ∧
      (A.cmp .lss (A.bin .add .u64 (A.bin .add .u64 X Y) C) (A.bin .add .u64 X Y) = true → (1 : Int) = c) ∧ (A.cmp .lss (A.bin .add .u64 (A.bin .add .u64 X Y) C) (A.bin .add .u64 X Y) = false → v = c) ∧
      A.bin .add .u64 (A.bin .add .u64 X Y) C = Z := by
  obtain ⟨x, rfl⟩ : ∃ x : Nat, X = x := ⟨X.toNat, by omega⟩
  obtain ⟨y, rfl⟩ : ∃ x : Nat, Y = x := ⟨Y.toNat, by omega⟩
  obtain ⟨k, rfl⟩ : ∃ x : Nat, C = x := ⟨C.toNat, by omega⟩
  obtain ⟨p, hp⟩ : ∃ p, p = (x + y) % 18446744073709551616 := ⟨_, rfl⟩
  have e1 : A.bin .add .u64 (x : Int) (y : Int) = (p : Int) := by rw [hA, hp]; exact u_add x y
  have e2 : A.bin .add .u64 (p : Int) (k : Int) = (((p + k) % 18446744073709551616 : Nat) : Int) := by rw [hA]; exact u_add p k
  have e3 : (((p + k) % 18446744073709551616 : Nat) : Int) = Z := by omega
  rw [e1, e2, e3, i_lt hA, i_lt hA]
  refine ⟨if (p : Int) < x then 1 else 0, fun e => ?_, fun e => ?_, fun e => ?_, fun e => ?_, rfl⟩
  · rw [if_pos (of_decide_eq_true e)]
  · rw [if_neg (of_decide_eq_false e)]
  · have := of_decide_eq_true e; omega
  · have := of_decide_eq_false e; split <;> omega
/-- The lower words of a number. -/
theorem limR_low {a n i : Nat} (hi : i < n) : limR (a % 2 ^ (64 * n)) i = limR a i := by
  unfold limR
  rw [show 64 * n = 64 * i + (64 + (64 * n - 64 * i - 64)) by omega, Nat.pow_add, Nat.pow_add, Nat.mod_mul_right_div_self, Nat.mod_mul_right_mod]
def RJ : Nat → Md := fun _ => .jn
/-- The words of a number, as a list. -/
abbrev ws4 (lim : Lim) (a : Nat) : List AVal := [.s .u64 (lim a 0), .s .u64 (lim a 1), .s .u64 (lim a 2), .s .u64 (lim a 3)]
theorem rAdd4 {lim : Lim} (hl : lim = limR) (a b s c : Nat) (ha : a < 2 ^ 256) (hb : b < 2 ^ 256) (hs : s = (a + b) % 2 ^ 256) (hc : c = (a + b) / 2 ^ 256) :
    Sp 53 [.lst false 4 (ws4 lim a), .lst false 4 (ws4 lim b)] (.tup [.new false 4 1 (ws4 lim s), .s .u64 c]) := by
  obtain ⟨C, hC⟩ : ∃ C : Nat → Nat, C = carr a b := ⟨_, rfl⟩
  have hC0 : C 0 = 0 := by rw [hC]; unfold carr; simp [Nat.mod_one]
  have hCn : C 4 = c := by rw [hC, hc]; unfold carr; rw [Nat.mod_eq_of_lt ha, Nat.mod_eq_of_lt hb]
  have hC1 : ∀ i, C i ≤ 1 := fun i => by rw [hC]; exact carr_le a b i
  have hst : ∀ i, i < 4 → lim a i + lim b i + C i = lim s i + 18446744073709551616 * C (i + 1) := by
    intro i hi
    have := carr_step a b i
    rw [hl, hC, hs]
    rw [this]
    congr 1
    exact (limR_low (n := 4) hi).symm
  have le := fun x i => lim_range hl x i
  have h00 : lim a 0 + lim b 0 + 0 = lim s 0 + 18446744073709551616 * (C 1 : Nat) := by
    have := hst 0 (by decide)
    rw [hC0] at this
    exact this
  clear hC hs hc
  refine mk Tryz.func53 rfl rfl L0 RJ (by decide +kernel) ?_
  intro A S hA hS
  unfold bodyOf Tryz.f53
  cbv
  obtain ⟨v0, p0, q0, r0, s0, e0⟩ := addj hA (le a 0) (le b 0) (C := 0) (c := C 1) (by omega) (le s 0) h00
  obtain ⟨v1, p1, q1, r1, s1, e1⟩ := addj hA (le a 1) (le b 1) (C := (C 1 : Nat)) (c := C 2) (by have := hC1 1; omega) (le s 1) (hst 1 (by decide))
  obtain ⟨v2, p2, q2, r2, s2, e2⟩ := addj hA (le a 2) (le b 2) (C := (C 2 : Nat)) (c := C 3) (by have := hC1 2; omega) (le s 2) (hst 2 (by decide))
  obtain ⟨v3, p3, q3, r3, s3, e3⟩ := addj hA (le a 3) (le b 3) (C := (C 3 : Nat)) (c := C 4) (by have := hC1 3; omega) (le s 3) (hst 3 (by decide))
  refine AJ.mk v0 p0 q0 ?_
  cbv
  refine AJ.mk ((C 1 : Nat) : Int) r0 s0 ?_
  cbv
  refine AJ.mk v1 p1 q1 ?_
  cbv
  refine AJ.mk ((C 2 : Nat) : Int) r1 s1 ?_
  cbv
  refine AJ.mk v2 p2 q2 ?_
  cbv
  refine AJ.mk ((C 3 : Nat) : Int) r2 s2 ?_
  cbv
  refine AJ.mk v3 p3 q3 ?_
  cbv
  refine AJ.mk ((C 4 : Nat) : Int) r3 s3 ?_
  cbv
  exact ⟨⟨e0, e1, e2, e3⟩, congrArg Int.ofNat hCn⟩
/-- The words of a number, as a list. -/
abbrev ws6 (lim : Lim) (a : Nat) : List AVal := [.s .u64 (lim a 0), .s .u64 (lim a 1), .s .u64 (lim a 2), .s .u64 (lim a 3), .s .u64 (lim a 4), .s .u64 (lim a 5)]
end Go.Proofs.YtmholgclgamnnaaGreat
end
section
set_option linter.unusedVariables false
set_option linter.unusedSimpArgs false
namespace Go.Proofs.YtmholgclgamnnaaGreat
open Go Eng
set_option maxRecDepth 100000
set_option exponentiation.threshold 2000
set_option maxHeartbeats 4000000
theorem wrap_small {A : Ar} (hA : A = Ar.real) {x : Int} {k : Nat} (h : x = k) (hk : k < 1000000) : A.wrap .u64 x = (k : Int) := by
  rw [hA, h]
  exact (wrap_u64 _).trans (by omega)
end Go.Proofs.YtmholgclgamnnaaGreat
end
section
set_option linter.unusedVariables false
set_option linter.unusedSimpArgs false
namespace Go.Proofs.YtmholgclgamnnaaGreat
open Go Eng
set_option maxRecDepth 100000
set_option exponentiation.threshold 2000
set_option maxHeartbeats 4000000
def upd (o : Nat → Nat) (j v : Nat) : Nat → Nat := fun m => if m = j then v else o m
/-- Words of a number, as natural numbers. -/
abbrev dg (a i : Nat) : Nat := a / 18446744073709551616 ^ i % 18446744073709551616
end Go.Proofs.YtmholgclgamnnaaGreat
end
section
set_option linter.unusedVariables false
set_option linter.unusedSimpArgs false
namespace Go.Proofs.YtmholgclgamnnaaGreat
open Go Eng
set_option maxRecDepth 100000
set_option exponentiation.threshold 2000
set_option maxHeartbeats 4000000
/-- A byte of a text, a digit's value, the number of the last digits. -/
def bt (s : ByteArray) (j : Nat) : Nat := match s[j]? with
  | some b => b.toNat
  | none => 0
def hexd (c : Nat) : Nat := if 97 ≤ c then (c - 97) % 256 + 10 else (c + 208) % 256
def hv16 (d : Nat → Nat) : Nat → Nat
  | 0 => 0
  | i + 1 => hv16 d i + d i * 2 ^ (4 * i)
def hexN (s : ByteArray) : Nat := hv16 (fun i => hexd (bt s (s.size - 1 - i))) s.size
theorem hv16_lt {d : Nat → Nat} : ∀ n, (∀ i, i < n → d i < 16) → hv16 d n < 2 ^ (4 * n)
  | 0, _ => by rw [hv16]; decide
  | n + 1, h => by
    have h1 := hv16_lt n (fun i hi => h i (by omega))
    have h2 : (d n + 1) * 2 ^ (4 * n) ≤ 16 * 2 ^ (4 * n) := Nat.mul_le_mul_right _ (h n (by omega))
    rw [hv16, show 4 * (n + 1) = 4 * n + 4 by omega, Nat.pow_add]
    rw [Nat.add_mul, Nat.one_mul] at h2
    omega
/-- What is put into one word, below it nothing yet. -/
theorem limR_put {v x k t j : Nat} (hx : x * 2 ^ (k % 64) < 18446744073709551616) (hv : v < 2 ^ k) (hj : j = k / 64) : limR (v + x * 2 ^ k) j = limR v j + (x * 2 ^ (k % 64) : Nat) ∧ (∀ i, i ≠ j → limR (v + x * 2 ^ k) i = limR v i) ∧ (limR v j).toNat < 2 ^ (k % 64) := by
  subst hj
  have e : 2 ^ k = 2 ^ (64 * (k / 64)) * 2 ^ (k % 64) := by rw [← Nat.pow_add]; congr 1; omega
  have hp : 0 < 2 ^ (64 * (k / 64)) := Nat.two_pow_pos _
  have hq : v / 2 ^ (64 * (k / 64)) < 2 ^ (k % 64) := by rw [Nat.div_lt_iff_lt_mul hp, Nat.mul_comm, ← e]; exact hv
  have hW : 2 ^ (k % 64) ≤ 18446744073709551616 := by rw [show 18446744073709551616 = 2 ^ 64 from rfl]; exact Nat.pow_le_pow_right (by decide) (by omega)
  have hv2 : v / 2 ^ (64 * (k / 64)) + x * 2 ^ (k % 64) < 18446744073709551616 := by
    have h1 : (64 : Nat) = k % 64 + (64 - k % 64) := by omega
    have h2 : 18446744073709551616 = 2 ^ (k % 64) * 2 ^ (64 - k % 64) := by rw [← Nat.pow_add, ← h1]
    rw [h2] at hx ⊢
    rw [Nat.mul_comm x] at hx ⊢
    have h3 := Nat.lt_of_mul_lt_mul_left hx
    have h4 : 2 ^ (k % 64) * (x + 1) ≤ 2 ^ (k % 64) * 2 ^ (64 - k % 64) := Nat.mul_le_mul_left _ h3
    rw [Nat.mul_add, Nat.mul_one] at h4
    omega
  have e2 : (v + x * 2 ^ k) / 2 ^ (64 * (k / 64)) = v / 2 ^ (64 * (k / 64)) + x * 2 ^ (k % 64) := by
    rw [e, Nat.mul_left_comm, Nat.add_mul_div_left _ _ hp]
  refine ⟨?_, fun i hi => ?_, ?_⟩
  · unfold limR
    rw [e2]
    generalize v / 2 ^ (64 * (k / 64)) = q at *
    generalize x * 2 ^ (k % 64) = y at *
    rw [Nat.mod_eq_of_lt hv2, Nat.mod_eq_of_lt (by omega : q < 2 ^ 64)]
    omega
  · unfold limR
    congr 1
    rcases Nat.lt_or_gt_of_ne hi with h | h
    · have e3 : 2 ^ k = 2 ^ (64 * i) * (2 ^ 64 * 2 ^ (k - 64 * i - 64)) := by rw [← Nat.pow_add, ← Nat.pow_add]; congr 1; omega
      rw [e3, Nat.mul_left_comm x, Nat.add_mul_div_left _ _ (Nat.two_pow_pos _), Nat.mul_left_comm x, Nat.add_mul_mod_self_left]
    · have h1 : v + x * 2 ^ k < 2 ^ (64 * i) := by
        have : v + x * 2 ^ k < 2 ^ (64 * (k / 64)) * 18446744073709551616 := by
          rw [e, Nat.mul_left_comm x]
          have := Nat.div_add_mod v (2 ^ (64 * (k / 64)))
          have := Nat.mod_lt v hp
          have h5 : 2 ^ (64 * (k / 64)) * (v / 2 ^ (64 * (k / 64)) + x * 2 ^ (k % 64) + 1) ≤ 2 ^ (64 * (k / 64)) * 18446744073709551616 := Nat.mul_le_mul_left _ hv2
          rw [Nat.mul_add, Nat.mul_add, Nat.mul_one] at h5
          omega
        refine Nat.lt_of_lt_of_le this ?_
        rw [show 18446744073709551616 = 2 ^ 64 from rfl, ← Nat.pow_add]
        exact Nat.pow_le_pow_right (by decide) (by omega)
      rw [Nat.div_eq_of_lt h1, Nat.div_eq_of_lt (by omega)]
  · unfold limR
    rw [Int.toNat_natCast]
    exact Nat.lt_of_le_of_lt (Nat.mod_le _ _) hq
theorem orw {A : Ar} (hA : A = Ar.real) {w : Int} {x k : Nat} {s : Int} (hw : 0 ≤ w) (hs : s = (k : Nat)) (hk : k < 64) (hx : x * 2 ^ k < 18446744073709551616) (hl : w.toNat < 2 ^ k) : A.bin .or .u64 w (A.bin .shl .u64 (x : Int) s) = w + (x * 2 ^ k : Nat) := by
  obtain ⟨v, rfl⟩ : ∃ n : Nat, w = n := ⟨w.toNat, by omega⟩
  rw [Int.toNat_natCast] at hl
  rw [hA, hs]
  show rbin .or .u64 (Int.ofNat v) (rbin .shl .u64 (Int.ofNat x) (Int.ofNat k)) = _
  rw [u_shl x k (by omega), Nat.mod_eq_of_lt hx, Nat.mul_comm x, u_or_add v x k hl (by rw [Nat.mul_comm]; exact hx) (by omega)]
  rfl
theorem hexd_lo {A : Ar} (hA : A = Ar.real) {c : Nat} (hc : c < 256) (h : ¬ 97 ≤ c) : A.cmp .geq (c : Int) 97 = false ∧ A.wrap .u64 (A.bin .sub .u8 (c : Int) 48) = ((hexd c : Nat) : Int) := by
  unfold hexd
  rw [i_ge hA, if_neg h]
  refine ⟨decide_eq_false (by omega), ?_⟩
  rw [hA]
  show IntKind.u64.wrap (IntKind.u8.wrap ((c : Int) - 48)) = _
  rw [wrap_u64, wrap_u8]
  omega
theorem hexd_hi {A : Ar} (hA : A = Ar.real) {c : Nat} (hc : c < 256) (h : 97 ≤ c) : A.cmp .geq (c : Int) 97 = true ∧ A.bin .add .u64 (A.wrap .u64 (A.bin .sub .u8 (c : Int) 97)) 10 = ((hexd c : Nat) : Int) := by
  unfold hexd
  rw [i_ge hA, if_pos h]
  refine ⟨decide_eq_true (by omega), ?_⟩
  rw [hA]
  show IntKind.u64.wrap (IntKind.u64.wrap (IntKind.u8.wrap ((c : Int) - 97)) + 10) = _
  rw [wrap_u64, wrap_u64, wrap_u8]
  omega
theorem bt_lt (s : ByteArray) (j : Nat) : bt s j < 256 := by
  unfold bt
  split
  · exact UInt8.toNat_lt _
  · decide
theorem a_byte {A : Ar} (hA : A = Ar.real) (s : ByteArray) (j : Nat) : A.byte s j = (bt s j : Int) := by
  rw [hA]
  show (match s[j]? with | some b => (b.toNat : Int) | none => 0) = _
  unfold bt
  split <;> rfl
theorem rHex4 {lim : Lim} (hl : lim = limR) (s : ByteArray) (hs : s.size ≤ 16 * 4) (hd : ∀ i, i < s.size → hexd (bt s i) < 16) :
    Sp 79 [.v (.string s), .i .i64 4] (.new false 4 1 (ws4 lim (hexN s))) := by
  obtain ⟨d, hdd⟩ : ∃ d : Nat → Nat, d = fun i => hexd (bt s (s.size - 1 - i)) := ⟨_, rfl⟩
  obtain ⟨N, hN⟩ : ∃ N : Nat → Nat, N = hv16 d := ⟨_, rfl⟩
  have hd16 : ∀ i, i < s.size → d i < 16 := fun i hi => by rw [hdd]; exact hd _ (by omega)
  have hN0 : N 0 = 0 := by rw [hN]; rfl
  have hNs : hexN s = N s.size := by rw [hN, hdd]; rfl
  have hstep : ∀ i, i < s.size → lim (N (i + 1)) (i / 16) = lim (N i) (i / 16) + (d i * 2 ^ (4 * (i % 16)) : Nat) ∧ (∀ j, j ≠ i / 16 → lim (N (i + 1)) j = lim (N i) j) ∧ (lim (N i) (i / 16)).toNat < 2 ^ (4 * (i % 16)) ∧ d i * 2 ^ (4 * (i % 16)) < 18446744073709551616 := by
    intro i hi
    have h16 := hd16 i hi
    have e : 4 * i % 64 = 4 * (i % 16) := by omega
    have e2 : 4 * i / 64 = i / 16 := by omega
    have hx : d i * 2 ^ (4 * (i % 16)) < 18446744073709551616 := by
      have h1 : d i * 2 ^ (4 * (i % 16)) < 16 * 2 ^ (4 * (i % 16)) := Nat.mul_lt_mul_of_pos_right h16 (Nat.two_pow_pos _)
      have h2 : 16 * 2 ^ (4 * (i % 16)) ≤ 2 ^ 64 := by
        rw [show (16 : Nat) = 2 ^ 4 from rfl, ← Nat.pow_add]; exact Nat.pow_le_pow_right (by decide) (by omega)
      omega
    have := limR_put (v := N i) (x := d i) (k := 4 * i) (t := 0) (j := i / 16) (by rw [e]; exact hx) (by rw [hN]; exact hv16_lt i (fun j hj => hd16 j (by omega))) e2.symm
    rw [e] at this
    have e3 : N (i + 1) = N i + d i * 2 ^ (4 * i) := by rw [hN]; rfl
    rw [e3, hl]
    exact ⟨this.1, this.2.1, this.2.2, hx⟩
  have hd1 : ∀ i, d i = hexd (bt s (s.size - 1 - i)) := fun i => by rw [hdd]
  have le := fun x i => lim_range hl x i
  have hz : ∀ j, lim 0 j = 0 := fun j => by rw [hl]; show ((0 / 2 ^ (64 * j) % 2 ^ 64 : Nat) : Int) = 0; rw [Nat.zero_div]; rfl
  obtain ⟨L, hL⟩ : ∃ L, L = s.size := ⟨_, rfl⟩
  rw [← hL] at hNs
  rw [hNs]
  clear hN hdd hNs hd
  refine mk Tryz.func79 rfl rfl LN R0 (by decide +kernel) ?_
  intro A S hA hS
  unfold bodyOf Tryz.f79
  cbv
  refine .inv (α := Nat) (fun i => ⟨[.v (.string s), .i .i64 4, .any, .any, .any, .osl false 0 0 4 1, .s .i64 (i : Nat), .any, .any, .any, .any, .any, .any, .any, .any, .any, .any, .any, .any, .any, .any, .any, .any, .any, .any, .any, .any, .any, .any, .any, .any, .any, .any, .any, .any, .any, .any, .any, .any, .any, .any, .any, .any, .any, .any, .any, .any], [⟨true, true, [.s .u64 (lim (N i) 0), .s .u64 (lim (N i) 1), .s .u64 (lim (N i) 2), .s .u64 (lim (N i) 3)]⟩]⟩) (fun i => i ≤ s.size) (fun i => s.size - i) 0 ?_ (Nat.zero_le _) ?_
  · rw [hN0]
    cbv
    repeat' (first | exact rfl | exact (hz _).symm | exact trivial | constructor)
  intro i hi
  have hlen : A.len (A.size s) = (s.size : Int) := by rw [hA]; rfl
  have hsz : A.size s = s.size := by rw [hA]; rfl
  by_cases h : i < s.size
  · have hlt : A.cmp .lss (i : Int) (A.len (A.size s)) = true := by rw [hlen]; exact (i_lt hA).trans (decide_eq_true (by omega))
    have hix : A.bin .sub .i64 (A.bin .sub .i64 (A.len (A.size s)) 1) (i : Int) = ((s.size - 1 - i : Nat) : Int) := e_sub hA (e_sub hA hlen rfl rfl (by omega)) rfl (by omega) (by omega)
    have hjx : s.size - 1 - i < s.size := by omega
    have hquo : A.bin .quo .i64 (i : Int) 16 = ((i / 16 : Nat) : Int) := e_quo hA rfl rfl (by omega) (by omega) (by omega) (by omega)
    have hrem : A.wrap .u64 (A.bin .mul .i64 4 (A.bin .rem .i64 (i : Int) 16)) = ((4 * (i % 16) : Nat) : Int) := wrap_small hA (e_mul hA rfl (e_rem hA rfl rfl (z := ((i % 16 : Nat) : Int)) (by omega) (by omega)) (by omega) (by omega)) (by omega)
    have hok : A.okb .shl (A.wrap .u64 (A.bin .mul .i64 4 (A.bin .rem .i64 (i : Int) 16))) = true := by rw [hrem]; exact (a_okbS hA (by omega)).2
    have hnext : A.bin .add .i64 (i : Int) 1 = ((i + 1 : Nat) : Int) := e_add hA rfl rfl (by omega) (by omega)
    obtain ⟨w1, w2, w3, w4⟩ := hstep i h
    have hor := orw hA (le (N i) (i / 16)).1 hrem (by omega) w4 w3
    rw [← w1] at hor
    have hb := a_byte hA s (s.size - 1 - i)
    have hbl := bt_lt s (s.size - 1 - i)
    have hdi := hd1 i
    have hq : i / 16 < 4 := by omega
    have hdec : s.size - (i + 1) < s.size - i := by omega
    have hle : i + 1 ≤ s.size := h
    obtain ⟨nx, hnx⟩ : ∃ nx, nx = i + 1 := ⟨_, rfl⟩
    rw [← hnx] at hnext hor w2 hdec hle
    obtain ⟨q, hqq⟩ : ∃ q, q = i / 16 := ⟨_, rfl⟩
    rw [← hqq] at hquo hor w2 hq
    obtain ⟨jx, hjj⟩ : ∃ q, q = s.size - 1 - i := ⟨_, rfl⟩
    rw [← hjj] at hix hb hbl hdi hjx
    have hjA : jx < A.size s := by rw [hsz]; exact hjx
    obtain ⟨dd, hddd⟩ : ∃ x, x = d i := ⟨_, rfl⟩
    rw [← hddd] at hor hdi
    clear w1 w3 w4 hnx hqq hjj hddd hrem hstep hd16 hd1 hN0
    rw [hdi] at hor
    by_cases h97 : 97 ≤ bt s jx
    · obtain ⟨e1, e2⟩ := hexd_hi hA hbl h97
      rw [← hb] at e1 e2
      rw [← e2] at hor
      rcases (by omega : q = 0 ∨ q = 1 ∨ q = 2 ∨ q = 3) with rfl | rfl | rfl | rfl
      all_goals
        cbv
        refine ABr.t hlt ?_
        cbv
        refine .mk _ hix hjA ?_
        cbv
        refine ABr.t e1 ?_
        cbv
        refine .mk _ hquo hq ?_
        cbv
        refine .mk hok ?_
        cbv
        refine .mk _ hquo hq ?_
        cbv
        refine ⟨nx, ?_, hle, hdec⟩
        cbv
        repeat' (first | exact hnext | exact hor | exact (w2 _ (by decide)).symm | exact trivial | constructor)
    · obtain ⟨e1, e2⟩ := hexd_lo hA hbl h97
      rw [← hb] at e1 e2
      rw [← e2] at hor
      rcases (by omega : q = 0 ∨ q = 1 ∨ q = 2 ∨ q = 3) with rfl | rfl | rfl | rfl
      all_goals
        cbv
        refine ABr.t hlt ?_
        cbv
        refine .mk _ hix hjA ?_
        cbv
        refine ABr.f e1 ?_
        cbv
        refine .mk _ hquo hq ?_
        cbv
        refine .mk hok ?_
        cbv
        refine .mk _ hquo hq ?_
        cbv
        refine ⟨nx, ?_, hle, hdec⟩
        cbv
        repeat' (first | exact hnext | exact hor | exact (w2 _ (by decide)).symm | exact trivial | constructor)
  · have hlt : A.cmp .lss (i : Int) (A.len (A.size s)) = false := by rw [hlen]; exact (i_lt hA).trans (decide_eq_false (by omega))
    obtain rfl : i = L := by omega
    cbv
    refine ABr.f hlt ?_
    cbv
end Go.Proofs.YtmholgclgamnnaaGreat
end
section
set_option linter.unusedVariables false
set_option linter.unusedSimpArgs false
namespace Go.Proofs.YtmholgclgamnnaaGreat
open Go Eng
set_option maxRecDepth 100000
set_option exponentiation.threshold 2000
set_option maxHeartbeats 4000000
/-- The number of bytes, the least ahead. -/
def Vb (d : Nat → Nat) : Nat → Nat
  | 0 => 0
  | n + 1 => Vb d n + d n * 2 ^ (8 * n)
theorem Vb_lt {o : Nat → Nat} : ∀ n, (∀ j, j < n → o j < 256) → Vb o n < 2 ^ (8 * n)
  | 0, _ => by simp [Vb]
  | n + 1, h => by
    have h1 := Vb_lt n (fun j hj => h j (by omega))
    have h2 : (o n + 1) * 2 ^ (8 * n) ≤ 256 * 2 ^ (8 * n) := Nat.mul_le_mul_right _ (h n (by omega))
    rw [Vb, show 8 * (n + 1) = 8 * n + 8 by omega, Nat.pow_add]
    rw [Nat.add_mul, Nat.one_mul] at h2
    omega
theorem Vb_dig {o : Nat → Nat} : ∀ n, (∀ j, j < n → o j < 256) → ∀ j, j < n → Vb o n / 2 ^ (8 * j) % 256 = o j
  | 0, _, j, hj => by omega
  | n + 1, h, j, hj => by
    rw [Vb]
    have hp : 0 < 2 ^ (8 * j) := Nat.two_pow_pos _
    by_cases e : j = n
    · subst e
      rw [Nat.add_mul_div_right _ _ hp, Nat.div_eq_of_lt (Vb_lt j (fun i hi => h i (by omega))), Nat.zero_add, Nat.mod_eq_of_lt (h j (by omega))]
    · have ih := Vb_dig n (fun i hi => h i (by omega)) j (by omega)
      have e2 : o n * 2 ^ (8 * n) = 2 ^ (8 * j) * (256 * (o n * 2 ^ (8 * (n - j - 1)))) := by
        rw [show 8 * n = 8 * j + (8 + 8 * (n - j - 1)) by omega, Nat.pow_add, Nat.pow_add]
        ac_rfl
      rw [e2, Nat.add_mul_div_left _ _ hp, Nat.add_mul_mod_self_left]
      exact ih
theorem mod_byte (t p : Nat) : t % 2 ^ (8 * (p + 1)) = t % 2 ^ (8 * p) + t / 2 ^ (8 * p) % 256 * 2 ^ (8 * p) := by
  rw [show 8 * (p + 1) = 8 * p + 8 by omega, Nat.pow_add, Nat.mod_mul, Nat.mul_comm (2 ^ (8 * p)) (t / 2 ^ (8 * p) % 2 ^ 8)]
theorem top_byte (t p : Nat) : 2 ^ (8 * p) * (t / 2 ^ (8 * p)) = 2 ^ (8 * (p + 1)) * (t / 2 ^ (8 * (p + 1))) + t / 2 ^ (8 * p) % 256 * 2 ^ (8 * p) := by
  have h := mod_byte t p
  have h1 := Nat.div_add_mod t (2 ^ (8 * p))
  have h2 := Nat.div_add_mod t (2 ^ (8 * (p + 1)))
  omega
/-- Bits put where there are none. -/
theorem or_put {w x s : Nat} (hx : x < 256) (hs : s + 8 ≤ 64) (hw : w < 18446744073709551616) (h0 : w / 2 ^ s % 256 = 0) : w ||| x * 2 ^ s = w + x * 2 ^ s := by
  obtain ⟨q, hq⟩ : ∃ q, q = w / 2 ^ (s + 8) := ⟨_, rfl⟩
  obtain ⟨l, hl⟩ : ∃ l, l = w % 2 ^ s := ⟨_, rfl⟩
  have hp : 0 < 2 ^ s := Nat.two_pow_pos _
  have hls : l < 2 ^ s := by rw [hl]; exact Nat.mod_lt _ hp
  have hw2 : w = 2 ^ (s + 8) * q + l := by
    have h1 := Nat.div_add_mod w (2 ^ s)
    have h2 := Nat.div_add_mod (w / 2 ^ s) 256
    rw [Nat.div_div_eq_div_mul, h0, Nat.add_zero] at h2
    have h3 : w / (2 ^ s * 256) = q := by rw [hq, Nat.pow_add]
    rw [h3] at h2
    rw [Nat.pow_add, ← hl] at *
    rw [← h2] at h1
    rw [← h1, show (2 : Nat) ^ 8 = 256 from rfl, Nat.mul_assoc]
  have hxl : x * 2 ^ s + l < 2 ^ (s + 8) := by
    have : (x + 1) * 2 ^ s ≤ 256 * 2 ^ s := Nat.mul_le_mul_right _ hx
    rw [Nat.add_mul, Nat.one_mul] at this
    rw [Nat.pow_add, Nat.mul_comm (2 ^ s)]
    omega
  rw [hw2, Nat.two_pow_add_eq_or_of_lt (Nat.lt_of_lt_of_le hls (Nat.pow_le_pow_right (by decide) (by omega))), Nat.or_assoc, Nat.or_comm l, Nat.mul_comm x, ← Nat.two_pow_add_eq_or_of_lt hls, ← Nat.two_pow_add_eq_or_of_lt (by rw [Nat.mul_comm]; exact hxl),
    ← Nat.two_pow_add_eq_or_of_lt (Nat.lt_of_lt_of_le hls (Nat.pow_le_pow_right (by decide) (by omega)))]
  omega
theorem limR_byte {v x p : Nat} (hx : x < 256) (h0 : v / 2 ^ (8 * p) % 256 = 0) : limR (v + x * 2 ^ (8 * p)) (p / 8) = limR v (p / 8) + (x * 2 ^ (8 * (p % 8)) : Nat) ∧ (∀ i, i ≠ p / 8 → limR (v + x * 2 ^ (8 * p)) i = limR v i) ∧
    (limR v (p / 8)).toNat / 2 ^ (8 * (p % 8)) % 256 = 0 := by
  obtain ⟨j, hj⟩ : ∃ j, j = p / 8 := ⟨_, rfl⟩
  obtain ⟨s, hs⟩ : ∃ s, s = 8 * (p % 8) := ⟨_, rfl⟩
  have hs56 : s + 8 ≤ 64 := by omega
  have hk : 8 * p = 64 * j + s := by omega
  rw [← hj, ← hs, hk]
  rw [hk] at h0
  clear hj hs hk
  have hP : 0 < 2 ^ (64 * j) := Nat.two_pow_pos _
  obtain ⟨u, hu⟩ : ∃ u, u = v / 2 ^ (64 * j) := ⟨_, rfl⟩
  rw [Nat.pow_add, ← Nat.div_div_eq_div_mul, ← hu] at h0
  have e1 : (v + x * 2 ^ (64 * j + s)) / 2 ^ (64 * j) = u + x * 2 ^ s := by rw [Nat.pow_add, Nat.mul_left_comm, Nat.add_mul_div_left _ _ hP, ← hu]
  have e64 : (2 : Nat) ^ 64 = 2 ^ s * (256 * 2 ^ (56 - s)) := by
    rw [show (256 : Nat) = 2 ^ 8 from rfl, ← Nat.pow_add, ← Nat.pow_add]; congr 1; omega
  have hps : 0 < 2 ^ s := Nat.two_pow_pos _
  have hum : (u % 2 ^ 64) / 2 ^ s % 256 = 0 := by
    rw [e64, Nat.mod_mul_right_div_self, Nat.mod_mul_right_mod]; exact h0
  have hno : (u + x * 2 ^ s) % 2 ^ 64 = u % 2 ^ 64 + x * 2 ^ s ∧ (u + x * 2 ^ s) / 2 ^ 64 = u / 2 ^ 64 := by
    have h1 := Nat.div_add_mod u (2 ^ 64)
    have hlt : u % 2 ^ 64 + x * 2 ^ s < 2 ^ 64 := by
      obtain ⟨y, hy⟩ : ∃ y, y = u % 2 ^ 64 := ⟨_, rfl⟩
      rw [← hy] at hum ⊢
      have hy64 : y < 2 ^ 64 := by rw [hy]; exact Nat.mod_lt _ (by decide)
      have h2 := Nat.div_add_mod y (2 ^ s)
      have h3 := Nat.div_add_mod (y / 2 ^ s) 256
      have h4 := Nat.mod_lt y hps
      rw [hum, Nat.add_zero] at h3
      have h5 : y / 2 ^ s < 256 * 2 ^ (56 - s) := by rw [Nat.div_lt_iff_lt_mul hps, Nat.mul_comm, ← e64]; exact hy64
      have h6 : y / 2 ^ s / 256 < 2 ^ (56 - s) := by rw [Nat.div_lt_iff_lt_mul (by decide), Nat.mul_comm]; exact h5
      have h7 : y / 2 ^ s + x < 256 * 2 ^ (56 - s) := by
        have : 256 * (y / 2 ^ s / 256 + 1) ≤ 256 * 2 ^ (56 - s) := Nat.mul_le_mul_left _ h6
        omega
      have h8 : 2 ^ s * (y / 2 ^ s + x + 1) ≤ 2 ^ s * (256 * 2 ^ (56 - s)) := Nat.mul_le_mul_left _ h7
      rw [← e64, Nat.mul_add, Nat.mul_add, Nat.mul_one] at h8
      rw [Nat.mul_comm x]
      omega
    have e : u + x * 2 ^ s = (u % 2 ^ 64 + x * 2 ^ s) + 2 ^ 64 * (u / 2 ^ 64) := by omega
    rw [e]
    exact ⟨by rw [Nat.add_mul_mod_self_left, Nat.mod_eq_of_lt hlt], by rw [Nat.add_mul_div_left _ _ (by decide), Nat.div_eq_of_lt hlt, Nat.zero_add]⟩
  refine ⟨?_, fun i hi => ?_, ?_⟩
  · unfold limR
    rw [e1, hno.1, ← hu]
    omega
  · unfold limR
    congr 1
    rcases Nat.lt_or_gt_of_ne hi with h | h
    · rw [show x * 2 ^ (64 * j + s) = 2 ^ (64 * i) * (2 ^ 64 * (x * 2 ^ (64 * j + s - 64 * i - 64))) by
        rw [show 64 * j + s = 64 * i + (64 + (64 * j + s - 64 * i - 64)) by omega, Nat.pow_add, Nat.pow_add, ← show 64 * j + s = 64 * i + (64 + (64 * j + s - 64 * i - 64)) by omega]; ac_rfl]
      rw [Nat.add_mul_div_left _ _ (Nat.two_pow_pos _), Nat.add_mul_mod_self_left]
    · have e3 : (2 : Nat) ^ (64 * i) = 2 ^ (64 * j) * (2 ^ 64 * 2 ^ (64 * i - 64 * j - 64)) := by rw [← Nat.pow_add, ← Nat.pow_add]; congr 1; omega
      rw [e3, ← Nat.div_div_eq_div_mul, ← Nat.div_div_eq_div_mul, ← Nat.div_div_eq_div_mul, ← Nat.div_div_eq_div_mul, e1, hno.2, ← hu]
  · unfold limR
    rw [Int.toNat_natCast, ← hu]
    exact hum
theorem orb {A : Ar} (hA : A = Ar.real) {w : Int} {x k : Nat} {s : Int} (hw : 0 ≤ w ∧ w < 18446744073709551616) (hs : s = (k : Nat)) (hk : k + 8 ≤ 64) (hx : x < 256) (hl : w.toNat / 2 ^ k % 256 = 0) : A.bin .or .u64 w (A.bin .shl .u64 (x : Int) s) = w + (x * 2 ^ k : Nat) := by
  obtain ⟨v, rfl⟩ : ∃ n : Nat, w = n := ⟨w.toNat, by omega⟩
  rw [Int.toNat_natCast] at hl
  have hx2 : x * 2 ^ k < 18446744073709551616 := by
    have h1 : x * 2 ^ k < 256 * 2 ^ k := Nat.mul_lt_mul_of_pos_right hx (Nat.two_pow_pos _)
    have h2 : 256 * 2 ^ k ≤ 2 ^ 64 := by rw [show (256 : Nat) = 2 ^ 8 from rfl, ← Nat.pow_add]; exact Nat.pow_le_pow_right (by decide) (by omega)
    omega
  rw [hA, hs]
  show rbin .or .u64 (Int.ofNat v) (rbin .shl .u64 (Int.ofNat x) (Int.ofNat k)) = _
  rw [u_shl x k (by omega), Nat.mod_eq_of_lt hx2, u_or v _ (by omega) hx2, or_put hx hk (by omega) hl]
  rfl
/-- Bytes as a row. -/
def IsRowB (cs : List AVal) (bs : Nat → Nat) (n : Nat) : Prop := cs.length = n ∧ (∀ i, i < n → lsub cs (i * 1) 1 = some [.s .u8 (bs i : Nat)]) ∧ ∀ i, bs i < 256
/-- Their number. -/
def numB (bs : Nat → Nat) (n : Nat) : Nat := Vb (fun p => bs (n - 1 - p)) n
end Go.Proofs.YtmholgclgamnnaaGreat
end
section
set_option linter.unusedVariables false
set_option linter.unusedSimpArgs false
namespace Go.Proofs.YtmholgclgamnnaaGreat
open Go Eng
set_option maxRecDepth 100000
set_option exponentiation.threshold 2000
set_option maxHeartbeats 4000000
theorem gtw {A : Ar} (hA : A = Ar.real) {x y : Int} : A.cmp .gtr x y = decide (x > y) := by rw [hA]; rfl
theorem wrap_byte {A : Ar} (hA : A = Ar.real) {x : Nat} (h : x < 256) : A.wrap .u64 (x : Int) = (x : Int) := by
  rw [hA]; exact (wrap_u64 _).trans (by omega)
theorem ws_get4 {A : Ar} (hA : A = Ar.real) (lim : Lim) (v j : Nat) (hj : j < 4) : lsub (ws4 lim v) (A.offs 0 j 1) 1 = some [.s .u64 (lim v j)] := by
  subst hA
  rcases (by omega : j = 0 ∨ j = 1 ∨ j = 2 ∨ j = 3) with rfl | rfl | rfl | rfl
  all_goals rfl
theorem ws_put4 {A : Ar} (hA : A = Ar.real) (lim : Lim) (v v' j : Nat) (hj : j < 4) {x : Int} (hx : x = lim v' j) (h : ∀ m, m ≠ j → lim v' m = lim v m) : lput (ws4 lim v) (A.offs 0 j 1) [.s .u64 x] = some (ws4 lim v') := by
  subst hA
  subst hx
  have h0 := h 0
  have h1 := h 1
  have h2 := h 2
  have h3 := h 3
  clear h
  rcases (by omega : j = 0 ∨ j = 1 ∨ j = 2 ∨ j = 3) with rfl | rfl | rfl | rfl
  all_goals
    unfold ws4
    try rw [h0 (by decide)]
    try rw [h1 (by decide)]
    try rw [h2 (by decide)]
    try rw [h3 (by decide)]
    rfl
theorem ws_get6 {A : Ar} (hA : A = Ar.real) (lim : Lim) (v j : Nat) (hj : j < 6) : lsub (ws6 lim v) (A.offs 0 j 1) 1 = some [.s .u64 (lim v j)] := by
  subst hA
  rcases (by omega : j = 0 ∨ j = 1 ∨ j = 2 ∨ j = 3 ∨ j = 4 ∨ j = 5) with rfl | rfl | rfl | rfl | rfl | rfl
  all_goals rfl
theorem ws_put6 {A : Ar} (hA : A = Ar.real) (lim : Lim) (v v' j : Nat) (hj : j < 6) {x : Int} (hx : x = lim v' j) (h : ∀ m, m ≠ j → lim v' m = lim v m) : lput (ws6 lim v) (A.offs 0 j 1) [.s .u64 x] = some (ws6 lim v') := by
  subst hA
  subst hx
  have h0 := h 0
  have h1 := h 1
  have h2 := h 2
  have h3 := h 3
  have h4 := h 4
  have h5 := h 5
  clear h
  rcases (by omega : j = 0 ∨ j = 1 ∨ j = 2 ∨ j = 3 ∨ j = 4 ∨ j = 5) with rfl | rfl | rfl | rfl | rfl | rfl
  all_goals
    unfold ws6
    try rw [h0 (by decide)]
    try rw [h1 (by decide)]
    try rw [h2 (by decide)]
    try rw [h3 (by decide)]
    try rw [h4 (by decide)]
    try rw [h5 (by decide)]
    rfl
end Go.Proofs.YtmholgclgamnnaaGreat
end
