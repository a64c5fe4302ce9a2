import Derived.Test.YtkhipnhdbaahcaaGreatQBTE
import Derived.Test.YtkhipnhdbaahcaaGreatQBKB
section
set_option linter.unusedVariables false
set_option linter.unusedSimpArgs false
namespace Go.Proofs.YtkhipnhdbaahcaaGreat
open Go Eng
set_option maxRecDepth 100000
set_option exponentiation.threshold 2000
set_option maxHeartbeats 8000000
open Dg
abbrev dg5 (o : Nat → Nat) : List AVal := [.s .u64 ((o 0 : Nat) : Int), .s .u64 ((o 1 : Nat) : Int), .s .u64 ((o 2 : Nat) : Int), .s .u64 ((o 3 : Nat) : Int), .s .u64 ((o 4 : Nat) : Int)]
theorem dg5_get {A : Ar} (hA : A = Ar.real) (o : Nat → Nat) (i : Nat) (hi : i < 5) : lsub (dg5 o) (A.offs 0 i 1) 1 = some [.s .u64 ((o i : Nat) : Int)] := by
  subst hA
  rcases (by omega : i = 0 ∨ i = 1 ∨ i = 2 ∨ i = 3 ∨ i = 4) with rfl | rfl | rfl | rfl | rfl
  all_goals rfl
def LRe : Nat → Nat := fun b => match b with
  | 2 => 20
  | _ => 0
theorem n_sub {A : Ar} (hA : A = Ar.real) (a k : Nat) (hk : k ≤ a) (h : a < 1000) {ki : Int} (e : ki = (k : Int)) : A.bin .sub .i64 (a : Int) ki = ((a - k : Nat) : Int) := by
  subst e; exact e_sub hA rfl rfl (by omega) (by omega)
theorem u_geZ {A : Ar} (hA : A = Ar.real) (x m : Nat) (t : Bool) (h : decide (m ≤ x) = t) : A.cmp .geq (cmpZ x m) 0 = t := by
  rw [u_ge hA, ← h]
  unfold cmpZ
  by_cases h1 : x < m
  · rw [if_pos h1, decide_eq_false (by omega), decide_eq_false (by omega)]
  · rw [if_neg h1]
    by_cases h2 : m < x
    · rw [if_pos h2, decide_eq_true (by omega), decide_eq_true (by omega)]
    · rw [if_neg h2, decide_eq_true (by omega), decide_eq_true (by omega)]
theorem rd_lt {M C a : Nat} (hM : 0 < M) (hC : C < M) (h : M ≤ a) : rd M C a < a := by
  unfold rd
  have e := Nat.mod_add_div a M
  have hq : 0 < a / M := Nat.div_pos h hM
  have : a / M * C < M * (a / M) := by rw [Nat.mul_comm M]; exact Nat.mul_lt_mul_of_pos_left hC hq
  omega
theorem V_ge (o : Nat → Nat) (j n : Nat) (hj : j < n) : o j * 4294967296 ^ j ≤ V 4294967296 o n := by
  have := V_upd (B := 4294967296) o j 0 n hj
  rw [Nat.zero_mul, Nat.add_zero] at this
  omega
theorem red_pure {x s x' cd : Nat → Nat} {C m L c : Nat} (xd : ∀ j, j < 17 → x j < 4294967296) (hL : L = V 4294967296 x 8) (hm : C + m = 2 ^ 256) (hm0 : 0 < m) (rk : RK 4294967296 C x cd L 9 0 s) (ck : CK 4294967296 s 17 x' c) :
    V 4294967296 x' 17 % m = V 4294967296 x 17 % m ∧ (∀ j, j < 17 → x' j < 4294967296) ∧ ((∃ j, j < 9 ∧ x (8 + j) ≠ 0) → V 4294967296 x' 17 < V 4294967296 x 17) ∧ ((∀ j, j < 9 → x (8 + j) = 0) → V 4294967296 x' 8 < 2 ^ 256 ∧ V 4294967296 x' 8 % m = V 4294967296 x 17 % m) := by
  have p8 : 4294967296 ^ 8 = 2 ^ 256 := pow_D 8
  obtain ⟨h, hh⟩ : ∃ h, h = V 4294967296 (fun j => x (8 + j)) 9 := ⟨_, rfl⟩
  have hx : V 4294967296 x 17 = L + 4294967296 ^ 8 * h := by rw [hL, hh]; exact V_shift (B := 4294967296) x 8 9
  have hl : L < 4294967296 ^ 8 := by rw [hL]; exact V_lt 8 (fun j hj => xd j (by omega))
  have hs : V 4294967296 s 17 = L + h * C := by
    have := rk.val
    rw [← hh, show V 4294967296 cd 0 = 0 from rfl, Nat.mul_zero, Nat.zero_mul, Nat.add_zero] at this
    exact this
  have hq : V 4294967296 x 17 / 2 ^ 256 = h := by rw [hx, ← p8, Nat.add_mul_div_left _ _ (by rw [p8]; exact Nat.two_pow_pos _), Nat.div_eq_of_lt hl, Nat.zero_add]
  have hr : V 4294967296 x 17 % 2 ^ 256 = L := by rw [hx, ← p8, Nat.add_mul_mod_self_left, Nat.mod_eq_of_lt hl]
  have hrd : V 4294967296 s 17 = rd (2 ^ 256) C (V 4294967296 x 17) := by unfold rd; rw [hq, hr, hs]
  have hlt : V 4294967296 x 17 < 4294967296 ^ 17 := V_lt 17 xd
  have hle := rd_le (a := V 4294967296 x 17) hm
  have hv := ck.last (by rw [hrd]; exact Nat.lt_of_le_of_lt hle hlt) (by decide)
  refine ⟨by rw [hv, hrd]; exact rd_mod hm, ck.dig, fun ⟨j, j1, j2⟩ => ?_, fun h0 => ?_⟩
  · rw [hv, hrd]
    refine rd_lt (Nat.two_pow_pos _) (by omega) ?_
    have h1 := V_ge (fun j => x (8 + j)) j 9 j1
    have h2 : 0 < 4294967296 ^ j := Nat.pow_pos (by decide)
    have h3 : 0 < x (8 + j) * 4294967296 ^ j := Nat.mul_pos (by omega) h2
    have h4 : 0 < h := by rw [hh]; omega
    rw [hx, p8]
    have : 2 ^ 256 * 1 ≤ 2 ^ 256 * h := Nat.mul_le_mul_left _ h4
    omega
  · have hz : h = 0 := by rw [hh]; exact V_zero h0
    rw [hz, Nat.zero_mul, Nat.add_zero] at hs
    rw [hz, Nat.mul_zero, Nat.add_zero] at hx
    have hs8 : V 4294967296 x' 17 = V 4294967296 x' 8 + 4294967296 ^ 8 * V 4294967296 (fun j => x' (8 + j)) 9 := V_shift (B := 4294967296) x' 8 9
    rw [hv, hs] at hs8
    have hz2 : V 4294967296 (fun j => x' (8 + j)) 9 = 0 := by
      rcases Nat.eq_zero_or_pos (V 4294967296 (fun j => x' (8 + j)) 9) with h | h
      · exact h
      · exfalso
        have : 4294967296 ^ 8 * 1 ≤ 4294967296 ^ 8 * V 4294967296 (fun j => x' (8 + j)) 9 := Nat.mul_le_mul_left _ h
        omega
    rw [hz2, Nat.mul_zero, Nat.add_zero] at hs8
    rw [← hs8, hx, ← p8]
    exact ⟨hl, rfl⟩
theorem reduceS {lim : Lim} (hl : lim = limR) (m C : Nat) (cd : Nat → Nat) (hcd : ∀ k, k < 5 → cd k < 4294967296) (hC : V 4294967296 cd 5 = C) (hm : C + m = 2 ^ 256) (hm0 : 0 < m) (hmlt : m < 2 ^ 256) (crest : Sp 127 [u4 lim m] (.agg (dg5 cd)))
    (a : Nat) (ha : a < 4294967296 ^ 17) (x0 : Nat → Nat) (hx0 : x0 = dg 4294967296 a) : Sp 88 [.agg (lg x0), u4 lim m] (u4 lim (a % m)) := by
  have p8 : 4294967296 ^ 8 = 2 ^ 256 := pow_D 8
  have hx0d : ∀ j, j < 17 → x0 j < 4294967296 := fun j _ => by rw [hx0]; exact dg_lt (by decide) a j
  have hx0v : V 4294967296 x0 17 = a := by rw [hx0]; exact V_num ha
  have crr : ∀ o : Nat → Nat, (∀ j, j < 8 → o j < 4294967296) → Sp 69 [.agg (lg o)] (u4 lim (V 4294967296 o 8)) := fun o h => toS hl o h
  have ccc : ∀ v, v < 2 ^ 256 → m < 2 ^ 256 → Sp 81 [u4 lim v, u4 lim m] (.s .i64 (cmpZ v m)) := fun v h h' => rCmpS hl v m h h'
  have css : ∀ v, v < 2 ^ 256 → m ≤ v → Sp 92 [u4 lim v, u4 lim m] (u4 lim (v - m)) := fun v h h' => rSubS hl v m h h'
  obtain ⟨r, hr⟩ : ∃ r, r = a % m := ⟨_, rfl⟩
  rw [← hr]
  obtain ⟨Lf, hLf⟩ : ∃ Lf : (Nat → Nat) → Nat, ∀ x, Lf x = V 4294967296 x 8 := ⟨fun x => V 4294967296 x 8, fun _ => rfl⟩
  obtain ⟨sf, hsf⟩ : ∃ sf : (Nat → Nat) → Nat → Nat, ∀ x, sf x = fun j => if j < 8 then x j else 0 := ⟨fun x j => if j < 8 then x j else 0, fun _ => rfl⟩
  have hrk : ∀ x, (∀ j, j < 17 → x j < 4294967296) → RK 4294967296 C x cd (Lf x) 0 0 (sf x) := fun x xd => by rw [hLf]; exact RK.start (by decide) (fun j hj => xd j (by omega)) (fun j => by rw [hsf])
  refine mk Tryz.func88 rfl rfl LRe R1 (by decide +kernel) fun A S hA hS => ?_
  unfold bodyOf Tryz.f88
  cbv
  refine ACall.mk _ (cf hS crest) ?_
  cbv
  refine .invG (gcOf hS) (α := Nat → Nat) (fun x => ⟨[.any, .any, .own 0 0, .own 1 0, .own 2 0, .own 3 0, .any, .any, .any, .any, .any, .any, .any, .any, .any, .any, .any, .any, .any, .any, .any, .any, .any, .any, .any, .any, .any, .any, .any, .any, .any, .any, .any, .any, .any, .any, .any, .any, .any, .any, .any, .any, .any, .any, .any, .any, .any, .any, .any, .any, .any, .any, .any, .any, .any, .any, .any, .any, .any, .any, .any, .any, .any, .any, .any, .any, .any, .any, .any, .any, .any, .any, .any, .any, .any, .any, .any, .any, .any, .any, .any, .any, .any, .any, .any, .any, .any, .any, .any, .any, .any, .any, .any, .any, .any, .any, .any, .any, .any, .any, .any], [⟨true, true, lg x⟩, ⟨true, true, [.s .u64 (lim m 0), .s .u64 (lim m 1), .s .u64 (lim m 2), .s .u64 (lim m 3)]⟩, ⟨true, true, [.i .u64 0, .i .u64 0, .i .u64 0, .i .u64 0]⟩, ⟨true, true, dg5 cd⟩]⟩) (fun x => (∀ j, j < 17 → x j < 4294967296) ∧ V 4294967296 x 17 % m = r) (fun x => V 4294967296 x 17) x0 [0, 1, 2, 3] ?_ ⟨hx0d, by rw [hx0v, hr]⟩ ?_
  · cbv
    repeat' (first | exact rfl | exact trivial | constructor)
  clear hx0 hx0d hx0v crest
  intro x hx
  have xd : ∀ j, j < 17 → x j < 4294967296 := hx.1
  have xm : V 4294967296 x 17 % m = r := hx.2
  clear hx
  have hL := hLf x
  have rk0 := hrk x xd
  have hs0 := hsf x
  clear hrk
  generalize Lf x = L at hL rk0
  generalize sf x = s0 at hs0 rk0
  have t0 : ((x 0 : Nat) : Int) = ((s0 0 : Nat) : Int) := by rw [hs0]; rfl
  have t1 : ((x 1 : Nat) : Int) = ((s0 1 : Nat) : Int) := by rw [hs0]; rfl
  have t2 : ((x 2 : Nat) : Int) = ((s0 2 : Nat) : Int) := by rw [hs0]; rfl
  have t3 : ((x 3 : Nat) : Int) = ((s0 3 : Nat) : Int) := by rw [hs0]; rfl
  have t4 : ((x 4 : Nat) : Int) = ((s0 4 : Nat) : Int) := by rw [hs0]; rfl
  have t5 : ((x 5 : Nat) : Int) = ((s0 5 : Nat) : Int) := by rw [hs0]; rfl
  have t6 : ((x 6 : Nat) : Int) = ((s0 6 : Nat) : Int) := by rw [hs0]; rfl
  have t7 : ((x 7 : Nat) : Int) = ((s0 7 : Nat) : Int) := by rw [hs0]; rfl
  have t8 : (0 : Int) = ((s0 8 : Nat) : Int) := by rw [hs0]; rfl
  have t9 : (0 : Int) = ((s0 9 : Nat) : Int) := by rw [hs0]; rfl
  have t10 : (0 : Int) = ((s0 10 : Nat) : Int) := by rw [hs0]; rfl
  have t11 : (0 : Int) = ((s0 11 : Nat) : Int) := by rw [hs0]; rfl
  have t12 : (0 : Int) = ((s0 12 : Nat) : Int) := by rw [hs0]; rfl
  have t13 : (0 : Int) = ((s0 13 : Nat) : Int) := by rw [hs0]; rfl
  have t14 : (0 : Int) = ((s0 14 : Nat) : Int) := by rw [hs0]; rfl
  have t15 : (0 : Int) = ((s0 15 : Nat) : Int) := by rw [hs0]; rfl
  have t16 : (0 : Int) = ((s0 16 : Nat) : Int) := by rw [hs0]; rfl
  have h80 : (8 : Int) = ((8 + 0 : Nat) : Int) := rfl
  cbv
  refine .inv (α := Nat × Nat × (Nat → Nat) × Bool) (fun p => ⟨[.any, .any, .own 0 0, .own 1 0, .own 2 0, .own 3 0, .own 4 0, .sb p.2.2.2, .any, .s .i64 ((p.2.1 : Nat) : Int), .any, .any, .any, .any, .any, .any, .any, .any, .any, .any, .any, .any, .any, .any, .any, .any, .any, .any, .any, .any, .any, .any, .any, .any, .any, .any, .any, .any, .any, .any, .any, .any, .any, .any, .any, .any, .any, .any, .any, .any, .any, .any, .any, .any, .any, .any, .any, .any, .any, .any, .any, .any, .any, .any, .any, .any, .any, .any, .any, .any, .any, .any, .any, .any, .any, .any, .any, .any, .any, .any, .any, .any, .any, .any, .any, .any, .any, .any, .any, .any, .any, .any, .any, .any, .any, .any, .any, .any, .any, .any, .any], [⟨true, true, lg x⟩, ⟨true, true, [.s .u64 (lim m 0), .s .u64 (lim m 1), .s .u64 (lim m 2), .s .u64 (lim m 3)]⟩, ⟨true, true, [.i .u64 0, .i .u64 0, .i .u64 0, .i .u64 0]⟩, ⟨true, true, dg5 cd⟩, ⟨true, true, lg p.2.2.1⟩]⟩) (fun p => p.1 ≤ 9 ∧ p.2.1 = 8 + p.1 ∧ RK 4294967296 C x cd L p.1 0 p.2.2.1 ∧ (p.2.2.2 = false → ∀ j, j < p.1 → x (8 + j) = 0) ∧ (p.2.2.2 = true → ∃ j, j < p.1 ∧ x (8 + j) ≠ 0)) (fun p => 9 - p.1) (0, 8, s0, false) ?_ ⟨Nat.zero_le _, rfl, rk0, fun _ j h => absurd h (by omega), fun h => by cases h⟩ ?_
  · cbv
    repeat' (first | exact t0 | exact t1 | exact t2 | exact t3 | exact t4 | exact t5 | exact t6 | exact t7 | exact t8 | exact t9 | exact t10 | exact t11 | exact t12 | exact t13 | exact t14 | exact t15 | exact t16 | exact h80 | exact rfl | exact trivial | constructor)
  clear rk0 hs0 t0 t1 t2 t3 t4 t5 t6 t7 t8 t9 t10 t11 t12 t13 t14 t15 t16 h80
  clear s0
  rintro ⟨n, i8, s, hb⟩ ⟨h1, hi8, h2, h3, h4⟩
  dsimp only at h1 hi8 h2 h3 h4 ⊢
  by_cases hn : n < 9
  · have hcmp : A.cmp .lss ((i8 : Nat) : Int) 17 = true := lt_t hA (n := 17) rfl (by omega)
    have hnext : A.bin .add .i64 ((i8 : Nat) : Int) 1 = ((i8 + 1 : Nat) : Int) := nx hA i8 (by omega)
    have hj8 : i8 + 1 = 8 + (n + 1) := by omega
    have lx := lg_get hA x i8 (by omega)
    have b17 : i8 < 17 := by omega
    have q1 : n + 1 ≤ 9 := hn
    have q2 : 9 - (n + 1) < 9 - n := by omega
    have xn := xd i8 (by omega)
    by_cases hz : x i8 = 0
    · have e1 : A.cmp .eql ((x i8 : Nat) : Int) 0 = true := eq0_t hA (by rw [hz]; rfl)
      have k1 := h2.skip (by rw [← hi8]; exact hz)
      have k2 : hb = false → ∀ j, j < n + 1 → x (8 + j) = 0 := fun e j hj => by
        by_cases ej : j = n
        · rw [ej, ← hi8]; exact hz
        · exact h3 e j (by omega)
      have k3 : hb = true → ∃ j, j < n + 1 ∧ x (8 + j) ≠ 0 := fun e => by
        obtain ⟨j, j1, j2⟩ := h4 e
        exact ⟨j, by omega, j2⟩
      clear h2 h3 h4 hz hi8
      generalize hnn : n + 1 = n1 at *
      generalize i8 + 1 = j8 at *
      cbv
      refine ABr.t hcmp ?_
      cbv
      refine .sym i8 rfl b17 ?_
      cbv
      refine .mk _ lx ?_
      cbv
      refine ABr.t e1 ?_
      cbv
      refine ⟨(n1, j8, s, hb), ?_, ⟨q1, hj8, k1, k2, k3⟩, q2⟩
      cbv
      repeat' (first | exact hnext | exact rfl | exact trivial | constructor)
    · have e1 : A.cmp .eql ((x i8 : Nat) : Int) 0 = false := eq0_f hA (by omega)
      have kend : ∀ s, RK 4294967296 C x cd L n 5 s → RK 4294967296 C x cd L (n + 1) 0 s := fun s h => h.next hC
      have k2 : true = false → ∀ j, j < n + 1 → x (8 + j) = 0 := fun e => by cases e
      have k3 : true = true → ∃ j, j < n + 1 ∧ x (8 + j) ≠ 0 := fun _ => ⟨n, by omega, by rw [← hi8]; exact hz⟩
      have kstep : ∀ k s, k < 5 → RK 4294967296 C x cd L n k s → RK 4294967296 C x cd L n (k + 1) (upd (upd s (n + k) (s (n + k) + x i8 * cd k % 4294967296)) (n + k + 1) (s (n + k + 1) + x i8 * cd k / 4294967296)) := fun k s hk h => by
        have := h.step (by decide) (by omega) (by rw [← hi8]; exact xn) (hcd k hk)
        rw [← hi8] at this; exact this
      have j1 : ∀ k, k < 5 → A.bin .add .i64 (A.bin .sub .i64 ((i8 : Nat) : Int) 8) ((k : Nat) : Int) = ((n + k : Nat) : Int) := fun k hk => by
        rw [n_sub hA i8 8 (by omega) (by omega) (ki := 8) rfl, n_add hA _ _ (by omega)]; congr 1; omega
      have j2 : ∀ k, k < 5 → A.bin .add .i64 (A.bin .sub .i64 ((i8 : Nat) : Int) 7) ((k : Nat) : Int) = ((n + k + 1 : Nat) : Int) := fun k hk => by
        rw [n_sub hA i8 7 (by omega) (by omega) (ki := 7) rfl, n_add hA _ _ (by omega)]; congr 1; omega
      have hn9 : n < 9 := hn
      clear h3 h4 hz hi8
      generalize hnn : n + 1 = n1 at *
      generalize i8 + 1 = j8 at *
      cbv
      refine ABr.t hcmp ?_
      cbv
      refine .sym i8 rfl b17 ?_
      cbv
      refine .mk _ lx ?_
      cbv
      refine ABr.f e1 ?_
      cbv
      refine .inv (α := Nat × (Nat → Nat)) (fun p => ⟨[.any, .any, .own 0 0, .own 1 0, .own 2 0, .own 3 0, .own 4 0, .b true, .any, .s .i64 ((i8 : Nat) : Int), .s .i64 ((p.1 : Nat) : Int), .any, .any, .any, .any, .any, .any, .any, .any, .any, .any, .any, .any, .any, .any, .any, .any, .any, .any, .any, .any, .any, .any, .any, .any, .any, .any, .any, .any, .any, .any, .any, .any, .any, .any, .any, .any, .any, .any, .any, .any, .any, .any, .any, .any, .any, .any, .any, .any, .any, .any, .any, .any, .any, .any, .any, .any, .any, .any, .any, .any, .any, .any, .any, .any, .any, .any, .any, .any, .any, .any, .any, .any, .any, .any, .any, .any, .any, .any, .any, .any, .any, .any, .any, .any, .any, .any, .any, .any, .any, .any], [⟨true, true, lg x⟩, ⟨true, true, [.s .u64 (lim m 0), .s .u64 (lim m 1), .s .u64 (lim m 2), .s .u64 (lim m 3)]⟩, ⟨true, true, [.i .u64 0, .i .u64 0, .i .u64 0, .i .u64 0]⟩, ⟨true, true, dg5 cd⟩, ⟨true, true, lg p.2⟩]⟩) (fun p => p.1 ≤ 5 ∧ RK 4294967296 C x cd L n p.1 p.2) (fun p => 5 - p.1) (0, s) ?_ ⟨Nat.zero_le _, h2⟩ ?_
      · cbv
        repeat' (first | exact rfl | exact trivial | constructor)
      clear h2 s
      rintro ⟨k, s⟩ ⟨g1, g2⟩
      dsimp only at g1 g2 ⊢
      by_cases hk : k < 5
      · have hst := kstep k s hk g2
        have c1 := hcd k hk
        have bs := g2.bnd
        have bs1 := bs (n + k)
        have bs2 := bs (n + k + 1)
        have hbig : (1 + 10 * n + 2 * k) * 4294967296 ≤ 101 * 4294967296 := Nat.mul_le_mul_right _ (by omega)
        have hxc : x i8 * cd k ≤ 4294967295 * 4294967295 := Nat.mul_le_mul (by omega) (by omega)
        obtain ⟨p, hp⟩ : ∃ p, p = x i8 * cd k := ⟨_, rfl⟩
        rw [← hp] at hst hxc
        obtain ⟨s1, hs1⟩ : ∃ s1, s1 = upd s (n + k) (s (n + k) + p % 4294967296) := ⟨_, rfl⟩
        rw [← hs1] at hst
        obtain ⟨s2, hs2⟩ : ∃ s2, s2 = upd s1 (n + k + 1) (s (n + k + 1) + p / 4294967296) := ⟨_, rfl⟩
        rw [← hs2] at hst
        have w1 : s1 (n + k) = s (n + k) + p % 4294967296 := by rw [hs1]; exact upd_eq _ _ _
        have w1' : s1 (n + k + 1) = s (n + k + 1) := by rw [hs1]; exact upd_ne _ _ _ _ (by omega)
        have w2 : s2 (n + k + 1) = s1 (n + k + 1) + p / 4294967296 := by rw [hs2, w1']; exact upd_eq _ _ _
        have u1 : ∀ m, m ≠ n + k → s1 m = s m := fun m h => by rw [hs1]; exact upd_ne _ _ _ _ h
        have u2 : ∀ m, m ≠ n + k + 1 → s2 m = s1 m := fun m h => by rw [hs2]; exact upd_ne _ _ _ _ h
        have em : A.bin .mul .u64 ((x i8 : Nat) : Int) ((cd k : Nat) : Int) = (p : Int) := by rw [hA, hp]; exact q_mul (by rw [← hp]; omega)
        have v1 : A.bin .add .u64 ((s (n + k) : Nat) : Int) (A.bin .rem .u64 (A.bin .mul .u64 ((x i8 : Nat) : Int) ((cd k : Nat) : Int)) 4294967296) = ((s1 (n + k) : Nat) : Int) := by
          rw [em, w1, hA]; exact (congrArg (fun z => rbin .add .u64 _ z) (q_rem p)).trans (q_add (by omega))
        have v2 : A.bin .add .u64 ((s1 (n + k + 1) : Nat) : Int) (A.bin .quo .u64 (A.bin .mul .u64 ((x i8 : Nat) : Int) ((cd k : Nat) : Int)) 4294967296) = ((s2 (n + k + 1) : Nat) : Int) := by
          rw [em, w2, hA]; exact (congrArg (fun z => rbin .add .u64 _ z) (q_quo (by omega))).trans (q_add (by rw [w1']; omega))
        have b1 : n + k < 17 := by omega
        have b2 : n + k + 1 < 17 := by omega
        have put1 := lg_put hA s s1 (n + k) b1 v1 u1
        have put2 := lg_put hA s1 s2 (n + k + 1) b2 v2 u2
        have get1 := lg_get hA s (n + k) b1
        have get2 := lg_get hA s1 (n + k + 1) b2
        have getc := dg5_get hA cd k hk
        have jj1 := j1 k hk
        have jj2 := j2 k hk
        have hcmpk := lt_t hA (n := 5) rfl hk
        have hnk := nx hA k (by omega)
        have r1 : k + 1 ≤ 5 := hk
        have r2 : 5 - (k + 1) < 5 - k := by omega
        clear kend kstep j1 j2 em v1 v2 hs1 hs2 w1 w1' w2 u1 u2 bs bs1 bs2 hbig hxc hp g2 c1
        generalize n + k + 1 = m2 at *
        generalize n + k = m1 at *
        generalize k + 1 = k1 at *
        cbv
        refine ABr.t hcmpk ?_
        cbv
        refine .sym i8 rfl b17 ?_
        cbv
        refine .mk _ lx ?_
        cbv
        refine .sym k rfl hk ?_
        cbv
        refine .mk _ getc ?_
        cbv
        refine .sym m1 jj1 b1 ?_
        cbv
        refine .mk _ get1 ?_
        cbv
        refine .sym m1 jj1 b1 ?_
        cbv
        refine .mk _ put1 ?_
        cbv
        refine .sym m2 jj2 b2 ?_
        cbv
        refine .mk _ get2 ?_
        cbv
        refine .sym m2 jj2 b2 ?_
        cbv
        refine .mk _ put2 ?_
        cbv
        refine ⟨(k1, s2), ?_, ⟨r1, hst⟩, r2⟩
        cbv
        repeat' (first | exact hnk | exact rfl | exact trivial | constructor)
      · obtain rfl : k = 5 := by omega
        have k1 := kend s g2
        have hcmpk := lt_f hA (x := 5) (n := 5) rfl (by decide)
        clear kend kstep j1 j2 g2
        cbv
        refine ABr.f hcmpk ?_
        cbv
        refine ⟨(n1, j8, s, true), ?_, ⟨q1, hj8, k1, k2, k3⟩, q2⟩
        cbv
        repeat' (first | exact hnext | exact rfl | exact trivial | constructor)
  · obtain rfl : n = 9 := by omega
    have hcmp : A.cmp .lss ((i8 : Nat) : Int) 17 = false := lt_f hA (x := i8) (n := 17) rfl (by omega)
    have ckz : CK 4294967296 s 0 x 0 := ⟨rfl, fun j h => absurd h (by omega), by decide⟩
    have fin := fun (x' : Nat → Nat) (c : Nat) (h : CK 4294967296 s 17 x' c) => red_pure xd hL hm hm0 h2 h
    have hsb : ∀ j, s j < 100 * 4294967296 := fun j => Nat.lt_of_lt_of_le (h2.bnd j) (by omega)
    rw [xm] at fin
    clear h2 hL xm
    cbv
    refine ABr.f hcmp ?_
    cbv
    refine .inv (α := Nat × (Nat → Nat) × Nat) (fun p => ⟨[.any, .any, .own 0 0, .own 1 0, .own 2 0, .own 3 0, .own 4 0, .sb hb, .any, .any, .any, .any, .s .u64 ((p.2.2 : Nat) : Int), .s .i64 ((p.1 : Nat) : Int), .any, .any, .any, .any, .any, .any, .any, .any, .any, .any, .any, .any, .any, .any, .any, .any, .any, .any, .any, .any, .any, .any, .any, .any, .any, .any, .any, .any, .any, .any, .any, .any, .any, .any, .any, .any, .any, .any, .any, .any, .any, .any, .any, .any, .any, .any, .any, .any, .any, .any, .any, .any, .any, .any, .any, .any, .any, .any, .any, .any, .any, .any, .any, .any, .any, .any, .any, .any, .any, .any, .any, .any, .any, .any, .any, .any, .any, .any, .any, .any, .any, .any, .any, .any, .any, .any, .any], [⟨true, true, lg p.2.1⟩, ⟨true, true, [.s .u64 (lim m 0), .s .u64 (lim m 1), .s .u64 (lim m 2), .s .u64 (lim m 3)]⟩, ⟨true, true, [.i .u64 0, .i .u64 0, .i .u64 0, .i .u64 0]⟩, ⟨true, true, dg5 cd⟩, ⟨true, true, lg s⟩]⟩) (fun p => p.1 ≤ 17 ∧ CK 4294967296 s p.1 p.2.1 p.2.2) (fun p => 17 - p.1) (0, x, 0) ?_ ⟨Nat.zero_le _, ckz⟩ ?_
    · cbv
      repeat' (first | exact rfl | exact trivial | constructor)
    clear ckz
    rintro ⟨i, x', c⟩ ⟨g1, g2⟩
    dsimp only at g1 g2 ⊢
    by_cases hi : i < 17
    · have hst := g2.step (by decide) (hsb i)
      have c1 := g2.bnd
      have s1 := hsb i
      obtain ⟨t, ht⟩ : ∃ t, t = s i + c := ⟨_, rfl⟩
      rw [← ht] at hst
      obtain ⟨x2, hx2⟩ : ∃ x2, x2 = upd x' i (t % 4294967296) := ⟨_, rfl⟩
      rw [← hx2] at hst
      have w1 : x2 i = t % 4294967296 := by rw [hx2]; exact upd_eq _ _ _
      have u1 : ∀ m, m ≠ i → x2 m = x' m := fun m h => by rw [hx2]; exact upd_ne _ _ _ _ h
      have e1 : A.bin .add .u64 ((s i : Nat) : Int) ((c : Nat) : Int) = (t : Int) := by rw [hA, ht]; exact q_add (by omega)
      have e2 : A.bin .rem .u64 (A.bin .add .u64 ((s i : Nat) : Int) ((c : Nat) : Int)) 4294967296 = ((x2 i : Nat) : Int) := by rw [e1, w1, hA]; exact q_rem t
      have e3 : A.bin .quo .u64 (A.bin .add .u64 ((s i : Nat) : Int) ((c : Nat) : Int)) 4294967296 = ((t / 4294967296 : Nat) : Int) := by rw [e1, hA]; exact q_quo (by omega)
      have put := lg_put hA x' x2 i hi e2 u1
      have get := lg_get hA s i hi
      have hcmpi := lt_t hA (n := 17) rfl hi
      have hni := nx hA i (by omega)
      have r1 : i + 1 ≤ 17 := hi
      have r2 : 17 - (i + 1) < 17 - i := by omega
      clear fin hsb e1 e2 hx2 w1 u1 ht s1 c1 g2
      generalize i + 1 = i1 at *
      generalize t / 4294967296 = c2 at *
      cbv
      refine ABr.t hcmpi ?_
      cbv
      refine .sym i rfl hi ?_
      cbv
      refine .mk _ get ?_
      cbv
      refine .sym i rfl hi ?_
      cbv
      refine .mk _ put ?_
      cbv
      refine ⟨(i1, x2, c2), ?_, ⟨r1, hst⟩, r2⟩
      cbv
      repeat' (first | exact hni | exact e3 | exact rfl | exact trivial | constructor)
    · obtain rfl : i = 17 := by omega
      obtain ⟨f1, f2, f3, f4⟩ := fin x' c g2
      have hcmpi := lt_f hA (x := 17) (n := 17) rfl (by decide)
      clear fin hsb g2
      cases hb with
      | true =>
        have f5 := f3 (h4 rfl)
        have nt : A.not true = false := by rw [hA]; rfl
        clear h3 h4 f3 f4
        cbv
        refine ABr.f hcmpi ?_
        cbv
        refine ABr.f nt ?_
        cbv
        refine ⟨x', [0, 1, 2, 3], ?_, ⟨f2, f1⟩, f5⟩
        cbv
        repeat' (first | exact rfl | exact trivial | constructor)
      | false =>
        obtain ⟨f5, f6⟩ := f4 (h3 rfl)
        have nf : A.not false = true := by rw [hA]; rfl
        have cw := crr x' (fun j hj => f2 j (by omega))
        clear h3 h4 f3 f4 f1 f2 crr
        generalize V 4294967296 x' 8 = v0 at *
        cbv
        refine ABr.f hcmpi ?_
        cbv
        refine ABr.t nf ?_
        cbv
        refine ACall.mk _ (cf hS cw) ?_
        cbv
        refine .inv (α := Nat) (fun v => ⟨[.any, .any, .own 0 0, .own 1 0, .own 2 0, .own 3 0, .any, .any, .any, .any, .any, .any, .any, .any, .any, .own 5 0, .any, .any, .any, .any, .any, .any, .any, .any, .any, .any, .any, .any, .any, .any, .any, .any, .any, .any, .any, .any, .any, .any, .any, .any, .any, .any, .any, .any, .any, .any, .any, .any, .any, .any, .any, .any, .any, .any, .any, .any, .any, .any, .any, .any, .any, .any, .any, .any, .any, .any, .any, .any, .any, .any, .any, .any, .any, .any, .any, .any, .any, .any, .any, .any, .any, .any, .any, .any, .any, .any, .any, .any, .any, .any, .any, .any, .any, .any, .any, .any, .any, .any, .any, .any, .any], [⟨true, true, lg x'⟩, ⟨true, true, [.s .u64 (lim m 0), .s .u64 (lim m 1), .s .u64 (lim m 2), .s .u64 (lim m 3)]⟩, ⟨true, true, [.i .u64 0, .i .u64 0, .i .u64 0, .i .u64 0]⟩, ⟨true, true, dg5 cd⟩, ⟨true, true, lg s⟩, ⟨true, true, [.s .u64 (lim v 0), .s .u64 (lim v 1), .s .u64 (lim v 2), .s .u64 (lim v 3)]⟩]⟩) (fun v => v < 2 ^ 256 ∧ v % m = r) (fun v => v) v0 ?_ ⟨f5, f6⟩ ?_
        · cbv
          repeat' (first | exact rfl | exact trivial | constructor)
        clear f5 f6 cw
        intro v hv
        have v1 : v < 2 ^ 256 := hv.1
        have v2 : v % m = r := hv.2
        clear hv
        have cc := ccc v v1 hmlt
        by_cases hmv : m ≤ v
        · have gg := u_geZ hA v m true (decide_eq_true hmv)
          have cs1 := css v v1 hmv
          have y1 : (v - m) % m = r := by rw [← v2, Nat.mod_eq_sub_mod hmv]
          have y2 : v - m < v := by omega
          have y3 : v - m < 2 ^ 256 := by omega
          clear ccc css
          generalize v - m = v3 at *
          generalize cmpZ v m = z at *
          cbv
          refine ACall.mk _ (cf hS cc) ?_
          cbv
          refine ABr.t gg ?_
          cbv
          refine ACall.mk _ (cf hS cs1) ?_
          cbv
          refine ⟨v3, ?_, ⟨y3, y1⟩, y2⟩
          cbv
          repeat' (first | exact rfl | exact trivial | constructor)
        · have gg := u_geZ hA v m false (decide_eq_false hmv)
          have y1 : v = r := by rw [← v2, Nat.mod_eq_of_lt (by omega)]
          subst y1
          clear ccc css
          generalize cmpZ v m = z at *
          cbv
          refine ACall.mk _ (cf hS cc) ?_
          cbv
          refine ABr.f gg ?_
          cbv
end Go.Proofs.YtkhipnhdbaahcaaGreat
end
section
set_option linter.unusedVariables false
set_option linter.unusedSimpArgs false
namespace Go.Proofs.YtkhipnhdbaahcaaGreat
open Go Eng
set_option maxRecDepth 100000
set_option exponentiation.threshold 2000
set_option maxHeartbeats 8000000
open Dg
/-- What reduce is to know of a modulus. -/
structure RedM (lim : Lim) (M : Nat) : Prop where
  ex : ∃ C cd, (∀ k, k < 5 → cd k < 4294967296) ∧ V 4294967296 cd 5 = C ∧ C + M = 2 ^ 256 ∧ Sp 127 [u4 lim M] (.agg (dg5 cd))
  one : 1 < M
  lt : M < 2 ^ 256
def cdP (i : Nat) : Nat := [977, 1, 0, 0, 0].getD i 0
theorem r6P {lim : Lim} (hl : lim = limR) (m : Nat) (hm : m = Sk.pS) : Sp 44 [] (u4 lim m) := by
  have e0 : (18446744069414583343 : Int) = lim m 0 := by rw [hl, hm]; decide +kernel
  have e1 : (18446744073709551615 : Int) = lim m 1 := by rw [hl, hm]; decide +kernel
  have e2 : (18446744073709551615 : Int) = lim m 2 := by rw [hl, hm]; decide +kernel
  have e3 : (18446744073709551615 : Int) = lim m 3 := by rw [hl, hm]; decide +kernel
  refine mk Tryz.func44 rfl rfl L0 R1 (by decide +kernel) fun A S hA hS => ?_
  unfold bodyOf Tryz.f44
  cbv
  repeat' (first | exact e0 | exact e1 | exact e2 | exact e3 | exact rfl | exact trivial | constructor)
theorem r6N {lim : Lim} (hl : lim = limR) (m : Nat) (hm : m = Sk.nS) : Sp 23 [] (u4 lim m) := by
  have e0 : (13822214165235122497 : Int) = lim m 0 := by rw [hl, hm]; decide +kernel
  have e1 : (13451932020343611451 : Int) = lim m 1 := by rw [hl, hm]; decide +kernel
  have e2 : (18446744073709551614 : Int) = lim m 2 := by rw [hl, hm]; decide +kernel
  have e3 : (18446744073709551615 : Int) = lim m 3 := by rw [hl, hm]; decide +kernel
  refine mk Tryz.func23 rfl rfl L0 R1 (by decide +kernel) fun A S hA hS => ?_
  unfold bodyOf Tryz.f23
  cbv
  repeat' (first | exact e0 | exact e1 | exact e2 | exact e3 | exact rfl | exact trivial | constructor)
theorem pS_256 : Sk.pS < 2 ^ 256 := by decide
theorem redP {lim : Lim} (hl : lim = limR) (m : Nat) (hm : m = Sk.pS) : RedM lim m where
  ex := by
    refine ⟨2 ^ 256 - Sk.pS, cdP, by decide, by decide +kernel, by rw [hm]; decide +kernel, ?_⟩
    have c := r6P hl m hm
    have h256 : m < 2 ^ 256 := by rw [hm]; exact pS_256
    have d0 : (977 : Int) = ((cdP 0 : Nat) : Int) := rfl
    have d1 : (1 : Int) = ((cdP 1 : Nat) : Int) := rfl
    have d2 : (0 : Int) = ((cdP 2 : Nat) : Int) := rfl
    have d3 : (0 : Int) = ((cdP 3 : Nat) : Int) := rfl
    have d4 : (0 : Int) = ((cdP 4 : Nat) : Int) := rfl
    generalize cdP = cd at *
    clear hm
    refine mk Tryz.func127 rfl rfl L0 R1 (by decide +kernel) fun A S hA hS => ?_
    have e := (weq4 hA hl h256 h256).trans (decide_eq_true rfl)
    unfold bodyOf Tryz.f127
    cbv
    repeat (first
      | (refine ABr.t (by assumption) ?_; cbv)
      | (refine ABr.f (by assumption) ?_; cbv)
      | (refine ABr.t rfl ?_; cbv)
      | (refine ABr.f rfl ?_; cbv)
      | (refine ACall.mk _ (cf hS c) ?_; cbv))
    repeat' (first | exact d0 | exact d1 | exact d2 | exact d3 | exact d4 | exact rfl | exact trivial | constructor)
  one := by rw [hm]; decide
  lt := by rw [hm]; exact pS_256
theorem lg_congr {c z : Nat → Nat} (h : ∀ j, j < 17 → c j = z j) : lg c = lg z := by
  unfold lg
  rw [h 0 (by decide), h 1 (by decide), h 2 (by decide), h 3 (by decide), h 4 (by decide), h 5 (by decide), h 6 (by decide), h 7 (by decide), h 8 (by decide), h 9 (by decide), h 10 (by decide), h 11 (by decide), h 12 (by decide), h 13 (by decide), h 14 (by decide), h 15 (by decide), h 16 (by decide)]
section
variable {lim : Lim} (hl : lim = limR) {M : Nat} (hM : RedM lim M)
include hl hM
theorem redS (a : Nat) (ha : a < 4294967296 ^ 17) (x0 : Nat → Nat) (hx0 : x0 = dg 4294967296 a) : Sp 88 [.agg (lg x0), u4 lim M] (u4 lim (a % M)) := by
  obtain ⟨C, cd, h1, h2, h3, h4⟩ := hM.ex
  exact reduceS hl M C cd h1 h2 h3 (by have := hM.one; omega) hM.lt h4 a ha x0 hx0
theorem r6mul (a b : Nat) (ha : a < 2 ^ 256) (hb : b < 2 ^ 256) : Sp 45 [u4 lim a, u4 lim b, u4 lim M] (u4 lim (a * b % M)) := by
  have ct := rTimesS hl a b ha hb _ rfl
  have hlt : a * b < 4294967296 ^ 17 := by
    have := Nat.mul_lt_mul_of_lt_of_le ha (Nat.le_of_lt hb) (by decide)
    exact Nat.lt_trans this (by decide)
  have cr := redS hl hM (a * b) hlt _ rfl
  generalize a * b % M = v at *
  generalize dg 4294967296 (a * b) = z at *
  clear hlt
  refine mk Tryz.func45 rfl rfl L0 R1 (by decide +kernel) fun A S hA hS => ?_
  unfold bodyOf Tryz.f45
  cbv
  repeat (first
    | (refine ABr.t (by assumption) ?_; cbv)
    | (refine ABr.f (by assumption) ?_; cbv)
    | (refine ABr.t rfl ?_; cbv)
    | (refine ABr.f rfl ?_; cbv)
    | (refine ACall.mk _ (cf hS ct) ?_; cbv)
    | (refine ACall.mk _ (cf hS cr) ?_; cbv))
theorem r6add (a b : Nat) (ha : a < 2 ^ 256) (hb : b < 2 ^ 256) : Sp 91 [u4 lim a, u4 lim b, u4 lim M] (u4 lim ((a + b) % M)) := by
  have fa := fromS hl a ha _ rfl
  have fb := fromS hl b hb _ rfl
  have p8 : 4294967296 ^ 8 = 2 ^ 256 := pow_D 8
  have hlt : a + b < 4294967296 ^ 17 := Nat.lt_of_lt_of_le (show a + b < 2 ^ 257 by omega) (by decide)
  have va : V 4294967296 (dg 4294967296 a) 17 = a := V_num (Nat.lt_trans ha (by decide))
  have vb : V 4294967296 (dg 4294967296 b) 17 = b := V_num (Nat.lt_trans hb (by decide))
  obtain ⟨c, q, sk, cp⟩ := plusS (dg 4294967296 a) (dg 4294967296 b) (fun j _ => dg_lt (by decide) a j) (fun j _ => dg_lt (by decide) b j)
  have hv : V 4294967296 c 17 = a + b := by
    have h := sk.val
    rw [va, vb] at h
    rcases Nat.eq_zero_or_pos q with e | e
    · rw [e, Nat.zero_mul, Nat.add_zero] at h; exact h
    · exfalso
      have := Nat.mul_le_mul_right (4294967296 ^ 17) e
      rw [Nat.one_mul] at this
      omega
  have hc : lg c = lg (dg 4294967296 (a + b)) := lg_congr fun j hj => V_of (B := 4294967296) (n := 17) (by decide) hv (fun j hj => sk.dig j hj) hj
  rw [hc] at cp
  have cr := redS hl hM (a + b) hlt _ rfl
  clear hc hv sk va vb hlt p8 q
  generalize (a + b) % M = v at *
  generalize dg 4294967296 (a + b) = z at *
  generalize dg 4294967296 a = xa at *
  generalize dg 4294967296 b = xb at *
  refine mk Tryz.func91 rfl rfl L0 R1 (by decide +kernel) fun A S hA hS => ?_
  unfold bodyOf Tryz.f91
  cbv
  repeat (first
    | (refine ABr.t (by assumption) ?_; cbv)
    | (refine ABr.f (by assumption) ?_; cbv)
    | (refine ABr.t rfl ?_; cbv)
    | (refine ABr.f rfl ?_; cbv)
    | (refine ACall.mk _ (cf hS fa) ?_; cbv)
    | (refine ACall.mk _ (cf hS fb) ?_; cbv)
    | (refine ACall.mk _ (cf hS cp) ?_; cbv)
    | (refine ACall.mk _ (cf hS cr) ?_; cbv))
theorem r6sub (a b : Nat) (ha : a < M) (hb : b < M) : Sp 58 [u4 lim a, u4 lim b, u4 lim M] (u4 lim ((a + M - b) % M)) := by
  have h256 := hM.lt
  have a256 : a < 2 ^ 256 := by omega
  have b256 : b < 2 ^ 256 := by omega
  by_cases h : b = 0
  · have e : (a + M - b) % M = a := by rw [h, Nat.sub_zero, Nat.add_mod_right, Nat.mod_eq_of_lt ha]
    rw [e]
    clear e
    refine mk Tryz.func58 rfl rfl L0 R1 (by decide +kernel) fun A S hA hS => ?_
    have ez := (zeq4 hA hl (x := b) b256).trans (decide_eq_true h)
    unfold bodyOf Tryz.f58
    cbv
    refine ABr.t ez ?_
    cbv
  · have cs_ := rSubS hl M b h256 (Nat.le_of_lt hb)
    have ca := r6add hl hM a (M - b) a256 (by omega)
    rw [show a + (M - b) = a + M - b by omega] at ca
    generalize (a + M - b) % M = v at *
    generalize M - b = w at *
    refine mk Tryz.func58 rfl rfl L0 R1 (by decide +kernel) fun A S hA hS => ?_
    have ez := (zeq4 hA hl (x := b) b256).trans (decide_eq_false h)
    unfold bodyOf Tryz.f58
    cbv
    refine ABr.f ez ?_
    cbv
    repeat (first
      | (refine ABr.t (by assumption) ?_; cbv)
      | (refine ABr.f (by assumption) ?_; cbv)
      | (refine ABr.t rfl ?_; cbv)
      | (refine ABr.f rfl ?_; cbv)
      | (refine ACall.mk _ (cf hS cs_) ?_; cbv)
      | (refine ACall.mk _ (cf hS ca) ?_; cbv))
end
theorem r2Bit {lim : Lim} (hl : lim = limR) (e i : Nat) (hi : i < 256) : Sp 112 [u4 lim e, .s .i64 (i : Int)] (.s .u64 ((e / 2 ^ i % 2 : Nat) : Int)) := by
  have hcs := row4F lim e
  have hbt : (lim e (i / 64)).toNat / 2 ^ (i % 64) % 2 = e / 2 ^ i % 2 := by rw [hl]; exact word_bit e i
  have hw := lim_range hl e (i / 64)
  have hq4 : i / 64 < 4 := by omega
  have key : ∀ (A : Ar) (hA : A = Ar.real), A.bin .rem .u64 (A.bin .shr .u64 (lim e (i / 64)) (A.wrap .u64 (A.bin .rem .i64 (i : Int) 64))) 2 = ((e / 2 ^ i % 2 : Nat) : Int) := fun A hA => by
    have h1 : A.bin .rem .i64 (i : Int) 64 = ((i % 64 : Nat) : Int) := e_rem hA rfl rfl (by omega) (by omega)
    rw [h1]
    have h2 : A.wrap .u64 ((i % 64 : Nat) : Int) = ((i % 64 : Nat) : Int) := by
      rw [hA]
      have : ∀ x : Nat, x < 64 → IntKind.u64.wrap (x : Int) = (x : Int) := by decide
      exact this _ (Nat.mod_lt _ (by decide))
    rw [h2]
    have b := u_bit hA hw (k := ((i % 64 : Nat) : Int)) rfl (by omega)
    rw [hbt] at b
    rw [hA] at b ⊢
    obtain ⟨x, hx⟩ : ∃ x : Nat, lim e (i / 64) = x := ⟨(lim e (i / 64)).toNat, by omega⟩
    rw [hx] at b hw ⊢
    have s : Ar.real.bin .shr .u64 (x : Int) ((i % 64 : Nat) : Int) = ((x / 2 ^ (i % 64) : Nat) : Int) := u_shr x (i % 64) (by omega)
    rw [s]
    have r := rem_u (x := x / 2 ^ (i % 64)) (y := 2)
    refine Eq.trans r ?_
    rw [← hbt, hx, Int.toNat_natCast]
  have hok : ∀ (A : Ar) (hA : A = Ar.real), A.okb .shr (A.wrap .u64 (A.bin .rem .i64 (i : Int) 64)) = true := fun A hA => by
    have h1 : A.bin .rem .i64 (i : Int) 64 = ((i % 64 : Nat) : Int) := e_rem hA rfl rfl (by omega) (by omega)
    rw [h1]
    have h2 : A.wrap .u64 ((i % 64 : Nat) : Int) = ((i % 64 : Nat) : Int) := by
      rw [hA]
      have : ∀ x : Nat, x < 64 → IntKind.u64.wrap (x : Int) = (x : Int) := by decide
      exact this _ (Nat.mod_lt _ (by decide))
    rw [h2]; exact (a_okbS hA (by omega)).1
  generalize e / 2 ^ i % 2 = bt at *
  have hquo : ∀ (A : Ar) (hA : A = Ar.real), A.bin .quo .i64 (i : Int) 64 = ((i / 64 : Nat) : Int) := fun A hA => e_quo hA rfl rfl (by omega) (by omega) (by omega) (by omega)
  generalize i / 64 = q at *
  clear hbt
  refine mk Tryz.func112 rfl rfl L0 R1 (by decide +kernel) fun A S hA hS => ?_
  have hq : lsub [.s .u64 (lim e 0), .s .u64 (lim e 1), .s .u64 (lim e 2), .s .u64 (lim e 3)] (A.offs 0 q 1) 1 = some [.s .u64 (lim e q)] := by rw [a_offsF hA, Nat.zero_add]; exact hcs.2 q hq4
  have key := key A hA
  have hquo := hquo A hA
  have hok := hok A hA
  unfold bodyOf Tryz.f112
  cbv
  refine .sym q hquo hq4 ?_
  cbv
  refine .mk _ hq ?_
  cbv
  refine .mk hok ?_
  cbv
  exact key
section
variable {lim : Lim} (hl : lim = limR) {M : Nat} (hM : RedM lim M)
theorem pw_step {a e M k : Nat} (hM : 1 < M) : (e / 2 ^ k % 2 = 1 → a ^ (e / 2 ^ (k + 1)) % M * (a ^ (e / 2 ^ (k + 1)) % M) % M * a % M = a ^ (e / 2 ^ k) % M) ∧ (e / 2 ^ k % 2 ≠ 1 → a ^ (e / 2 ^ (k + 1)) % M * (a ^ (e / 2 ^ (k + 1)) % M) % M = a ^ (e / 2 ^ k) % M) := by
  have e1 : e / 2 ^ (k + 1) = e / 2 ^ k / 2 := by rw [Nat.pow_succ, Nat.div_div_eq_div_mul]
  rw [e1]
  generalize e / 2 ^ k = u
  constructor
  · intro h
    have hu : u = u / 2 + u / 2 + 1 := by omega
    rw [← Nat.mul_mod, Nat.mod_mul_mod, ← Nat.pow_add, ← Nat.pow_succ, show (u / 2 + u / 2).succ = u by omega]
  · intro h
    have hu : u = u / 2 + u / 2 := by omega
    rw [← Nat.mul_mod, ← Nat.pow_add, ← hu]
include hl hM
theorem r6pow (a e : Nat) (ha : a < 2 ^ 256) (he : e < 2 ^ 256) (v : Nat) (hv : v = a ^ e % M) : Sp 72 [u4 lim a, u4 lim e, u4 lim M] (u4 lim v) := by
  obtain ⟨pw, hpw⟩ : ∃ pw : Nat → Nat, ∀ k, pw k = a ^ (e / 2 ^ k) % M := ⟨fun k => a ^ (e / 2 ^ k) % M, fun _ => rfl⟩
  have h0 : pw 0 = v := by rw [hpw, hv, Nat.pow_zero, Nat.div_one]
  have h256 : pw 256 = 1 := by rw [hpw, Nat.div_eq_of_lt he, Nat.pow_zero, Nat.mod_eq_of_lt hM.one]
  have hlt : ∀ k, pw k < 2 ^ 256 := fun k => by rw [hpw]; exact Nat.lt_trans (Nat.mod_lt _ (by have := hM.one; omega)) hM.lt
  have hs1 : ∀ k, e / 2 ^ k % 2 = 1 → pw (k + 1) * pw (k + 1) % M * a % M = pw k := fun k h => by rw [hpw, hpw]; exact (pw_step hM.one).1 h
  have hs2 : ∀ k, e / 2 ^ k % 2 ≠ 1 → pw (k + 1) * pw (k + 1) % M = pw k := fun k h => by rw [hpw, hpw]; exact (pw_step hM.one).2 h
  have hsq : ∀ k, pw (k + 1) * pw (k + 1) % M < 2 ^ 256 := fun k => Nat.lt_trans (Nat.mod_lt _ (by have := hM.one; omega)) hM.lt
  clear hpw hv
  have c1 : ∀ k, Sp 45 [u4 lim (pw (k + 1)), u4 lim (pw (k + 1)), u4 lim M] (u4 lim (pw (k + 1) * pw (k + 1) % M)) := fun k => r6mul hl hM _ _ (hlt _) (hlt _)
  have c2 : ∀ k, e / 2 ^ k % 2 = 1 → Sp 45 [u4 lim (pw (k + 1) * pw (k + 1) % M), u4 lim a, u4 lim M] (u4 lim (pw k)) := fun k h => by
    have := r6mul hl hM _ a (hsq k) ha
    rw [hs1 k h] at this; exact this
  have cb : ∀ k : Nat, k < 256 → Sp 112 [u4 lim e, .s .i64 (k : Int)] (.s .u64 ((e / 2 ^ k % 2 : Nat) : Int)) := fun k hk => r2Bit hl e k hk
  have o0 : (1 : Int) = lim (pw 256) 0 := by rw [h256, hl]; rfl
  have os : ∀ i, i < 3 → (0 : Int) = lim (pw 256) (i + 1) := fun i hi => by
    rw [h256, hl]; show (0 : Int) = ((1 / 2 ^ (64 * (i + 1)) % 2 ^ 64 : Nat) : Int)
    rw [Nat.div_eq_of_lt (Nat.one_lt_two_pow (by omega))]; rfl
  have o1 := os 0 (by decide)
  have o2 := os 1 (by decide)
  have o3 := os 2 (by decide)
  clear os hs1 h256 hsq hlt
  refine mk Tryz.func72 rfl rfl L00 R1 (by decide +kernel) fun A S hA hS => ?_
  unfold bodyOf Tryz.f72
  cbv
  refine .inv (α := Nat × Int) (fun p => ⟨[.any, .any, .any, .own 0 0, .own 1 0, .own 2 0, .own 3 0, .own 4 0, .s .i64 p.2, .any, .any, .any, .any, .any, .any, .any, .any, .any, .any, .any, .any, .any, .any, .any, .any, .any, .any], [⟨true, true, [.s .u64 (lim a 0), .s .u64 (lim a 1), .s .u64 (lim a 2), .s .u64 (lim a 3)]⟩, ⟨true, true, [.s .u64 (lim e 0), .s .u64 (lim e 1), .s .u64 (lim e 2), .s .u64 (lim e 3)]⟩, ⟨true, true, [.s .u64 (lim M 0), .s .u64 (lim M 1), .s .u64 (lim M 2), .s .u64 (lim M 3)]⟩, ⟨true, true, [.i .u64 0, .i .u64 0, .i .u64 0, .i .u64 0]⟩, ⟨true, true, [.s .u64 (lim (pw p.1) 0), .s .u64 (lim (pw p.1) 1), .s .u64 (lim (pw p.1) 2), .s .u64 (lim (pw p.1) 3)]⟩]⟩) (fun p => p.1 ≤ 256 ∧ p.2 = (p.1 : Int) - 1) (fun p => p.1) (256, 255) ?_ ⟨Nat.le_refl _, rfl⟩ ?_
  · cbv
    repeat' (first | exact o0 | exact o1 | exact o2 | exact o3 | exact rfl | exact trivial | constructor)
  rintro ⟨k, i⟩ ⟨h1, h2⟩
  dsimp only at h1 h2 ⊢
  by_cases hk : k = 0
  · subst hk
    have hge : A.cmp .geq i 0 = false := (i_ge hA).trans (decide_eq_false (by omega))
    clear c1 c2 cb o0 o1 o2 o3 hs2 h1 h2
    rw [h0]
    clear h0
    cbv
    refine ABr.f hge ?_
    cbv
  · have hkk : ∃ j, k = j + 1 := ⟨k - 1, by omega⟩
    obtain ⟨j, rfl⟩ := hkk
    obtain rfl : i = (j : Int) := by omega
    have hge : A.cmp .geq (j : Int) 0 = true := (i_ge hA).trans (decide_eq_true (by omega))
    have hj : j < 256 := by omega
    have d1 := c1 j
    have d2 := c2 j
    have db := cb j hj
    have d3 := hs2 j
    have hb1 := bit_one hA (e / 2 ^ j % 2)
    have q1 : j ≤ 256 := by omega
    have q2 : j < j + 1 := by omega
    clear c1 c2 cb o0 o1 o2 o3 hs2 h1 h2
    obtain ⟨y, hy⟩ : ∃ y : Int, y = (j : Int) - 1 := ⟨_, rfl⟩
    have hsub : A.bin .sub .i64 (j : Int) 1 = y := e_sub hA rfl rfl hy.symm (by omega)
    generalize pw (j + 1) * pw (j + 1) % M = sq at *
    generalize pw (j + 1) = o at *
    generalize j + 1 = j1 at *
    generalize e / 2 ^ j % 2 = bt at *
    by_cases hb : bt = 1
    · have d2 := d2 hb
      rw [decide_eq_true hb] at hb1
      clear d3
      generalize hpj : pw j = pj at *
      cbv
      refine ABr.t hge ?_
      cbv
      refine ACall.mk _ (cf hS d1) ?_
      cbv
      refine ACall.mk _ (cf hS db) ?_
      cbv
      refine ABr.t hb1 ?_
      cbv
      refine ACall.mk _ (cf hS d2) ?_
      cbv
      refine ⟨(j, y), ?_, ⟨q1, hy⟩, q2⟩
      subst hpj
      cbv
      repeat' (first | exact hsub | exact rfl | exact trivial | constructor)
    · have d3 := d3 hb
      rw [decide_eq_false hb] at hb1
      clear d2
      subst d3
      cbv
      refine ABr.t hge ?_
      cbv
      refine ACall.mk _ (cf hS d1) ?_
      cbv
      refine ACall.mk _ (cf hS db) ?_
      cbv
      refine ABr.f hb1 ?_
      cbv
      refine ⟨(j, y), ?_, ⟨q1, hy⟩, q2⟩
      cbv
      repeat' (first | exact hsub | exact rfl | exact trivial | constructor)
theorem r6inverse (a : Nat) (ha : a < 2 ^ 256) (v : Nat) (hv : v = a ^ (M - 2) % M) : Sp 86 [u4 lim a, u4 lim M] (u4 lim v) := by
  have h1 := hM.one
  have h2 := hM.lt
  have cs_ := rSubS hl M 2 h2 (by omega)
  have cp := r6pow hl hM a (M - 2) ha (by omega) v hv
  have o0 : (2 : Int) = lim 2 0 := by rw [hl]; rfl
  have os : ∀ i, i < 3 → (0 : Int) = lim 2 (i + 1) := fun i hi => by
    rw [hl]; show (0 : Int) = ((2 / 2 ^ (64 * (i + 1)) % 2 ^ 64 : Nat) : Int)
    rw [Nat.div_eq_of_lt (Nat.lt_of_lt_of_le (by decide : 2 < 2 ^ 64) (Nat.pow_le_pow_right (n := 2) (i := 64) (by decide) (by omega)))]; rfl
  have o1 := os 0 (by decide)
  have o2 := os 1 (by decide)
  have o3 := os 2 (by decide)
  clear os hv h1 h2
  generalize M - 2 = e at *
  refine mk Tryz.func86 rfl rfl L0 R1 (by decide +kernel) fun A S hA hS => ?_
  unfold bodyOf Tryz.f86
  cbv
  refine ACall.mk _ (cg hS cs_ ?_) ?_
  · cbv
    repeat' (first | exact o0 | exact o1 | exact o2 | exact o3 | exact rfl | exact trivial | constructor)
  cbv
  refine ACall.mk _ (cf hS cp) ?_
  cbv
omit hM in
theorem r6below (a b : Nat) (ha : a < 2 ^ 256) (hb : b < 2 ^ 256) (t : Bool) (ht : t = decide (a < b)) : Sp 43 [u4 lim a, u4 lim b] (.sb t) := by
  have cc := rCmpS hl a b ha hb
  refine mk Tryz.func43 rfl rfl L0 R1 (by decide +kernel) fun A S hA hS => ?_
  have e2 : A.cmp .lss (cmpZ a b) 0 = t := by
    rw [i_lt hA, ht]
    unfold cmpZ
    by_cases h1 : a < b
    · rw [if_pos h1, decide_eq_true h1, decide_eq_true (by omega)]
    · rw [if_neg h1, decide_eq_false h1]
      split <;> exact decide_eq_false (by omega)
  generalize cmpZ a b = z at *
  unfold bodyOf Tryz.f43
  cbv
  refine ACall.mk _ (cf hS cc) ?_
  cbv
  exact e2
end
end Go.Proofs.YtkhipnhdbaahcaaGreat
end
