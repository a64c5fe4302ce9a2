import Derived.Test.YtlmlganfjnokiaaBE
import Derived.Test.YtlmlganfjnokiaaU
import Derived.Test.YtlmlganfjnokiaaY
set_option linter.unusedVariables false
set_option linter.unusedSimpArgs false
namespace Go.Proofs.Ytlmlganfjnokiaa
open Go Eng
set_option maxRecDepth 100000
set_option exponentiation.threshold 2000
set_option maxHeartbeats 4000000
theorem two_num (b m x : Nat) : x * 2 ^ b % m * 2 ^ b % m = x * (1 * 2 ^ (2 * b) % m) % m := by
  rw [Nat.mod_mul_mod, Nat.mul_mod_mod, Nat.one_mul, Nat.two_mul, Nat.pow_add, Nat.mul_assoc]
theorem mulmod_num (b m x y : Nat) : x * y % m * 2 ^ b % m = x * 2 ^ b % m * y % m := by
  rw [Nat.mod_mul_mod, Nat.mod_mul_mod]
  congr 1
  ac_rfl
theorem red_num (b m x : Nat) : x % m * 2 ^ b % m = x * 2 ^ b % m % m := by
  rw [Nat.mod_mul_mod, Nat.mod_mod]
abbrev rf4 (H : H5) (m : Nat) : AVal := fld4 H.lim m (H.minv m) (H.mf (2 * 256) m 1)
theorem rtimes4 {H : H5} (hH : H = H5.real) {m a b r : Nat} (hR : Mod 256 m) (ha : a < 2 ^ 256) (hb : b < 2 ^ 256) (hab : a < m ∨ b < m) (hr : r < m) (hrr : r * 2 ^ 256 % m = a * b % m) :
    Sp 96 [rf4 H m, .lst false 4 (ws4 H.lim a), .lst false 4 (ws4 H.lim b)] (.lst false 4 (ws4 H.lim r)) := by
  have hl := H5.hlim hH
  have hp : a * b < m * 2 ^ 256 := by
    rcases hab with h | h
    · exact Nat.lt_of_le_of_lt (Nat.mul_le_mul_left _ (Nat.le_of_lt hb)) (Nat.mul_lt_mul_of_pos_right h (Nat.two_pow_pos _))
    · rw [Nat.mul_comm a]
      exact Nat.lt_of_le_of_lt (Nat.mul_le_mul_left _ (Nat.le_of_lt ha)) (Nat.mul_lt_mul_of_pos_right h (Nat.two_pow_pos _))
  have hred := rreduce4 hl m (H.minv m) (H.mf (2 * 256) m 1) (a * b) r hR.lt hR.odd (by rw [hH]; exact minv_ok hR.odd) (by rw [hH]; exact minv_lt m) hp hr hrr
  have hmul := rMul4 hl a b ha hb
  refine mk Try.func96 rfl rfl L0 R1 (by decide +kernel) ?_
  intro A S hA hS
  unfold bodyOf Try.f96
  generalize a * b = p at *
  cbv
  refine ACall.mk _ (cf hS hmul) ?_
  cbv
  refine ACall.mk _ (cf hS hred) ?_
  cbv
theorem rMulMod4 {H : H5} (hH : H = H5.real) {m a b : Nat} (hR : Mod 256 m) (ha : a < m) (hb : b < m) :
    Sp 51 [rf4 H m, .lst false 4 (ws4 H.lim a), .lst false 4 (ws4 H.lim b)] (.lst false 4 (ws4 H.lim (H.mul m a b))) := by
  have hm := hR.lt
  have h2 : H.mf (2 * 256) m 1 < m := by rw [hH]; exact mf_lt hR.pos
  have hx : H.mf 256 m a < m := by rw [hH]; exact mf_lt hR.pos
  have t1 := rtimes4 hH (a := a) (b := H.mf (2 * 256) m 1) (r := H.mf 256 m a) hR (by omega) (by omega) (.inl ha) hx (by rw [hH]; exact two_num 256 m a)
  have t2 := rtimes4 hH (a := H.mf 256 m a) (b := b) (r := H.mul m a b) hR (by omega) (by omega) (.inl hx) (by rw [hH]; exact Nat.mod_lt _ hR.pos) (by rw [hH]; exact mulmod_num 256 m a b)
  refine mk Try.func51 rfl rfl L0 R1 (by decide +kernel) ?_
  intro A S hA hS
  unfold bodyOf Try.f51
  cbv
  refine ACall.mk _ (cf hS t1) ?_
  cbv
  refine ACall.mk _ (cf hS t2) ?_
  cbv
theorem rOne4 {H : H5} (hH : H = H5.real) {m : Nat} (hR : Mod 256 m) :
    Sp 97 [rf4 H m] (.lst false 4 (ws4 H.lim 1)) := by
  have hl := H5.hlim hH
  have h1 := hR.one
  have hmod := rMod4 hl (k := 4) (rowx4 H.lim 1) (by decide) (by decide) hR.pos hR.lt (r := 1) (Nat.mod_eq_of_lt h1).symm
  have l10 : H.lim 1 0 = 1 := by rw [hH]; rfl
  have l11 : H.lim 1 1 = 0 := by rw [hH]; rfl
  have l12 : H.lim 1 2 = 0 := by rw [hH]; rfl
  have l13 : H.lim 1 3 = 0 := by rw [hH]; rfl
  refine mk Try.func97 rfl rfl L0 R1 (by decide +kernel) ?_
  intro A S hA hS
  unfold bodyOf Try.f97
  cbv
  refine ACall.mk _ (cg hS hmod (by cbv; exact ⟨⟨l10.symm, l11.symm, l12.symm, l13.symm⟩, trivial⟩)) ?_
  cbv
theorem rsmall4 {H : H5} (hH : H = H5.real) {m k : Nat} (hk : k < 18446744073709551616) :
    Sp 94 [rf4 H m, .i .u64 (k : Int)] (.new false 4 1 (ws4 H.lim k)) := by
  have l0 : H.lim k 0 = (k : Int) := by rw [hH]; exact limR_word hk
  have ls : ∀ i, 0 < i → H.lim k i = 0 := fun i hi => by
    rw [hH]; show ((k / 2 ^ (64 * i) % 2 ^ 64 : Nat) : Int) = 0
    rw [Nat.div_eq_of_lt (Nat.lt_of_lt_of_le hk (Nat.pow_le_pow_right (n := 2) (i := 64) (by decide) (by omega)))]; rfl
  refine mk Try.func94 rfl rfl L0 R0 (by decide +kernel) ?_
  intro A S hA hS
  unfold bodyOf Try.f94
  cbv
  exact ⟨l0.symm, (ls 1 (by decide)).symm, (ls 2 (by decide)).symm, (ls 3 (by decide)).symm⟩
theorem rNew4 {H : H5} (hH : H = H5.real) {m : Nat} (hR : Mod 256 m) : Sp 45 [.lst false 4 (ws4 H.lim m)] (rf4 H m) := by
  have hl := H5.hlim hH
  have hb : 2 ^ 512 < 2 ^ (64 * (2 * 4 + 1)) := Nat.pow_lt_pow_right (by decide) (by decide)
  have hrow : IsRow [.s .u64 (H.lim (2 ^ 512) 0), .s .u64 (H.lim (2 ^ 512) 1), .s .u64 (H.lim (2 ^ 512) 2), .s .u64 (H.lim (2 ^ 512) 3), .s .u64 (H.lim (2 ^ 512) 4), .s .u64 (H.lim (2 ^ 512) 5), .s .u64 (H.lim (2 ^ 512) 6), .s .u64 (H.lim (2 ^ 512) 7), .s .u64 (H.lim (2 ^ 512) 8)] (H.lim (2 ^ 512)) (2 * 4 + 1) := by
    refine ⟨rfl, fun i hi => ?_⟩
    rcases (by omega : i = 0 ∨ i = 1 ∨ i = 2 ∨ i = 3 ∨ i = 4 ∨ i = 5 ∨ i = 6 ∨ i = 7 ∨ i = 8) with rfl | rfl | rfl | rfl | rfl | rfl | rfl | rfl | rfl
    all_goals rfl
  have hmod := rMod4 hl hrow (by decide) hb hR.pos hR.lt (r := H.mf (2 * 256) m 1) (by rw [hH]; show 1 * 2 ^ (2 * 256) % m = _; rw [Nat.one_mul])
  have lz : ∀ i, i < 2 * 4 → H.lim (2 ^ 512) i = 0 := fun i hi => by
    rw [hH]; show ((2 ^ 512 / 2 ^ (64 * i) % 2 ^ 64 : Nat) : Int) = 0
    rw [show (2 : Nat) ^ 512 = 2 ^ (64 * i) * (2 ^ 64 * 2 ^ (512 - 64 * i - 64)) by rw [← Nat.pow_add, ← Nat.pow_add]; congr 1; omega, Nat.mul_div_cancel_left _ (Nat.two_pow_pos _), Nat.mul_mod_right]; rfl
  have l1 : H.lim (2 ^ 512) (2 * 4) = 1 := by rw [hH]; show ((2 ^ 512 / 2 ^ 512 % 2 ^ 64 : Nat) : Int) = 1; rw [Nat.div_self (Nat.two_pow_pos _)]; rfl
  generalize 2 ^ 512 = q at *
  refine mk Try.func45 rfl rfl L0 R1 (by decide +kernel) ?_
  intro A S hA hS
  have n0 : (1 : Int) = (newton m 0 : Nat) := by rfl
  have n1 := newton_bin hA hl m 0 n0
  have n2 := newton_bin hA hl m 1 n1
  have n3 := newton_bin hA hl m 2 n2
  have n4 := newton_bin hA hl m 3 n3
  have n5 := newton_bin hA hl m 4 n4
  have n6 := newton_bin hA hl m 5 n5
  have hneg := neg_bin hA n6 (newton_lt m 6)
  have hinv : (((18446744073709551616 - newton m 6) % 18446744073709551616 : Nat) : Int) = (H.minv m : Nat) := by rw [hH]; rfl
  have hfin := hneg.trans hinv
  clear n0 n1 n2 n3 n4 n5 n6 hneg hinv
  unfold bodyOf Try.f45
  cbv
  refine ACall.mk _ (cg hS hmod (by cbv; exact ⟨⟨(lz 0 (by decide)).symm, (lz 1 (by decide)).symm, (lz 2 (by decide)).symm, (lz 3 (by decide)).symm, (lz 4 (by decide)).symm, (lz 5 (by decide)).symm, (lz 6 (by decide)).symm, (lz 7 (by decide)).symm, l1.symm⟩, trivial⟩)) ?_
  cbv
  exact ⟨hfin, trivial⟩
abbrev rf6 (H : H5) (m : Nat) : AVal := fld6 H.lim m (H.minv m) (H.mf (2 * 384) m 1)
theorem rtimes6 {H : H5} (hH : H = H5.real) {m a b r : Nat} (hR : Mod 384 m) (ha : a < 2 ^ 384) (hb : b < 2 ^ 384) (hab : a < m ∨ b < m) (hr : r < m) (hrr : r * 2 ^ 384 % m = a * b % m) :
    Sp 96 [rf6 H m, .lst false 6 (ws6 H.lim a), .lst false 6 (ws6 H.lim b)] (.lst false 6 (ws6 H.lim r)) := by
  have hl := H5.hlim hH
  have hp : a * b < m * 2 ^ 384 := by
    rcases hab with h | h
    · exact Nat.lt_of_le_of_lt (Nat.mul_le_mul_left _ (Nat.le_of_lt hb)) (Nat.mul_lt_mul_of_pos_right h (Nat.two_pow_pos _))
    · rw [Nat.mul_comm a]
      exact Nat.lt_of_le_of_lt (Nat.mul_le_mul_left _ (Nat.le_of_lt ha)) (Nat.mul_lt_mul_of_pos_right h (Nat.two_pow_pos _))
  have hred := rreduce6 hl m (H.minv m) (H.mf (2 * 384) m 1) (a * b) r hR.lt hR.odd (by rw [hH]; exact minv_ok hR.odd) (by rw [hH]; exact minv_lt m) hp hr hrr
  have hmul := rMul6 hl a b ha hb
  refine mk Try.func96 rfl rfl L0 R1 (by decide +kernel) ?_
  intro A S hA hS
  unfold bodyOf Try.f96
  generalize a * b = p at *
  cbv
  refine ACall.mk _ (cf hS hmul) ?_
  cbv
  refine ACall.mk _ (cf hS hred) ?_
  cbv
theorem rMulMod6 {H : H5} (hH : H = H5.real) {m a b : Nat} (hR : Mod 384 m) (ha : a < m) (hb : b < m) :
    Sp 51 [rf6 H m, .lst false 6 (ws6 H.lim a), .lst false 6 (ws6 H.lim b)] (.lst false 6 (ws6 H.lim (H.mul m a b))) := by
  have hm := hR.lt
  have h2 : H.mf (2 * 384) m 1 < m := by rw [hH]; exact mf_lt hR.pos
  have hx : H.mf 384 m a < m := by rw [hH]; exact mf_lt hR.pos
  have t1 := rtimes6 hH (a := a) (b := H.mf (2 * 384) m 1) (r := H.mf 384 m a) hR (by omega) (by omega) (.inl ha) hx (by rw [hH]; exact two_num 384 m a)
  have t2 := rtimes6 hH (a := H.mf 384 m a) (b := b) (r := H.mul m a b) hR (by omega) (by omega) (.inl hx) (by rw [hH]; exact Nat.mod_lt _ hR.pos) (by rw [hH]; exact mulmod_num 384 m a b)
  refine mk Try.func51 rfl rfl L0 R1 (by decide +kernel) ?_
  intro A S hA hS
  unfold bodyOf Try.f51
  cbv
  refine ACall.mk _ (cf hS t1) ?_
  cbv
  refine ACall.mk _ (cf hS t2) ?_
  cbv
theorem rOne6 {H : H5} (hH : H = H5.real) {m : Nat} (hR : Mod 384 m) :
    Sp 97 [rf6 H m] (.lst false 6 (ws6 H.lim 1)) := by
  have hl := H5.hlim hH
  have h1 := hR.one
  have hmod := rMod6 hl (k := 6) (rowx6 H.lim 1) (by decide) (by decide) hR.pos hR.lt (r := 1) (Nat.mod_eq_of_lt h1).symm
  have l10 : H.lim 1 0 = 1 := by rw [hH]; rfl
  have l11 : H.lim 1 1 = 0 := by rw [hH]; rfl
  have l12 : H.lim 1 2 = 0 := by rw [hH]; rfl
  have l13 : H.lim 1 3 = 0 := by rw [hH]; rfl
  have l14 : H.lim 1 4 = 0 := by rw [hH]; rfl
  have l15 : H.lim 1 5 = 0 := by rw [hH]; rfl
  refine mk Try.func97 rfl rfl L0 R1 (by decide +kernel) ?_
  intro A S hA hS
  unfold bodyOf Try.f97
  cbv
  refine ACall.mk _ (cg hS hmod (by cbv; exact ⟨⟨l10.symm, l11.symm, l12.symm, l13.symm, l14.symm, l15.symm⟩, trivial⟩)) ?_
  cbv
theorem rsmall6 {H : H5} (hH : H = H5.real) {m k : Nat} (hk : k < 18446744073709551616) :
    Sp 94 [rf6 H m, .i .u64 (k : Int)] (.new false 6 1 (ws6 H.lim k)) := by
  have l0 : H.lim k 0 = (k : Int) := by rw [hH]; exact limR_word hk
  have ls : ∀ i, 0 < i → H.lim k i = 0 := fun i hi => by
    rw [hH]; show ((k / 2 ^ (64 * i) % 2 ^ 64 : Nat) : Int) = 0
    rw [Nat.div_eq_of_lt (Nat.lt_of_lt_of_le hk (Nat.pow_le_pow_right (n := 2) (i := 64) (by decide) (by omega)))]; rfl
  refine mk Try.func94 rfl rfl L0 R0 (by decide +kernel) ?_
  intro A S hA hS
  unfold bodyOf Try.f94
  cbv
  exact ⟨l0.symm, (ls 1 (by decide)).symm, (ls 2 (by decide)).symm, (ls 3 (by decide)).symm, (ls 4 (by decide)).symm, (ls 5 (by decide)).symm⟩
theorem rNew6 {H : H5} (hH : H = H5.real) {m : Nat} (hR : Mod 384 m) : Sp 45 [.lst false 6 (ws6 H.lim m)] (rf6 H m) := by
  have hl := H5.hlim hH
  have hb : 2 ^ 768 < 2 ^ (64 * (2 * 6 + 1)) := Nat.pow_lt_pow_right (by decide) (by decide)
  have hrow : IsRow [.s .u64 (H.lim (2 ^ 768) 0), .s .u64 (H.lim (2 ^ 768) 1), .s .u64 (H.lim (2 ^ 768) 2), .s .u64 (H.lim (2 ^ 768) 3), .s .u64 (H.lim (2 ^ 768) 4), .s .u64 (H.lim (2 ^ 768) 5), .s .u64 (H.lim (2 ^ 768) 6), .s .u64 (H.lim (2 ^ 768) 7), .s .u64 (H.lim (2 ^ 768) 8), .s .u64 (H.lim (2 ^ 768) 9), .s .u64 (H.lim (2 ^ 768) 10), .s .u64 (H.lim (2 ^ 768) 11), .s .u64 (H.lim (2 ^ 768) 12)] (H.lim (2 ^ 768)) (2 * 6 + 1) := by
    refine ⟨rfl, fun i hi => ?_⟩
    rcases (by omega : i = 0 ∨ i = 1 ∨ i = 2 ∨ i = 3 ∨ i = 4 ∨ i = 5 ∨ i = 6 ∨ i = 7 ∨ i = 8 ∨ i = 9 ∨ i = 10 ∨ i = 11 ∨ i = 12) with rfl | rfl | rfl | rfl | rfl | rfl | rfl | rfl | rfl | rfl | rfl | rfl | rfl
    all_goals rfl
  have hmod := rMod6 hl hrow (by decide) hb hR.pos hR.lt (r := H.mf (2 * 384) m 1) (by rw [hH]; show 1 * 2 ^ (2 * 384) % m = _; rw [Nat.one_mul])
  have lz : ∀ i, i < 2 * 6 → H.lim (2 ^ 768) i = 0 := fun i hi => by
    rw [hH]; show ((2 ^ 768 / 2 ^ (64 * i) % 2 ^ 64 : Nat) : Int) = 0
    rw [show (2 : Nat) ^ 768 = 2 ^ (64 * i) * (2 ^ 64 * 2 ^ (768 - 64 * i - 64)) by rw [← Nat.pow_add, ← Nat.pow_add]; congr 1; omega, Nat.mul_div_cancel_left _ (Nat.two_pow_pos _), Nat.mul_mod_right]; rfl
  have l1 : H.lim (2 ^ 768) (2 * 6) = 1 := by rw [hH]; show ((2 ^ 768 / 2 ^ 768 % 2 ^ 64 : Nat) : Int) = 1; rw [Nat.div_self (Nat.two_pow_pos _)]; rfl
  generalize 2 ^ 768 = q at *
  refine mk Try.func45 rfl rfl L0 R1 (by decide +kernel) ?_
  intro A S hA hS
  have n0 : (1 : Int) = (newton m 0 : Nat) := by rfl
  have n1 := newton_bin hA hl m 0 n0
  have n2 := newton_bin hA hl m 1 n1
  have n3 := newton_bin hA hl m 2 n2
  have n4 := newton_bin hA hl m 3 n3
  have n5 := newton_bin hA hl m 4 n4
  have n6 := newton_bin hA hl m 5 n5
  have hneg := neg_bin hA n6 (newton_lt m 6)
  have hinv : (((18446744073709551616 - newton m 6) % 18446744073709551616 : Nat) : Int) = (H.minv m : Nat) := by rw [hH]; rfl
  have hfin := hneg.trans hinv
  clear n0 n1 n2 n3 n4 n5 n6 hneg hinv
  unfold bodyOf Try.f45
  cbv
  refine ACall.mk _ (cg hS hmod (by cbv; exact ⟨⟨(lz 0 (by decide)).symm, (lz 1 (by decide)).symm, (lz 2 (by decide)).symm, (lz 3 (by decide)).symm, (lz 4 (by decide)).symm, (lz 5 (by decide)).symm, (lz 6 (by decide)).symm, (lz 7 (by decide)).symm, (lz 8 (by decide)).symm, (lz 9 (by decide)).symm, (lz 10 (by decide)).symm, (lz 11 (by decide)).symm, l1.symm⟩, trivial⟩)) ?_
  cbv
  exact ⟨hfin, trivial⟩
end Go.Proofs.Ytlmlganfjnokiaa
