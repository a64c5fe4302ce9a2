import Derived.Test.YtmholgclgamnnaaGreatQXBE
import Derived.Test.YtmholgclgamnnaaGreatQXU
import Derived.Test.YtmholgclgamnnaaGreatQXCK
import Derived.Test.YtmholgclgamnnaaGreatQXF
import Derived.Test.YtmholgclgamnnaaGreatQXCN
set_option linter.unusedVariables false
set_option linter.unusedSimpArgs false
set_option linter.unusedSectionVars false
set_option maxRecDepth 100000
set_option exponentiation.threshold 2000
set_option maxHeartbeats 4000000
section
namespace Go.Proofs.YtmholgclgamnnaaGreat
open Go Eng
theorem two_num (b m x : Nat) : x * 2 ^ b % m * 2 ^ b % m = x * (1 * 2 ^ (2 * b) % m) % m := by
 rw [Nat.mod_mul_mod, Nat.mul_mod_mod, Nat.one_mul, Nat.two_mul, Nat.pow_add, Nat.mul_assoc]
theorem mulmod_num (b m x y : Nat) : x * y % m * 2 ^ b % m = x * 2 ^ b % m * y % m := by
 rw [Nat.mod_mul_mod, Nat.mod_mul_mod]
 congr 1
 ac_rfl
abbrev rf4 (H : H5) (m : Nat) : AVal := fld4 H.lim m (H.minv m) (H.mf (2 * 256) m 1)
theorem rtimes4 {H : H5} (hH : H = H5.real) {m a b r : Nat} (hR : Mod 256 m) (ha : a < 2 ^ 256) (hb : b < 2 ^ 256) (hab : a < m ∨ b < m) (hr : r < m) (hrr : r * 2 ^ 256 % m = a * b % m) :
   Sp 206 [rf4 H m, .lst false 4 (ws4 H.lim a), .lst false 4 (ws4 H.lim b)] (.lst false 4 (ws4 H.lim r)) := by
 have hl := H5.hlim hH
 have hp : a * b < m * 2 ^ 256 := by
   rcases hab with h | h
   . exact Nat.lt_of_le_of_lt (Nat.mul_le_mul_left _ (Nat.le_of_lt hb)) (Nat.mul_lt_mul_of_pos_right h (Nat.two_pow_pos _))
   . rw [Nat.mul_comm a]
     exact Nat.lt_of_le_of_lt (Nat.mul_le_mul_left _ (Nat.le_of_lt ha)) (Nat.mul_lt_mul_of_pos_right h (Nat.two_pow_pos _))
 have hred := rreduce4 hl m (H.minv m) (H.mf (2 * 256) m 1) (a * b) r hR.lt hR.odd (by rw [hH]; exact minv_ok hR.odd) (by rw [hH]; exact minv_lt m) hp hr hrr
 have hmul := rMul4 hl a b ha hb
 refine mk Tryz.func206 rfl rfl L0 R1 (by decide +kernel) ?_
 intro A S hA hS
 unfold bodyOf Tryz.f206
 generalize a * b = p at *
 cbv
 refine aF hS hmul ?_
 cbv
 refine aF hS hred ?_
 cbv
theorem rMulMod4 {H : H5} (hH : H = H5.real) {m a b : Nat} (hR : Mod 256 m) (ha : a < m) (hb : b < m) :
   Sp 161 [rf4 H m, .lst false 4 (ws4 H.lim a), .lst false 4 (ws4 H.lim b)] (.lst false 4 (ws4 H.lim (H.mul m a b))) := by
 have hm := hR.lt
 have h2 : H.mf (2 * 256) m 1 < m := by rw [hH]; exact mf_lt hR.pos
 have hx : H.mf 256 m a < m := by rw [hH]; exact mf_lt hR.pos
 have t1 := rtimes4 hH (a := a) (b := H.mf (2 * 256) m 1) (r := H.mf 256 m a) hR (by omega) (by omega) (.inl ha) hx (by rw [hH]; exact two_num 256 m a)
 have t2 := rtimes4 hH (a := H.mf 256 m a) (b := b) (r := H.mul m a b) hR (by omega) (by omega) (.inl hx) (by rw [hH]; exact Nat.mod_lt _ hR.pos) (by rw [hH]; exact mulmod_num 256 m a b)
 refine mk Tryz.func161 rfl rfl L0 R1 (by decide +kernel) ?_
 intro A S hA hS
 unfold bodyOf Tryz.f161
 cbv
 refine aF hS t1 ?_
 cbv
 refine aF hS t2 ?_
 cbv
theorem rOne4 {H : H5} (hH : H = H5.real) {m : Nat} (hR : Mod 256 m) :
   Sp 219 [rf4 H m] (.lst false 4 (ws4 H.lim 1)) := by
 have hl := H5.hlim hH
 have h1 := hR.one
 have hmod := rMod4 hl (k := 4) (rowx4 H.lim 1) (by decide) (by decide) hR.pos hR.lt (r := 1) (Nat.mod_eq_of_lt h1).symm
 have l10 : H.lim 1 0 = 1 := by rw [hH]; rfl
 have l11 : H.lim 1 1 = 0 := by rw [hH]; rfl
 have l12 : H.lim 1 2 = 0 := by rw [hH]; rfl
 have l13 : H.lim 1 3 = 0 := by rw [hH]; rfl
 refine mk Tryz.func219 rfl rfl L0 R1 (by decide +kernel) ?_
 intro A S hA hS
 unfold bodyOf Tryz.f219
 cbv
 refine ACall.mk _ (cg hS hmod (by cbv; exact ⟨⟨l10.symm, l11.symm, l12.symm, l13.symm⟩, trivial⟩)) ?_
 cbv
theorem rsmall4 {H : H5} (hH : H = H5.real) {m k : Nat} (hk : k < 18446744073709551616) :
   Sp 197 [rf4 H m, .i .u64 (k : Int)] (.new false 4 1 (ws4 H.lim k)) := by
 have l0 : H.lim k 0 = (k : Int) := by rw [hH]; exact limR_word hk
 have ls : ∀ i, 0 < i → H.lim k i = 0 := fun i hi => by
   rw [hH]; show ((k / 2 ^ (64 * i) % 2 ^ 64 : Nat) : Int) = 0
   rw [Nat.div_eq_of_lt (Nat.lt_of_lt_of_le hk (Nat.pow_le_pow_right (n := 2) (i := 64) (by decide) (by omega)))]; rfl
 refine mk Tryz.func197 rfl rfl L0 R0 (by decide +kernel) ?_
 intro A S hA hS
 unfold bodyOf Tryz.f197
 cbv
 exact ⟨l0.symm, (ls 1 (by decide)).symm, (ls 2 (by decide)).symm, (ls 3 (by decide)).symm⟩
theorem rNew4 {H : H5} (hH : H = H5.real) {m : Nat} (hR : Mod 256 m) : Sp 77 [.lst false 4 (ws4 H.lim m)] (rf4 H m) := by
 have hl := H5.hlim hH
 have hb : 2 ^ 512 < 2 ^ (64 * (2 * 4 + 1)) := Nat.pow_lt_pow_right (by decide) (by decide)
 have hrow : IsRow [.s .u64 (H.lim (2 ^ 512) 0), .s .u64 (H.lim (2 ^ 512) 1), .s .u64 (H.lim (2 ^ 512) 2), .s .u64 (H.lim (2 ^ 512) 3), .s .u64 (H.lim (2 ^ 512) 4), .s .u64 (H.lim (2 ^ 512) 5), .s .u64 (H.lim (2 ^ 512) 6), .s .u64 (H.lim (2 ^ 512) 7), .s .u64 (H.lim (2 ^ 512) 8)] (H.lim (2 ^ 512)) (2 * 4 + 1) := by
   refine ⟨rfl, fun i hi => ?_⟩
   rcases (by omega : i = 0 ∨ i = 1 ∨ i = 2 ∨ i = 3 ∨ i = 4 ∨ i = 5 ∨ i = 6 ∨ i = 7 ∨ i = 8) with rfl | rfl | rfl | rfl | rfl | rfl | rfl | rfl | rfl
   all_goals rfl
 have hmod := rMod4 hl hrow (by decide) hb hR.pos hR.lt (r := H.mf (2 * 256) m 1) (by rw [hH]; show 1 * 2 ^ (2 * 256) % m = _; rw [Nat.one_mul])
 have lz : ∀ i, i < 2 * 4 → H.lim (2 ^ 512) i = 0 := fun i hi => by
   rw [hH]; show ((2 ^ 512 / 2 ^ (64 * i) % 2 ^ 64 : Nat) : Int) = 0
   rw [show (2 : Nat) ^ 512 = 2 ^ (64 * i) * (2 ^ 64 * 2 ^ (512 - 64 * i - 64)) by rw [← Nat.pow_add, ← Nat.pow_add]; congr 1; omega, Nat.mul_div_cancel_left _ (Nat.two_pow_pos _), Nat.mul_mod_right]; rfl
 have l1 : H.lim (2 ^ 512) (2 * 4) = 1 := by rw [hH]; show ((2 ^ 512 / 2 ^ 512 % 2 ^ 64 : Nat) : Int) = 1; rw [Nat.div_self (Nat.two_pow_pos _)]; rfl
 generalize 2 ^ 512 = q at *
 refine mk Tryz.func77 rfl rfl L0 R1 (by decide +kernel) ?_
 intro A S hA hS
 have n0 : (1 : Int) = (newton m 0 : Nat) := by rfl
 have n1 := newton_bin hA hl m 0 n0
 have n2 := newton_bin hA hl m 1 n1
 have n3 := newton_bin hA hl m 2 n2
 have n4 := newton_bin hA hl m 3 n3
 have n5 := newton_bin hA hl m 4 n4
 have n6 := newton_bin hA hl m 5 n5
 have hneg := neg_bin hA n6 (newton_lt m 6)
 have hinv : (((18446744073709551616 - newton m 6) % 18446744073709551616 : Nat) : Int) = (H.minv m : Nat) := by rw [hH]; rfl
 have hfin := hneg.trans hinv
 clear n0 n1 n2 n3 n4 n5 n6 hneg hinv
 unfold bodyOf Tryz.f77
 cbv
 refine ACall.mk _ (cg hS hmod (by cbv; exact ⟨⟨(lz 0 (by decide)).symm, (lz 1 (by decide)).symm, (lz 2 (by decide)).symm, (lz 3 (by decide)).symm, (lz 4 (by decide)).symm, (lz 5 (by decide)).symm, (lz 6 (by decide)).symm, (lz 7 (by decide)).symm, l1.symm⟩, trivial⟩)) ?_
 cbv
 exact ⟨hfin, trivial⟩
abbrev rf6 (H : H5) (m : Nat) : AVal := fld6 H.lim m (H.minv m) (H.mf (2 * 384) m 1)
theorem rtimes6 {H : H5} (hH : H = H5.real) {m a b r : Nat} (hR : Mod 384 m) (ha : a < 2 ^ 384) (hb : b < 2 ^ 384) (hab : a < m ∨ b < m) (hr : r < m) (hrr : r * 2 ^ 384 % m = a * b % m) :
   Sp 206 [rf6 H m, .lst false 6 (ws6 H.lim a), .lst false 6 (ws6 H.lim b)] (.lst false 6 (ws6 H.lim r)) := by
 have hl := H5.hlim hH
 have hp : a * b < m * 2 ^ 384 := by
   rcases hab with h | h
   . exact Nat.lt_of_le_of_lt (Nat.mul_le_mul_left _ (Nat.le_of_lt hb)) (Nat.mul_lt_mul_of_pos_right h (Nat.two_pow_pos _))
   . rw [Nat.mul_comm a]
     exact Nat.lt_of_le_of_lt (Nat.mul_le_mul_left _ (Nat.le_of_lt ha)) (Nat.mul_lt_mul_of_pos_right h (Nat.two_pow_pos _))
 have hred := rreduce6 hl m (H.minv m) (H.mf (2 * 384) m 1) (a * b) r hR.lt hR.odd (by rw [hH]; exact minv_ok hR.odd) (by rw [hH]; exact minv_lt m) hp hr hrr
 have hmul := rMul6 hl a b ha hb
 refine mk Tryz.func206 rfl rfl L0 R1 (by decide +kernel) ?_
 intro A S hA hS
 unfold bodyOf Tryz.f206
 generalize a * b = p at *
 cbv
 refine aF hS hmul ?_
 cbv
 refine aF hS hred ?_
 cbv
theorem rMulMod6 {H : H5} (hH : H = H5.real) {m a b : Nat} (hR : Mod 384 m) (ha : a < m) (hb : b < m) :
   Sp 161 [rf6 H m, .lst false 6 (ws6 H.lim a), .lst false 6 (ws6 H.lim b)] (.lst false 6 (ws6 H.lim (H.mul m a b))) := by
 have hm := hR.lt
 have h2 : H.mf (2 * 384) m 1 < m := by rw [hH]; exact mf_lt hR.pos
 have hx : H.mf 384 m a < m := by rw [hH]; exact mf_lt hR.pos
 have t1 := rtimes6 hH (a := a) (b := H.mf (2 * 384) m 1) (r := H.mf 384 m a) hR (by omega) (by omega) (.inl ha) hx (by rw [hH]; exact two_num 384 m a)
 have t2 := rtimes6 hH (a := H.mf 384 m a) (b := b) (r := H.mul m a b) hR (by omega) (by omega) (.inl hx) (by rw [hH]; exact Nat.mod_lt _ hR.pos) (by rw [hH]; exact mulmod_num 384 m a b)
 refine mk Tryz.func161 rfl rfl L0 R1 (by decide +kernel) ?_
 intro A S hA hS
 unfold bodyOf Tryz.f161
 cbv
 refine aF hS t1 ?_
 cbv
 refine aF hS t2 ?_
 cbv
theorem rOne6 {H : H5} (hH : H = H5.real) {m : Nat} (hR : Mod 384 m) :
   Sp 219 [rf6 H m] (.lst false 6 (ws6 H.lim 1)) := by
 have hl := H5.hlim hH
 have h1 := hR.one
 have hmod := rMod6 hl (k := 6) (rowx6 H.lim 1) (by decide) (by decide) hR.pos hR.lt (r := 1) (Nat.mod_eq_of_lt h1).symm
 have l10 : H.lim 1 0 = 1 := by rw [hH]; rfl
 have l11 : H.lim 1 1 = 0 := by rw [hH]; rfl
 have l12 : H.lim 1 2 = 0 := by rw [hH]; rfl
 have l13 : H.lim 1 3 = 0 := by rw [hH]; rfl
 have l14 : H.lim 1 4 = 0 := by rw [hH]; rfl
 have l15 : H.lim 1 5 = 0 := by rw [hH]; rfl
 refine mk Tryz.func219 rfl rfl L0 R1 (by decide +kernel) ?_
 intro A S hA hS
 unfold bodyOf Tryz.f219
 cbv
 refine ACall.mk _ (cg hS hmod (by cbv; exact ⟨⟨l10.symm, l11.symm, l12.symm, l13.symm, l14.symm, l15.symm⟩, trivial⟩)) ?_
 cbv
theorem rsmall6 {H : H5} (hH : H = H5.real) {m k : Nat} (hk : k < 18446744073709551616) :
   Sp 197 [rf6 H m, .i .u64 (k : Int)] (.new false 6 1 (ws6 H.lim k)) := by
 have l0 : H.lim k 0 = (k : Int) := by rw [hH]; exact limR_word hk
 have ls : ∀ i, 0 < i → H.lim k i = 0 := fun i hi => by
   rw [hH]; show ((k / 2 ^ (64 * i) % 2 ^ 64 : Nat) : Int) = 0
   rw [Nat.div_eq_of_lt (Nat.lt_of_lt_of_le hk (Nat.pow_le_pow_right (n := 2) (i := 64) (by decide) (by omega)))]; rfl
 refine mk Tryz.func197 rfl rfl L0 R0 (by decide +kernel) ?_
 intro A S hA hS
 unfold bodyOf Tryz.f197
 cbv
 exact ⟨l0.symm, (ls 1 (by decide)).symm, (ls 2 (by decide)).symm, (ls 3 (by decide)).symm, (ls 4 (by decide)).symm, (ls 5 (by decide)).symm⟩
theorem rNew6 {H : H5} (hH : H = H5.real) {m : Nat} (hR : Mod 384 m) : Sp 77 [.lst false 6 (ws6 H.lim m)] (rf6 H m) := by
 have hl := H5.hlim hH
 have hb : 2 ^ 768 < 2 ^ (64 * (2 * 6 + 1)) := Nat.pow_lt_pow_right (by decide) (by decide)
 have hrow : IsRow [.s .u64 (H.lim (2 ^ 768) 0), .s .u64 (H.lim (2 ^ 768) 1), .s .u64 (H.lim (2 ^ 768) 2), .s .u64 (H.lim (2 ^ 768) 3), .s .u64 (H.lim (2 ^ 768) 4), .s .u64 (H.lim (2 ^ 768) 5), .s .u64 (H.lim (2 ^ 768) 6), .s .u64 (H.lim (2 ^ 768) 7), .s .u64 (H.lim (2 ^ 768) 8), .s .u64 (H.lim (2 ^ 768) 9), .s .u64 (H.lim (2 ^ 768) 10), .s .u64 (H.lim (2 ^ 768) 11), .s .u64 (H.lim (2 ^ 768) 12)] (H.lim (2 ^ 768)) (2 * 6 + 1) := by
   refine ⟨rfl, fun i hi => ?_⟩
   rcases (by omega : i = 0 ∨ i = 1 ∨ i = 2 ∨ i = 3 ∨ i = 4 ∨ i = 5 ∨ i = 6 ∨ i = 7 ∨ i = 8 ∨ i = 9 ∨ i = 10 ∨ i = 11 ∨ i = 12) with rfl | rfl | rfl | rfl | rfl | rfl | rfl | rfl | rfl | rfl | rfl | rfl | rfl
   all_goals rfl
 have hmod := rMod6 hl hrow (by decide) hb hR.pos hR.lt (r := H.mf (2 * 384) m 1) (by rw [hH]; show 1 * 2 ^ (2 * 384) % m = _; rw [Nat.one_mul])
 have lz : ∀ i, i < 2 * 6 → H.lim (2 ^ 768) i = 0 := fun i hi => by
   rw [hH]; show ((2 ^ 768 / 2 ^ (64 * i) % 2 ^ 64 : Nat) : Int) = 0
   rw [show (2 : Nat) ^ 768 = 2 ^ (64 * i) * (2 ^ 64 * 2 ^ (768 - 64 * i - 64)) by rw [← Nat.pow_add, ← Nat.pow_add]; congr 1; omega, Nat.mul_div_cancel_left _ (Nat.two_pow_pos _), Nat.mul_mod_right]; rfl
 have l1 : H.lim (2 ^ 768) (2 * 6) = 1 := by rw [hH]; show ((2 ^ 768 / 2 ^ 768 % 2 ^ 64 : Nat) : Int) = 1; rw [Nat.div_self (Nat.two_pow_pos _)]; rfl
 generalize 2 ^ 768 = q at *
 refine mk Tryz.func77 rfl rfl L0 R1 (by decide +kernel) ?_
 intro A S hA hS
 have n0 : (1 : Int) = (newton m 0 : Nat) := by rfl
 have n1 := newton_bin hA hl m 0 n0
 have n2 := newton_bin hA hl m 1 n1
 have n3 := newton_bin hA hl m 2 n2
 have n4 := newton_bin hA hl m 3 n3
 have n5 := newton_bin hA hl m 4 n4
 have n6 := newton_bin hA hl m 5 n5
 have hneg := neg_bin hA n6 (newton_lt m 6)
 have hinv : (((18446744073709551616 - newton m 6) % 18446744073709551616 : Nat) : Int) = (H.minv m : Nat) := by rw [hH]; rfl
 have hfin := hneg.trans hinv
 clear n0 n1 n2 n3 n4 n5 n6 hneg hinv
 unfold bodyOf Tryz.f77
 cbv
 refine ACall.mk _ (cg hS hmod (by cbv; exact ⟨⟨(lz 0 (by decide)).symm, (lz 1 (by decide)).symm, (lz 2 (by decide)).symm, (lz 3 (by decide)).symm, (lz 4 (by decide)).symm, (lz 5 (by decide)).symm, (lz 6 (by decide)).symm, (lz 7 (by decide)).symm, (lz 8 (by decide)).symm, (lz 9 (by decide)).symm, (lz 10 (by decide)).symm, (lz 11 (by decide)).symm, l1.symm⟩, trivial⟩)) ?_
 cbv
 exact ⟨hfin, trivial⟩
theorem rExp4 {H : H5} (hH : H = H5.real) {m a : Nat} (hR : Mod 256 m) (ha : a < m) {row : List AVal} {e k : Nat} (hrow : IsRow row (H.lim e) k) (hk : k < 1000) (he : e < 2 ^ (64 * k)) :
   Sp 198 [rf4 H m, .lst false 4 (ws4 H.lim a), .lst true k row] (.lst false 4 (ws4 H.lim (H.pow m a e))) := by
 have hl := H5.hlim hH
 have hm := hR.lt
 have h1m := hR.one
 have h2 : H.mf (2 * 256) m 1 < m := by rw [hH]; exact mf_lt hR.pos
 have hlt : ∀ x, H.mf 256 m x < m := fun x => by rw [hH]; exact mf_lt hR.pos
 have tx := rtimes4 hH (a := a) (b := H.mf (2 * 256) m 1) (r := H.mf 256 m a) hR (by omega) (by omega) (.inl ha) (hlt _) (by rw [hH]; exact two_num 256 m a)
 have t1 := rtimes4 hH (a := 1) (b := H.mf (2 * 256) m 1) (r := H.mf 256 m 1) hR (by omega) (by omega) (.inl h1m) (hlt _) (by rw [hH]; exact two_num 256 m 1)
 have tm : ∀ x y, Sp 206 [rf4 H m, .lst false 4 (ws4 H.lim (H.mf 256 m x)), .lst false 4 (ws4 H.lim (H.mf 256 m y))] (.lst false 4 (ws4 H.lim (H.mf 256 m (H.mul m x y)))) := fun x y => by
   have := hlt x; have := hlt y
   exact rtimes4 hH hR (by omega) (by omega) (.inl (hlt x)) (hlt _) (by rw [hH]; exact mf_mul 256 m x y)
 have hone := rOne4 hH hR
 obtain ⟨y, hy⟩ : ∃ y : Nat → Nat, y = fun j => H.mf 256 m (H.pow m a (e / 2 ^ (64 * j))) := ⟨_, rfl⟩
 obtain ⟨z, hz⟩ : ∃ z : Nat → Nat → Nat, z = fun j q => H.pow m a (e / 2 ^ (64 * j + q)) := ⟨_, rfl⟩
 have hyk : y k = H.mf 256 m 1 := by
   rw [hy]; show H.mf 256 m (H.pow m a (e / 2 ^ (64 * k))) = _
   rw [Nat.div_eq_of_lt he, hH]
   show a ^ 0 % m * 2 ^ 256 % m = 1 * 2 ^ 256 % m
   rw [Nat.pow_zero, Nat.mod_mul_mod]
 have hy0 : y 0 = H.mf 256 m (H.pow m a e) := by rw [hy]; show H.mf 256 m (H.pow m a (e / 2 ^ (64 * 0))) = _; rw [Nat.mul_zero, Nat.pow_zero, Nat.div_one]
 have hyz : ∀ j, H.mf 256 m (z j 64) = y (j + 1) := fun j => by rw [hy, hz]; show H.mf 256 m (H.pow m a (e / 2 ^ (64 * j + 64))) = H.mf 256 m (H.pow m a (e / 2 ^ (64 * (j + 1)))); rw [Nat.mul_succ]
 have hzy : ∀ j, H.mf 256 m (z j 0) = y j := fun j => by rw [hy, hz]; rfl
 have hst : ∀ j q, z j q = if e / 2 ^ (64 * j + q) % 2 = 1 then H.mul m (H.mul m (z j (q + 1)) (z j (q + 1))) a else H.mul m (z j (q + 1)) (z j (q + 1)) := fun j q => by rw [hz, hH]; exact pow_step m a e (64 * j + q)
 have hred := rreduce4 hl m (H.minv m) (H.mf (2 * 256) m 1) (y 0) (H.pow m a e) hR.lt hR.odd (by rw [hH]; exact minv_ok hR.odd) (by rw [hH]; exact minv_lt m)
   (by rw [hy0]; have := hlt (H.pow m a e); exact Nat.lt_of_lt_of_le this (Nat.le_mul_of_pos_right _ (Nat.two_pow_pos _))) (by rw [hH]; exact Nat.mod_lt _ hR.pos)
   (by rw [hy0, hH]; exact (Nat.mod_mod _ _).symm)
 have hy0m : y 0 < 2 ^ 256 := by rw [hy0]; exact Nat.lt_trans (hlt _) hm
 have hhi : ∀ i, 4 ≤ i → H.lim (y 0) i = 0 := fun i hi => by
   rw [hl]; unfold limR
   rw [Nat.div_eq_of_lt (Nat.lt_of_lt_of_le hy0m (Nat.pow_le_pow_right (n := 2) (i := 256) (by decide) (by omega))), Nat.zero_mod]; rfl
 have le := fun x i => lim_range hl x i
 have hsq := fun j q => tm (z j (q + 1)) (z j (q + 1))
 have hml := fun x => tm x a
 obtain ⟨xa, hxa⟩ : ∃ xa, xa = H.mf 256 m a := ⟨_, rfl⟩
 rw [← hxa] at tx hml
 rw [← hyk] at t1
 clear hy hz tm hlt hy0 hxa hyk
 refine mk Tryz.func198 rfl rfl LN R1 (by decide +kernel) ?_
 intro A S hA hS
 unfold bodyOf Tryz.f198
 cbv
 refine aF hS tx ?_
 cbv
 refine aF hS hone ?_
 cbv
 refine aF hS t1 ?_
 cbv
 refine .inv (α := Nat × Int) (fun p => ⟨[.any, .any, .lst true k row, .own 0 0, .any, .any, .any, .lst false 4 (ws4 H.lim xa), .lst false 4 (ws4 H.lim (y p.1)), .s .i64 p.2, .any, .any, .any, .any, .any, .any, .any, .any, .any, .any, .any, .any, .any, .any, .any, .any, .any, .any, .any, .any, .any, .any, .any, .any, .any, .any, .any, .any, .any, .any, .any, .any, .any, .any, .any, .any, .any, .any, .any, .any, .any, .any, .any, .any, .any, .any, .any, .any, .any, .any, .any, .any],
     [⟨true, true, [.lst false 4 (ws4 H.lim m), .s .u64 (H.minv m : Nat), .lst false 4 (ws4 H.lim (H.mf (2 * 256) m 1))]⟩]⟩)
   (fun p => p.1 ≤ k ∧ p.2 = (p.1 : Int) - 1) (fun p => p.1) (k, (k : Int) - 1) ?_ ⟨Nat.le_refl _, rfl⟩ ?_
 . have e : A.bin .sub .i64 (A.len k) 1 = (k : Int) - 1 := e_sub hA (a_len hA k) rfl rfl (by omega)
   generalize (k : Int) - 1 = w at e
   cbv
   simp only [and_true, true_and]
   exact e
 rintro ⟨j, i⟩ ⟨hj, hi⟩
 dsimp only at hj hi ⊢
 by_cases h1 : i ≥ 0
 . obtain ⟨j, rfl⟩ : ∃ t, j = t + 1 := ⟨j - 1, by omega⟩
   have hij : i = (j : Int) := by omega
   have hge : A.cmp .geq i 0 = true := (i_ge hA).trans (decide_eq_true h1)
   have hjk : j < k := by omega
   have hsub : A.bin .sub .i64 i 1 = (j : Int) - 1 := e_sub hA hij rfl rfl (by omega)
   obtain ⟨w, hw⟩ : ∃ w : Int, w = (j : Int) - 1 := ⟨_, rfl⟩
   rw [← hw] at hsub
   have hle : j ≤ k := by omega
   have hmu : j < j + 1 := by omega
   have hy1 := hyz j
   have hz1 := hzy j
   have hrj := hrow.2 j hjk
   rw [← hy1]
   clear hred hone t1 tx hhi hy0m hyz hzy
   cbv
   refine ABr.t hge ?_
   cbv
   refine .inv (α := Nat × Int) (fun p => ⟨[.any, .any, .lst true k row, .own 0 0, .any, .any, .any, .lst false 4 (ws4 H.lim xa), .lst false 4 (ws4 H.lim (H.mf 256 m (z j p.1))), .s .i64 i, .s .i64 p.2, .any, .any, .any, .any, .any, .any, .any, .any, .any, .any, .any, .any, .any, .any, .any, .any, .any, .any, .any, .any, .any, .any, .any, .any, .any, .any, .any, .any, .any, .any, .any, .any, .any, .any, .any, .any, .any, .any, .any, .any, .any, .any, .any, .any, .any, .any, .any, .any, .any, .any, .any],
       [⟨true, true, [.lst false 4 (ws4 H.lim m), .s .u64 (H.minv m : Nat), .lst false 4 (ws4 H.lim (H.mf (2 * 256) m 1))]⟩]⟩)
     (fun p => p.1 ≤ 64 ∧ p.2 = (p.1 : Int) - 1) (fun p => p.1) (64, 63) ?_ ⟨Nat.le_refl _, rfl⟩ ?_
   . cbv
     repeat' (first | exact rfl | exact trivial | constructor)
   rintro ⟨q, v⟩ ⟨hq, hv⟩
   dsimp only at hq hv ⊢
   by_cases h2 : v ≥ 0
   . obtain ⟨q, rfl⟩ : ∃ t, q = t + 1 := ⟨q - 1, by omega⟩
     have hvq : v = (q : Int) := by omega
     have hge2 : A.cmp .geq v 0 = true := (i_ge hA).trans (decide_eq_true h2)
     have hsub2 : A.bin .sub .i64 v 1 = (q : Int) - 1 := e_sub hA hvq rfl rfl (by omega)
     obtain ⟨u, hu⟩ : ∃ u : Int, u = (q : Int) - 1 := ⟨_, rfl⟩
     rw [← hu] at hsub2
     have hle2 : q ≤ 64 := by omega
     have hmu2 : q < q + 1 := by omega
     have hbit : A.bin .and .u64 (A.bin .shr .u64 (H.lim e j) (A.wrap .u64 v)) 1 = ((e / 2 ^ (64 * j + q) % 2 : Nat) : Int) := by
       rw [u_bit hA (le e j) (wrap_small hA hvq (by omega)) (by omega), hl, limR_bit _ _ _ (by omega)]
     have hstep := hst j q
     have hsqq := hsq j q
     obtain ⟨c, hc⟩ : ∃ c, c = e / 2 ^ (64 * j + q) % 2 := ⟨_, rfl⟩
     rw [← hc] at hbit hstep
     have hok := okb_small hA hvq (by omega)
     have hcmp : A.cmp .eql (A.bin .and .u64 (A.bin .shr .u64 (H.lim e j) (A.wrap .u64 v)) 1) 1 = decide (c = 1) := by rw [hbit]; exact bit_eq hA c
     generalize z j (q + 1) = zq at *
     clear hst hsq hbit hc
     cbv
     refine ABr.t hge2 ?_
     cbv
     refine aF hS hsqq ?_
     cbv
     refine .mk j hij hjk ?_
     cbv
     refine .mk _ hrj ?_
     cbv
     refine .mk hok ?_
     cbv
     by_cases h3 : c = 1
     . rw [if_pos h3] at hstep
       replace hcmp := hcmp.trans (decide_eq_true h3)
       refine ABr.t hcmp ?_
       cbv
       refine ACall.mk _ (cf hS (hml _)) ?_
       cbv
       refine ⟨(q, u), ?_, ⟨hle2, hu⟩, hmu2⟩
       dsimp only
       rw [hstep]
       cbv
       simp only [and_true, true_and]
       exact hsub2
     . rw [if_neg h3] at hstep
       replace hcmp := hcmp.trans (decide_eq_false h3)
       refine ABr.f hcmp ?_
       cbv
       refine ⟨(q, u), ?_, ⟨hle2, hu⟩, hmu2⟩
       dsimp only
       rw [hstep]
       cbv
       simp only [and_true, true_and]
       exact hsub2
   . have hge2 : A.cmp .geq v 0 = false := (i_ge hA).trans (decide_eq_false h2)
     obtain rfl : q = 0 := by omega
     clear hst hsq
     rw [hz1]
     cbv
     refine ABr.f hge2 ?_
     cbv
     refine ⟨(j, w), ?_, ⟨hle, hw⟩, hmu⟩
     cbv
     simp only [and_true, true_and]
     exact hsub
 . have hge : A.cmp .geq i 0 = false := (i_ge hA).trans (decide_eq_false h1)
   obtain rfl : j = 0 := by omega
   clear hst hsq hyz hzy
   generalize y 0 = y0 at *
   cbv
   refine ABr.f hge ?_
   cbv
   refine ACall.mk _ (cg hS hred (by cbv; exact ⟨(hhi (4 + 0) (by decide)).symm, (hhi (4 + 1) (by decide)).symm, (hhi (4 + 2) (by decide)).symm, (hhi (4 + 3) (by decide)).symm⟩)) ?_
   cbv
theorem rExp6 {H : H5} (hH : H = H5.real) {m a : Nat} (hR : Mod 384 m) (ha : a < m) {row : List AVal} {e k : Nat} (hrow : IsRow row (H.lim e) k) (hk : k < 1000) (he : e < 2 ^ (64 * k)) :
   Sp 198 [rf6 H m, .lst false 6 (ws6 H.lim a), .lst true k row] (.lst false 6 (ws6 H.lim (H.pow m a e))) := by
 have hl := H5.hlim hH
 have hm := hR.lt
 have h1m := hR.one
 have h2 : H.mf (2 * 384) m 1 < m := by rw [hH]; exact mf_lt hR.pos
 have hlt : ∀ x, H.mf 384 m x < m := fun x => by rw [hH]; exact mf_lt hR.pos
 have tx := rtimes6 hH (a := a) (b := H.mf (2 * 384) m 1) (r := H.mf 384 m a) hR (by omega) (by omega) (.inl ha) (hlt _) (by rw [hH]; exact two_num 384 m a)
 have t1 := rtimes6 hH (a := 1) (b := H.mf (2 * 384) m 1) (r := H.mf 384 m 1) hR (by omega) (by omega) (.inl h1m) (hlt _) (by rw [hH]; exact two_num 384 m 1)
 have tm : ∀ x y, Sp 206 [rf6 H m, .lst false 6 (ws6 H.lim (H.mf 384 m x)), .lst false 6 (ws6 H.lim (H.mf 384 m y))] (.lst false 6 (ws6 H.lim (H.mf 384 m (H.mul m x y)))) := fun x y => by
   have := hlt x; have := hlt y
   exact rtimes6 hH hR (by omega) (by omega) (.inl (hlt x)) (hlt _) (by rw [hH]; exact mf_mul 384 m x y)
 have hone := rOne6 hH hR
 obtain ⟨y, hy⟩ : ∃ y : Nat → Nat, y = fun j => H.mf 384 m (H.pow m a (e / 2 ^ (64 * j))) := ⟨_, rfl⟩
 obtain ⟨z, hz⟩ : ∃ z : Nat → Nat → Nat, z = fun j q => H.pow m a (e / 2 ^ (64 * j + q)) := ⟨_, rfl⟩
 have hyk : y k = H.mf 384 m 1 := by
   rw [hy]; show H.mf 384 m (H.pow m a (e / 2 ^ (64 * k))) = _
   rw [Nat.div_eq_of_lt he, hH]
   show a ^ 0 % m * 2 ^ 384 % m = 1 * 2 ^ 384 % m
   rw [Nat.pow_zero, Nat.mod_mul_mod]
 have hy0 : y 0 = H.mf 384 m (H.pow m a e) := by rw [hy]; show H.mf 384 m (H.pow m a (e / 2 ^ (64 * 0))) = _; rw [Nat.mul_zero, Nat.pow_zero, Nat.div_one]
 have hyz : ∀ j, H.mf 384 m (z j 64) = y (j + 1) := fun j => by rw [hy, hz]; show H.mf 384 m (H.pow m a (e / 2 ^ (64 * j + 64))) = H.mf 384 m (H.pow m a (e / 2 ^ (64 * (j + 1)))); rw [Nat.mul_succ]
 have hzy : ∀ j, H.mf 384 m (z j 0) = y j := fun j => by rw [hy, hz]; rfl
 have hst : ∀ j q, z j q = if e / 2 ^ (64 * j + q) % 2 = 1 then H.mul m (H.mul m (z j (q + 1)) (z j (q + 1))) a else H.mul m (z j (q + 1)) (z j (q + 1)) := fun j q => by rw [hz, hH]; exact pow_step m a e (64 * j + q)
 have hred := rreduce6 hl m (H.minv m) (H.mf (2 * 384) m 1) (y 0) (H.pow m a e) hR.lt hR.odd (by rw [hH]; exact minv_ok hR.odd) (by rw [hH]; exact minv_lt m)
   (by rw [hy0]; have := hlt (H.pow m a e); exact Nat.lt_of_lt_of_le this (Nat.le_mul_of_pos_right _ (Nat.two_pow_pos _))) (by rw [hH]; exact Nat.mod_lt _ hR.pos)
   (by rw [hy0, hH]; exact (Nat.mod_mod _ _).symm)
 have hy0m : y 0 < 2 ^ 384 := by rw [hy0]; exact Nat.lt_trans (hlt _) hm
 have hhi : ∀ i, 6 ≤ i → H.lim (y 0) i = 0 := fun i hi => by
   rw [hl]; unfold limR
   rw [Nat.div_eq_of_lt (Nat.lt_of_lt_of_le hy0m (Nat.pow_le_pow_right (n := 2) (i := 384) (by decide) (by omega))), Nat.zero_mod]; rfl
 have le := fun x i => lim_range hl x i
 have hsq := fun j q => tm (z j (q + 1)) (z j (q + 1))
 have hml := fun x => tm x a
 obtain ⟨xa, hxa⟩ : ∃ xa, xa = H.mf 384 m a := ⟨_, rfl⟩
 rw [← hxa] at tx hml
 rw [← hyk] at t1
 clear hy hz tm hlt hy0 hxa hyk
 refine mk Tryz.func198 rfl rfl LN R1 (by decide +kernel) ?_
 intro A S hA hS
 unfold bodyOf Tryz.f198
 cbv
 refine aF hS tx ?_
 cbv
 refine aF hS hone ?_
 cbv
 refine aF hS t1 ?_
 cbv
 refine .inv (α := Nat × Int) (fun p => ⟨[.any, .any, .lst true k row, .own 0 0, .any, .any, .any, .lst false 6 (ws6 H.lim xa), .lst false 6 (ws6 H.lim (y p.1)), .s .i64 p.2, .any, .any, .any, .any, .any, .any, .any, .any, .any, .any, .any, .any, .any, .any, .any, .any, .any, .any, .any, .any, .any, .any, .any, .any, .any, .any, .any, .any, .any, .any, .any, .any, .any, .any, .any, .any, .any, .any, .any, .any, .any, .any, .any, .any, .any, .any, .any, .any, .any, .any, .any, .any],
     [⟨true, true, [.lst false 6 (ws6 H.lim m), .s .u64 (H.minv m : Nat), .lst false 6 (ws6 H.lim (H.mf (2 * 384) m 1))]⟩]⟩)
   (fun p => p.1 ≤ k ∧ p.2 = (p.1 : Int) - 1) (fun p => p.1) (k, (k : Int) - 1) ?_ ⟨Nat.le_refl _, rfl⟩ ?_
 . have e : A.bin .sub .i64 (A.len k) 1 = (k : Int) - 1 := e_sub hA (a_len hA k) rfl rfl (by omega)
   generalize (k : Int) - 1 = w at e
   cbv
   simp only [and_true, true_and]
   exact e
 rintro ⟨j, i⟩ ⟨hj, hi⟩
 dsimp only at hj hi ⊢
 by_cases h1 : i ≥ 0
 . obtain ⟨j, rfl⟩ : ∃ t, j = t + 1 := ⟨j - 1, by omega⟩
   have hij : i = (j : Int) := by omega
   have hge : A.cmp .geq i 0 = true := (i_ge hA).trans (decide_eq_true h1)
   have hjk : j < k := by omega
   have hsub : A.bin .sub .i64 i 1 = (j : Int) - 1 := e_sub hA hij rfl rfl (by omega)
   obtain ⟨w, hw⟩ : ∃ w : Int, w = (j : Int) - 1 := ⟨_, rfl⟩
   rw [← hw] at hsub
   have hle : j ≤ k := by omega
   have hmu : j < j + 1 := by omega
   have hy1 := hyz j
   have hz1 := hzy j
   have hrj := hrow.2 j hjk
   rw [← hy1]
   clear hred hone t1 tx hhi hy0m hyz hzy
   cbv
   refine ABr.t hge ?_
   cbv
   refine .inv (α := Nat × Int) (fun p => ⟨[.any, .any, .lst true k row, .own 0 0, .any, .any, .any, .lst false 6 (ws6 H.lim xa), .lst false 6 (ws6 H.lim (H.mf 384 m (z j p.1))), .s .i64 i, .s .i64 p.2, .any, .any, .any, .any, .any, .any, .any, .any, .any, .any, .any, .any, .any, .any, .any, .any, .any, .any, .any, .any, .any, .any, .any, .any, .any, .any, .any, .any, .any, .any, .any, .any, .any, .any, .any, .any, .any, .any, .any, .any, .any, .any, .any, .any, .any, .any, .any, .any, .any, .any, .any],
       [⟨true, true, [.lst false 6 (ws6 H.lim m), .s .u64 (H.minv m : Nat), .lst false 6 (ws6 H.lim (H.mf (2 * 384) m 1))]⟩]⟩)
     (fun p => p.1 ≤ 64 ∧ p.2 = (p.1 : Int) - 1) (fun p => p.1) (64, 63) ?_ ⟨Nat.le_refl _, rfl⟩ ?_
   . cbv
     repeat' (first | exact rfl | exact trivial | constructor)
   rintro ⟨q, v⟩ ⟨hq, hv⟩
   dsimp only at hq hv ⊢
   by_cases h2 : v ≥ 0
   . obtain ⟨q, rfl⟩ : ∃ t, q = t + 1 := ⟨q - 1, by omega⟩
     have hvq : v = (q : Int) := by omega
     have hge2 : A.cmp .geq v 0 = true := (i_ge hA).trans (decide_eq_true h2)
     have hsub2 : A.bin .sub .i64 v 1 = (q : Int) - 1 := e_sub hA hvq rfl rfl (by omega)
     obtain ⟨u, hu⟩ : ∃ u : Int, u = (q : Int) - 1 := ⟨_, rfl⟩
     rw [← hu] at hsub2
     have hle2 : q ≤ 64 := by omega
     have hmu2 : q < q + 1 := by omega
     have hbit : A.bin .and .u64 (A.bin .shr .u64 (H.lim e j) (A.wrap .u64 v)) 1 = ((e / 2 ^ (64 * j + q) % 2 : Nat) : Int) := by
       rw [u_bit hA (le e j) (wrap_small hA hvq (by omega)) (by omega), hl, limR_bit _ _ _ (by omega)]
     have hstep := hst j q
     have hsqq := hsq j q
     obtain ⟨c, hc⟩ : ∃ c, c = e / 2 ^ (64 * j + q) % 2 := ⟨_, rfl⟩
     rw [← hc] at hbit hstep
     have hok := okb_small hA hvq (by omega)
     have hcmp : A.cmp .eql (A.bin .and .u64 (A.bin .shr .u64 (H.lim e j) (A.wrap .u64 v)) 1) 1 = decide (c = 1) := by rw [hbit]; exact bit_eq hA c
     generalize z j (q + 1) = zq at *
     clear hst hsq hbit hc
     cbv
     refine ABr.t hge2 ?_
     cbv
     refine aF hS hsqq ?_
     cbv
     refine .mk j hij hjk ?_
     cbv
     refine .mk _ hrj ?_
     cbv
     refine .mk hok ?_
     cbv
     by_cases h3 : c = 1
     . rw [if_pos h3] at hstep
       replace hcmp := hcmp.trans (decide_eq_true h3)
       refine ABr.t hcmp ?_
       cbv
       refine ACall.mk _ (cf hS (hml _)) ?_
       cbv
       refine ⟨(q, u), ?_, ⟨hle2, hu⟩, hmu2⟩
       dsimp only
       rw [hstep]
       cbv
       simp only [and_true, true_and]
       exact hsub2
     . rw [if_neg h3] at hstep
       replace hcmp := hcmp.trans (decide_eq_false h3)
       refine ABr.f hcmp ?_
       cbv
       refine ⟨(q, u), ?_, ⟨hle2, hu⟩, hmu2⟩
       dsimp only
       rw [hstep]
       cbv
       simp only [and_true, true_and]
       exact hsub2
   . have hge2 : A.cmp .geq v 0 = false := (i_ge hA).trans (decide_eq_false h2)
     obtain rfl : q = 0 := by omega
     clear hst hsq
     rw [hz1]
     cbv
     refine ABr.f hge2 ?_
     cbv
     refine ⟨(j, w), ?_, ⟨hle, hw⟩, hmu⟩
     cbv
     simp only [and_true, true_and]
     exact hsub
 . have hge : A.cmp .geq i 0 = false := (i_ge hA).trans (decide_eq_false h1)
   obtain rfl : j = 0 := by omega
   clear hst hsq hyz hzy
   generalize y 0 = y0 at *
   cbv
   refine ABr.f hge ?_
   cbv
   refine ACall.mk _ (cg hS hred (by cbv; exact ⟨(hhi (6 + 0) (by decide)).symm, (hhi (6 + 1) (by decide)).symm, (hhi (6 + 2) (by decide)).symm, (hhi (6 + 3) (by decide)).symm, (hhi (6 + 4) (by decide)).symm, (hhi (6 + 5) (by decide)).symm⟩)) ?_
   cbv
def RRootO : Nat → Md := fun r => match r with | 1 => .own | 13 => .all | _ => .mid
theorem rInv4 {H : H5} (hH : H = H5.real) {m a : Nat} (hR : Mod 256 m) (ha : a < m) :
   Sp 187 [rf4 H m, .lst false 4 (ws4 H.lim a)] (.lst false 4 (ws4 H.lim (H.pow m a (m - 2)))) := by
 have hl := H5.hlim hH
 have hm := hR.lt
 have h1m := hR.one
 have hsm := rsmall4 hH (m := m) (k := 2) (by decide)
 have hsub := rSub4 hl m 2 (m - 2) 0 hm (by decide) (by omega) (by omega)
 have hexp := rExp4 hH hR ha (rowx4 H.lim (m - 2)) (by decide) (show m - 2 < 2 ^ (64 * 4) by exact Nat.lt_of_le_of_lt (Nat.sub_le _ _) hm)
 generalize H.pow m a (m - 2) = r at *
 generalize m - 2 = e at *
 refine mk Tryz.func187 rfl rfl L0 R1 (by decide +kernel) ?_
 intro A S hA hS
 unfold bodyOf Tryz.f187
 cbv
 refine ACall.mk _ (cg hS hsm (by cbv)) ?_
 cbv
 refine aF hS hsub ?_
 cbv
 refine ACall.mk _ (cg hS hexp (by cbv)) ?_
 cbv
theorem rInv6 {H : H5} (hH : H = H5.real) {m a : Nat} (hR : Mod 384 m) (ha : a < m) :
   Sp 187 [rf6 H m, .lst false 6 (ws6 H.lim a)] (.lst false 6 (ws6 H.lim (H.pow m a (m - 2)))) := by
 have hl := H5.hlim hH
 have hm := hR.lt
 have h1m := hR.one
 have hsm := rsmall6 hH (m := m) (k := 2) (by decide)
 have hsub := rSub6 hl m 2 (m - 2) 0 hm (by decide) (by omega) (by omega)
 have hexp := rExp6 hH hR ha (rowx6 H.lim (m - 2)) (by decide) (show m - 2 < 2 ^ (64 * 6) by exact Nat.lt_of_le_of_lt (Nat.sub_le _ _) hm)
 generalize H.pow m a (m - 2) = r at *
 generalize m - 2 = e at *
 refine mk Tryz.func187 rfl rfl L0 R1 (by decide +kernel) ?_
 intro A S hA hS
 unfold bodyOf Tryz.f187
 cbv
 refine ACall.mk _ (cg hS hsm (by cbv)) ?_
 cbv
 refine aF hS hsub ?_
 cbv
 refine ACall.mk _ (cg hS hexp (by cbv)) ?_
 cbv
theorem rRoot6 {H : H5} (hH : H = H5.real) {m a : Nat} (hR : Mod 384 m) (ha : a < m) (r : Nat) (hr : r = H.pow m a ((m + 1) / 4)) :
   (H.mul m r r = a → Sp 151 [rf6 H m, .lst false 6 (ws6 H.lim a)] (.tup [.lst false 6 (ws6 H.lim r), .b true])) ∧
   (H.mul m r r ≠ a → Sp 151 [rf6 H m, .lst false 6 (ws6 H.lim a)] (.tup [.lst false 6 (ws6 H.lim 0), .b false])) := by
 have hl := H5.hlim hH
 have hm := hR.lt
 have h1m := hR.one
 have hodd := hR.odd
 have le := fun x i => lim_range hl x i
 obtain ⟨q, hq⟩ : ∃ q, q = m / 4 := ⟨_, rfl⟩
 obtain ⟨e, he⟩ : ∃ e, e = (m + 1) / 4 := ⟨_, rfl⟩
 have hqw : ∀ i, i + 1 < 6 → H.lim m i / 4 + 4611686018427387904 * (H.lim m (i + 1) % 4) = H.lim q i := fun i _ => by rw [hq, hl]; exact (limR_quarter m i).symm
 have hqt : H.lim m 5 / 4 = H.lim q 5 := by
   have : H.lim m 6 = 0 := by
     rw [hl]; unfold limR; rw [show 64 * 6 = 384 from rfl, Nat.div_eq_of_lt hm, Nat.zero_mod]; rfl
   rw [hq, hl, limR_quarter m 5]
   rw [hl] at this
   rw [this]; omega
 have he4 : e < 2 ^ (64 * 6) := Nat.lt_of_le_of_lt (by omega : e ≤ m) hm
 have hexp := rExp6 hH hR ha (rowx6 H.lim e) (by decide) he4
 rw [← he, ] at hr
 rw [← hr] at hexp
 have hrm : r < m := by rw [hr, hH]; exact Nat.mod_lt _ hR.pos
 have hmm := rMulMod6 hH hR hrm hrm
 obtain ⟨s, hs⟩ : ∃ s, s = H.mul m r r := ⟨_, rfl⟩
 rw [← hs] at hmm ⊢
 have hsm : s < m := by rw [hs, hH]; exact Nat.mod_lt _ hR.pos
 have hl1 := rLess6 hl s a (by omega) (by omega) (decide (s < a)) rfl
 have hl2 := rLess6 hl a s (by omega) (by omega) (decide (a < s)) rfl
 have hone := rsmall6 hH (m := m) (k := 1) (by decide)
 have hadd : m % 4 = 3 → _ := fun (h : m % 4 = 3) => rAdd6 hl q 1 e 0 (by omega) (by decide) (by omega) (by omega)
 have hqe : m % 4 ≠ 3 → q = e := fun h => by omega
 have h0 : ∀ i, H.lim 0 i = 0 := fun i => by rw [hH]; show ((0 / 2 ^ (64 * i) % 2 ^ 64 : Nat) : Int) = 0; rw [Nat.zero_div]; rfl
 have hm0 : H.lim m 0 = ((m % 18446744073709551616 : Nat) : Int) := lim_mod hl m
 have hrem4 : (H.lim m 0).tmod 4 = 3 ↔ m % 4 = 3 := by rw [hm0, Int.tmod_eq_emod_of_nonneg (by omega)]; omega
 clear hs hr he hq
 have key : ∀ t : Bool, t = decide (s = a) → Sp 151 [rf6 H m, .lst false 6 (ws6 H.lim a)] (.tup [.lst false 6 (match t with | true => ws6 H.lim r | false => ws6 H.lim 0), .b t]) := by
   intro t ht
   refine mk Tryz.func151 rfl rfl L0 RRootO (by decide +kernel) ?_
   intro A S hA hS
   unfold bodyOf Tryz.f151
   cbv
   have eq4 : A.cmp .eql (A.bin .rem .u64 (H.lim m 0) 4) 3 = decide (m % 4 = 3) := by
     rw [i_eq hA, hA]
     exact decide_eq_decide.2 hrem4
   have hw := fun i (hi : i + 1 < 6) => (quarter_word hA (le m i) (le m (i + 1))).trans (hqw i hi)
   have hwt := (shr_two hA (le m 5).1).trans hqt
   have e1 : (decide (s < a) = true ∧ t = false) ∨ (decide (s < a) = false ∧ decide (a < s) = true ∧ t = false) ∨ (decide (s < a) = false ∧ decide (a < s) = false ∧ t = true) := by
     rcases Nat.lt_trichotomy s a with c | c | c
     . exact .inl ⟨decide_eq_true c, ht.trans (decide_eq_false (Nat.ne_of_lt c))⟩
     . exact .inr (.inr ⟨decide_eq_false (by rw [c]; exact Nat.lt_irrefl _), decide_eq_false (by rw [c]; exact Nat.lt_irrefl _), ht.trans (decide_eq_true c)⟩)
     . exact .inr (.inl ⟨decide_eq_false (Nat.lt_asymm c), decide_eq_true c, ht.trans (decide_eq_false (Nat.ne_of_gt c))⟩)
   generalize decide (s < a) = b1 at *
   generalize decide (a < s) = b2 at *
   by_cases h4 : m % 4 = 3
   . have hadd := hadd h4
     replace eq4 := eq4.trans (decide_eq_true h4)
     refine ABr.t eq4 ?_
     cbv
     refine ACall.mk _ (cg hS hone (by cbv)) ?_
     cbv
     refine ACall.mk _ (cg hS hadd (by cbv; exact ⟨⟨hw 0 (by decide), hw 1 (by decide), hw 2 (by decide), hw 3 (by decide), hw 4 (by decide), hwt⟩, trivial⟩)) ?_
     cbv
     refine ACall.mk _ (cg hS hexp (by cbv)) ?_
     cbv
     refine aF hS hmm ?_
     cbv
     refine aF hS hl1 ?_
     cbv
     rcases e1 with ⟨c1, rfl⟩ | ⟨c1, c2, rfl⟩ | ⟨c1, c2, rfl⟩
     . repeat (refine ABr.t c1 ?_; cbv)
       exact ⟨⟨(h0 0).symm, (h0 1).symm, (h0 2).symm, (h0 3).symm, (h0 4).symm, (h0 5).symm⟩, trivial⟩
     . repeat (refine ABr.f c1 ?_; cbv)
       refine aF hS hmm ?_
       cbv
       repeat (refine ABr.f c1 ?_; cbv)
       refine aF hS hl2 ?_
       cbv
       repeat (first | (refine ABr.f c1 ?_; cbv) | (refine ABr.t c2 ?_; cbv))
       exact ⟨⟨(h0 0).symm, (h0 1).symm, (h0 2).symm, (h0 3).symm, (h0 4).symm, (h0 5).symm⟩, trivial⟩
     . repeat (refine ABr.f c1 ?_; cbv)
       refine aF hS hmm ?_
       cbv
       repeat (refine ABr.f c1 ?_; cbv)
       refine aF hS hl2 ?_
       cbv
       repeat (first | (refine ABr.f c1 ?_; cbv) | (refine ABr.f c2 ?_; cbv))
   . obtain rfl := hqe h4
     replace eq4 := eq4.trans (decide_eq_false h4)
     refine ABr.f eq4 ?_
     cbv
     refine ACall.mk _ (cg hS hexp (by cbv; exact ⟨hw 0 (by decide), hw 1 (by decide), hw 2 (by decide), hw 3 (by decide), hw 4 (by decide), hwt⟩)) ?_
     cbv
     refine aF hS hmm ?_
     cbv
     refine aF hS hl1 ?_
     cbv
     rcases e1 with ⟨c1, rfl⟩ | ⟨c1, c2, rfl⟩ | ⟨c1, c2, rfl⟩
     . repeat (refine ABr.t c1 ?_; cbv)
       exact ⟨⟨(h0 0).symm, (h0 1).symm, (h0 2).symm, (h0 3).symm, (h0 4).symm, (h0 5).symm⟩, trivial⟩
     . repeat (refine ABr.f c1 ?_; cbv)
       refine aF hS hmm ?_
       cbv
       repeat (refine ABr.f c1 ?_; cbv)
       refine aF hS hl2 ?_
       cbv
       repeat (first | (refine ABr.f c1 ?_; cbv) | (refine ABr.t c2 ?_; cbv))
       exact ⟨⟨(h0 0).symm, (h0 1).symm, (h0 2).symm, (h0 3).symm, (h0 4).symm, (h0 5).symm⟩, trivial⟩
     . repeat (refine ABr.f c1 ?_; cbv)
       refine aF hS hmm ?_
       cbv
       repeat (refine ABr.f c1 ?_; cbv)
       refine aF hS hl2 ?_
       cbv
       repeat (first | (refine ABr.f c1 ?_; cbv) | (refine ABr.f c2 ?_; cbv))
 constructor
 . intro h; exact key true (decide_eq_true h).symm
 . intro h; exact key false (decide_eq_false h).symm
theorem rBnPS {H : H5} (hH : H = H5.real) : Sp 107 [] (.new false 4 1 (ws4 H.lim bnP)) := by
 refine mk Tryz.func107 rfl rfl L0 R0 (by decide +kernel) ?_
 intro A S hA hS
 unfold bodyOf Tryz.f107
 cbv
 refine ACall.mk _ (cf hS (rHex4 (H5.hlim hH) _ (by decide +kernel) (by decide +kernel))) ?_
 rw [show hexN _ = bnP from (by decide +kernel)]
 cbv
theorem rBnRS {H : H5} (hH : H = H5.real) : Sp 56 [] (.new false 4 1 (ws4 H.lim bnR)) := by
 refine mk Tryz.func56 rfl rfl L0 R0 (by decide +kernel) ?_
 intro A S hA hS
 unfold bodyOf Tryz.f56
 cbv
 refine ACall.mk _ (cf hS (rHex4 (H5.hlim hH) _ (by decide +kernel) (by decide +kernel))) ?_
 rw [show hexN _ = bnR from (by decide +kernel)]
 cbv
theorem rBlsRS {H : H5} (hH : H = H5.real) : Sp 57 [] (.new false 4 1 (ws4 H.lim blsR)) := by
 refine mk Tryz.func57 rfl rfl L0 R0 (by decide +kernel) ?_
 intro A S hA hS
 unfold bodyOf Tryz.f57
 cbv
 refine ACall.mk _ (cf hS (rHex4 (H5.hlim hH) _ (by decide +kernel) (by decide +kernel))) ?_
 rw [show hexN _ = blsR from (by decide +kernel)]
 cbv
theorem rBlsPS {H : H5} (hH : H = H5.real) : Sp 78 [] (.new false 6 1 (ws6 H.lim blsP)) := by
 refine mk Tryz.func78 rfl rfl L0 R0 (by decide +kernel) ?_
 intro A S hA hS
 unfold bodyOf Tryz.f78
 cbv
 refine ACall.mk _ (cf hS (rHex6 (H5.hlim hH) _ (by decide +kernel) (by decide +kernel))) ?_
 rw [show hexN _ = blsP from (by decide +kernel)]
 cbv
def RApp : Nat → Md := fun r => match r with | 5 => .own | _ => .mid
section
variable {p : Nat} [NeZero p]
def Er4_1 (H : H5) (a : Fin p) : AVal := .lst false 1 [.lst false 4 (ws4 H.lim a.val)]
def Nr4_1 (H : H5) (a : Fin p) : AVal := .new false 1 1 [.lst false 4 (ws4 H.lim a.val)]
def Cr4_1 (H : H5) (c : Cu p) : AVal := .agg [.lst false 4 (ws4 H.lim p), .s .u64 (H.minv p : Nat), .lst false 4 (ws4 H.lim (H.mf (2 * 256) p 1)), .i .i64 1, .lst false 1 [.lst false 4 (ws4 H.lim c.b1.val)], .lst false 4 (ws4 H.lim c.r), .lst false 1 [.lst false 4 (ws4 H.lim c.x1)], .lst false 1 [.lst false 4 (ws4 H.lim c.y1)], .b false]
def Er4_2 (H : H5) (a : Cv.F2 p) : AVal := .lst false 2 [.lst false 4 (ws4 H.lim a.a.val), .lst false 4 (ws4 H.lim a.b.val)]
def Nr4_2 (H : H5) (a : Cv.F2 p) : AVal := .new false 2 1 [.lst false 4 (ws4 H.lim a.a.val), .lst false 4 (ws4 H.lim a.b.val)]
def Cr4_2 (H : H5) (c : Cu p) : AVal := .agg [.lst false 4 (ws4 H.lim p), .s .u64 (H.minv p : Nat), .lst false 4 (ws4 H.lim (H.mf (2 * 256) p 1)), .i .i64 2, .lst false 2 [.lst false 4 (ws4 H.lim c.b2.a.val), .lst false 4 (ws4 H.lim c.b2.b.val)], .lst false 4 (ws4 H.lim c.r), .lst false 2 [.lst false 4 (ws4 H.lim c.xa), .lst false 4 (ws4 H.lim c.xb)], .lst false 2 [.lst false 4 (ws4 H.lim c.ya), .lst false 4 (ws4 H.lim c.yb)], .b false]
theorem rAddF4 {H : H5} (hH : H = H5.real) (hp : PrM 256 p) (a b : Fin p) : Sp 162 [.lst false 4 (ws4 H.lim a.val), .lst false 4 (ws4 H.lim b.val), .lst false 4 (ws4 H.lim p)] (.new false 4 1 (ws4 H.lim (a + b).val)) :=
 rAddMod4 (H5.hlim hH) a.val b.val p (a + b).val hp.lt a.isLt b.isLt (Fin.val_add a b)
theorem rSubF4 {H : H5} (hH : H = H5.real) (hp : PrM 256 p) (a b : Fin p) : Sp 152 [.lst false 4 (ws4 H.lim a.val), .lst false 4 (ws4 H.lim b.val), .lst false 4 (ws4 H.lim p)] (.new false 4 1 (ws4 H.lim (a - b).val)) :=
 rSubMod4 (H5.hlim hH) a.val b.val p (a - b).val hp.lt a.isLt b.isLt (fin_sub a b).symm
theorem rMulF4 {H : H5} (hH : H = H5.real) (hp : PrM 256 p) (a b : Fin p) : Sp 161 [rf4 H p, .lst false 4 (ws4 H.lim a.val), .lst false 4 (ws4 H.lim b.val)] (.lst false 4 (ws4 H.lim (a * b).val)) := by
 have h := rMulMod4 hH hp.toMod a.isLt b.isLt
 have e : H.mul p a.val b.val = (a * b).val := by rw [hH]; exact (Fin.val_mul a b).symm
 rw [e] at h; exact h
theorem rInvF4 {H : H5} (hH : H = H5.real) (hp : PrM 256 p) (a : Fin p) : Sp 187 [rf4 H p, .lst false 4 (ws4 H.lim a.val)] (.lst false 4 (ws4 H.lim (Cv.inv1 a).val)) := by
 have h := rInv4 hH hp.toMod a.isLt
 have e : H.pow p a.val (p - 2) = (Cv.inv1 a).val := by rw [hH]; rfl
 rw [e] at h; exact h
theorem rnumS4 {H : H5} (hH : H = H5.real) (n : Nat) (hn : n < 18446744073709551616) : Sp 80 [rf4 H p, .s .u64 (n : Int)] (.new false 4 1 (ws4 H.lim n)) := by
 have h0 : H.lim n 0 = (n : Int) := by rw [hH]; exact limR_word hn
 have hs : ∀ i, 0 < i → H.lim n i = 0 := fun i hi => by
   rw [hH]
   show ((n / 2 ^ (64 * i) % 2 ^ 64 : Nat) : Int) = 0
   rw [Nat.div_eq_of_lt (Nat.lt_of_lt_of_le hn (Nat.le_trans (show 18446744073709551616 ≤ 2 ^ 64 by decide) (Nat.pow_le_pow_right (by decide) (by omega)))), Nat.zero_mod]; rfl
 refine mk Tryz.func80 rfl rfl L0 R0 (by decide +kernel) fun A S hA hS => ?_
 unfold bodyOf Tryz.f80
 cbv
 exact ⟨h0.symm, (hs 1 (by decide)).symm, (hs 2 (by decide)).symm, (hs 3 (by decide)).symm⟩
theorem addR4_1 {H : H5} (hH : H = H5.real) (hp : PrM 256 p) (c : Cu p) (a b : Fin p) : Sp 90 [Cr4_1 H c, Er4_1 H a, Er4_1 H b] (Nr4_1 H (a + b)) := by
 have h := rAddF4 hH hp a b
 generalize a + b = r at *
 refine mk Tryz.func90 rfl rfl L0 RApp (by decide +kernel) fun A S hA hS => ?_
 unfold bodyOf Tryz.f90
 cbv
 refine aF hS h ?_
 cbv
theorem mulR4_1 {H : H5} (hH : H = H5.real) (hp : PrM 256 p) (c : Cu p) (a b : Fin p) : Sp 89 [Cr4_1 H c, Er4_1 H a, Er4_1 H b] (Nr4_1 H (a * b)) := by
 have h := rMulF4 hH hp a b
 generalize a * b = r at *
 refine mk Tryz.func89 rfl rfl L0 R1 (by decide +kernel) fun A S hA hS => ?_
 unfold bodyOf Tryz.f89
 cbv
 refine aF hS h ?_
 cbv
theorem addR4_2 {H : H5} (hH : H = H5.real) (hp : PrM 256 p) (c : Cu p) (a b : Cv.F2 p) : Sp 90 [Cr4_2 H c, Er4_2 H a, Er4_2 H b] (Nr4_2 H ⟨a.a + b.a, a.b + b.b⟩) := by
 have h := rAddF4 hH hp a.a b.a
 have h2 := rAddF4 hH hp a.b b.b
 generalize a.a + b.a = r at *
 generalize a.b + b.b = r2 at *
 refine mk Tryz.func90 rfl rfl L0 RApp (by decide +kernel) fun A S hA hS => ?_
 unfold bodyOf Tryz.f90
 cbv
 refine aF hS h ?_
 cbv
 refine aF hS h2 ?_
 cbv
theorem subR4_2 {H : H5} (hH : H = H5.real) (hp : PrM 256 p) (c : Cu p) (a b : Cv.F2 p) : Sp 118 [Cr4_2 H c, Er4_2 H a, Er4_2 H b] (Nr4_2 H ⟨a.a - b.a, a.b - b.b⟩) := by
 have h := rSubF4 hH hp a.a b.a
 have h2 := rSubF4 hH hp a.b b.b
 generalize a.a - b.a = r at *
 generalize a.b - b.b = r2 at *
 refine mk Tryz.func118 rfl rfl L0 RApp (by decide +kernel) fun A S hA hS => ?_
 unfold bodyOf Tryz.f118
 cbv
 refine aF hS h ?_
 cbv
 refine aF hS h2 ?_
 cbv
theorem mulR4_2 {H : H5} (hH : H = H5.real) (hp : PrM 256 p) (c : Cu p) (a b : Cv.F2 p) : Sp 89 [Cr4_2 H c, Er4_2 H a, Er4_2 H b] (Nr4_2 H ⟨a.a * b.a - a.b * b.b, a.a * b.b + a.b * b.a⟩) := by
 have h1 := rMulF4 hH hp a.a b.a
 have h2 := rMulF4 hH hp a.b b.b
 have h3 := rMulF4 hH hp a.a b.b
 have h4 := rMulF4 hH hp a.b b.a
 have h5 := rSubF4 hH hp (a.a * b.a) (a.b * b.b)
 have h6 := rAddF4 hH hp (a.a * b.b) (a.b * b.a)
 generalize a.a * b.a - a.b * b.b = r at *
 generalize a.a * b.b + a.b * b.a = r2 at *
 generalize a.a * b.a = q1 at *
 generalize a.b * b.b = q2 at *
 generalize a.a * b.b = q3 at *
 generalize a.b * b.a = q4 at *
 refine mk Tryz.func89 rfl rfl L0 R1 (by decide +kernel) fun A S hA hS => ?_
 unfold bodyOf Tryz.f89
 cbv
 refine aF hS h1 ?_
 cbv
 refine aF hS h2 ?_
 cbv
 refine aF hS h5 ?_
 cbv
 refine aF hS h3 ?_
 cbv
 refine aF hS h4 ?_
 cbv
 refine aF hS h6 ?_
 cbv
theorem invR4_2 {H : H5} (hH : H = H5.real) (hp : PrM 256 p) (c : Cu p) (a : Cv.F2 p) : Sp 127 [Cr4_2 H c, Er4_2 H a] (Nr4_2 H (Cv.inv2 a)) := by
 have hs := rnumS4 (p := p) hH 0 (by decide)
 have h1 := rMulF4 hH hp a.a a.a
 have h2 := rMulF4 hH hp a.b a.b
 have h3 := rAddF4 hH hp (a.a * a.a) (a.b * a.b)
 have h4 := rInvF4 hH hp (a.a * a.a + a.b * a.b)
 have h5 := rMulF4 hH hp a.a (Cv.inv1 (a.a * a.a + a.b * a.b))
 have h6 := rMulF4 hH hp a.b (Cv.inv1 (a.a * a.a + a.b * a.b))
 have h7 := rSubF4 hH hp 0 (a.b * Cv.inv1 (a.a * a.a + a.b * a.b))
 have e : Cv.inv2 a = ⟨a.a * Cv.inv1 (a.a * a.a + a.b * a.b), 0 - a.b * Cv.inv1 (a.a * a.a + a.b * a.b)⟩ := rfl
 rw [e]
 have z0 : ((0 : Fin p)).val = 0 := Cv.val_zero
 rw [z0] at h7
 generalize 0 - a.b * Cv.inv1 (a.a * a.a + a.b * a.b) = r2 at *
 generalize a.a * Cv.inv1 (a.a * a.a + a.b * a.b) = r1 at *
 generalize a.b * Cv.inv1 (a.a * a.a + a.b * a.b) = q at *
 generalize Cv.inv1 (a.a * a.a + a.b * a.b) = i at *
 generalize a.a * a.a + a.b * a.b = s at *
 generalize a.a * a.a = q1 at *
 generalize a.b * a.b = q2 at *
 refine mk Tryz.func127 rfl rfl L0 R1 (by decide +kernel) fun A S hA hS => ?_
 unfold bodyOf Tryz.f127
 cbv
 refine aF hS h1 ?_
 cbv
 refine aF hS h2 ?_
 cbv
 refine aF hS h3 ?_
 cbv
 refine aF hS h4 ?_
 cbv
 refine aF hS h5 ?_
 cbv
 refine ACall.mk _ (cg hS hs (by first | (cbv; done) | (cbv; exact rfl) | (cbv; exact ⟨rfl, trivial⟩) | (cbv; simp))) ?_
 cbv
 refine aF hS h6 ?_
 cbv
 refine aF hS h7 ?_
 cbv
def Er6_1 (H : H5) (a : Fin p) : AVal := .lst false 1 [.lst false 6 (ws6 H.lim a.val)]
def Nr6_1 (H : H5) (a : Fin p) : AVal := .new false 1 1 [.lst false 6 (ws6 H.lim a.val)]
def Cr6_1 (H : H5) (c : Cu p) : AVal := .agg [.lst false 6 (ws6 H.lim p), .s .u64 (H.minv p : Nat), .lst false 6 (ws6 H.lim (H.mf (2 * 384) p 1)), .i .i64 1, .lst false 1 [.lst false 6 (ws6 H.lim c.b1.val)], .lst false 4 (ws4 H.lim c.r), .lst false 1 [.lst false 6 (ws6 H.lim c.x1)], .lst false 1 [.lst false 6 (ws6 H.lim c.y1)], .b false]
theorem rAddF6 {H : H5} (hH : H = H5.real) (hp : PrM 384 p) (a b : Fin p) : Sp 162 [.lst false 6 (ws6 H.lim a.val), .lst false 6 (ws6 H.lim b.val), .lst false 6 (ws6 H.lim p)] (.new false 6 1 (ws6 H.lim (a + b).val)) :=
 rAddMod6 (H5.hlim hH) a.val b.val p (a + b).val hp.lt a.isLt b.isLt (Fin.val_add a b)
theorem rSubF6 {H : H5} (hH : H = H5.real) (hp : PrM 384 p) (a b : Fin p) : Sp 152 [.lst false 6 (ws6 H.lim a.val), .lst false 6 (ws6 H.lim b.val), .lst false 6 (ws6 H.lim p)] (.new false 6 1 (ws6 H.lim (a - b).val)) :=
 rSubMod6 (H5.hlim hH) a.val b.val p (a - b).val hp.lt a.isLt b.isLt (fin_sub a b).symm
theorem rMulF6 {H : H5} (hH : H = H5.real) (hp : PrM 384 p) (a b : Fin p) : Sp 161 [rf6 H p, .lst false 6 (ws6 H.lim a.val), .lst false 6 (ws6 H.lim b.val)] (.lst false 6 (ws6 H.lim (a * b).val)) := by
 have h := rMulMod6 hH hp.toMod a.isLt b.isLt
 have e : H.mul p a.val b.val = (a * b).val := by rw [hH]; exact (Fin.val_mul a b).symm
 rw [e] at h; exact h
theorem rInvF6 {H : H5} (hH : H = H5.real) (hp : PrM 384 p) (a : Fin p) : Sp 187 [rf6 H p, .lst false 6 (ws6 H.lim a.val)] (.lst false 6 (ws6 H.lim (Cv.inv1 a).val)) := by
 have h := rInv6 hH hp.toMod a.isLt
 have e : H.pow p a.val (p - 2) = (Cv.inv1 a).val := by rw [hH]; rfl
 rw [e] at h; exact h
theorem rnumS6 {H : H5} (hH : H = H5.real) (n : Nat) (hn : n < 18446744073709551616) : Sp 80 [rf6 H p, .s .u64 (n : Int)] (.new false 6 1 (ws6 H.lim n)) := by
 have h0 : H.lim n 0 = (n : Int) := by rw [hH]; exact limR_word hn
 have hs : ∀ i, 0 < i → H.lim n i = 0 := fun i hi => by
   rw [hH]
   show ((n / 2 ^ (64 * i) % 2 ^ 64 : Nat) : Int) = 0
   rw [Nat.div_eq_of_lt (Nat.lt_of_lt_of_le hn (Nat.le_trans (show 18446744073709551616 ≤ 2 ^ 64 by decide) (Nat.pow_le_pow_right (by decide) (by omega)))), Nat.zero_mod]; rfl
 refine mk Tryz.func80 rfl rfl L0 R0 (by decide +kernel) fun A S hA hS => ?_
 unfold bodyOf Tryz.f80
 cbv
 exact ⟨h0.symm, (hs 1 (by decide)).symm, (hs 2 (by decide)).symm, (hs 3 (by decide)).symm, (hs 4 (by decide)).symm, (hs 5 (by decide)).symm⟩
theorem addR6_1 {H : H5} (hH : H = H5.real) (hp : PrM 384 p) (c : Cu p) (a b : Fin p) : Sp 90 [Cr6_1 H c, Er6_1 H a, Er6_1 H b] (Nr6_1 H (a + b)) := by
 have h := rAddF6 hH hp a b
 generalize a + b = r at *
 refine mk Tryz.func90 rfl rfl L0 RApp (by decide +kernel) fun A S hA hS => ?_
 unfold bodyOf Tryz.f90
 cbv
 refine aF hS h ?_
 cbv
theorem subR6_1 {H : H5} (hH : H = H5.real) (hp : PrM 384 p) (c : Cu p) (a b : Fin p) : Sp 118 [Cr6_1 H c, Er6_1 H a, Er6_1 H b] (Nr6_1 H (a - b)) := by
 have h := rSubF6 hH hp a b
 generalize a - b = r at *
 refine mk Tryz.func118 rfl rfl L0 RApp (by decide +kernel) fun A S hA hS => ?_
 unfold bodyOf Tryz.f118
 cbv
 refine aF hS h ?_
 cbv
theorem mulR6_1 {H : H5} (hH : H = H5.real) (hp : PrM 384 p) (c : Cu p) (a b : Fin p) : Sp 89 [Cr6_1 H c, Er6_1 H a, Er6_1 H b] (Nr6_1 H (a * b)) := by
 have h := rMulF6 hH hp a b
 generalize a * b = r at *
 refine mk Tryz.func89 rfl rfl L0 R1 (by decide +kernel) fun A S hA hS => ?_
 unfold bodyOf Tryz.f89
 cbv
 refine aF hS h ?_
 cbv
theorem invR6_1 {H : H5} (hH : H = H5.real) (hp : PrM 384 p) (c : Cu p) (a : Fin p) : Sp 127 [Cr6_1 H c, Er6_1 H a] (Nr6_1 H (Cv.inv1 a)) := by
 have h := rInvF6 hH hp a
 generalize Cv.inv1 a = r at *
 refine mk Tryz.func127 rfl rfl L0 R1 (by decide +kernel) fun A S hA hS => ?_
 unfold bodyOf Tryz.f127
 cbv
 refine aF hS h ?_
 cbv
end
end Go.Proofs.YtmholgclgamnnaaGreat
end
