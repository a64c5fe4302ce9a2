import Derived.Test.YtmholgclgamnnaaGreatQXX2
import Derived.Test.YtmholgclgamnnaaGreatQXBB
set_option linter.unusedVariables false
set_option linter.unusedSimpArgs false
set_option linter.unusedSectionVars false
set_option maxRecDepth 100000
set_option exponentiation.threshold 2000
set_option maxHeartbeats 4000000
section
namespace Go.Proofs.YtmholgclgamnnaaGreat
open Go Eng
def bt (s : ByteArray) (j : Nat) : Nat := match s[j]? with
 | some b => b.toNat
 | none => 0
def hexd (c : Nat) : Nat := if 97 ≤ c then (c - 97) % 256 + 10 else (c + 208) % 256
def hv16 (d : Nat → Nat) : Nat → Nat
 | 0 => 0
 | i + 1 => hv16 d i + d i * 2 ^ (4 * i)
def hexN (s : ByteArray) : Nat := hv16 (fun i => hexd (bt s (s.size - 1 - i))) s.size
theorem hv16_lt {d : Nat → Nat} : ∀ n, (∀ i, i < n → d i < 16) → hv16 d n < 2 ^ (4 * n)
 | 0, _ => by rw [hv16]; decide
 | n + 1, h => by
   have h1 := hv16_lt n (fun i hi => h i (by omega))
   have h2 : (d n + 1) * 2 ^ (4 * n) ≤ 16 * 2 ^ (4 * n) := Nat.mul_le_mul_right _ (h n (by omega))
   rw [hv16, show 4 * (n + 1) = 4 * n + 4 by omega, Nat.pow_add]
   rw [Nat.add_mul, Nat.one_mul] at h2
   omega
theorem limR_put {v x k t j : Nat} (hx : x * 2 ^ (k % 64) < 18446744073709551616) (hv : v < 2 ^ k) (hj : j = k / 64) : limR (v + x * 2 ^ k) j = limR v j + (x * 2 ^ (k % 64) : Nat) ∧ (∀ i, i ≠ j → limR (v + x * 2 ^ k) i = limR v i) ∧ (limR v j).toNat < 2 ^ (k % 64) := by
 subst hj
 have e : 2 ^ k = 2 ^ (64 * (k / 64)) * 2 ^ (k % 64) := by rw [← Nat.pow_add]; congr 1; omega
 have hp : 0 < 2 ^ (64 * (k / 64)) := Nat.two_pow_pos _
 have hq : v / 2 ^ (64 * (k / 64)) < 2 ^ (k % 64) := by rw [Nat.div_lt_iff_lt_mul hp, Nat.mul_comm, ← e]; exact hv
 have hW : 2 ^ (k % 64) ≤ 18446744073709551616 := by rw [show 18446744073709551616 = 2 ^ 64 from rfl]; exact Nat.pow_le_pow_right (by decide) (by omega)
 have hv2 : v / 2 ^ (64 * (k / 64)) + x * 2 ^ (k % 64) < 18446744073709551616 := by
   have h1 : (64 : Nat) = k % 64 + (64 - k % 64) := by omega
   have h2 : 18446744073709551616 = 2 ^ (k % 64) * 2 ^ (64 - k % 64) := by rw [← Nat.pow_add, ← h1]
   rw [h2] at hx ⊢
   rw [Nat.mul_comm x] at hx ⊢
   have h3 := Nat.lt_of_mul_lt_mul_left hx
   have h4 : 2 ^ (k % 64) * (x + 1) ≤ 2 ^ (k % 64) * 2 ^ (64 - k % 64) := Nat.mul_le_mul_left _ h3
   rw [Nat.mul_add, Nat.mul_one] at h4
   omega
 have e2 : (v + x * 2 ^ k) / 2 ^ (64 * (k / 64)) = v / 2 ^ (64 * (k / 64)) + x * 2 ^ (k % 64) := by
   rw [e, Nat.mul_left_comm, Nat.add_mul_div_left _ _ hp]
 refine ⟨?_, fun i hi => ?_, ?_⟩
 . unfold limR
   rw [e2]
   generalize v / 2 ^ (64 * (k / 64)) = q at *
   generalize x * 2 ^ (k % 64) = y at *
   rw [Nat.mod_eq_of_lt hv2, Nat.mod_eq_of_lt (by omega : q < 2 ^ 64)]
   omega
 . unfold limR
   congr 1
   rcases Nat.lt_or_gt_of_ne hi with h | h
   . have e3 : 2 ^ k = 2 ^ (64 * i) * (2 ^ 64 * 2 ^ (k - 64 * i - 64)) := by rw [← Nat.pow_add, ← Nat.pow_add]; congr 1; omega
     rw [e3, Nat.mul_left_comm x, Nat.add_mul_div_left _ _ (Nat.two_pow_pos _), Nat.mul_left_comm x, Nat.add_mul_mod_self_left]
   . have h1 : v + x * 2 ^ k < 2 ^ (64 * i) := by
       have : v + x * 2 ^ k < 2 ^ (64 * (k / 64)) * 18446744073709551616 := by
         rw [e, Nat.mul_left_comm x]
         have := Nat.div_add_mod v (2 ^ (64 * (k / 64)))
         have := Nat.mod_lt v hp
         have h5 : 2 ^ (64 * (k / 64)) * (v / 2 ^ (64 * (k / 64)) + x * 2 ^ (k % 64) + 1) ≤ 2 ^ (64 * (k / 64)) * 18446744073709551616 := Nat.mul_le_mul_left _ hv2
         rw [Nat.mul_add, Nat.mul_add, Nat.mul_one] at h5
         omega
       refine Nat.lt_of_lt_of_le this ?_
       rw [show 18446744073709551616 = 2 ^ 64 from rfl, ← Nat.pow_add]
       exact Nat.pow_le_pow_right (by decide) (by omega)
     rw [Nat.div_eq_of_lt h1, Nat.div_eq_of_lt (by omega)]
 . unfold limR
   rw [Int.toNat_natCast]
   exact Nat.lt_of_le_of_lt (Nat.mod_le _ _) hq
theorem orw {A : Ar} (hA : A = Ar.real) {w : Int} {x k : Nat} {s : Int} (hw : 0 ≤ w) (hs : s = (k : Nat)) (hk : k < 64) (hx : x * 2 ^ k < 18446744073709551616) (hl : w.toNat < 2 ^ k) : A.bin .or .u64 w (A.bin .shl .u64 (x : Int) s) = w + (x * 2 ^ k : Nat) := by
 obtain ⟨v, rfl⟩ : ∃ n : Nat, w = n := ⟨w.toNat, by omega⟩
 rw [Int.toNat_natCast] at hl
 rw [hA, hs]
 show rbin .or .u64 (Int.ofNat v) (rbin .shl .u64 (Int.ofNat x) (Int.ofNat k)) = _
 rw [u_shl x k (by omega), Nat.mod_eq_of_lt hx, Nat.mul_comm x, u_or_add v x k hl (by rw [Nat.mul_comm]; exact hx) (by omega)]
 rfl
theorem hexd_lo {A : Ar} (hA : A = Ar.real) {c : Nat} (hc : c < 256) (h : ¬ 97 ≤ c) : A.cmp .geq (c : Int) 97 = false ∧ A.wrap .u64 (A.bin .sub .u8 (c : Int) 48) = ((hexd c : Nat) : Int) := by
 unfold hexd
 rw [i_ge hA, if_neg h]
 refine ⟨decide_eq_false (by omega), ?_⟩
 rw [hA]
 show IntKind.u64.wrap (IntKind.u8.wrap ((c : Int) - 48)) = _
 rw [wrap_u64, wrap_u8]
 omega
theorem hexd_hi {A : Ar} (hA : A = Ar.real) {c : Nat} (hc : c < 256) (h : 97 ≤ c) : A.cmp .geq (c : Int) 97 = true ∧ A.bin .add .u64 (A.wrap .u64 (A.bin .sub .u8 (c : Int) 97)) 10 = ((hexd c : Nat) : Int) := by
 unfold hexd
 rw [i_ge hA, if_pos h]
 refine ⟨decide_eq_true (by omega), ?_⟩
 rw [hA]
 show IntKind.u64.wrap (IntKind.u64.wrap (IntKind.u8.wrap ((c : Int) - 97)) + 10) = _
 rw [wrap_u64, wrap_u64, wrap_u8]
 omega
theorem bt_lt (s : ByteArray) (j : Nat) : bt s j < 256 := by
 unfold bt
 split
 . exact UInt8.toNat_lt _
 . decide
theorem a_byte {A : Ar} (hA : A = Ar.real) (s : ByteArray) (j : Nat) : A.byte s j = (bt s j : Int) := by
 rw [hA]
 show (match s[j]? with | some b => (b.toNat : Int) | none => 0) = _
 unfold bt
 split <;> rfl
theorem rHex4 {lim : Lim} (hl : lim = limR) (s : ByteArray) (hs : s.size ≤ 16 * 4) (hd : ∀ i, i < s.size → hexd (bt s i) < 16) :
   Sp 79 [.v (.string s), .i .i64 4] (.new false 4 1 (ws4 lim (hexN s))) := by
 obtain ⟨d, hdd⟩ : ∃ d : Nat → Nat, d = fun i => hexd (bt s (s.size - 1 - i)) := ⟨_, rfl⟩
 obtain ⟨N, hN⟩ : ∃ N : Nat → Nat, N = hv16 d := ⟨_, rfl⟩
 have hd16 : ∀ i, i < s.size → d i < 16 := fun i hi => by rw [hdd]; exact hd _ (by omega)
 have hN0 : N 0 = 0 := by rw [hN]; rfl
 have hNs : hexN s = N s.size := by rw [hN, hdd]; rfl
 have hstep : ∀ i, i < s.size → lim (N (i + 1)) (i / 16) = lim (N i) (i / 16) + (d i * 2 ^ (4 * (i % 16)) : Nat) ∧ (∀ j, j ≠ i / 16 → lim (N (i + 1)) j = lim (N i) j) ∧ (lim (N i) (i / 16)).toNat < 2 ^ (4 * (i % 16)) ∧ d i * 2 ^ (4 * (i % 16)) < 18446744073709551616 := by
   intro i hi
   have h16 := hd16 i hi
   have e : 4 * i % 64 = 4 * (i % 16) := by omega
   have e2 : 4 * i / 64 = i / 16 := by omega
   have hx : d i * 2 ^ (4 * (i % 16)) < 18446744073709551616 := by
     have h1 : d i * 2 ^ (4 * (i % 16)) < 16 * 2 ^ (4 * (i % 16)) := Nat.mul_lt_mul_of_pos_right h16 (Nat.two_pow_pos _)
     have h2 : 16 * 2 ^ (4 * (i % 16)) ≤ 2 ^ 64 := by
       rw [show (16 : Nat) = 2 ^ 4 from rfl, ← Nat.pow_add]; exact Nat.pow_le_pow_right (by decide) (by omega)
     omega
   have := limR_put (v := N i) (x := d i) (k := 4 * i) (t := 0) (j := i / 16) (by rw [e]; exact hx) (by rw [hN]; exact hv16_lt i (fun j hj => hd16 j (by omega))) e2.symm
   rw [e] at this
   have e3 : N (i + 1) = N i + d i * 2 ^ (4 * i) := by rw [hN]; rfl
   rw [e3, hl]
   exact ⟨this.1, this.2.1, this.2.2, hx⟩
 have hd1 : ∀ i, d i = hexd (bt s (s.size - 1 - i)) := fun i => by rw [hdd]
 have le := fun x i => lim_range hl x i
 have hz : ∀ j, lim 0 j = 0 := fun j => by rw [hl]; show ((0 / 2 ^ (64 * j) % 2 ^ 64 : Nat) : Int) = 0; rw [Nat.zero_div]; rfl
 obtain ⟨L, hL⟩ : ∃ L, L = s.size := ⟨_, rfl⟩
 rw [← hL] at hNs
 rw [hNs]
 clear hN hdd hNs hd
 refine mk Tryz.func79 rfl rfl LN R0 (by decide +kernel) ?_
 intro A S hA hS
 unfold bodyOf Tryz.f79
 cbv
 refine .inv (α := Nat) (fun i => ⟨[.v (.string s), .i .i64 4, .any, .any, .any, .osl false 0 0 4 1, .s .i64 (i : Nat), .any, .any, .any, .any, .any, .any, .any, .any, .any, .any, .any, .any, .any, .any, .any, .any, .any, .any, .any, .any, .any, .any, .any, .any, .any, .any, .any, .any, .any, .any, .any, .any, .any, .any, .any, .any, .any, .any, .any, .any], [⟨true, true, [.s .u64 (lim (N i) 0), .s .u64 (lim (N i) 1), .s .u64 (lim (N i) 2), .s .u64 (lim (N i) 3)]⟩]⟩) (fun i => i ≤ s.size) (fun i => s.size - i) 0 ?_ (Nat.zero_le _) ?_
 . rw [hN0]
   cbv
   repeat' (first | exact rfl | exact (hz _).symm | exact trivial | constructor)
 intro i hi
 have hlen : A.len (A.size s) = (s.size : Int) := by rw [hA]; rfl
 have hsz : A.size s = s.size := by rw [hA]; rfl
 by_cases h : i < s.size
 . have hlt : A.cmp .lss (i : Int) (A.len (A.size s)) = true := by rw [hlen]; exact (i_lt hA).trans (decide_eq_true (by omega))
   have hix : A.bin .sub .i64 (A.bin .sub .i64 (A.len (A.size s)) 1) (i : Int) = ((s.size - 1 - i : Nat) : Int) := e_sub hA (e_sub hA hlen rfl rfl (by omega)) rfl (by omega) (by omega)
   have hjx : s.size - 1 - i < s.size := by omega
   have hquo : A.bin .quo .i64 (i : Int) 16 = ((i / 16 : Nat) : Int) := e_quo hA rfl rfl (by omega) (by omega) (by omega) (by omega)
   have hrem : A.wrap .u64 (A.bin .mul .i64 4 (A.bin .rem .i64 (i : Int) 16)) = ((4 * (i % 16) : Nat) : Int) := wrap_small hA (e_mul hA rfl (e_rem hA rfl rfl (z := ((i % 16 : Nat) : Int)) (by omega) (by omega)) (by omega) (by omega)) (by omega)
   have hok : A.okb .shl (A.wrap .u64 (A.bin .mul .i64 4 (A.bin .rem .i64 (i : Int) 16))) = true := by rw [hrem]; exact (a_okbS hA (by omega)).2
   have hnext : A.bin .add .i64 (i : Int) 1 = ((i + 1 : Nat) : Int) := e_add hA rfl rfl (by omega) (by omega)
   obtain ⟨w1, w2, w3, w4⟩ := hstep i h
   have hor := orw hA (le (N i) (i / 16)).1 hrem (by omega) w4 w3
   rw [← w1] at hor
   have hb := a_byte hA s (s.size - 1 - i)
   have hbl := bt_lt s (s.size - 1 - i)
   have hdi := hd1 i
   have hq : i / 16 < 4 := by omega
   have hdec : s.size - (i + 1) < s.size - i := by omega
   have hle : i + 1 ≤ s.size := h
   obtain ⟨nx, hnx⟩ : ∃ nx, nx = i + 1 := ⟨_, rfl⟩
   rw [← hnx] at hnext hor w2 hdec hle
   obtain ⟨q, hqq⟩ : ∃ q, q = i / 16 := ⟨_, rfl⟩
   rw [← hqq] at hquo hor w2 hq
   obtain ⟨jx, hjj⟩ : ∃ q, q = s.size - 1 - i := ⟨_, rfl⟩
   rw [← hjj] at hix hb hbl hdi hjx
   have hjA : jx < A.size s := by rw [hsz]; exact hjx
   obtain ⟨dd, hddd⟩ : ∃ x, x = d i := ⟨_, rfl⟩
   rw [← hddd] at hor hdi
   clear w1 w3 w4 hnx hqq hjj hddd hrem hstep hd16 hd1 hN0
   rw [hdi] at hor
   by_cases h97 : 97 ≤ bt s jx
   . obtain ⟨e1, e2⟩ := hexd_hi hA hbl h97
     rw [← hb] at e1 e2
     rw [← e2] at hor
     rcases (by omega : q = 0 ∨ q = 1 ∨ q = 2 ∨ q = 3) with rfl | rfl | rfl | rfl
     all_goals
       cbv
       refine ABr.t hlt ?_
       cbv
       refine .mk _ hix hjA ?_
       cbv
       refine ABr.t e1 ?_
       cbv
       refine .mk _ hquo hq ?_
       cbv
       refine .mk hok ?_
       cbv
       refine .mk _ hquo hq ?_
       cbv
       refine ⟨nx, ?_, hle, hdec⟩
       cbv
       repeat' (first | exact hnext | exact hor | exact (w2 _ (by decide)).symm | exact trivial | constructor)
   . obtain ⟨e1, e2⟩ := hexd_lo hA hbl h97
     rw [← hb] at e1 e2
     rw [← e2] at hor
     rcases (by omega : q = 0 ∨ q = 1 ∨ q = 2 ∨ q = 3) with rfl | rfl | rfl | rfl
     all_goals
       cbv
       refine ABr.t hlt ?_
       cbv
       refine .mk _ hix hjA ?_
       cbv
       refine ABr.f e1 ?_
       cbv
       refine .mk _ hquo hq ?_
       cbv
       refine .mk hok ?_
       cbv
       refine .mk _ hquo hq ?_
       cbv
       refine ⟨nx, ?_, hle, hdec⟩
       cbv
       repeat' (first | exact hnext | exact hor | exact (w2 _ (by decide)).symm | exact trivial | constructor)
 . have hlt : A.cmp .lss (i : Int) (A.len (A.size s)) = false := by rw [hlen]; exact (i_lt hA).trans (decide_eq_false (by omega))
   obtain rfl : i = L := by omega
   cbv
   refine ABr.f hlt ?_
   cbv
theorem rHex6 {lim : Lim} (hl : lim = limR) (s : ByteArray) (hs : s.size ≤ 16 * 6) (hd : ∀ i, i < s.size → hexd (bt s i) < 16) :
   Sp 79 [.v (.string s), .i .i64 6] (.new false 6 1 (ws6 lim (hexN s))) := by
 obtain ⟨d, hdd⟩ : ∃ d : Nat → Nat, d = fun i => hexd (bt s (s.size - 1 - i)) := ⟨_, rfl⟩
 obtain ⟨N, hN⟩ : ∃ N : Nat → Nat, N = hv16 d := ⟨_, rfl⟩
 have hd16 : ∀ i, i < s.size → d i < 16 := fun i hi => by rw [hdd]; exact hd _ (by omega)
 have hN0 : N 0 = 0 := by rw [hN]; rfl
 have hNs : hexN s = N s.size := by rw [hN, hdd]; rfl
 have hstep : ∀ i, i < s.size → lim (N (i + 1)) (i / 16) = lim (N i) (i / 16) + (d i * 2 ^ (4 * (i % 16)) : Nat) ∧ (∀ j, j ≠ i / 16 → lim (N (i + 1)) j = lim (N i) j) ∧ (lim (N i) (i / 16)).toNat < 2 ^ (4 * (i % 16)) ∧ d i * 2 ^ (4 * (i % 16)) < 18446744073709551616 := by
   intro i hi
   have h16 := hd16 i hi
   have e : 4 * i % 64 = 4 * (i % 16) := by omega
   have e2 : 4 * i / 64 = i / 16 := by omega
   have hx : d i * 2 ^ (4 * (i % 16)) < 18446744073709551616 := by
     have h1 : d i * 2 ^ (4 * (i % 16)) < 16 * 2 ^ (4 * (i % 16)) := Nat.mul_lt_mul_of_pos_right h16 (Nat.two_pow_pos _)
     have h2 : 16 * 2 ^ (4 * (i % 16)) ≤ 2 ^ 64 := by
       rw [show (16 : Nat) = 2 ^ 4 from rfl, ← Nat.pow_add]; exact Nat.pow_le_pow_right (by decide) (by omega)
     omega
   have := limR_put (v := N i) (x := d i) (k := 4 * i) (t := 0) (j := i / 16) (by rw [e]; exact hx) (by rw [hN]; exact hv16_lt i (fun j hj => hd16 j (by omega))) e2.symm
   rw [e] at this
   have e3 : N (i + 1) = N i + d i * 2 ^ (4 * i) := by rw [hN]; rfl
   rw [e3, hl]
   exact ⟨this.1, this.2.1, this.2.2, hx⟩
 have hd1 : ∀ i, d i = hexd (bt s (s.size - 1 - i)) := fun i => by rw [hdd]
 have le := fun x i => lim_range hl x i
 have hz : ∀ j, lim 0 j = 0 := fun j => by rw [hl]; show ((0 / 2 ^ (64 * j) % 2 ^ 64 : Nat) : Int) = 0; rw [Nat.zero_div]; rfl
 obtain ⟨L, hL⟩ : ∃ L, L = s.size := ⟨_, rfl⟩
 rw [← hL] at hNs
 rw [hNs]
 clear hN hdd hNs hd
 refine mk Tryz.func79 rfl rfl LN R0 (by decide +kernel) ?_
 intro A S hA hS
 unfold bodyOf Tryz.f79
 cbv
 refine .inv (α := Nat) (fun i => ⟨[.v (.string s), .i .i64 6, .any, .any, .any, .osl false 0 0 6 1, .s .i64 (i : Nat), .any, .any, .any, .any, .any, .any, .any, .any, .any, .any, .any, .any, .any, .any, .any, .any, .any, .any, .any, .any, .any, .any, .any, .any, .any, .any, .any, .any, .any, .any, .any, .any, .any, .any, .any, .any, .any, .any, .any, .any], [⟨true, true, [.s .u64 (lim (N i) 0), .s .u64 (lim (N i) 1), .s .u64 (lim (N i) 2), .s .u64 (lim (N i) 3), .s .u64 (lim (N i) 4), .s .u64 (lim (N i) 5)]⟩]⟩) (fun i => i ≤ s.size) (fun i => s.size - i) 0 ?_ (Nat.zero_le _) ?_
 . rw [hN0]
   cbv
   repeat' (first | exact rfl | exact (hz _).symm | exact trivial | constructor)
 intro i hi
 have hlen : A.len (A.size s) = (s.size : Int) := by rw [hA]; rfl
 have hsz : A.size s = s.size := by rw [hA]; rfl
 by_cases h : i < s.size
 . have hlt : A.cmp .lss (i : Int) (A.len (A.size s)) = true := by rw [hlen]; exact (i_lt hA).trans (decide_eq_true (by omega))
   have hix : A.bin .sub .i64 (A.bin .sub .i64 (A.len (A.size s)) 1) (i : Int) = ((s.size - 1 - i : Nat) : Int) := e_sub hA (e_sub hA hlen rfl rfl (by omega)) rfl (by omega) (by omega)
   have hjx : s.size - 1 - i < s.size := by omega
   have hquo : A.bin .quo .i64 (i : Int) 16 = ((i / 16 : Nat) : Int) := e_quo hA rfl rfl (by omega) (by omega) (by omega) (by omega)
   have hrem : A.wrap .u64 (A.bin .mul .i64 4 (A.bin .rem .i64 (i : Int) 16)) = ((4 * (i % 16) : Nat) : Int) := wrap_small hA (e_mul hA rfl (e_rem hA rfl rfl (z := ((i % 16 : Nat) : Int)) (by omega) (by omega)) (by omega) (by omega)) (by omega)
   have hok : A.okb .shl (A.wrap .u64 (A.bin .mul .i64 4 (A.bin .rem .i64 (i : Int) 16))) = true := by rw [hrem]; exact (a_okbS hA (by omega)).2
   have hnext : A.bin .add .i64 (i : Int) 1 = ((i + 1 : Nat) : Int) := e_add hA rfl rfl (by omega) (by omega)
   obtain ⟨w1, w2, w3, w4⟩ := hstep i h
   have hor := orw hA (le (N i) (i / 16)).1 hrem (by omega) w4 w3
   rw [← w1] at hor
   have hb := a_byte hA s (s.size - 1 - i)
   have hbl := bt_lt s (s.size - 1 - i)
   have hdi := hd1 i
   have hq : i / 16 < 6 := by omega
   have hdec : s.size - (i + 1) < s.size - i := by omega
   have hle : i + 1 ≤ s.size := h
   obtain ⟨nx, hnx⟩ : ∃ nx, nx = i + 1 := ⟨_, rfl⟩
   rw [← hnx] at hnext hor w2 hdec hle
   obtain ⟨q, hqq⟩ : ∃ q, q = i / 16 := ⟨_, rfl⟩
   rw [← hqq] at hquo hor w2 hq
   obtain ⟨jx, hjj⟩ : ∃ q, q = s.size - 1 - i := ⟨_, rfl⟩
   rw [← hjj] at hix hb hbl hdi hjx
   have hjA : jx < A.size s := by rw [hsz]; exact hjx
   obtain ⟨dd, hddd⟩ : ∃ x, x = d i := ⟨_, rfl⟩
   rw [← hddd] at hor hdi
   clear w1 w3 w4 hnx hqq hjj hddd hrem hstep hd16 hd1 hN0
   rw [hdi] at hor
   by_cases h97 : 97 ≤ bt s jx
   . obtain ⟨e1, e2⟩ := hexd_hi hA hbl h97
     rw [← hb] at e1 e2
     rw [← e2] at hor
     rcases (by omega : q = 0 ∨ q = 1 ∨ q = 2 ∨ q = 3 ∨ q = 4 ∨ q = 5) with rfl | rfl | rfl | rfl | rfl | rfl
     all_goals
       cbv
       refine ABr.t hlt ?_
       cbv
       refine .mk _ hix hjA ?_
       cbv
       refine ABr.t e1 ?_
       cbv
       refine .mk _ hquo hq ?_
       cbv
       refine .mk hok ?_
       cbv
       refine .mk _ hquo hq ?_
       cbv
       refine ⟨nx, ?_, hle, hdec⟩
       cbv
       repeat' (first | exact hnext | exact hor | exact (w2 _ (by decide)).symm | exact trivial | constructor)
   . obtain ⟨e1, e2⟩ := hexd_lo hA hbl h97
     rw [← hb] at e1 e2
     rw [← e2] at hor
     rcases (by omega : q = 0 ∨ q = 1 ∨ q = 2 ∨ q = 3 ∨ q = 4 ∨ q = 5) with rfl | rfl | rfl | rfl | rfl | rfl
     all_goals
       cbv
       refine ABr.t hlt ?_
       cbv
       refine .mk _ hix hjA ?_
       cbv
       refine ABr.f e1 ?_
       cbv
       refine .mk _ hquo hq ?_
       cbv
       refine .mk hok ?_
       cbv
       refine .mk _ hquo hq ?_
       cbv
       refine ⟨nx, ?_, hle, hdec⟩
       cbv
       repeat' (first | exact hnext | exact hor | exact (w2 _ (by decide)).symm | exact trivial | constructor)
 . have hlt : A.cmp .lss (i : Int) (A.len (A.size s)) = false := by rw [hlen]; exact (i_lt hA).trans (decide_eq_false (by omega))
   obtain rfl : i = L := by omega
   cbv
   refine ABr.f hlt ?_
   cbv
def Vb (d : Nat → Nat) : Nat → Nat
 | 0 => 0
 | n + 1 => Vb d n + d n * 2 ^ (8 * n)
theorem Vb_lt {o : Nat → Nat} : ∀ n, (∀ j, j < n → o j < 256) → Vb o n < 2 ^ (8 * n)
 | 0, _ => by simp [Vb]
 | n + 1, h => by
   have h1 := Vb_lt n (fun j hj => h j (by omega))
   have h2 : (o n + 1) * 2 ^ (8 * n) ≤ 256 * 2 ^ (8 * n) := Nat.mul_le_mul_right _ (h n (by omega))
   rw [Vb, show 8 * (n + 1) = 8 * n + 8 by omega, Nat.pow_add]
   rw [Nat.add_mul, Nat.one_mul] at h2
   omega
theorem Vb_dig {o : Nat → Nat} : ∀ n, (∀ j, j < n → o j < 256) → ∀ j, j < n → Vb o n / 2 ^ (8 * j) % 256 = o j
 | 0, _, j, hj => by omega
 | n + 1, h, j, hj => by
   rw [Vb]
   have hp : 0 < 2 ^ (8 * j) := Nat.two_pow_pos _
   by_cases e : j = n
   . subst e
     rw [Nat.add_mul_div_right _ _ hp, Nat.div_eq_of_lt (Vb_lt j (fun i hi => h i (by omega))), Nat.zero_add, Nat.mod_eq_of_lt (h j (by omega))]
   . have ih := Vb_dig n (fun i hi => h i (by omega)) j (by omega)
     have e2 : o n * 2 ^ (8 * n) = 2 ^ (8 * j) * (256 * (o n * 2 ^ (8 * (n - j - 1)))) := by
       rw [show 8 * n = 8 * j + (8 + 8 * (n - j - 1)) by omega, Nat.pow_add, Nat.pow_add]
       ac_rfl
     rw [e2, Nat.add_mul_div_left _ _ hp, Nat.add_mul_mod_self_left]
     exact ih
theorem mod_byte (t p : Nat) : t % 2 ^ (8 * (p + 1)) = t % 2 ^ (8 * p) + t / 2 ^ (8 * p) % 256 * 2 ^ (8 * p) := by
 rw [show 8 * (p + 1) = 8 * p + 8 by omega, Nat.pow_add, Nat.mod_mul, Nat.mul_comm (2 ^ (8 * p)) (t / 2 ^ (8 * p) % 2 ^ 8)]
theorem top_byte (t p : Nat) : 2 ^ (8 * p) * (t / 2 ^ (8 * p)) = 2 ^ (8 * (p + 1)) * (t / 2 ^ (8 * (p + 1))) + t / 2 ^ (8 * p) % 256 * 2 ^ (8 * p) := by
 have h := mod_byte t p
 have h1 := Nat.div_add_mod t (2 ^ (8 * p))
 have h2 := Nat.div_add_mod t (2 ^ (8 * (p + 1)))
 omega
theorem or_put {w x s : Nat} (hx : x < 256) (hs : s + 8 ≤ 64) (hw : w < 18446744073709551616) (h0 : w / 2 ^ s % 256 = 0) : w ||| x * 2 ^ s = w + x * 2 ^ s := by
 obtain ⟨q, hq⟩ : ∃ q, q = w / 2 ^ (s + 8) := ⟨_, rfl⟩
 obtain ⟨l, hl⟩ : ∃ l, l = w % 2 ^ s := ⟨_, rfl⟩
 have hp : 0 < 2 ^ s := Nat.two_pow_pos _
 have hls : l < 2 ^ s := by rw [hl]; exact Nat.mod_lt _ hp
 have hw2 : w = 2 ^ (s + 8) * q + l := by
   have h1 := Nat.div_add_mod w (2 ^ s)
   have h2 := Nat.div_add_mod (w / 2 ^ s) 256
   rw [Nat.div_div_eq_div_mul, h0, Nat.add_zero] at h2
   have h3 : w / (2 ^ s * 256) = q := by rw [hq, Nat.pow_add]
   rw [h3] at h2
   rw [Nat.pow_add, ← hl] at *
   rw [← h2] at h1
   rw [← h1, show (2 : Nat) ^ 8 = 256 from rfl, Nat.mul_assoc]
 have hxl : x * 2 ^ s + l < 2 ^ (s + 8) := by
   have : (x + 1) * 2 ^ s ≤ 256 * 2 ^ s := Nat.mul_le_mul_right _ hx
   rw [Nat.add_mul, Nat.one_mul] at this
   rw [Nat.pow_add, Nat.mul_comm (2 ^ s)]
   omega
 rw [hw2, Nat.two_pow_add_eq_or_of_lt (Nat.lt_of_lt_of_le hls (Nat.pow_le_pow_right (by decide) (by omega))), Nat.or_assoc, Nat.or_comm l, Nat.mul_comm x, ← Nat.two_pow_add_eq_or_of_lt hls, ← Nat.two_pow_add_eq_or_of_lt (by rw [Nat.mul_comm]; exact hxl),
   ← Nat.two_pow_add_eq_or_of_lt (Nat.lt_of_lt_of_le hls (Nat.pow_le_pow_right (by decide) (by omega)))]
 omega
theorem limR_byte {v x p : Nat} (hx : x < 256) (h0 : v / 2 ^ (8 * p) % 256 = 0) : limR (v + x * 2 ^ (8 * p)) (p / 8) = limR v (p / 8) + (x * 2 ^ (8 * (p % 8)) : Nat) ∧ (∀ i, i ≠ p / 8 → limR (v + x * 2 ^ (8 * p)) i = limR v i) ∧
   (limR v (p / 8)).toNat / 2 ^ (8 * (p % 8)) % 256 = 0 := by
 obtain ⟨j, hj⟩ : ∃ j, j = p / 8 := ⟨_, rfl⟩
 obtain ⟨s, hs⟩ : ∃ s, s = 8 * (p % 8) := ⟨_, rfl⟩
 have hs56 : s + 8 ≤ 64 := by omega
 have hk : 8 * p = 64 * j + s := by omega
 rw [← hj, ← hs, hk]
 rw [hk] at h0
 clear hj hs hk
 have hP : 0 < 2 ^ (64 * j) := Nat.two_pow_pos _
 obtain ⟨u, hu⟩ : ∃ u, u = v / 2 ^ (64 * j) := ⟨_, rfl⟩
 rw [Nat.pow_add, ← Nat.div_div_eq_div_mul, ← hu] at h0
 have e1 : (v + x * 2 ^ (64 * j + s)) / 2 ^ (64 * j) = u + x * 2 ^ s := by rw [Nat.pow_add, Nat.mul_left_comm, Nat.add_mul_div_left _ _ hP, ← hu]
 have e64 : (2 : Nat) ^ 64 = 2 ^ s * (256 * 2 ^ (56 - s)) := by
   rw [show (256 : Nat) = 2 ^ 8 from rfl, ← Nat.pow_add, ← Nat.pow_add]; congr 1; omega
 have hps : 0 < 2 ^ s := Nat.two_pow_pos _
 have hum : (u % 2 ^ 64) / 2 ^ s % 256 = 0 := by
   rw [e64, Nat.mod_mul_right_div_self, Nat.mod_mul_right_mod]; exact h0
 have hno : (u + x * 2 ^ s) % 2 ^ 64 = u % 2 ^ 64 + x * 2 ^ s ∧ (u + x * 2 ^ s) / 2 ^ 64 = u / 2 ^ 64 := by
   have h1 := Nat.div_add_mod u (2 ^ 64)
   have hlt : u % 2 ^ 64 + x * 2 ^ s < 2 ^ 64 := by
     obtain ⟨y, hy⟩ : ∃ y, y = u % 2 ^ 64 := ⟨_, rfl⟩
     rw [← hy] at hum ⊢
     have hy64 : y < 2 ^ 64 := by rw [hy]; exact Nat.mod_lt _ (by decide)
     have h2 := Nat.div_add_mod y (2 ^ s)
     have h3 := Nat.div_add_mod (y / 2 ^ s) 256
     have h4 := Nat.mod_lt y hps
     rw [hum, Nat.add_zero] at h3
     have h5 : y / 2 ^ s < 256 * 2 ^ (56 - s) := by rw [Nat.div_lt_iff_lt_mul hps, Nat.mul_comm, ← e64]; exact hy64
     have h6 : y / 2 ^ s / 256 < 2 ^ (56 - s) := by rw [Nat.div_lt_iff_lt_mul (by decide), Nat.mul_comm]; exact h5
     have h7 : y / 2 ^ s + x < 256 * 2 ^ (56 - s) := by
       have : 256 * (y / 2 ^ s / 256 + 1) ≤ 256 * 2 ^ (56 - s) := Nat.mul_le_mul_left _ h6
       omega
     have h8 : 2 ^ s * (y / 2 ^ s + x + 1) ≤ 2 ^ s * (256 * 2 ^ (56 - s)) := Nat.mul_le_mul_left _ h7
     rw [← e64, Nat.mul_add, Nat.mul_add, Nat.mul_one] at h8
     rw [Nat.mul_comm x]
     omega
   have e : u + x * 2 ^ s = (u % 2 ^ 64 + x * 2 ^ s) + 2 ^ 64 * (u / 2 ^ 64) := by omega
   rw [e]
   exact ⟨by rw [Nat.add_mul_mod_self_left, Nat.mod_eq_of_lt hlt], by rw [Nat.add_mul_div_left _ _ (by decide), Nat.div_eq_of_lt hlt, Nat.zero_add]⟩
 refine ⟨?_, fun i hi => ?_, ?_⟩
 . unfold limR
   rw [e1, hno.1, ← hu]
   omega
 . unfold limR
   congr 1
   rcases Nat.lt_or_gt_of_ne hi with h | h
   . rw [show x * 2 ^ (64 * j + s) = 2 ^ (64 * i) * (2 ^ 64 * (x * 2 ^ (64 * j + s - 64 * i - 64))) by
       rw [show 64 * j + s = 64 * i + (64 + (64 * j + s - 64 * i - 64)) by omega, Nat.pow_add, Nat.pow_add, ← show 64 * j + s = 64 * i + (64 + (64 * j + s - 64 * i - 64)) by omega]; ac_rfl]
     rw [Nat.add_mul_div_left _ _ (Nat.two_pow_pos _), Nat.add_mul_mod_self_left]
   . have e3 : (2 : Nat) ^ (64 * i) = 2 ^ (64 * j) * (2 ^ 64 * 2 ^ (64 * i - 64 * j - 64)) := by rw [← Nat.pow_add, ← Nat.pow_add]; congr 1; omega
     rw [e3, ← Nat.div_div_eq_div_mul, ← Nat.div_div_eq_div_mul, ← Nat.div_div_eq_div_mul, ← Nat.div_div_eq_div_mul, e1, hno.2, ← hu]
 . unfold limR
   rw [Int.toNat_natCast, ← hu]
   exact hum
theorem orb {A : Ar} (hA : A = Ar.real) {w : Int} {x k : Nat} {s : Int} (hw : 0 ≤ w ∧ w < 18446744073709551616) (hs : s = (k : Nat)) (hk : k + 8 ≤ 64) (hx : x < 256) (hl : w.toNat / 2 ^ k % 256 = 0) : A.bin .or .u64 w (A.bin .shl .u64 (x : Int) s) = w + (x * 2 ^ k : Nat) := by
 obtain ⟨v, rfl⟩ : ∃ n : Nat, w = n := ⟨w.toNat, by omega⟩
 rw [Int.toNat_natCast] at hl
 have hx2 : x * 2 ^ k < 18446744073709551616 := by
   have h1 : x * 2 ^ k < 256 * 2 ^ k := Nat.mul_lt_mul_of_pos_right hx (Nat.two_pow_pos _)
   have h2 : 256 * 2 ^ k ≤ 2 ^ 64 := by rw [show (256 : Nat) = 2 ^ 8 from rfl, ← Nat.pow_add]; exact Nat.pow_le_pow_right (by decide) (by omega)
   omega
 rw [hA, hs]
 show rbin .or .u64 (Int.ofNat v) (rbin .shl .u64 (Int.ofNat x) (Int.ofNat k)) = _
 rw [u_shl x k (by omega), Nat.mod_eq_of_lt hx2, u_or v _ (by omega) hx2, or_put hx hk (by omega) hl]
 rfl
def IsRowB (cs : List AVal) (bs : Nat → Nat) (n : Nat) : Prop := cs.length = n ∧ (∀ i, i < n → lsub cs (i * 1) 1 = some [.s .u8 (bs i : Nat)]) ∧ ∀ i, bs i < 256
def numB (bs : Nat → Nat) (n : Nat) : Nat := Vb (fun p => bs (n - 1 - p)) n
end Go.Proofs.YtmholgclgamnnaaGreat
end
section
namespace Go.Proofs.YtmholgclgamnnaaGreat
open Go Eng
open Go.ChangeShapes Go.RowKit
theorem open_rowb {H : Type} {enc : TypeId × Value → H} {W : World} {t e : TypeId} {v : Value} {d : DataW H} {p : List MemPlace} {base : Nat} (hu : Tryz.prog.underlying t = some (.slice e)) (he : Tryz.prog.underlying e = some (.int .u8)) (hc : Tryz.prog.cellsOf e = 1) (hb1 : Tryz.prog.bytesOf e = 1) (hs : ∀ el sp : List (DataW H), d = .slice el sp → (el.length + sp.length) * Tryz.prog.bytesOf e ≤ reachBytes)
   (hval : Value.okWide Tryz.prog W .any base t v) (h : DataW.Trod enc Tryz.prog W 0 (fun _ => true) true t v d p) : ∃ (bs : Nat → Nat) (k : Nat) (row : List AVal), IsRowB row bs k ∧ k ≤ 140737488355328 ∧ Rep W (fun _ => False) noρ v (.lst true k row) := by
 obtain ⟨fuel, hf⟩ := h
 rcases open_ints hu he hc hf with ⟨h1, _⟩ | ⟨a, len, cap, zs, h1, _, hl, hm, hz, hx, hcell, hwf⟩
 . have hv := slice_val hu hval h1
   subst hv
   exact ⟨fun _ => 0, 0, [], ⟨rfl, fun i hi => by omega, fun _ => (by decide : 0 < 256)⟩, Nat.zero_le _, .lst0 _ _ _⟩
 . have hv := slice_val hu hval h1
   subst hv
   have hz : zs.length = cap := by simpa using hz
   have hsz := hs _ _ (congrArg Prod.fst hx)
   rw [hb1, Nat.mul_one] at hsz
   have hr47 := reachBytes_lt
   have hlk : len ≤ 140737488355328 := by
     simp only [lits, List.length_map, List.length_take, List.length_drop] at hsz
     omega
   obtain ⟨o, ho⟩ : ∃ o : Nat → Nat, o = fun i => (zs.getD i 0).toNat := ⟨_, rfl⟩
   have hb : ∀ i, i < zs.length → 0 ≤ zs.getD i 0 ∧ zs.getD i 0 < 256 := by
     intro i hi
     have := hwf (zs.getD i 0) (by rw [List.getD, List.getElem?_eq_getElem hi]; exact List.getElem_mem hi)
     have h2 := bounds_u8 this
     omega
   have hoW : ∀ j, o j < 256 := by
     intro j
     rw [ho]
     show (zs.getD j 0).toNat < _
     rcases Nat.lt_or_ge j zs.length with hj | hj
     . have := hb j hj; omega
     . rw [List.getD, List.getElem?_eq_none hj]; decide
   have hlim : ∀ j, j < len → ((o j : Nat) : Int) = zs.getD j 0 := by
     intro j hj
     rw [ho]
     have := (hb j (by omega)).1
     show ((zs.getD j 0).toNat : Int) = _
     omega
   have hrow : IsRowB ((List.range len).map fun i => AVal.s .u8 (o i : Nat)) o len := by
     refine ⟨by simp, fun i hi => ?_, hoW⟩
     rw [Nat.mul_one]
     exact lsub_one _ i _ (by rw [List.getElem?_map, List.getElem?_range hi]; rfl)
   refine ⟨o, len, _, hrow, hlk, ?_⟩
   rcases Nat.eq_zero_or_pos len with h0 | h0
   . subst h0
     exact .lst0 _ _ _
   . obtain ⟨blk, off, spot⟩ := a
     have hs := hcell 0 (by omega)
     have hs0 : W.cell? ⟨blk, off, spot⟩ = some (.int .u8 (zs.getD 0 0)) := hs
     have hspot : spot = none ∧ blk < W.heap.size := by
       unfold World.cell? at hs0
       split at hs0
       . rename_i c t' fz hh
         refine ⟨?_, (Array.getElem?_eq_some_iff.1 hh).1⟩
         cases spot with
         | none => rfl
         | some q => simp at hs0
       . cases hs0
     obtain ⟨hspot, hblk⟩ := hspot
     subst hspot
     refine .lst true blk off len cap ((List.range len).map fun i => .int .u8 (o i : Nat)) _ (fun h => h) hblk ?_ hl (by simp) ?_
     . intro j v hj
       have hj' : j < len := by
         rcases Nat.lt_or_ge j len with h | h
         . exact h
         . rw [List.getElem?_eq_none (by simpa using h)] at hj; cases hj
       rw [List.getElem?_map, List.getElem?_range hj'] at hj
       cases hj
       show _ = some (Value.int .u8 (o j : Nat))
       rw [hlim j hj', ← hcell j (by omega)]
       congr 1
       exact (Addr.add_mid blk off j).symm
     . intro j v x hv hx
       rw [List.getElem?_map] at hv hx
       cases hr : (List.range len)[j]? with
       | none => rw [hr] at hv; cases hv
       | some i => rw [hr] at hv hx; cases hv; cases hx; exact .s _ _
def ring4 (lim : Lim) (m inv fast one two : Nat) : List AVal :=
 [.i .i64 1, .s .u64 (lim m 0), .s .u64 (lim m 1), .s .u64 (lim m 2), .s .u64 (lim m 3), .s .u64 inv, .s .i64 fast, .s .u64 (lim one 0), .s .u64 (lim one 1), .s .u64 (lim one 2), .s .u64 (lim one 3),
  .s .u64 (lim two 0), .s .u64 (lim two 1), .s .u64 (lim two 2), .s .u64 (lim two 3)]
def ring6 (lim : Lim) (m inv fast one two : Nat) : List AVal :=
 [.i .i64 1, .s .u64 (lim m 0), .s .u64 (lim m 1), .s .u64 (lim m 2), .s .u64 (lim m 3), .s .u64 (lim m 4), .s .u64 (lim m 5), .s .u64 inv, .s .i64 fast,
  .s .u64 (lim one 0), .s .u64 (lim one 1), .s .u64 (lim one 2), .s .u64 (lim one 3), .s .u64 (lim one 4), .s .u64 (lim one 5),
  .s .u64 (lim two 0), .s .u64 (lim two 1), .s .u64 (lim two 2), .s .u64 (lim two 3), .s .u64 (lim two 4), .s .u64 (lim two 5)]
theorem low0 {m l inv q z g : Int} (hi : (m * inv + 1) % 18446744073709551616 = 0) (hq : q = l * inv % 18446744073709551616) (h : z + 18446744073709551616 * g = q * m + l + 0) (hz : 0 ≤ z ∧ z < 18446744073709551616) : z = 0 := by
 have h1 : (q * m + l) % 18446744073709551616 = 0 := by
   rw [hq, Int.add_emod, Int.mul_emod, Int.emod_emod_of_dvd _ (Int.dvd_refl _), ← Int.mul_emod, ← Int.add_emod]
   have : l * inv * m + l = l * (m * inv + 1) := by
     rw [Int.mul_add, Int.mul_one, Int.mul_assoc, Int.mul_comm inv m]
   rw [this, Int.mul_emod, hi]
   simp
 omega
theorem modr {q x : Int} (h : q = x % 18446744073709551616) : 0 ≤ q ∧ q < 18446744073709551616 := by omega
theorem kcr {k c : Int} (hk : 0 ≤ k ∧ k ≤ 1) (hc : 0 ≤ c ∧ c ≤ 1) : 0 ≤ k + c ∧ k + c < 18446744073709551616 := by omega
theorem kcw {k c : Int} (hk : 0 ≤ k ∧ k ≤ 1) (hc : 0 ≤ c ∧ c ≤ 1) : (k + c) % 18446744073709551616 = k + c := by omega
theorem sub_arg {x y : Int} (h : x = y) {f : FuncId} {r : AVal} {rest : List AVal} (hs : Sp f (.s .u64 y :: rest) r) : Sp f (.s .u64 x :: rest) r := h ▸ hs
theorem round4 {p0 p1 p2 p3 r0 r1 r2 r3 l0 l1 l2 l3 h0 h1 h2 h3 g0 g1 g2 g3 u0 u1 u2 u3 t0 t1 t2 t3 t4 k c s : Int}
   (e0 : l0 + 18446744073709551616 * h0 = p0 + t0 + 0) (e1 : l1 + 18446744073709551616 * h1 = p1 + t1 + h0) (e2 : l2 + 18446744073709551616 * h2 = p2 + t2 + h1) (e3 : l3 + 18446744073709551616 * h3 = p3 + t3 + h2) (ea : s + 18446744073709551616 * k = t4 + h3 + 0)
   (f0 : 0 + 18446744073709551616 * g0 = r0 + l0 + 0) (f1 : u0 + 18446744073709551616 * g1 = r1 + l1 + g0) (f2 : u1 + 18446744073709551616 * g2 = r2 + l2 + g1) (f3 : u2 + 18446744073709551616 * g3 = r3 + l3 + g2) (fa : u3 + 18446744073709551616 * c = s + g3 + 0) :
   18446744073709551616 * (u0 + 18446744073709551616 * (u1 + 18446744073709551616 * (u2 + 18446744073709551616 * (u3 + 18446744073709551616 * ((k + c)))))) = (t0 + 18446744073709551616 * (t1 + 18446744073709551616 * (t2 + 18446744073709551616 * (t3 + 18446744073709551616 * (t4))))) + (p0 + 18446744073709551616 * (p1 + 18446744073709551616 * (p2 + 18446744073709551616 * (p3)))) + (r0 + 18446744073709551616 * (r1 + 18446744073709551616 * (r2 + 18446744073709551616 * (r3)))) := by omega
theorem chain4 {T1 T2 T3 T4 y0 y1 y2 y3 z0 z1 z2 z3 : Int} (e0 : 18446744073709551616 * T1 = 0 + y0 + z0) (e1 : 18446744073709551616 * T2 = T1 + y1 + z1) (e2 : 18446744073709551616 * T3 = T2 + y2 + z2) (e3 : 18446744073709551616 * T4 = T3 + y3 + z3) :
   115792089237316195423570985008687907853269984665640564039457584007913129639936 * T4 = (y0 + 18446744073709551616 * (y1 + 18446744073709551616 * (y2 + 18446744073709551616 * (y3)))) + (z0 + 18446744073709551616 * (z1 + 18446744073709551616 * (z2 + 18446744073709551616 * (z3)))) := by omega
theorem horn4 (x0 x1 x2 x3 b : Int) : x0 * b + 18446744073709551616 * (x1 * b + 18446744073709551616 * (x2 * b + 18446744073709551616 * (x3 * b))) = (x0 + 18446744073709551616 * (x1 + 18446744073709551616 * (x2 + 18446744073709551616 * (x3)))) * b := by simp only [Int.add_mul, Int.mul_assoc]
theorem horm4 (x0 x1 x2 x3 b : Int) : b * x0 + 18446744073709551616 * (b * x1 + 18446744073709551616 * (b * x2 + 18446744073709551616 * (b * x3))) = b * (x0 + 18446744073709551616 * (x1 + 18446744073709551616 * (x2 + 18446744073709551616 * (x3)))) := by simp only [Int.mul_add, Int.mul_left_comm]
theorem round6 {p0 p1 p2 p3 p4 p5 r0 r1 r2 r3 r4 r5 l0 l1 l2 l3 l4 l5 h0 h1 h2 h3 h4 h5 g0 g1 g2 g3 g4 g5 u0 u1 u2 u3 u4 u5 t0 t1 t2 t3 t4 t5 t6 k c s : Int}
   (e0 : l0 + 18446744073709551616 * h0 = p0 + t0 + 0) (e1 : l1 + 18446744073709551616 * h1 = p1 + t1 + h0) (e2 : l2 + 18446744073709551616 * h2 = p2 + t2 + h1) (e3 : l3 + 18446744073709551616 * h3 = p3 + t3 + h2) (e4 : l4 + 18446744073709551616 * h4 = p4 + t4 + h3) (e5 : l5 + 18446744073709551616 * h5 = p5 + t5 + h4) (ea : s + 18446744073709551616 * k = t6 + h5 + 0)
   (f0 : 0 + 18446744073709551616 * g0 = r0 + l0 + 0) (f1 : u0 + 18446744073709551616 * g1 = r1 + l1 + g0) (f2 : u1 + 18446744073709551616 * g2 = r2 + l2 + g1) (f3 : u2 + 18446744073709551616 * g3 = r3 + l3 + g2) (f4 : u3 + 18446744073709551616 * g4 = r4 + l4 + g3) (f5 : u4 + 18446744073709551616 * g5 = r5 + l5 + g4) (fa : u5 + 18446744073709551616 * c = s + g5 + 0) :
   18446744073709551616 * (u0 + 18446744073709551616 * (u1 + 18446744073709551616 * (u2 + 18446744073709551616 * (u3 + 18446744073709551616 * (u4 + 18446744073709551616 * (u5 + 18446744073709551616 * ((k + c)))))))) = (t0 + 18446744073709551616 * (t1 + 18446744073709551616 * (t2 + 18446744073709551616 * (t3 + 18446744073709551616 * (t4 + 18446744073709551616 * (t5 + 18446744073709551616 * (t6))))))) + (p0 + 18446744073709551616 * (p1 + 18446744073709551616 * (p2 + 18446744073709551616 * (p3 + 18446744073709551616 * (p4 + 18446744073709551616 * (p5)))))) + (r0 + 18446744073709551616 * (r1 + 18446744073709551616 * (r2 + 18446744073709551616 * (r3 + 18446744073709551616 * (r4 + 18446744073709551616 * (r5)))))) := by omega
theorem chain6 {T1 T2 T3 T4 T5 T6 y0 y1 y2 y3 y4 y5 z0 z1 z2 z3 z4 z5 : Int} (e0 : 18446744073709551616 * T1 = 0 + y0 + z0) (e1 : 18446744073709551616 * T2 = T1 + y1 + z1) (e2 : 18446744073709551616 * T3 = T2 + y2 + z2) (e3 : 18446744073709551616 * T4 = T3 + y3 + z3) (e4 : 18446744073709551616 * T5 = T4 + y4 + z4) (e5 : 18446744073709551616 * T6 = T5 + y5 + z5) :
   39402006196394479212279040100143613805079739270465446667948293404245721771497210611414266254884915640806627990306816 * T6 = (y0 + 18446744073709551616 * (y1 + 18446744073709551616 * (y2 + 18446744073709551616 * (y3 + 18446744073709551616 * (y4 + 18446744073709551616 * (y5)))))) + (z0 + 18446744073709551616 * (z1 + 18446744073709551616 * (z2 + 18446744073709551616 * (z3 + 18446744073709551616 * (z4 + 18446744073709551616 * (z5)))))) := by omega
theorem horn6 (x0 x1 x2 x3 x4 x5 b : Int) : x0 * b + 18446744073709551616 * (x1 * b + 18446744073709551616 * (x2 * b + 18446744073709551616 * (x3 * b + 18446744073709551616 * (x4 * b + 18446744073709551616 * (x5 * b))))) = (x0 + 18446744073709551616 * (x1 + 18446744073709551616 * (x2 + 18446744073709551616 * (x3 + 18446744073709551616 * (x4 + 18446744073709551616 * (x5)))))) * b := by simp only [Int.add_mul, Int.mul_assoc]
theorem horm6 (x0 x1 x2 x3 x4 x5 b : Int) : b * x0 + 18446744073709551616 * (b * x1 + 18446744073709551616 * (b * x2 + 18446744073709551616 * (b * x3 + 18446744073709551616 * (b * x4 + 18446744073709551616 * (b * x5))))) = b * (x0 + 18446744073709551616 * (x1 + 18446744073709551616 * (x2 + 18446744073709551616 * (x3 + 18446744073709551616 * (x4 + 18446744073709551616 * (x5)))))) := by simp only [Int.mul_add, Int.mul_left_comm]
theorem mont_core {M a b m r Q T : Nat} (hM : 0 < M) (ha : a < M) (hb : b < M) (hab : a < m ∨ b < m) (hQ : Q < M) (hr : r < m) (h : M * T = a * b + Q * m) (hc : Nat.Coprime m M) (hrr : r * M % m = a * b % m) :
   T < 2 * m ∧ r = if T < m then T else T - m := by
 have h1 : a * b < M * m := by
   rcases hab with h' | h'
   . refine Nat.lt_of_le_of_lt (Nat.mul_le_mul_left _ (Nat.le_of_lt hb)) ?_
     rw [Nat.mul_comm M m]
     exact Nat.mul_lt_mul_of_pos_right h' hM
   . exact Nat.lt_of_le_of_lt (Nat.mul_le_mul_right _ (Nat.le_of_lt ha)) (Nat.mul_lt_mul_of_pos_left h' hM)
 have h2 : Q * m ≤ M * m := Nat.mul_le_mul_right _ (Nat.le_of_lt hQ)
 have hT : T < 2 * m := by
   have h3 : M * T < M * (2 * m) := by rw [h, show M * (2 * m) = M * m + M * m by rw [Nat.mul_left_comm]; omega]; omega
   exact Nat.lt_of_mul_lt_mul_left h3
 refine ⟨hT, ?_⟩
 obtain ⟨R, hR⟩ : ∃ R, R = if T < m then T else T - m := ⟨_, rfl⟩
 rw [← hR]
 have hRm : R < m := by rw [hR]; split <;> omega
 have hRT : R * M % m = a * b % m := by
   have : T * M % m = a * b % m := by rw [Nat.mul_comm, h]; simp
   rw [← this, Nat.mul_mod, Nat.mul_mod T]
   congr 2
   rw [hR]
   split
   . rfl
   . rename_i h'
     rw [Nat.mod_eq_sub_mod (a := T) (by omega)]
 have e : r * M % m = R * M % m := hrr.trans hRT.symm
 have key : ∀ {x y : Nat}, x < m → y < m → x * M % m = y * M % m → x ≤ y → x = y := by
   intro x y hx hy he hle
   have h4 : (y * M - x * M) % m = 0 := Nat.sub_mod_eq_zero_of_mod_eq he.symm
   rw [← Nat.sub_mul] at h4
   have h5 : m ∣ (y - x) := Nat.Coprime.dvd_of_dvd_mul_right hc (Nat.dvd_of_mod_eq_zero h4)
   have h6 := Nat.eq_zero_of_dvd_of_lt h5 (by omega)
   omega
 rcases Nat.le_total r R with h' | h'
 . exact key hr hRm e h'
 . exact (key hRm hr e.symm h').symm
theorem odd_coprime {m : Nat} (h : m % 2 = 1) (k : Nat) : Nat.Coprime m (2 ^ k) := by
 apply Nat.Coprime.pow_right
 rw [Nat.coprime_iff_gcd_eq_one, Nat.gcd_comm, Nat.gcd_rec, h]
 rfl
theorem mont_fin {M a b m r : Nat} {Q x t T : Int} (hM : 0 < M) (ha : a < M) (hb : b < M) (hm : m < M) (hab : a < m ∨ b < m) (hr : r < m) (hc : Nat.Coprime m M) (hrr : r * M % m = a * b % m)
   (hC : (M : Int) * T = (a : Int) * (b : Int) + Q * (m : Int)) (hQ : 0 ≤ Q ∧ Q < M) (hx : 0 ≤ x ∧ x < M) (ht : 0 ≤ t) (hT : T = x + (M : Int) * t) :
   ∃ s d k' : Nat, s < M ∧ (s : Int) = x ∧ d + m = s + M * k' ∧ d < M ∧ (((t > 0 ∨ k' = 0) ∧ d = r) ∨ (t = 0 ∧ k' = 1 ∧ s = r)) := by
 obtain ⟨x, rfl⟩ : ∃ n : Nat, x = n := ⟨x.toNat, by omega⟩
 obtain ⟨t, rfl⟩ : ∃ n : Nat, t = n := ⟨t.toNat, by omega⟩
 obtain ⟨Q, rfl⟩ : ∃ n : Nat, Q = n := ⟨Q.toNat, by omega⟩
 have h : M * (x + M * t) = a * b + Q * m := by
   rw [hT] at hC
   exact_mod_cast hC
 obtain ⟨h1, h2⟩ := mont_core hM ha hb hab (by omega) hr h hc hrr
 have ht2 : t < 2 := by
   rcases Nat.lt_or_ge t 2 with h' | h'
   . exact h'
   . have : M * 2 ≤ M * t := Nat.mul_le_mul_left _ h'
     omega
 have hxM : x < M := by omega
 by_cases hlt : x + M * t < m
 . have h0 : t = 0 := by
     rcases Nat.eq_zero_or_pos t with h' | h'
     . exact h'
     . have : M * 1 ≤ M * t := Nat.mul_le_mul_left _ h'
       omega
   subst h0
   rw [if_pos hlt] at h2
   exact ⟨x, x + M - m, 1, hxM, rfl, by omega, by omega, .inr ⟨rfl, rfl, by omega⟩⟩
 . rw [if_neg hlt] at h2
   have : t = 0 ∨ t = 1 := by omega
   rcases this with rfl | rfl
   . exact ⟨x, x - m, 0, hxM, rfl, by omega, by omega, .inl ⟨.inr rfl, by omega⟩⟩
   . exact ⟨x, x + M - m, 1, hxM, rfl, by omega, by omega, .inl ⟨.inl (by omega), by omega⟩⟩
theorem mont_end4 {a b m r : Nat} {x0 x1 x2 x3 q0 q1 q2 q3 T k c : Int} (ha : a < 2 ^ 256) (hb : b < 2 ^ 256) (hm : m < 2 ^ 256) (hodd : m % 2 = 1) (hab : a < m ∨ b < m) (hr : r < m) (hrr : r * 2 ^ 256 % m = a * b % m)
   (hC : 115792089237316195423570985008687907853269984665640564039457584007913129639936 * T = (a : Int) * (b : Int) + (q0 + 18446744073709551616 * (q1 + 18446744073709551616 * (q2 + 18446744073709551616 * (q3)))) * (m : Int)) (rq0 : 0 ≤ q0 ∧ q0 < 18446744073709551616) (rq1 : 0 ≤ q1 ∧ q1 < 18446744073709551616) (rq2 : 0 ≤ q2 ∧ q2 < 18446744073709551616) (rq3 : 0 ≤ q3 ∧ q3 < 18446744073709551616) (rx0 : 0 ≤ x0 ∧ x0 < 18446744073709551616) (rx1 : 0 ≤ x1 ∧ x1 < 18446744073709551616) (rx2 : 0 ≤ x2 ∧ x2 < 18446744073709551616) (rx3 : 0 ≤ x3 ∧ x3 < 18446744073709551616) (hk : 0 ≤ k ∧ k ≤ 1) (hc : 0 ≤ c ∧ c ≤ 1) (hT : T = x0 + 18446744073709551616 * (x1 + 18446744073709551616 * (x2 + 18446744073709551616 * (x3 + 18446744073709551616 * ((k + c)))))) :
   ∃ s d k' : Nat, s < 2 ^ 256 ∧ (s : Int) = x0 + 18446744073709551616 * (x1 + 18446744073709551616 * (x2 + 18446744073709551616 * (x3))) ∧ d + m = s + 2 ^ 256 * k' ∧ d < 2 ^ 256 ∧ ((((k + c > 0) ∨ k' = 0) ∧ d = r) ∨ (k + c = 0 ∧ k' = 1 ∧ s = r)) := by
 have eM : ((2 ^ 256 : Nat) : Int) = 115792089237316195423570985008687907853269984665640564039457584007913129639936 := by rfl
 have hQ : 0 ≤ q0 + 18446744073709551616 * (q1 + 18446744073709551616 * (q2 + 18446744073709551616 * (q3))) ∧ q0 + 18446744073709551616 * (q1 + 18446744073709551616 * (q2 + 18446744073709551616 * (q3))) < 115792089237316195423570985008687907853269984665640564039457584007913129639936 := by clear hC hT; omega
 have hx : 0 ≤ x0 + 18446744073709551616 * (x1 + 18446744073709551616 * (x2 + 18446744073709551616 * (x3))) ∧ x0 + 18446744073709551616 * (x1 + 18446744073709551616 * (x2 + 18446744073709551616 * (x3))) < 115792089237316195423570985008687907853269984665640564039457584007913129639936 := by clear hC hT; omega
 have hT' : T = (x0 + 18446744073709551616 * (x1 + 18446744073709551616 * (x2 + 18446744073709551616 * (x3)))) + 115792089237316195423570985008687907853269984665640564039457584007913129639936 * (k + c) := by rw [hT]; clear hC hT hQ hx; omega
 rw [← eM] at hQ hx hT' hC
 exact mont_fin (Nat.two_pow_pos 256) ha hb hm hab hr (odd_coprime hodd 256) hrr hC hQ hx (by omega) hT'
theorem mont_end6 {a b m r : Nat} {x0 x1 x2 x3 x4 x5 q0 q1 q2 q3 q4 q5 T k c : Int} (ha : a < 2 ^ 384) (hb : b < 2 ^ 384) (hm : m < 2 ^ 384) (hodd : m % 2 = 1) (hab : a < m ∨ b < m) (hr : r < m) (hrr : r * 2 ^ 384 % m = a * b % m)
   (hC : 39402006196394479212279040100143613805079739270465446667948293404245721771497210611414266254884915640806627990306816 * T = (a : Int) * (b : Int) + (q0 + 18446744073709551616 * (q1 + 18446744073709551616 * (q2 + 18446744073709551616 * (q3 + 18446744073709551616 * (q4 + 18446744073709551616 * (q5)))))) * (m : Int)) (rq0 : 0 ≤ q0 ∧ q0 < 18446744073709551616) (rq1 : 0 ≤ q1 ∧ q1 < 18446744073709551616) (rq2 : 0 ≤ q2 ∧ q2 < 18446744073709551616) (rq3 : 0 ≤ q3 ∧ q3 < 18446744073709551616) (rq4 : 0 ≤ q4 ∧ q4 < 18446744073709551616) (rq5 : 0 ≤ q5 ∧ q5 < 18446744073709551616) (rx0 : 0 ≤ x0 ∧ x0 < 18446744073709551616) (rx1 : 0 ≤ x1 ∧ x1 < 18446744073709551616) (rx2 : 0 ≤ x2 ∧ x2 < 18446744073709551616) (rx3 : 0 ≤ x3 ∧ x3 < 18446744073709551616) (rx4 : 0 ≤ x4 ∧ x4 < 18446744073709551616) (rx5 : 0 ≤ x5 ∧ x5 < 18446744073709551616) (hk : 0 ≤ k ∧ k ≤ 1) (hc : 0 ≤ c ∧ c ≤ 1) (hT : T = x0 + 18446744073709551616 * (x1 + 18446744073709551616 * (x2 + 18446744073709551616 * (x3 + 18446744073709551616 * (x4 + 18446744073709551616 * (x5 + 18446744073709551616 * ((k + c)))))))) :
   ∃ s d k' : Nat, s < 2 ^ 384 ∧ (s : Int) = x0 + 18446744073709551616 * (x1 + 18446744073709551616 * (x2 + 18446744073709551616 * (x3 + 18446744073709551616 * (x4 + 18446744073709551616 * (x5))))) ∧ d + m = s + 2 ^ 384 * k' ∧ d < 2 ^ 384 ∧ ((((k + c > 0) ∨ k' = 0) ∧ d = r) ∨ (k + c = 0 ∧ k' = 1 ∧ s = r)) := by
 have eM : ((2 ^ 384 : Nat) : Int) = 39402006196394479212279040100143613805079739270465446667948293404245721771497210611414266254884915640806627990306816 := by rfl
 have hQ : 0 ≤ q0 + 18446744073709551616 * (q1 + 18446744073709551616 * (q2 + 18446744073709551616 * (q3 + 18446744073709551616 * (q4 + 18446744073709551616 * (q5))))) ∧ q0 + 18446744073709551616 * (q1 + 18446744073709551616 * (q2 + 18446744073709551616 * (q3 + 18446744073709551616 * (q4 + 18446744073709551616 * (q5))))) < 39402006196394479212279040100143613805079739270465446667948293404245721771497210611414266254884915640806627990306816 := by clear hC hT; omega
 have hx : 0 ≤ x0 + 18446744073709551616 * (x1 + 18446744073709551616 * (x2 + 18446744073709551616 * (x3 + 18446744073709551616 * (x4 + 18446744073709551616 * (x5))))) ∧ x0 + 18446744073709551616 * (x1 + 18446744073709551616 * (x2 + 18446744073709551616 * (x3 + 18446744073709551616 * (x4 + 18446744073709551616 * (x5))))) < 39402006196394479212279040100143613805079739270465446667948293404245721771497210611414266254884915640806627990306816 := by clear hC hT; omega
 have hT' : T = (x0 + 18446744073709551616 * (x1 + 18446744073709551616 * (x2 + 18446744073709551616 * (x3 + 18446744073709551616 * (x4 + 18446744073709551616 * (x5)))))) + 39402006196394479212279040100143613805079739270465446667948293404245721771497210611414266254884915640806627990306816 * (k + c) := by rw [hT]; clear hC hT hQ hx; omega
 rw [← eM] at hQ hx hT' hC
 exact mont_fin (Nat.two_pow_pos 384) ha hb hm hab hr (odd_coprime hodd 384) hrr hC hQ hx (by omega) hT'
end Go.Proofs.YtmholgclgamnnaaGreat
end
