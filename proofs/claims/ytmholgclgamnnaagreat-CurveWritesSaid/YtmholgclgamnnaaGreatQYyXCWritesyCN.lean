import Derived.Test.YtmholgclgamnnaaGreatQYBN
import Derived.Test.YtmholgclgamnnaaGreatQYCJ
import Derived.Test.YtmholgclgamnnaaGreatQYCS
import Derived.Test.YtmholgclgamnnaaGreatQYyXCWritesyBD
section
set_option linter.unusedVariables false
set_option linter.unusedSimpArgs false
namespace Go.Proofs.YtmholgclgamnnaaGreat
open Go Eng
set_option maxRecDepth 100000
set_option exponentiation.threshold 2000
set_option maxHeartbeats 4000000
theorem rHex6 {lim : Lim} (hl : lim = limR) (s : ByteArray) (hs : s.size ≤ 16 * 6) (hd : ∀ i, i < s.size → hexd (bt s i) < 16) :
    Sp 79 [.v (.string s), .i .i64 6] (.new false 6 1 (ws6 lim (hexN s))) := by
  obtain ⟨d, hdd⟩ : ∃ d : Nat → Nat, d = fun i => hexd (bt s (s.size - 1 - i)) := ⟨_, rfl⟩
  obtain ⟨N, hN⟩ : ∃ N : Nat → Nat, N = hv16 d := ⟨_, rfl⟩
  have hd16 : ∀ i, i < s.size → d i < 16 := fun i hi => by rw [hdd]; exact hd _ (by omega)
  have hN0 : N 0 = 0 := by rw [hN]; rfl
  have hNs : hexN s = N s.size := by rw [hN, hdd]; rfl
  have hstep : ∀ i, i < s.size → lim (N (i + 1)) (i / 16) = lim (N i) (i / 16) + (d i * 2 ^ (4 * (i % 16)) : Nat) ∧ (∀ j, j ≠ i / 16 → lim (N (i + 1)) j = lim (N i) j) ∧ (lim (N i) (i / 16)).toNat < 2 ^ (4 * (i % 16)) ∧ d i * 2 ^ (4 * (i % 16)) < 18446744073709551616 := by
    intro i hi
    have h16 := hd16 i hi
    have e : 4 * i % 64 = 4 * (i % 16) := by omega
    have e2 : 4 * i / 64 = i / 16 := by omega
    have hx : d i * 2 ^ (4 * (i % 16)) < 18446744073709551616 := by
      have h1 : d i * 2 ^ (4 * (i % 16)) < 16 * 2 ^ (4 * (i % 16)) := Nat.mul_lt_mul_of_pos_right h16 (Nat.two_pow_pos _)
      have h2 : 16 * 2 ^ (4 * (i % 16)) ≤ 2 ^ 64 := by
        rw [show (16 : Nat) = 2 ^ 4 from rfl, ← Nat.pow_add]; exact Nat.pow_le_pow_right (by decide) (by omega)
      omega
    have := limR_put (v := N i) (x := d i) (k := 4 * i) (t := 0) (j := i / 16) (by rw [e]; exact hx) (by rw [hN]; exact hv16_lt i (fun j hj => hd16 j (by omega))) e2.symm
    rw [e] at this
    have e3 : N (i + 1) = N i + d i * 2 ^ (4 * i) := by rw [hN]; rfl
    rw [e3, hl]
    exact ⟨this.1, this.2.1, this.2.2, hx⟩
  have hd1 : ∀ i, d i = hexd (bt s (s.size - 1 - i)) := fun i => by rw [hdd]
  have le := fun x i => lim_range hl x i
  have hz : ∀ j, lim 0 j = 0 := fun j => by rw [hl]; show ((0 / 2 ^ (64 * j) % 2 ^ 64 : Nat) : Int) = 0; rw [Nat.zero_div]; rfl
  obtain ⟨L, hL⟩ : ∃ L, L = s.size := ⟨_, rfl⟩
  rw [← hL] at hNs
  rw [hNs]
  clear hN hdd hNs hd
  refine mk Tryz.func79 rfl rfl LN R0 (by decide +kernel) ?_
  intro A S hA hS
  unfold bodyOf Tryz.f79
  cbv
  refine .inv (α := Nat) (fun i => ⟨[.v (.string s), .i .i64 6, .any, .any, .any, .osl false 0 0 6 1, .s .i64 (i : Nat), .any, .any, .any, .any, .any, .any, .any, .any, .any, .any, .any, .any, .any, .any, .any, .any, .any, .any, .any, .any, .any, .any, .any, .any, .any, .any, .any, .any, .any, .any, .any, .any, .any, .any, .any, .any, .any, .any, .any, .any], [⟨true, true, [.s .u64 (lim (N i) 0), .s .u64 (lim (N i) 1), .s .u64 (lim (N i) 2), .s .u64 (lim (N i) 3), .s .u64 (lim (N i) 4), .s .u64 (lim (N i) 5)]⟩]⟩) (fun i => i ≤ s.size) (fun i => s.size - i) 0 ?_ (Nat.zero_le _) ?_
  · rw [hN0]
    cbv
    repeat' (first | exact rfl | exact (hz _).symm | exact trivial | constructor)
  intro i hi
  have hlen : A.len (A.size s) = (s.size : Int) := by rw [hA]; rfl
  have hsz : A.size s = s.size := by rw [hA]; rfl
  by_cases h : i < s.size
  · have hlt : A.cmp .lss (i : Int) (A.len (A.size s)) = true := by rw [hlen]; exact (i_lt hA).trans (decide_eq_true (by omega))
    have hix : A.bin .sub .i64 (A.bin .sub .i64 (A.len (A.size s)) 1) (i : Int) = ((s.size - 1 - i : Nat) : Int) := e_sub hA (e_sub hA hlen rfl rfl (by omega)) rfl (by omega) (by omega)
    have hjx : s.size - 1 - i < s.size := by omega
    have hquo : A.bin .quo .i64 (i : Int) 16 = ((i / 16 : Nat) : Int) := e_quo hA rfl rfl (by omega) (by omega) (by omega) (by omega)
    have hrem : A.wrap .u64 (A.bin .mul .i64 4 (A.bin .rem .i64 (i : Int) 16)) = ((4 * (i % 16) : Nat) : Int) := wrap_small hA (e_mul hA rfl (e_rem hA rfl rfl (z := ((i % 16 : Nat) : Int)) (by omega) (by omega)) (by omega) (by omega)) (by omega)
    have hok : A.okb .shl (A.wrap .u64 (A.bin .mul .i64 4 (A.bin .rem .i64 (i : Int) 16))) = true := by rw [hrem]; exact (a_okbS hA (by omega)).2
    have hnext : A.bin .add .i64 (i : Int) 1 = ((i + 1 : Nat) : Int) := e_add hA rfl rfl (by omega) (by omega)
    obtain ⟨w1, w2, w3, w4⟩ := hstep i h
    have hor := orw hA (le (N i) (i / 16)).1 hrem (by omega) w4 w3
    rw [← w1] at hor
    have hb := a_byte hA s (s.size - 1 - i)
    have hbl := bt_lt s (s.size - 1 - i)
    have hdi := hd1 i
    have hq : i / 16 < 6 := by omega
    have hdec : s.size - (i + 1) < s.size - i := by omega
    have hle : i + 1 ≤ s.size := h
    obtain ⟨nx, hnx⟩ : ∃ nx, nx = i + 1 := ⟨_, rfl⟩
    rw [← hnx] at hnext hor w2 hdec hle
    obtain ⟨q, hqq⟩ : ∃ q, q = i / 16 := ⟨_, rfl⟩
    rw [← hqq] at hquo hor w2 hq
    obtain ⟨jx, hjj⟩ : ∃ q, q = s.size - 1 - i := ⟨_, rfl⟩
    rw [← hjj] at hix hb hbl hdi hjx
    have hjA : jx < A.size s := by rw [hsz]; exact hjx
    obtain ⟨dd, hddd⟩ : ∃ x, x = d i := ⟨_, rfl⟩
    rw [← hddd] at hor hdi
    clear w1 w3 w4 hnx hqq hjj hddd hrem hstep hd16 hd1 hN0
    rw [hdi] at hor
    by_cases h97 : 97 ≤ bt s jx
    · obtain ⟨e1, e2⟩ := hexd_hi hA hbl h97
      rw [← hb] at e1 e2
      rw [← e2] at hor
      rcases (by omega : q = 0 ∨ q = 1 ∨ q = 2 ∨ q = 3 ∨ q = 4 ∨ q = 5) with rfl | rfl | rfl | rfl | rfl | rfl
      all_goals
        cbv
        refine ABr.t hlt ?_
        cbv
        refine .mk _ hix hjA ?_
        cbv
        refine ABr.t e1 ?_
        cbv
        refine .mk _ hquo hq ?_
        cbv
        refine .mk hok ?_
        cbv
        refine .mk _ hquo hq ?_
        cbv
        refine ⟨nx, ?_, hle, hdec⟩
        cbv
        repeat' (first | exact hnext | exact hor | exact (w2 _ (by decide)).symm | exact trivial | constructor)
    · obtain ⟨e1, e2⟩ := hexd_lo hA hbl h97
      rw [← hb] at e1 e2
      rw [← e2] at hor
      rcases (by omega : q = 0 ∨ q = 1 ∨ q = 2 ∨ q = 3 ∨ q = 4 ∨ q = 5) with rfl | rfl | rfl | rfl | rfl | rfl
      all_goals
        cbv
        refine ABr.t hlt ?_
        cbv
        refine .mk _ hix hjA ?_
        cbv
        refine ABr.f e1 ?_
        cbv
        refine .mk _ hquo hq ?_
        cbv
        refine .mk hok ?_
        cbv
        refine .mk _ hquo hq ?_
        cbv
        refine ⟨nx, ?_, hle, hdec⟩
        cbv
        repeat' (first | exact hnext | exact hor | exact (w2 _ (by decide)).symm | exact trivial | constructor)
  · have hlt : A.cmp .lss (i : Int) (A.len (A.size s)) = false := by rw [hlen]; exact (i_lt hA).trans (decide_eq_false (by omega))
    obtain rfl : i = L := by omega
    cbv
    refine ABr.f hlt ?_
    cbv
end Go.Proofs.YtmholgclgamnnaaGreat
end
section
set_option linter.unusedVariables false
set_option linter.unusedSectionVars false
set_option linter.unusedSimpArgs false
namespace Go.Proofs.YtmholgclgamnnaaGreat
open Go Eng
set_option maxRecDepth 100000
set_option exponentiation.threshold 2000
set_option maxHeartbeats 4000000
section
variable {p : Nat} [NeZero p]
theorem less0S6 {H : H5} (hH : H = H5.real) (hp : PrM 384 p) (c : Cu p) {a : Nat} (ha : a < 2 ^ 384) : Sp 147 [.ref (Cc6 H c) 0, u6 H.lim a] (u6 H.lim (0 - fo p a).val) := by
  have h1 := inF6 hH hp ha
  have h2 := NegF6 hH hp (fo p a)
  have h3 := outF6 hH hp (0 - fo p a)
  by_cases h0 : a = 0
  · have e : (0 - fo p a).val = a := by
      rw [h0]
      show (0 - (0 : Fin p)).val = 0
      rw [Fin.sub_def]
      show (p - (0 % p) + (0 % p)) % p = 0
      rw [Nat.zero_mod, Nat.sub_zero, Nat.add_zero, Nat.mod_self]
    rw [e]
    refine mk Tryz.func147 rfl rfl L0 R1 (by decide +kernel) fun A S hA hS => ?_
    have hz := (nz6 hA hH ha).trans (decide_eq_true h0)
    clear h1 h2 h3
    unfold bodyOf Tryz.f147
    cbv
    refine ABr.t hz ?_
    cbv
  · generalize 0 - fo p a = w at *
    generalize fo p a = v at *
    refine mk Tryz.func147 rfl rfl L0 R1 (by decide +kernel) fun A S hA hS => ?_
    have hz := (nz6 hA hH ha).trans (decide_eq_false h0)
    unfold bodyOf Tryz.f147
    cbv
    refine ABr.f hz ?_
    cbv
    refine ACall.mk _ (cf hS h1) ?_
    cbv
    refine ACall.mk _ (cf hS h2) ?_
    cbv
    refine ACall.mk _ (cf hS h3) ?_
    cbv
end
end Go.Proofs.YtmholgclgamnnaaGreat
end
section
set_option linter.unusedVariables false
set_option linter.unusedSectionVars false
set_option linter.unusedSimpArgs false
namespace Go.Proofs.YtmholgclgamnnaaGreat
open Go Eng
set_option maxRecDepth 100000
set_option exponentiation.threshold 2000
set_option maxHeartbeats 4000000
section
variable {p : Nat} [NeZero p]
theorem grpS1_6 {H : H5} (hH : H = H5.real) (hp : PrM 384 p) {c : Cu p} (h1c : c.one = fo p 1) (hr : c.r < 2 ^ 256) (P : PtA) (hPx : P.x < 2 ^ 384) (hPy : P.y < 2 ^ 384) :
    Sp 20 [.ref (Cc6 H c) 0, P1_6 H P] (.s .i64 (grpP c.b1 P c.r : Nat)) := by
  have g1 := good1S6 hH hp c P hPx hPy
  have u1 := up1S6 hH hp h1c P hPx hPy
  have ne := fun A hA x => i_ne (A := A) hA (x := x) (y := 0)
  unfold grpP
  by_cases h1 : good1 c.b1 P = 0
  · rw [if_neg (fun h => h h1)]
    have tm := timesb6 (ok1_6 hH hp) c.b1 (Cv.up (K1_6 H p).O (ptOf p P)) (H5.hlim hH) c.r hr
    have hz := fun A hA x => (ok1_6 hH hp).eqz (A := A) hA x
    rw [h1] at g1
    clear h1
    change Sp _ _ (Jb6 (K1_6 H p) (Cv.tm (Cv.ops1 Cv.inv1) (Cv.up (Cv.ops1 Cv.inv1) (ptOf p P)) c.r 256 256)) at tm
    generalize Cv.tm (Cv.ops1 Cv.inv1) (Cv.up (Cv.ops1 Cv.inv1) (ptOf p P)) c.r 256 256 = j at *
    change Sp _ [_, _] (Jb6 (K1_6 H p) (Cv.up (Cv.ops1 Cv.inv1) (ptOf p P))) at u1
    change Sp _ [_, Jb6 (K1_6 H p) (Cv.up (Cv.ops1 Cv.inv1) (ptOf p P)), _] _ at tm
    generalize Cv.up (Cv.ops1 Cv.inv1) (ptOf p P) = j1 at *
    by_cases h2 : j.z = 0
    · rw [if_pos h2]
      refine mk Tryz.func20 rfl rfl L0 R1 (by decide +kernel) fun A S hA hS => ?_
      have e0 : A.cmp .neq ((0 : Nat) : Int) 0 = false := ne A hA _
      have e2 := i_not hA ((hz A hA j.z).trans (decide_eq_true h2))
      unfold bodyOf Tryz.f20
      cbv
      repeat (first
        | (refine ABr.t (by assumption) ?_; cbv)
        | (refine ABr.f (by assumption) ?_; cbv)
        | (refine ABr.t rfl ?_; cbv)
        | (refine ABr.f rfl ?_; cbv)
        | (refine ACall.mk _ (cf hS g1) ?_; cbv)
        | (refine ACall.mk _ (cf hS u1) ?_; cbv)
        | (refine ACall.mk _ (cf hS tm) ?_; cbv))
    · rw [if_neg h2]
      refine mk Tryz.func20 rfl rfl L0 R1 (by decide +kernel) fun A S hA hS => ?_
      have e0 : A.cmp .neq ((0 : Nat) : Int) 0 = false := ne A hA _
      have e2 := i_not hA ((hz A hA j.z).trans (decide_eq_false h2))
      unfold bodyOf Tryz.f20
      cbv
      repeat (first
        | (refine ABr.t (by assumption) ?_; cbv)
        | (refine ABr.f (by assumption) ?_; cbv)
        | (refine ABr.t rfl ?_; cbv)
        | (refine ABr.f rfl ?_; cbv)
        | (refine ACall.mk _ (cf hS g1) ?_; cbv)
        | (refine ACall.mk _ (cf hS u1) ?_; cbv)
        | (refine ACall.mk _ (cf hS tm) ?_; cbv))
  · rw [if_pos h1]
    clear u1
    have h1' : ((good1 c.b1 P : Nat) : Int) ≠ 0 := by omega
    generalize ((good1 c.b1 P : Nat) : Int) = e at *
    refine mk Tryz.func20 rfl rfl L0 R1 (by decide +kernel) fun A S hA hS => ?_
    have e1 : A.cmp .neq e 0 = true := by rw [ne A hA, decide_eq_false h1']; rfl
    unfold bodyOf Tryz.f20
    cbv
    repeat (first
      | (refine ABr.t (by assumption) ?_; cbv)
      | (refine ABr.f (by assumption) ?_; cbv)
      | (refine ABr.t rfl ?_; cbv)
      | (refine ABr.f rfl ?_; cbv)
      | (refine ACall.mk _ (cf hS g1) ?_; cbv))
end
end Go.Proofs.YtmholgclgamnnaaGreat
end
