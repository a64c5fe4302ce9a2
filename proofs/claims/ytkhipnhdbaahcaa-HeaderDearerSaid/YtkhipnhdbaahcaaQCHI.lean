import Derived.Test.YtkhipnhdbaahcaaQCKF64
import Derived.Test.YtkhipnhdbaahcaaQCTD
set_option linter.unusedVariables false
set_option linter.unusedSimpArgs false
namespace Go.Proofs.Ytkhipnhdbaahcaa
open Go Eng
set_option maxRecDepth 100000
set_option exponentiation.threshold 2000
set_option maxHeartbeats 8000000
theorem noUnclesS (h : Nat → Int) (hh : h = fun j => ((Kk.hash (Kk.lst Kk.in_c0) 1 j : Nat) : Int)) : Sp 20 [] (.agg [.s .u8 (h 0), .s .u8 (h 1), .s .u8 (h 2), .s .u8 (h 3), .s .u8 (h 4), .s .u8 (h 5), .s .u8 (h 6), .s .u8 (h 7), .s .u8 (h 8), .s .u8 (h 9), .s .u8 (h 10), .s .u8 (h 11), .s .u8 (h 12), .s .u8 (h 13), .s .u8 (h 14), .s .u8 (h 15), .s .u8 (h 16), .s .u8 (h 17), .s .u8 (h 18), .s .u8 (h 19), .s .u8 (h 20), .s .u8 (h 21), .s .u8 (h 22), .s .u8 (h 23), .s .u8 (h 24), .s .u8 (h 25), .s .u8 (h 26), .s .u8 (h 27), .s .u8 (h 28), .s .u8 (h 29), .s .u8 (h 30), .s .u8 (h 31)]) := by
 have hf : ∀ j, Kk.lst Kk.in_c0 j < 256 := fun j => by
   unfold Kk.lst Kk.in_c0
   rcases Nat.eq_zero_or_pos j with e | e
   . subst e; decide
   . have : ([192] : List Nat).getD j 0 = 0 := by
       rw [List.getD_eq_getElem?_getD, List.getElem?_eq_none (by simp; omega)]; rfl
     rw [this]; decide
 obtain ⟨F, hF⟩ : ∃ F : Nat → Int, F = fun j => ((Kk.lst Kk.in_c0 j : Nat) : Int) := ⟨_, rfl⟩
 have ck := keccak1 (Kk.lst Kk.in_c0) hf F h hF hh
 have f0 : F 0 = 192 := by rw [hF]; rfl
 clear hh hF hf
 refine mk Try.func20 rfl rfl L0 R1 (by decide +kernel) fun A S hA hS => ?_
 unfold bodyOf Try.f20
 cbv
 refine aG hS ck ?_ ?_
 . cbv
   repeat' (first | exact f0.symm | exact f0 | exact rfl | exact trivial | constructor)
 cbv
theorem excess0S : Sp 21 [.agg [.i .u8 0, .i .u8 0, .i .u8 0, .i .u8 0, .i .u8 0, .i .u8 0, .i .u8 0, .i .u8 0, .i .u8 0, .i .u8 0, .i .u8 0, .i .u8 0, .i .u8 0, .i .u8 0, .i .u8 0, .i .u8 0, .i .u8 0, .i .u8 0, .i .u8 0, .i .u8 0, .i .u8 0, .i .u8 0, .i .u8 0, .i .u8 0, .i .u8 0, .i .u8 0, .i .u8 0, .i .u8 0, .i .u8 0, .i .u8 0, .i .u8 0, .i .u8 0, .i .u8 0, .i .u8 0, .i .u8 0, .i .u8 0, .i .u8 0, .i .u8 0, .i .u8 0, .i .u8 0, .i .u8 0, .i .u8 0, .i .u8 0, .i .u8 0, .i .u8 0, .i .u8 0, .i .u8 0, .i .u8 0, .i .u8 0, .i .u8 0, .i .u8 0, .i .u8 0, .i .u8 0, .i .u8 0, .i .u8 0, .i .u8 0, .i .u8 0, .i .u8 0, .i .u8 0, .i .u8 0, .i .u8 0, .i .u8 0, .i .u8 0, .i .u8 0, .i .u8 0, .i .u8 0, .i .u8 0, .i .u8 0, .i .u8 0, .i .u8 0, .i .u8 0, .i .u8 0, .i .u8 0, .i .u8 0, .i .u8 0, .i .u8 0, .i .u8 0, .i .u8 0, .i .u8 0, .i .u8 0, .i .u8 0, .i .u8 0, .i .u8 0, .i .u8 0, .i .u8 0, .i .u8 0, .i .u8 0, .i .u8 0, .i .u8 0, .i .u8 0, .i .u8 0, .i .u8 0, .i .u8 0, .i .u8 0, .i .u8 0, .i .u8 0, .i .u8 0, .i .u8 0, .i .u8 0, .i .u8 0, .i .u8 0, .i .u8 0, .i .u8 0, .i .u8 0, .i .u8 0, .i .u8 0, .i .u8 0, .i .u8 0, .i .u8 0, .i .u8 0, .i .u8 0, .i .u8 0, .i .u8 0, .i .u8 0, .i .u8 0, .i .u8 0, .i .u8 0, .i .u8 0, .i .u8 0, .i .u8 0, .i .u8 0, .i .u8 0, .i .u8 0, .i .u8 0, .i .u8 0, .i .u8 0, .i .u8 0, .i .u8 0, .i .u8 0, .i .u8 0, .i .u8 0, .i .u8 0, .i .u8 0, .i .u8 0, .i .u8 0, .i .u8 0, .i .u8 0, .i .u8 0, .i .u8 0, .i .u8 0, .i .u8 0, .i .u8 0, .i .u8 0, .i .u8 0, .i .u8 0, .i .u8 0, .i .u8 0, .i .u8 0, .i .u8 0, .i .u8 0, .i .u8 0, .i .u8 0, .i .u8 0, .i .u8 0, .i .u8 0, .i .u8 0, .i .u8 0, .i .u8 0, .i .u8 0, .i .u8 0, .i .u8 0, .i .u8 0, .i .u8 0, .i .u8 0, .i .u8 0, .i .u8 0, .i .u8 0, .i .u8 0, .i .u8 0, .i .u8 0, .i .u8 0, .i .u8 0, .i .u8 0, .i .u8 0, .i .u8 0, .i .u8 0, .i .u8 0, .i .u8 0, .i .u8 0, .i .u8 0, .i .u8 0, .i .u8 0, .i .u8 0, .i .u8 0, .i .u8 0, .i .u8 0, .i .u8 0, .i .u8 0, .i .u8 0, .i .u8 0, .i .u8 0, .i .u8 0, .i .u8 0, .i .u8 0, .i .u8 0, .i .u8 0, .i .u8 0, .i .u8 0, .i .u8 0, .i .u8 0, .i .u8 0, .i .u8 0, .i .u8 0, .i .u8 0, .i .u8 0, .i .u8 0, .i .u8 0, .i .u8 0, .i .u8 0, .i .u8 0, .i .u8 0, .i .u8 0, .i .u8 0, .i .u8 0, .i .u8 0, .i .u8 0, .i .u8 0, .i .u8 0, .i .u8 0, .i .u8 0, .i .u8 0, .i .u8 0, .i .u8 0, .i .u8 0, .i .u8 0, .i .u8 0, .i .u8 0, .i .u8 0, .i .u8 0, .i .u8 0, .i .u8 0, .i .u8 0, .i .u8 0, .i .u8 0, .i .u8 0, .i .u8 0, .i .u8 0, .i .u8 0, .i .u8 0, .i .u8 0, .i .u8 0, .i .u8 0, .i .u8 0, .i .u8 0, .i .u8 0, .i .u8 0, .i .u8 0, .i .u8 0, .i .u8 0, .i .u8 0, .i .u8 0, .i .u8 0, .i .u8 0, .i .u8 0, .i .u8 0, .i .u8 0, .i .u8 0, .i .u8 0, .i .u8 0, .i .u8 0, .i .u8 0, .i .u8 0, .i .u8 0, .i .u8 0, .i .u8 0, .i .u8 0, .i .u8 0, .i .u8 0, .i .u8 0, .i .u8 0, .i .u8 0, .i .u8 0, .i .u8 0, .i .u8 0, .i .u8 0, .i .u8 0, .i .u8 0, .i .u8 0, .i .u8 0, .i .u8 0, .i .u8 0, .i .u8 0, .i .u8 0, .i .u8 0, .i .u8 0, .i .u8 0, .i .u8 0, .i .u8 0, .i .u8 0, .i .u8 0, .i .u8 0, .i .u8 0, .i .u8 0, .i .u8 0, .i .u8 0, .i .u8 0, .i .u8 0, .i .u8 0, .i .u8 0, .i .u8 0, .i .u8 0, .i .u8 0, .i .u8 0, .i .u8 0, .i .u8 0, .i .u8 0, .i .u8 0, .i .u8 0, .i .u8 0, .i .u8 0, .i .u8 0, .i .u8 0, .i .u8 0, .i .u8 0, .i .u8 0, .i .u8 0, .i .u8 0, .i .u8 0, .i .u8 0, .i .u8 0, .i .u8 0, .i .u8 0, .i .u8 0, .i .u8 0, .i .u8 0, .i .u8 0, .i .u8 0, .i .u8 0, .i .u8 0, .i .u8 0, .i .u8 0, .i .u8 0, .i .u8 0, .i .u8 0, .i .u8 0, .i .u8 0, .i .u8 0, .i .u8 0, .i .u8 0, .i .u8 0, .i .u8 0, .i .u8 0, .i .u8 0, .i .u8 0, .i .u8 0, .i .u8 0, .i .u8 0, .i .u8 0, .i .u8 0, .i .u8 0, .i .u8 0, .i .u8 0, .i .u8 0, .i .u8 0, .i .u8 0, .i .u8 0, .i .u8 0, .i .u8 0, .i .u8 0, .i .u8 0, .i .u8 0, .i .u8 0, .i .u8 0, .i .u8 0, .i .u8 0, .i .u8 0, .i .u8 0, .i .u8 0, .i .u8 0, .i .u8 0, .i .u8 0, .i .u8 0, .i .u8 0, .i .u8 0, .i .u8 0, .i .u8 0, .i .u8 0, .i .u8 0, .i .u8 0, .i .u8 0, .i .u8 0, .i .u8 0, .i .u8 0, .i .u8 0, .i .u8 0, .i .u8 0, .i .u8 0, .i .u8 0, .i .u8 0, .i .u8 0, .i .u8 0, .i .u8 0, .i .u8 0, .i .u8 0, .i .u8 0, .i .u8 0, .i .u8 0, .i .u8 0, .i .u8 0, .i .u8 0, .i .u8 0, .i .u8 0, .i .u8 0, .i .u8 0, .i .u8 0, .i .u8 0, .i .u8 0, .i .u8 0, .i .u8 0, .i .u8 0, .i .u8 0, .i .u8 0, .i .u8 0, .i .u8 0, .i .u8 0, .i .u8 0, .i .u8 0, .i .u8 0, .i .u8 0, .i .u8 0, .i .u8 0, .i .u8 0, .i .u8 0, .i .u8 0, .i .u8 0, .i .u8 0, .i .u8 0, .i .u8 0, .i .u8 0, .i .u8 0, .i .u8 0, .i .u8 0, .i .u8 0, .i .u8 0, .i .u8 0, .i .u8 0, .i .u64 0, .i .u64 0, .i .u64 0, .i .u64 0, .i .u64 0, .i .u64 0, .i .u64 0, .i .u64 0, .v (.slice none 0 0), .i .u8 0, .i .u8 0, .i .u8 0, .i .u8 0, .i .u8 0, .i .u8 0, .i .u8 0, .i .u8 0, .i .u8 0, .i .u8 0, .i .u8 0, .i .u8 0, .i .u8 0, .i .u8 0, .i .u8 0, .i .u8 0, .i .u8 0, .i .u8 0, .i .u8 0, .i .u8 0, .i .u8 0, .i .u8 0, .i .u8 0, .i .u8 0, .i .u8 0, .i .u8 0, .i .u8 0, .i .u8 0, .i .u8 0, .i .u8 0, .i .u8 0, .i .u8 0, .i .u8 0, .i .u8 0, .i .u8 0, .i .u8 0, .i .u8 0, .i .u8 0, .i .u8 0, .i .u8 0, .i .u64 0, .i .u64 0, .i .u64 0, .i .u64 0, .i .u8 0, .i .u8 0, .i .u8 0, .i .u8 0, .i .u8 0, .i .u8 0, .i .u8 0, .i .u8 0, .i .u8 0, .i .u8 0, .i .u8 0, .i .u8 0, .i .u8 0, .i .u8 0, .i .u8 0, .i .u8 0, .i .u8 0, .i .u8 0, .i .u8 0, .i .u8 0, .i .u8 0, .i .u8 0, .i .u8 0, .i .u8 0, .i .u8 0, .i .u8 0, .i .u8 0, .i .u8 0, .i .u8 0, .i .u8 0, .i .u8 0, .i .u8 0, .i .u64 786432, .i .u64 0, .i .u8 0, .i .u8 0, .i .u8 0, .i .u8 0, .i .u8 0, .i .u8 0, .i .u8 0, .i .u8 0, .i .u8 0, .i .u8 0, .i .u8 0, .i .u8 0, .i .u8 0, .i .u8 0, .i .u8 0, .i .u8 0, .i .u8 0, .i .u8 0, .i .u8 0, .i .u8 0, .i .u8 0, .i .u8 0, .i .u8 0, .i .u8 0, .i .u8 0, .i .u8 0, .i .u8 0, .i .u8 0, .i .u8 0, .i .u8 0, .i .u8 0, .i .u8 0]] (.s .u64 393216) := by
 have ca := add64S (a := .i .u64 0) (b := .i .u64 786432) (c := .i .u64 0) (.i _) (.i _) (.i _) (by decide) (by decide) (by decide) 786432 0 (by decide) (by decide)
 refine mk Try.func21 rfl rfl L0 R0 (by decide +kernel) fun A S hA hS => ?_
 have e1 : A.cmp .eql 0 1 = false := by rw [hA]; rfl
 unfold bodyOf Try.f21
 cbv
 refine aF hS ca ?_
 cbv
 repeat (first | (refine ABr.f e1 ?_; cbv))
 refine .mk 393216 (fun _ => rfl) (fun h => by rw [hA] at h; cases h) ?_
 cbv
 rw [hA]; rfl
theorem one_w {lim : Lim} (hl : lim = limR) (v : Nat) (hv : v < 18446744073709551616) : lim v 0 = (v : Int) ∧ ∀ i, i < 3 → lim v (i + 1) = 0 := by
 rw [hl]
 refine ⟨?_, fun i hi => ?_⟩
 . show ((v / 2 ^ (64 * 0) % 2 ^ 64 : Nat) : Int) = _
   rw [Nat.mul_zero, Nat.pow_zero, Nat.div_one, Nat.mod_eq_of_lt hv]
 . show ((v / 2 ^ (64 * (i + 1)) % 2 ^ 64 : Nat) : Int) = 0
   rw [Nat.div_eq_of_lt (Nat.lt_of_lt_of_le hv (Nat.pow_le_pow_right (n := 2) (i := 64) (by decide) (by omega)))]; rfl
theorem hawakeS : Sp 6 [] (.b true) := by
 obtain ⟨lim, hl⟩ : ∃ lim : Lim, lim = limR := ⟨_, rfl⟩
 have cf_ := fee0Gt hl 1000 30000000 30000000 15000000 125 125 (by decide) (by decide) (by decide) (by decide) (by decide) (by decide) (by decide) (by decide)
 rw [show (1000 + 125) % 2 ^ 256 = 1125 from by decide] at cf_
 have cp := bpriceS hl 0 (by decide)
 have hp : bprice 0 = 1 := by decide +kernel
 rw [hp] at cp
 obtain ⟨h, hh⟩ : ∃ h : Nat → Int, h = fun j => ((Kk.hash (Kk.lst Kk.in_c0) 1 j : Nat) : Int) := ⟨_, rfl⟩
 have cn := noUnclesS h hh
 have h0 : h 0 = 29 := by rw [hh]; exact congrArg Int.ofNat Kk.c0_b0
 have h31 : h 31 = 71 := by rw [hh]; exact congrArg Int.ofNat Kk.c0_b31
 have ce := excess0S
 obtain ⟨a0, as_⟩ := one_w hl 1000 (by decide)
 obtain ⟨b0, bs_⟩ := one_w hl 1125 (by decide)
 obtain ⟨c0, cs__⟩ := one_w hl 1 (by decide)
 have a1 := as_ 0 (by decide)
 have a2 := as_ 1 (by decide)
 have a3 := as_ 2 (by decide)
 have b1 := bs_ 0 (by decide)
 have b2 := bs_ 1 (by decide)
 have b3 := bs_ 2 (by decide)
 have c1 := cs__ 0 (by decide)
 have c2 := cs__ 1 (by decide)
 have c3 := cs__ 2 (by decide)
 clear hh as_ bs_ cs__ hp hl
 refine mk Try.func6 rfl rfl L0 R1 (by decide +kernel) fun A S hA hS => ?_
 have t0 : A.cmp .eql (h 0) 29 = true := by rw [hA, h0]; rfl
 have t31 : A.cmp .eql (h 31) 71 = true := by rw [hA, h31]; rfl
 have te : A.cmp .eql 393216 393216 = true := by rw [hA]; rfl
 have e1 : A.eqs [(.s .u64 (lim 1125 0), .i .u64 1125), (.s .u64 (lim 1125 1), .i .u64 0), (.s .u64 (lim 1125 2), .i .u64 0), (.s .u64 (lim 1125 3), .i .u64 0)] = true := by rw [hA, b0, b1, b2, b3]; rfl
 have e2 : A.eqs [(.s .u64 (lim 1 0), .i .u64 1), (.s .u64 (lim 1 1), .i .u64 0), (.s .u64 (lim 1 2), .i .u64 0), (.s .u64 (lim 1 3), .i .u64 0)] = true := by rw [hA, c0, c1, c2, c3]; rfl
 unfold bodyOf Try.f6
 cbv
 refine aG hS cf_ ?_ ?_
 . cbv
   repeat' (first | exact a0.symm | exact a1.symm | exact a2.symm | exact a3.symm | exact rfl | exact trivial | constructor)
 cbv
 refine aG hS cp ?_ ?_
 . cbv
 cbv
 repeat ((first | refine ABr.t (by first | assumption | rfl) ?_ | refine ABr.f (by first | assumption | rfl) ?_ | refine aF hS cn ?_ | refine aF hS ce ?_); cbv)
 try exact te
theorem dearerS {lim : Lim} (hl : lim = limR) (a b : Nat) (ha : a < 18446744073709551616) (hb : b < 18446744073709551616) : Sp 3 [.s .u64 (a : Int), .s .u64 (b : Int)] (.sb true) := by
 have cw := hawakeS
 obtain ⟨x, hx⟩ : ∃ x, x = min (a % 134217729) (b % 134217729) := ⟨_, rfl⟩
 obtain ⟨y, hy⟩ : ∃ y, y = max (a % 134217729) (b % 134217729) := ⟨_, rfl⟩
 have hxy : x ≤ y := by omega
 have hy2 : y ≤ 134217728 := by omega
 have c1 := bpriceS hl x (by omega)
 have c2 := bpriceS hl y hy2
 have p256 := bprice_256 (e := x) (by omega)
 have cc := rCmpS hl (bprice x) (bprice y) p256 (bprice_256 hy2)
 have hp := bprice_pos x
 have hm := bprice_mono hxy
 have fin := fun (A : Ar) (hA : A = Ar.real) => show A.cmp .leq (cmpZ (bprice x) (bprice y)) 0 = true by
   rw [hA]; unfold cmpZ
   by_cases h : bprice x < bprice y
   . rw [if_pos h]; rfl
   . rw [if_neg h, if_neg (by omega)]; rfl
 have ez := fun (A : Ar) (hA : A = Ar.real) => congrArg A.not ((zeq4 hA hl (x := bprice x) p256).trans (decide_eq_false (by omega)))
 generalize cmpZ (bprice x) (bprice y) = z at *
 generalize bprice x = bx at *
 generalize bprice y = by_ at *
 have ea := fun (A : Ar) (hA : A = Ar.real) => show A.bin .rem .u64 (a : Int) 134217729 = ((a % 134217729 : Nat) : Int) by rw [hA]; exact rem_u (y := 134217729)
 have eb := fun (A : Ar) (hA : A = Ar.real) => show A.bin .rem .u64 (b : Int) 134217729 = ((b % 134217729 : Nat) : Int) by rw [hA]; exact rem_u (y := 134217729)
 by_cases h : b % 134217729 < a % 134217729
 . obtain rfl : x = b % 134217729 := by omega
   obtain rfl : y = a % 134217729 := by omega
   clear hx hy hxy hy2 hm hp p256
   refine mk Try.func3 rfl rfl L0 R1 (by decide +kernel) fun A S hA hS => ?_
   have ea := ea A hA
   have eb := eb A hA
   have fin := fin A hA
   have ez := ez A hA
   rw [not_ff hA] at ez
   have nt := not_tt hA
   have g : A.cmp .gtr (A.bin .rem .u64 (a : Int) 134217729) (A.bin .rem .u64 (b : Int) 134217729) = true := by rw [ea, eb, b_gt hA]; exact decide_eq_true h
   generalize a % 134217729 = am at *
   generalize b % 134217729 = bm at *
   clear h
   unfold bodyOf Try.f3
   cbv
   repeat ((first | refine ABr.t (by first | assumption | rfl) ?_ | refine ABr.f (by first | assumption | rfl) ?_ | refine aF hS cw ?_); cbv)
   refine aG hS c1 ?_ ?_
   . cbv
     exact eb
   cbv
   refine aG hS c2 ?_ ?_
   . cbv
     exact ea
   cbv
   repeat ((first | refine ABr.t (by first | assumption | rfl) ?_ | refine ABr.f (by first | assumption | rfl) ?_ | refine aF hS cc ?_); cbv)
   exact fin
 . obtain rfl : x = a % 134217729 := by omega
   obtain rfl : y = b % 134217729 := by omega
   clear hx hy hxy hy2 hm hp p256
   refine mk Try.func3 rfl rfl L0 R1 (by decide +kernel) fun A S hA hS => ?_
   have ea := ea A hA
   have eb := eb A hA
   have fin := fin A hA
   have ez := ez A hA
   rw [not_ff hA] at ez
   have nt := not_tt hA
   have g : A.cmp .gtr (A.bin .rem .u64 (a : Int) 134217729) (A.bin .rem .u64 (b : Int) 134217729) = false := by rw [ea, eb, b_gt hA]; exact decide_eq_false h
   generalize a % 134217729 = am at *
   generalize b % 134217729 = bm at *
   clear h
   unfold bodyOf Try.f3
   cbv
   repeat ((first | refine ABr.t (by first | assumption | rfl) ?_ | refine ABr.f (by first | assumption | rfl) ?_ | refine aF hS cw ?_); cbv)
   refine aG hS c1 ?_ ?_
   . cbv
     exact ea
   cbv
   refine aG hS c2 ?_ ?_
   . cbv
     exact eb
   cbv
   repeat ((first | refine ABr.t (by first | assumption | rfl) ?_ | refine ABr.f (by first | assumption | rfl) ?_ | refine aF hS cc ?_); cbv)
   exact fin
theorem lw_dearer {H : H5} (hH : H = H5.real) (a b : Nat) (ha : a < 18446744073709551616) (hb : b < 18446744073709551616) : Sp 3 [.s .u64 (a : Int), .s .u64 (b : Int)] (.sb true) := dearerS (H5.hlim hH) a b ha hb
end Go.Proofs.Ytkhipnhdbaahcaa
