import Derived.Test.YtkhipnhdbaahcaaQCKF64
import Derived.Test.YtkhipnhdbaahcaaQCKG
import Derived.Test.YtkhipnhdbaahcaaQCC
import Derived.Test.YtkhipnhdbaahcaaQCWG
import Derived.Test.YtkhipnhdbaahcaaQCKC
set_option linter.unusedVariables false
set_option linter.unusedSimpArgs false
set_option linter.unusedSectionVars false
set_option maxRecDepth 100000
set_option exponentiation.threshold 2000
set_option maxHeartbeats 8000000
section
namespace Go.Proofs.Ytkhipnhdbaahcaa
open Go Eng
theorem keccak1S (f w H : Nat → Int) (hf : ∀ j, 0 ≤ f j ∧ f j < 256) (tn rc : Nat → Int) (S : Nat → Nat → Int)
   (hp : Sp 91 [.ref (rounds tn rc) 0, .agg (lanes (S 0))] (.agg (lanes (S 24)))) (hrc : 1 = rc 0 ∧ 32898 = rc 1 ∧ 9223372036854808714 = rc 2 ∧ 9223372039002292224 = rc 3 ∧ 32907 = rc 4 ∧ 2147483649 = rc 5 ∧ 9223372039002292353 = rc 6 ∧ 9223372036854808585 = rc 7 ∧ 138 = rc 8 ∧ 136 = rc 9 ∧ 2147516425 = rc 10 ∧ 2147483658 = rc 11 ∧ 2147516555 = rc 12 ∧ 9223372036854775947 = rc 13 ∧ 9223372036854808713 = rc 14 ∧ 9223372036854808579 = rc 15 ∧ 9223372036854808578 = rc 16 ∧ 9223372036854775936 = rc 17 ∧ 32778 = rc 18 ∧ 9223372039002259466 = rc 19 ∧ 9223372039002292353 = rc 20 ∧ 9223372036854808704 = rc 21 ∧ 2147483649 = rc 22 ∧ 9223372039002292232 = rc 23) (htn : 0 = tn 0 ∧ 1 = tn 1 ∧ 62 = tn 2 ∧ 28 = tn 3 ∧ 27 = tn 4 ∧ 36 = tn 5 ∧ 44 = tn 6 ∧ 6 = tn 7 ∧ 55 = tn 8 ∧ 20 = tn 9 ∧ 3 = tn 10 ∧ 10 = tn 11 ∧ 43 = tn 12 ∧ 25 = tn 13 ∧ 39 = tn 14 ∧ 41 = tn 15 ∧ 45 = tn 16 ∧ 15 = tn 17 ∧ 21 = tn 18 ∧ 8 = tn 19 ∧ 18 = tn 20 ∧ 2 = tn 21 ∧ 61 = tn 22 ∧ 56 = tn 23 ∧ 14 = tn 24)
   (hw : w 0 = (((((((0) * 256 + 0) * 256 + 0) * 256 + 0) * 256 + 0) * 256 + 0) * 256 + 1) * 256 + (f 0) ∧ w 1 = (((((((0) * 256 + 0) * 256 + 0) * 256 + 0) * 256 + 0) * 256 + 0) * 256 + 0) * 256 + 0 ∧ w 2 = (((((((0) * 256 + 0) * 256 + 0) * 256 + 0) * 256 + 0) * 256 + 0) * 256 + 0) * 256 + 0 ∧ w 3 = (((((((0) * 256 + 0) * 256 + 0) * 256 + 0) * 256 + 0) * 256 + 0) * 256 + 0) * 256 + 0 ∧ w 4 = (((((((0) * 256 + 0) * 256 + 0) * 256 + 0) * 256 + 0) * 256 + 0) * 256 + 0) * 256 + 0 ∧ w 5 = (((((((0) * 256 + 0) * 256 + 0) * 256 + 0) * 256 + 0) * 256 + 0) * 256 + 0) * 256 + 0 ∧ w 6 = (((((((0) * 256 + 0) * 256 + 0) * 256 + 0) * 256 + 0) * 256 + 0) * 256 + 0) * 256 + 0 ∧ w 7 = (((((((0) * 256 + 0) * 256 + 0) * 256 + 0) * 256 + 0) * 256 + 0) * 256 + 0) * 256 + 0 ∧ w 8 = (((((((0) * 256 + 0) * 256 + 0) * 256 + 0) * 256 + 0) * 256 + 0) * 256 + 0) * 256 + 0 ∧ w 9 = (((((((0) * 256 + 0) * 256 + 0) * 256 + 0) * 256 + 0) * 256 + 0) * 256 + 0) * 256 + 0 ∧ w 10 = (((((((0) * 256 + 0) * 256 + 0) * 256 + 0) * 256 + 0) * 256 + 0) * 256 + 0) * 256 + 0 ∧ w 11 = (((((((0) * 256 + 0) * 256 + 0) * 256 + 0) * 256 + 0) * 256 + 0) * 256 + 0) * 256 + 0 ∧ w 12 = (((((((0) * 256 + 0) * 256 + 0) * 256 + 0) * 256 + 0) * 256 + 0) * 256 + 0) * 256 + 0 ∧ w 13 = (((((((0) * 256 + 0) * 256 + 0) * 256 + 0) * 256 + 0) * 256 + 0) * 256 + 0) * 256 + 0 ∧ w 14 = (((((((0) * 256 + 0) * 256 + 0) * 256 + 0) * 256 + 0) * 256 + 0) * 256 + 0) * 256 + 0 ∧ w 15 = (((((((0) * 256 + 0) * 256 + 0) * 256 + 0) * 256 + 0) * 256 + 0) * 256 + 0) * 256 + 0 ∧ w 16 = (((((((128) * 256 + 0) * 256 + 0) * 256 + 0) * 256 + 0) * 256 + 0) * 256 + 0) * 256 + 0)
   (hs : (∀ A, A = Ar.real → ∀ i, i < 17 → A.bin .xor .u64 0 (w i) = S 0 i) ∧ (∀ i, i < 8 → 0 = S 0 (17 + i)))
   (hh : ∀ i, i < 4 → ∀ j, j < 8 → Ar.real.wrap .u8 (Ar.real.bin .shr .u64 (S 24 i) ((8 * j : Nat) : Int)) = H (8 * i + j)) :
   Sp 55 [.lst false 1 [.s .u8 (f 0)]] (.agg [.s .u8 (H 0), .s .u8 (H 1), .s .u8 (H 2), .s .u8 (H 3), .s .u8 (H 4), .s .u8 (H 5), .s .u8 (H 6), .s .u8 (H 7), .s .u8 (H 8), .s .u8 (H 9), .s .u8 (H 10), .s .u8 (H 11), .s .u8 (H 12), .s .u8 (H 13), .s .u8 (H 14), .s .u8 (H 15), .s .u8 (H 16), .s .u8 (H 17), .s .u8 (H 18), .s .u8 (H 19), .s .u8 (H 20), .s .u8 (H 21), .s .u8 (H 22), .s .u8 (H 23), .s .u8 (H 24), .s .u8 (H 25), .s .u8 (H 26), .s .u8 (H 27), .s .u8 (H 28), .s .u8 (H 29), .s .u8 (H 30), .s .u8 (H 31)]) := by
 obtain ⟨hw0, hw1, hw2, hw3, hw4, hw5, hw6, hw7, hw8, hw9, hw10, hw11, hw12, hw13, hw14, hw15, hw16⟩ := hw
 obtain ⟨hrc0, hrc1, hrc2, hrc3, hrc4, hrc5, hrc6, hrc7, hrc8, hrc9, hrc10, hrc11, hrc12, hrc13, hrc14, hrc15, hrc16, hrc17, hrc18, hrc19, hrc20, hrc21, hrc22, hrc23⟩ := hrc
 obtain ⟨htn0, htn1, htn2, htn3, htn4, htn5, htn6, htn7, htn8, htn9, htn10, htn11, htn12, htn13, htn14, htn15, htn16, htn17, htn18, htn19, htn20, htn21, htn22, htn23, htn24⟩ := htn
 have cw0 := wordS 128 (f 0) 1 0 0 0 0 0 0 (w 0) (hf 0) (by decide) (by decide) (by decide) (by decide) (by decide) (by decide) (by decide) hw0
 have cw1 := wordS 120 0 0 0 0 0 0 0 0 (w 1) (by decide) (by decide) (by decide) (by decide) (by decide) (by decide) (by decide) (by decide) hw1
 have cw2 := wordS 112 0 0 0 0 0 0 0 0 (w 2) (by decide) (by decide) (by decide) (by decide) (by decide) (by decide) (by decide) (by decide) hw2
 have cw3 := wordS 104 0 0 0 0 0 0 0 0 (w 3) (by decide) (by decide) (by decide) (by decide) (by decide) (by decide) (by decide) (by decide) hw3
 have cw4 := wordS 96 0 0 0 0 0 0 0 0 (w 4) (by decide) (by decide) (by decide) (by decide) (by decide) (by decide) (by decide) (by decide) hw4
 have cw5 := wordS 88 0 0 0 0 0 0 0 0 (w 5) (by decide) (by decide) (by decide) (by decide) (by decide) (by decide) (by decide) (by decide) hw5
 have cw6 := wordS 80 0 0 0 0 0 0 0 0 (w 6) (by decide) (by decide) (by decide) (by decide) (by decide) (by decide) (by decide) (by decide) hw6
 have cw7 := wordS 72 0 0 0 0 0 0 0 0 (w 7) (by decide) (by decide) (by decide) (by decide) (by decide) (by decide) (by decide) (by decide) hw7
 have cw8 := wordS 64 0 0 0 0 0 0 0 0 (w 8) (by decide) (by decide) (by decide) (by decide) (by decide) (by decide) (by decide) (by decide) hw8
 have cw9 := wordS 56 0 0 0 0 0 0 0 0 (w 9) (by decide) (by decide) (by decide) (by decide) (by decide) (by decide) (by decide) (by decide) hw9
 have cw10 := wordS 48 0 0 0 0 0 0 0 0 (w 10) (by decide) (by decide) (by decide) (by decide) (by decide) (by decide) (by decide) (by decide) hw10
 have cw11 := wordS 40 0 0 0 0 0 0 0 0 (w 11) (by decide) (by decide) (by decide) (by decide) (by decide) (by decide) (by decide) (by decide) hw11
 have cw12 := wordS 32 0 0 0 0 0 0 0 0 (w 12) (by decide) (by decide) (by decide) (by decide) (by decide) (by decide) (by decide) (by decide) hw12
 have cw13 := wordS 24 0 0 0 0 0 0 0 0 (w 13) (by decide) (by decide) (by decide) (by decide) (by decide) (by decide) (by decide) (by decide) hw13
 have cw14 := wordS 16 0 0 0 0 0 0 0 0 (w 14) (by decide) (by decide) (by decide) (by decide) (by decide) (by decide) (by decide) (by decide) hw14
 have cw15 := wordS 8 0 0 0 0 0 0 0 0 (w 15) (by decide) (by decide) (by decide) (by decide) (by decide) (by decide) (by decide) (by decide) hw15
 have cw16 := wordS 0 0 0 0 0 0 0 0 128 (w 16) (by decide) (by decide) (by decide) (by decide) (by decide) (by decide) (by decide) (by decide) hw16
 have hz17 : 0 = S 0 17 := hs.2 0 (by decide)
 have hz18 : 0 = S 0 18 := hs.2 1 (by decide)
 have hz19 : 0 = S 0 19 := hs.2 2 (by decide)
 have hz20 : 0 = S 0 20 := hs.2 3 (by decide)
 have hz21 : 0 = S 0 21 := hs.2 4 (by decide)
 have hz22 : 0 = S 0 22 := hs.2 5 (by decide)
 have hz23 : 0 = S 0 23 := hs.2 6 (by decide)
 have hz24 : 0 = S 0 24 := hs.2 7 (by decide)
 have hx := hs.1
 clear hs
 refine mk Try.func55 rfl rfl LN2 RKc (by decide +kernel) fun A S_ hA hS => ?_
 have hx0 := hx A hA 0 (by decide)
 have hx1 := hx A hA 1 (by decide)
 have hx2 := hx A hA 2 (by decide)
 have hx3 := hx A hA 3 (by decide)
 have hx4 := hx A hA 4 (by decide)
 have hx5 := hx A hA 5 (by decide)
 have hx6 := hx A hA 6 (by decide)
 have hx7 := hx A hA 7 (by decide)
 have hx8 := hx A hA 8 (by decide)
 have hx9 := hx A hA 9 (by decide)
 have hx10 := hx A hA 10 (by decide)
 have hx11 := hx A hA 11 (by decide)
 have hx12 := hx A hA 12 (by decide)
 have hx13 := hx A hA 13 (by decide)
 have hx14 := hx A hA 14 (by decide)
 have hx15 := hx A hA 15 (by decide)
 have hx16 := hx A hA 16 (by decide)
 clear hx
 unfold bodyOf Try.f55
 cbv
 refine aF hS offsetsS ?_
 cbv
 refine aF hS constantsS ?_
 cbv
 refine .invG (gcOf hS) (α := Nat) (fun j => ⟨[.any, .any, .own 0 0, .own 1 0, .osl false 2 0 (2 + j) 1, .any, .any, .any, .any, .any, .any, .any, .any, .any, .any, .any, .any, .any, .any, .any, .any, .any, .any, .any, .any, .any, .any, .any, .any, .any, .any, .any, .any, .any, .any, .any, .any, .any, .any, .any, .any, .any, .any, .any, .any, .any, .any, .any, .any, .any, .any, .any, .any, .any, .any, .any, .any, .any, .any, .any, .any, .any, .any, .any, .any, .any, .any, .any, .any, .any, .any, .any, .any], [⟨true, true, [.i .u8 0, .i .u8 0, .i .u8 0, .i .u8 0, .i .u8 0, .i .u8 0, .i .u8 0, .i .u8 0, .i .u8 0, .i .u8 0, .i .u8 0, .i .u8 0, .i .u8 0, .i .u8 0, .i .u8 0, .i .u8 0, .i .u8 0, .i .u8 0, .i .u8 0, .i .u8 0, .i .u8 0, .i .u8 0, .i .u8 0, .i .u8 0, .i .u8 0, .i .u8 0, .i .u8 0, .i .u8 0, .i .u8 0, .i .u8 0, .i .u8 0, .i .u8 0]⟩, ⟨true, true, [.i .i64 0, .i .i64 1, .i .i64 62, .i .i64 28, .i .i64 27, .i .i64 36, .i .i64 44, .i .i64 6, .i .i64 55, .i .i64 20, .i .i64 3, .i .i64 10, .i .i64 43, .i .i64 25, .i .i64 39, .i .i64 41, .i .i64 45, .i .i64 15, .i .i64 21, .i .i64 8, .i .i64 18, .i .i64 2, .i .i64 61, .i .i64 56, .i .i64 14, .i .u64 1, .i .u64 32898, .i .u64 9223372036854808714, .i .u64 9223372039002292224, .i .u64 32907, .i .u64 2147483649, .i .u64 9223372039002292353, .i .u64 9223372036854808585, .i .u64 138, .i .u64 136, .i .u64 2147516425, .i .u64 2147483658, .i .u64 2147516555, .i .u64 9223372036854775947, .i .u64 9223372036854808713, .i .u64 9223372036854808579, .i .u64 9223372036854808578, .i .u64 9223372036854775936, .i .u64 32778, .i .u64 9223372039002259466, .i .u64 9223372039002292353, .i .u64 9223372036854808704, .i .u64 2147483649, .i .u64 9223372039002292232]⟩, ⟨true, true, app [.s .u8 (f 0), .i .u8 1] (zrow j)⟩]⟩) (fun j => j ≤ 134) (fun j => 134 - j) 0 [0, 1, 5] ?_ (Nat.zero_le _) ?_
 . cbv
   repeat' (first | exact rfl | exact trivial | constructor)
 intro j hj
 by_cases h : j = 134
 . subst h
   clear hj
   cbv
   refine .invG (gcOf hS) (α := Nat) (fun q => ⟨[.any, .any, .own 0 0, .own 1 0, .osl false 2 (136 * q) (136 - 136 * q) 1, .own 3 0, .any, .any, .any, .any, .any, .any, .any, .any, .any, .any, .any, .any, .any, .any, .any, .any, .any, .any, .any, .any, .any, .any, .any, .any, .any, .any, .any, .any, .any, .any, .any, .any, .any, .any, .any, .any, .any, .any, .any, .any, .any, .any, .any, .any, .any, .any, .any, .any, .any, .any, .any, .any, .any, .any, .any, .any, .any, .any, .any, .any, .any, .any, .any, .any, .any, .any, .any], [⟨true, true, [.i .u8 0, .i .u8 0, .i .u8 0, .i .u8 0, .i .u8 0, .i .u8 0, .i .u8 0, .i .u8 0, .i .u8 0, .i .u8 0, .i .u8 0, .i .u8 0, .i .u8 0, .i .u8 0, .i .u8 0, .i .u8 0, .i .u8 0, .i .u8 0, .i .u8 0, .i .u8 0, .i .u8 0, .i .u8 0, .i .u8 0, .i .u8 0, .i .u8 0, .i .u8 0, .i .u8 0, .i .u8 0, .i .u8 0, .i .u8 0, .i .u8 0, .i .u8 0]⟩, ⟨true, true, [.i .i64 0, .i .i64 1, .i .i64 62, .i .i64 28, .i .i64 27, .i .i64 36, .i .i64 44, .i .i64 6, .i .i64 55, .i .i64 20, .i .i64 3, .i .i64 10, .i .i64 43, .i .i64 25, .i .i64 39, .i .i64 41, .i .i64 45, .i .i64 15, .i .i64 21, .i .i64 8, .i .i64 18, .i .i64 2, .i .i64 61, .i .i64 56, .i .i64 14, .i .u64 1, .i .u64 32898, .i .u64 9223372036854808714, .i .u64 9223372039002292224, .i .u64 32907, .i .u64 2147483649, .i .u64 9223372039002292353, .i .u64 9223372036854808585, .i .u64 138, .i .u64 136, .i .u64 2147516425, .i .u64 2147483658, .i .u64 2147516555, .i .u64 9223372036854775947, .i .u64 9223372036854808713, .i .u64 9223372036854808579, .i .u64 9223372036854808578, .i .u64 9223372036854775936, .i .u64 32778, .i .u64 9223372039002259466, .i .u64 9223372039002292353, .i .u64 9223372036854808704, .i .u64 2147483649, .i .u64 9223372039002292232]⟩, ⟨true, true, [.s .u8 (f 0), .i .u8 1, .i .u8 0, .i .u8 0, .i .u8 0, .i .u8 0, .i .u8 0, .i .u8 0, .i .u8 0, .i .u8 0, .i .u8 0, .i .u8 0, .i .u8 0, .i .u8 0, .i .u8 0, .i .u8 0, .i .u8 0, .i .u8 0, .i .u8 0, .i .u8 0, .i .u8 0, .i .u8 0, .i .u8 0, .i .u8 0, .i .u8 0, .i .u8 0, .i .u8 0, .i .u8 0, .i .u8 0, .i .u8 0, .i .u8 0, .i .u8 0, .i .u8 0, .i .u8 0, .i .u8 0, .i .u8 0, .i .u8 0, .i .u8 0, .i .u8 0, .i .u8 0, .i .u8 0, .i .u8 0, .i .u8 0, .i .u8 0, .i .u8 0, .i .u8 0, .i .u8 0, .i .u8 0, .i .u8 0, .i .u8 0, .i .u8 0, .i .u8 0, .i .u8 0, .i .u8 0, .i .u8 0, .i .u8 0, .i .u8 0, .i .u8 0, .i .u8 0, .i .u8 0, .i .u8 0, .i .u8 0, .i .u8 0, .i .u8 0, .i .u8 0, .i .u8 0, .i .u8 0, .i .u8 0, .i .u8 0, .i .u8 0, .i .u8 0, .i .u8 0, .i .u8 0, .i .u8 0, .i .u8 0, .i .u8 0, .i .u8 0, .i .u8 0, .i .u8 0, .i .u8 0, .i .u8 0, .i .u8 0, .i .u8 0, .i .u8 0, .i .u8 0, .i .u8 0, .i .u8 0, .i .u8 0, .i .u8 0, .i .u8 0, .i .u8 0, .i .u8 0, .i .u8 0, .i .u8 0, .i .u8 0, .i .u8 0, .i .u8 0, .i .u8 0, .i .u8 0, .i .u8 0, .i .u8 0, .i .u8 0, .i .u8 0, .i .u8 0, .i .u8 0, .i .u8 0, .i .u8 0, .i .u8 0, .i .u8 0, .i .u8 0, .i .u8 0, .i .u8 0, .i .u8 0, .i .u8 0, .i .u8 0, .i .u8 0, .i .u8 0, .i .u8 0, .i .u8 0, .i .u8 0, .i .u8 0, .i .u8 0, .i .u8 0, .i .u8 0, .i .u8 0, .i .u8 0, .i .u8 0, .i .u8 0, .i .u8 0, .i .u8 0, .i .u8 0, .i .u8 0, .i .u8 0, .i .u8 0, .i .u8 0, .i .u8 128]⟩, ⟨true, true, match q with | 0 => [.i .u64 0, .i .u64 0, .i .u64 0, .i .u64 0, .i .u64 0, .i .u64 0, .i .u64 0, .i .u64 0, .i .u64 0, .i .u64 0, .i .u64 0, .i .u64 0, .i .u64 0, .i .u64 0, .i .u64 0, .i .u64 0, .i .u64 0, .i .u64 0, .i .u64 0, .i .u64 0, .i .u64 0, .i .u64 0, .i .u64 0, .i .u64 0, .i .u64 0] | _ + 1 => lanes (S 24)⟩]⟩) (fun q => q ≤ 1) (fun q => 1 - q) 0 [0, 1, 2, 3] ?_ (Nat.zero_le _) ?_
   . cbv
     repeat' (first | exact rfl | exact trivial | constructor)
   intro q hq
   rcases (by omega : q = 0 ∨ q = 1) with rfl | rfl
   . clear hq
     cbv
     refine aG hS cw0 ?_ ?_
     . cbv
       repeat' (first | exact rfl | exact trivial | constructor)
     cbv
     refine aG hS cw1 ?_ ?_
     . cbv
       repeat' (first | exact rfl | exact trivial | constructor)
     cbv
     refine aG hS cw2 ?_ ?_
     . cbv
       repeat' (first | exact rfl | exact trivial | constructor)
     cbv
     refine aG hS cw3 ?_ ?_
     . cbv
       repeat' (first | exact rfl | exact trivial | constructor)
     cbv
     refine aG hS cw4 ?_ ?_
     . cbv
       repeat' (first | exact rfl | exact trivial | constructor)
     cbv
     refine aG hS cw5 ?_ ?_
     . cbv
       repeat' (first | exact rfl | exact trivial | constructor)
     cbv
     refine aG hS cw6 ?_ ?_
     . cbv
       repeat' (first | exact rfl | exact trivial | constructor)
     cbv
     refine aG hS cw7 ?_ ?_
     . cbv
       repeat' (first | exact rfl | exact trivial | constructor)
     cbv
     refine aG hS cw8 ?_ ?_
     . cbv
       repeat' (first | exact rfl | exact trivial | constructor)
     cbv
     refine aG hS cw9 ?_ ?_
     . cbv
       repeat' (first | exact rfl | exact trivial | constructor)
     cbv
     refine aG hS cw10 ?_ ?_
     . cbv
       repeat' (first | exact rfl | exact trivial | constructor)
     cbv
     refine aG hS cw11 ?_ ?_
     . cbv
       repeat' (first | exact rfl | exact trivial | constructor)
     cbv
     refine aG hS cw12 ?_ ?_
     . cbv
       repeat' (first | exact rfl | exact trivial | constructor)
     cbv
     refine aG hS cw13 ?_ ?_
     . cbv
       repeat' (first | exact rfl | exact trivial | constructor)
     cbv
     refine aG hS cw14 ?_ ?_
     . cbv
       repeat' (first | exact rfl | exact trivial | constructor)
     cbv
     refine aG hS cw15 ?_ ?_
     . cbv
       repeat' (first | exact rfl | exact trivial | constructor)
     cbv
     refine aG hS cw16 ?_ ?_
     . cbv
       repeat' (first | exact rfl | exact trivial | constructor)
     cbv
     refine aG hS hp ?_ ?_
     . cbv
       repeat' (first | exact hx0 | exact hx1 | exact hx2 | exact hx3 | exact hx4 | exact hx5 | exact hx6 | exact hx7 | exact hx8 | exact hx9 | exact hx10 | exact hx11 | exact hx12 | exact hx13 | exact hx14 | exact hx15 | exact hx16 | exact hz17 | exact hz18 | exact hz19 | exact hz20 | exact hz21 | exact hz22 | exact hz23 | exact hz24 | exact hrc0 | exact hrc1 | exact hrc2 | exact hrc3 | exact hrc4 | exact hrc5 | exact hrc6 | exact hrc7 | exact hrc8 | exact hrc9 | exact hrc10 | exact hrc11 | exact hrc12 | exact hrc13 | exact hrc14 | exact hrc15 | exact hrc16 | exact hrc17 | exact hrc18 | exact hrc19 | exact hrc20 | exact hrc21 | exact hrc22 | exact hrc23 | exact htn0 | exact htn1 | exact htn2 | exact htn3 | exact htn4 | exact htn5 | exact htn6 | exact htn7 | exact htn8 | exact htn9 | exact htn10 | exact htn11 | exact htn12 | exact htn13 | exact htn14 | exact htn15 | exact htn16 | exact htn17 | exact htn18 | exact htn19 | exact htn20 | exact htn21 | exact htn22 | exact htn23 | exact htn24 | exact rfl | exact trivial | constructor)
     cbv
     refine ⟨1, [0, 1, 2, 3], ?_, by decide, by decide⟩
     cbv
     repeat' (first | exact rfl | exact trivial | constructor)
   . clear hq
     cbv
     refine AMut.mk _ _ (Go.Proofs.Ytkhipnhdbaahcaa.cm hS (layS0 _ _ _ _ (fun j => match j with  | _ => .i .u8 0) _ (fun j => H (0 + j)) (hh 0 (by decide)))) ?_
     cbv
     refine AMut.mk _ _ (Go.Proofs.Ytkhipnhdbaahcaa.cm hS (layS1 _ _ _ _ (fun j => match j with | 0 => .s .u8 (H 0) | 1 => .s .u8 (H 1) | 2 => .s .u8 (H 2) | 3 => .s .u8 (H 3) | 4 => .s .u8 (H 4) | 5 => .s .u8 (H 5) | 6 => .s .u8 (H 6) | 7 => .s .u8 (H 7) | _ => .i .u8 0) _ (fun j => H (8 + j)) (hh 1 (by decide)))) ?_
     cbv
     refine AMut.mk _ _ (Go.Proofs.Ytkhipnhdbaahcaa.cm hS (layS2 _ _ _ _ (fun j => match j with | 0 => .s .u8 (H 0) | 1 => .s .u8 (H 1) | 2 => .s .u8 (H 2) | 3 => .s .u8 (H 3) | 4 => .s .u8 (H 4) | 5 => .s .u8 (H 5) | 6 => .s .u8 (H 6) | 7 => .s .u8 (H 7) | 8 => .s .u8 (H 8) | 9 => .s .u8 (H 9) | 10 => .s .u8 (H 10) | 11 => .s .u8 (H 11) | 12 => .s .u8 (H 12) | 13 => .s .u8 (H 13) | 14 => .s .u8 (H 14) | 15 => .s .u8 (H 15) | _ => .i .u8 0) _ (fun j => H (16 + j)) (hh 2 (by decide)))) ?_
     cbv
     refine AMut.mk _ _ (Go.Proofs.Ytkhipnhdbaahcaa.cm hS (layS3 _ _ _ _ (fun j => match j with | 0 => .s .u8 (H 0) | 1 => .s .u8 (H 1) | 2 => .s .u8 (H 2) | 3 => .s .u8 (H 3) | 4 => .s .u8 (H 4) | 5 => .s .u8 (H 5) | 6 => .s .u8 (H 6) | 7 => .s .u8 (H 7) | 8 => .s .u8 (H 8) | 9 => .s .u8 (H 9) | 10 => .s .u8 (H 10) | 11 => .s .u8 (H 11) | 12 => .s .u8 (H 12) | 13 => .s .u8 (H 13) | 14 => .s .u8 (H 14) | 15 => .s .u8 (H 15) | 16 => .s .u8 (H 16) | 17 => .s .u8 (H 17) | 18 => .s .u8 (H 18) | 19 => .s .u8 (H 19) | 20 => .s .u8 (H 20) | 21 => .s .u8 (H 21) | 22 => .s .u8 (H 22) | 23 => .s .u8 (H 23) | _ => .i .u8 0) _ (fun j => H (24 + j)) (hh 3 (by decide)))) ?_
     cbv
     repeat' (first | exact rfl | exact trivial | constructor)
 . obtain ⟨b, hb⟩ : ∃ b, b = j + 1 := ⟨_, rfl⟩
   have hb1 : b ≤ 134 := by omega
   have hb2 : 134 - b < 134 - j := by omega
   clear cw0 cw1 cw2 cw3 cw4 cw5 cw6 cw7 cw8 cw9 cw10 cw11 cw12 cw13 cw14 cw15 cw16 hw0 hw1 hw2 hw3 hw4 hw5 hw6 hw7 hw8 hw9 hw10 hw11 hw12 hw13 hw14 hw15 hw16 hx0 hx1 hx2 hx3 hx4 hx5 hx6 hx7 hx8 hx9 hx10 hx11 hx12 hx13 hx14 hx15 hx16 hz17 hz18 hz19 hz20 hz21 hz22 hz23 hz24 hrc0 hrc1 hrc2 hrc3 hrc4 hrc5 hrc6 hrc7 hrc8 hrc9 hrc10 hrc11 hrc12 hrc13 hrc14 hrc15 hrc16 hrc17 hrc18 hrc19 hrc20 hrc21 hrc22 hrc23 htn0 htn1 htn2 htn3 htn4 htn5 htn6 htn7 htn8 htn9 htn10 htn11 htn12 htn13 htn14 htn15 htn16 htn17 htn18 htn19 htn20 htn21 htn22 htn23 htn24 hh hp
   rcases (by omega : j = 0 ∨ j = 1 ∨ j = 2 ∨ j = 3 ∨ j = 4 ∨ j = 5 ∨ j = 6 ∨ j = 7 ∨ j = 8 ∨ j = 9 ∨ j = 10 ∨ j = 11 ∨ j = 12 ∨ j = 13 ∨ j = 14 ∨ j = 15 ∨ j = 16 ∨ j = 17 ∨ j = 18 ∨ j = 19 ∨ j = 20 ∨ j = 21 ∨ j = 22 ∨ j = 23 ∨ j = 24 ∨ j = 25 ∨ j = 26 ∨ j = 27 ∨ j = 28 ∨ j = 29 ∨ j = 30 ∨ j = 31 ∨ j = 32 ∨ j = 33 ∨ j = 34 ∨ j = 35 ∨ j = 36 ∨ j = 37 ∨ j = 38 ∨ j = 39 ∨ j = 40 ∨ j = 41 ∨ j = 42 ∨ j = 43 ∨ j = 44 ∨ j = 45 ∨ j = 46 ∨ j = 47 ∨ j = 48 ∨ j = 49 ∨ j = 50 ∨ j = 51 ∨ j = 52 ∨ j = 53 ∨ j = 54 ∨ j = 55 ∨ j = 56 ∨ j = 57 ∨ j = 58 ∨ j = 59 ∨ j = 60 ∨ j = 61 ∨ j = 62 ∨ j = 63 ∨ j = 64 ∨ j = 65 ∨ j = 66 ∨ j = 67 ∨ j = 68 ∨ j = 69 ∨ j = 70 ∨ j = 71 ∨ j = 72 ∨ j = 73 ∨ j = 74 ∨ j = 75 ∨ j = 76 ∨ j = 77 ∨ j = 78 ∨ j = 79 ∨ j = 80 ∨ j = 81 ∨ j = 82 ∨ j = 83 ∨ j = 84 ∨ j = 85 ∨ j = 86 ∨ j = 87 ∨ j = 88 ∨ j = 89 ∨ j = 90 ∨ j = 91 ∨ j = 92 ∨ j = 93 ∨ j = 94 ∨ j = 95 ∨ j = 96 ∨ j = 97 ∨ j = 98 ∨ j = 99 ∨ j = 100 ∨ j = 101 ∨ j = 102 ∨ j = 103 ∨ j = 104 ∨ j = 105 ∨ j = 106 ∨ j = 107 ∨ j = 108 ∨ j = 109 ∨ j = 110 ∨ j = 111 ∨ j = 112 ∨ j = 113 ∨ j = 114 ∨ j = 115 ∨ j = 116 ∨ j = 117 ∨ j = 118 ∨ j = 119 ∨ j = 120 ∨ j = 121 ∨ j = 122 ∨ j = 123 ∨ j = 124 ∨ j = 125 ∨ j = 126 ∨ j = 127 ∨ j = 128 ∨ j = 129 ∨ j = 130 ∨ j = 131 ∨ j = 132 ∨ j = 133) with rfl | rfl | rfl | rfl | rfl | rfl | rfl | rfl | rfl | rfl | rfl | rfl | rfl | rfl | rfl | rfl | rfl | rfl | rfl | rfl | rfl | rfl | rfl | rfl | rfl | rfl | rfl | rfl | rfl | rfl | rfl | rfl | rfl | rfl | rfl | rfl | rfl | rfl | rfl | rfl | rfl | rfl | rfl | rfl | rfl | rfl | rfl | rfl | rfl | rfl | rfl | rfl | rfl | rfl | rfl | rfl | rfl | rfl | rfl | rfl | rfl | rfl | rfl | rfl | rfl | rfl | rfl | rfl | rfl | rfl | rfl | rfl | rfl | rfl | rfl | rfl | rfl | rfl | rfl | rfl | rfl | rfl | rfl | rfl | rfl | rfl | rfl | rfl | rfl | rfl | rfl | rfl | rfl | rfl | rfl | rfl | rfl | rfl | rfl | rfl | rfl | rfl | rfl | rfl | rfl | rfl | rfl | rfl | rfl | rfl | rfl | rfl | rfl | rfl | rfl | rfl | rfl | rfl | rfl | rfl | rfl | rfl | rfl | rfl | rfl | rfl | rfl | rfl | rfl | rfl | rfl | rfl | rfl | rfl
   all_goals
     subst hb
     cbv
     refine ⟨_, [0, 1, 4], ?_, hb1, hb2⟩
     cbv
     repeat' (first | exact rfl | exact trivial | constructor)
end Go.Proofs.Ytkhipnhdbaahcaa
end
section
namespace Go.Proofs.Ytkhipnhdbaahcaa
open Go Eng
open Kk in
theorem keccak1 (f : Nat → Nat) (hf : ∀ j, f j < 256) (F H : Nat → Int) (hF : F = fun j => ((f j : Nat) : Int)) (hH : H = fun j => ((hash f 1 j : Nat) : Int)) :
   Sp 55 [.lst false 1 [.s .u8 (F 0)]] (.agg [.s .u8 (H 0), .s .u8 (H 1), .s .u8 (H 2), .s .u8 (H 3), .s .u8 (H 4), .s .u8 (H 5), .s .u8 (H 6), .s .u8 (H 7), .s .u8 (H 8), .s .u8 (H 9), .s .u8 (H 10), .s .u8 (H 11), .s .u8 (H 12), .s .u8 (H 13), .s .u8 (H 14), .s .u8 (H 15), .s .u8 (H 16), .s .u8 (H 17), .s .u8 (H 18), .s .u8 (H 19), .s .u8 (H 20), .s .u8 (H 21), .s .u8 (H 22), .s .u8 (H 23), .s .u8 (H 24), .s .u8 (H 25), .s .u8 (H 26), .s .u8 (H 27), .s .u8 (H 28), .s .u8 (H 29), .s .u8 (H 30), .s .u8 (H 31)]) := by
 have hl : ∀ p, p < 25 → lane (pad f 1) p < 18446744073709551616 := fun p _ => lane_lt (pad_lt hf 1) p
 refine keccak1S F (fun i => ((lane (pad f 1) i : Nat) : Int)) H (fun j => ?_) tnI rcI (fun i p => ((st (lane (pad f 1)) i p : Nat) : Int)) (perm_of hl) ?_ ?_ ?_ ⟨fun A hA i hi => ?_, fun i hi => ?_⟩ (fun i hi j hj => ?_)
 . rw [hF]; have := hf j; show (0 : Int) ≤ ((f j : Nat) : Int) ∧ ((f j : Nat) : Int) < 256; omega
 . decide +kernel
 . decide +kernel
 . rw [hF]
   refine ⟨?_, ?_, ?_, ?_, ?_, ?_, ?_, ?_, ?_, ?_, ?_, ?_, ?_, ?_, ?_, ?_, ?_⟩
   . show ((lane (pad f 1) 0 : Nat) : Int) = _
     rw [lane_num _ 0 (by decide)]
     simp only [Int.natCast_add, Int.natCast_mul]
     rfl
   . show ((lane (pad f 1) 1 : Nat) : Int) = _
     rw [lane_num _ 1 (by decide)]
     simp only [Int.natCast_add, Int.natCast_mul]
     rfl
   . show ((lane (pad f 1) 2 : Nat) : Int) = _
     rw [lane_num _ 2 (by decide)]
     simp only [Int.natCast_add, Int.natCast_mul]
     rfl
   . show ((lane (pad f 1) 3 : Nat) : Int) = _
     rw [lane_num _ 3 (by decide)]
     simp only [Int.natCast_add, Int.natCast_mul]
     rfl
   . show ((lane (pad f 1) 4 : Nat) : Int) = _
     rw [lane_num _ 4 (by decide)]
     simp only [Int.natCast_add, Int.natCast_mul]
     rfl
   . show ((lane (pad f 1) 5 : Nat) : Int) = _
     rw [lane_num _ 5 (by decide)]
     simp only [Int.natCast_add, Int.natCast_mul]
     rfl
   . show ((lane (pad f 1) 6 : Nat) : Int) = _
     rw [lane_num _ 6 (by decide)]
     simp only [Int.natCast_add, Int.natCast_mul]
     rfl
   . show ((lane (pad f 1) 7 : Nat) : Int) = _
     rw [lane_num _ 7 (by decide)]
     simp only [Int.natCast_add, Int.natCast_mul]
     rfl
   . show ((lane (pad f 1) 8 : Nat) : Int) = _
     rw [lane_num _ 8 (by decide)]
     simp only [Int.natCast_add, Int.natCast_mul]
     rfl
   . show ((lane (pad f 1) 9 : Nat) : Int) = _
     rw [lane_num _ 9 (by decide)]
     simp only [Int.natCast_add, Int.natCast_mul]
     rfl
   . show ((lane (pad f 1) 10 : Nat) : Int) = _
     rw [lane_num _ 10 (by decide)]
     simp only [Int.natCast_add, Int.natCast_mul]
     rfl
   . show ((lane (pad f 1) 11 : Nat) : Int) = _
     rw [lane_num _ 11 (by decide)]
     simp only [Int.natCast_add, Int.natCast_mul]
     rfl
   . show ((lane (pad f 1) 12 : Nat) : Int) = _
     rw [lane_num _ 12 (by decide)]
     simp only [Int.natCast_add, Int.natCast_mul]
     rfl
   . show ((lane (pad f 1) 13 : Nat) : Int) = _
     rw [lane_num _ 13 (by decide)]
     simp only [Int.natCast_add, Int.natCast_mul]
     rfl
   . show ((lane (pad f 1) 14 : Nat) : Int) = _
     rw [lane_num _ 14 (by decide)]
     simp only [Int.natCast_add, Int.natCast_mul]
     rfl
   . show ((lane (pad f 1) 15 : Nat) : Int) = _
     rw [lane_num _ 15 (by decide)]
     simp only [Int.natCast_add, Int.natCast_mul]
     rfl
   . show ((lane (pad f 1) 16 : Nat) : Int) = _
     rw [lane_num _ 16 (by decide)]
     simp only [Int.natCast_add, Int.natCast_mul]
     rfl
 . subst hA
   have := u_xor 0 (lane (pad f 1) i) (by decide) (lane_lt (pad_lt hf 1) i)
   rw [Nat.zero_xor] at this
   exact this
 . show (0 : Int) = ((lane (pad f 1) (17 + i) : Nat) : Int)
   unfold lane
   rw [if_neg (by omega)]; rfl
 . rw [hH]
   show _ = ((hash f 1 (8 * i + j) : Nat) : Int)
   rw [hash_byte f 1 i j hj]
   exact byte_of _ j hj
end Go.Proofs.Ytkhipnhdbaahcaa
end
section
namespace Dg
structure RK (B C : Nat) (x c : Nat → Nat) (L n k : Nat) (s : Nat → Nat) : Prop where
 val : V B s 17 = L + V B (fun j => x (8 + j)) n * C + x (8 + n) * V B c k * B ^ n
 bnd : ∀ j, s j < (1 + 10 * n + 2 * k) * B
theorem RK.step {B C : Nat} {x c : Nat → Nat} {L n k : Nat} {s : Nat → Nat} (hB : 0 < B) (h : RK B C x c L n k s) (hn : n + k + 1 < 17) (hx : x (8 + n) < B) (hc : c k < B) :
   RK B C x c L n (k + 1) (upd (upd s (n + k) (s (n + k) + x (8 + n) * c k % B)) (n + k + 1) (s (n + k + 1) + x (8 + n) * c k / B)) := by
 obtain ⟨p, hp⟩ : ∃ p, p = x (8 + n) * c k := ⟨_, rfl⟩
 have hpd : p / B < B := by
   apply Nat.div_lt_of_lt_mul
   rw [hp]
   exact Nat.mul_lt_mul'' hx hc
 have hpm : p % B < B := Nat.mod_lt _ hB
 have u1 := V_upd (B := B) s (n + k) (s (n + k) + p % B) 17 (by omega)
 have u2 := V_upd (B := B) (upd s (n + k) (s (n + k) + p % B)) (n + k + 1) (s (n + k + 1) + p / B) 17 (by omega)
 rw [upd_ne _ _ _ _ (by omega)] at u2
 rw [← hp]
 refine ⟨?_, fun j => ?_⟩
 . have e1 : x (8 + n) * V B c (k + 1) * B ^ n = x (8 + n) * V B c k * B ^ n + p * B ^ (n + k) := by
     rw [V, hp, Nat.pow_add, Nat.mul_add, Nat.add_mul]
     congr 1
     ac_rfl
   have e2 : p * B ^ (n + k) = p % B * B ^ (n + k) + p / B * B ^ (n + k + 1) := by
     have h := Nat.mod_add_div p B
     have e : p / B * B ^ (n + k + 1) = B * (p / B) * B ^ (n + k) := by rw [Nat.pow_succ]; ac_rfl
     rw [e, ← Nat.add_mul, h]
   have hv := h.val
   rw [e1, e2]
   rw [Nat.add_mul] at u1 u2
   generalize V B (upd (upd s (n + k) (s (n + k) + p % B)) (n + k + 1) (s (n + k + 1) + p / B)) 17 = v2 at *
   generalize V B (upd s (n + k) (s (n + k) + p % B)) 17 = v1 at *
   omega
 . have hb := h.bnd j
   have e : (1 + 10 * n + 2 * (k + 1)) * B = (1 + 10 * n + 2 * k) * B + 2 * B := by
     rw [show 1 + 10 * n + 2 * (k + 1) = (1 + 10 * n + 2 * k) + 2 by omega, Nat.add_mul]
   rw [e]
   by_cases h1 : j = n + k + 1
   . subst h1; rw [upd_eq]; omega
   . rw [upd_ne _ _ _ _ h1]
     by_cases h2 : j = n + k
     . subst h2; rw [upd_eq]; omega
     . rw [upd_ne _ _ _ _ h2]; omega
theorem RK.next {B C : Nat} {x c : Nat → Nat} {L n : Nat} {s : Nat → Nat} (h : RK B C x c L n 5 s) (hC : V B c 5 = C) : RK B C x c L (n + 1) 0 s := by
 refine ⟨?_, fun j => Nat.lt_of_lt_of_le (h.bnd j) (Nat.mul_le_mul_right _ (by omega))⟩
 have hv := h.val
 rw [hC] at hv
 have e : V B c 0 = 0 := rfl
 rw [hv, e, Nat.mul_zero, Nat.zero_mul, Nat.add_zero]
 have e2 : V B (fun j => x (8 + j)) (n + 1) = V B (fun j => x (8 + j)) n + x (8 + n) * B ^ n := rfl
 rw [e2, Nat.add_mul, Nat.add_assoc]
 congr 2
 ac_rfl
theorem RK.skip {B C : Nat} {x c : Nat → Nat} {L n : Nat} {s : Nat → Nat} (h : RK B C x c L n 0 s) (h0 : x (8 + n) = 0) : RK B C x c L (n + 1) 0 s := by
 refine ⟨?_, fun j => Nat.lt_of_lt_of_le (h.bnd j) (Nat.mul_le_mul_right _ (by omega))⟩
 have hv := h.val
 have e2 : V B (fun j => x (8 + j)) (n + 1) = V B (fun j => x (8 + j)) n + x (8 + n) * B ^ n := rfl
 have e3 : V B c 0 = 0 := rfl
 rw [hv, e2, h0, e3]
 simp only [Nat.zero_mul, Nat.mul_zero, Nat.add_zero]
theorem RK.start {B C : Nat} {x c : Nat → Nat} {s : Nat → Nat} (hB : 0 < B) (hx : ∀ j, j < 8 → x j < B) (hs : ∀ j, s j = if j < 8 then x j else 0) : RK B C x c (V B x 8) 0 0 s := by
 refine ⟨?_, fun j => ?_⟩
 . have e : V B (fun j => x (8 + j)) 0 = 0 := rfl
   have e2 : V B c 0 = 0 := rfl
   rw [e, e2]
   simp only [Nat.zero_mul, Nat.mul_zero, Nat.add_zero]
   have : V B s (8 + 9) = V B s 8 + B ^ 8 * V B (fun j => s (8 + j)) 9 := V_shift s 8 9
   rw [this, V_zero (o := fun j => s (8 + j)) (fun j hj => by show s (8 + j) = 0; rw [hs, if_neg (by omega)]), Nat.mul_zero, Nat.add_zero]
   exact V_congr 8 fun j hj => by rw [hs, if_pos hj]
 . rw [hs]
   split
   . have := hx j (by assumption); omega
   . omega
structure CK (B : Nat) (s : Nat → Nat) (n : Nat) (x : Nat → Nat) (c : Nat) : Prop where
 val : V B x n + c * B ^ n = V B s n
 dig : ∀ j, j < n → x j < B
 bnd : c < 200
theorem CK.step {B : Nat} {s : Nat → Nat} {n : Nat} {x : Nat → Nat} {c : Nat} (hB : 1000 < B) (h : CK B s n x c) (hs : s n < 100 * B) : CK B s (n + 1) (upd x n ((s n + c) % B)) ((s n + c) / B) := by
 refine ⟨?_, fun j hj => ?_, ?_⟩
 . show V B (upd x n _) n + upd x n _ n * B ^ n + _ = V B s n + s n * B ^ n
   rw [upd_eq, V_congr (o := upd x n ((s n + c) % B)) (p := x) n (fun m hm => upd_ne _ _ _ _ (by omega))]
   have hv := h.val
   have e := Nat.mod_add_div (s n + c) B
   have e1 : (s n + c) / B * B ^ (n + 1) = B * ((s n + c) / B) * B ^ n := by rw [Nat.pow_succ]; ac_rfl
   rw [e1]
   have e2 := congrArg (· * B ^ n) e
   simp only [Nat.add_mul] at e2
   generalize B * ((s n + c) / B) * B ^ n = u at *
   generalize (s n + c) % B * B ^ n = v at *
   omega
 . by_cases e : j = n
   . subst e; rw [upd_eq]; exact Nat.mod_lt _ (by omega)
   . rw [upd_ne _ _ _ _ e]; exact h.dig j (by omega)
 . apply Nat.div_lt_of_lt_mul
   have := h.bnd
   omega
theorem CK.last {B : Nat} {s x : Nat → Nat} {c : Nat} (h : CK B s 17 x c) (hs : V B s 17 < B ^ 17) (hB : 0 < B) : V B x 17 = V B s 17 := by
 have hv := h.val
 have : c = 0 := by
   rcases Nat.eq_zero_or_pos c with h | h
   . exact h
   . exfalso
     have : 1 * B ^ 17 ≤ c * B ^ 17 := Nat.mul_le_mul_right _ h
     omega
 rw [this, Nat.zero_mul, Nat.add_zero] at hv
 exact hv
end Dg
end
section
namespace Dg
theorem pow_D (i : Nat) : 4294967296 ^ i = 2 ^ (32 * i) := by rw [Nat.pow_mul]
def wdd (a i : Nat) : Nat := a / 2 ^ (64 * i) % 18446744073709551616
theorem wdd_lt (a i : Nat) : wdd a i < 18446744073709551616 := Nat.mod_lt _ (by decide)
theorem wdd_lo (a i : Nat) : wdd a i % 4294967296 = dg 4294967296 a (2 * i) := by
 unfold wdd dg
 rw [pow_D, show 32 * (2 * i) = 64 * i by omega]
 generalize a / 2 ^ (64 * i) = q
 show q % 18446744073709551616 % 4294967296 = q % 4294967296
 omega
theorem wdd_hi (a i : Nat) : wdd a i / 4294967296 = dg 4294967296 a (2 * i + 1) := by
 unfold wdd dg
 rw [pow_D, show 32 * (2 * i + 1) = 64 * i + 32 by omega, Nat.pow_add, ← Nat.div_div_eq_div_mul]
 generalize a / 2 ^ (64 * i) = q
 show q % 18446744073709551616 / 4294967296 = q / 4294967296 % 4294967296
 omega
theorem dg_zero {a n i : Nat} (ha : a < 4294967296 ^ n) (hi : n ≤ i) : dg 4294967296 a i = 0 := by
 unfold dg
 rw [Nat.div_eq_of_lt (Nat.lt_of_lt_of_le ha (Nat.pow_le_pow_right (by decide) hi)), Nat.zero_mod]
theorem V_num {a n : Nat} (ha : a < 4294967296 ^ n) : V 4294967296 (dg 4294967296 a) n = a := by rw [V_dg, Nat.mod_eq_of_lt ha]
structure SK (a b : Nat → Nat) (n : Nat) (x : Nat → Nat) (c : Nat) : Prop where
 val : V 4294967296 x n + c * 4294967296 ^ n = V 4294967296 a n + V 4294967296 b n
 dig : ∀ j, j < n → x j < 4294967296
 bnd : c ≤ 1
theorem SK.step {a b : Nat → Nat} {n : Nat} {x : Nat → Nat} {c : Nat} (h : SK a b n x c) (ha : a n < 4294967296) (hb : b n < 4294967296) : SK a b (n + 1) (upd x n ((a n + b n + c) % 4294967296)) ((a n + b n + c) / 4294967296) := by
 have h1 := h.bnd
 refine ⟨?_, fun j hj => ?_, ?_⟩
 . show V 4294967296 (upd x n _) n + upd x n _ n * 4294967296 ^ n + _ = V 4294967296 a n + a n * 4294967296 ^ n + (V 4294967296 b n + b n * 4294967296 ^ n)
   rw [upd_eq, V_congr (o := upd x n ((a n + b n + c) % 4294967296)) (p := x) n (fun m hm => upd_ne _ _ _ _ (by omega))]
   have hv := h.val
   have e := Nat.mod_add_div (a n + b n + c) 4294967296
   have e1 : (a n + b n + c) / 4294967296 * 4294967296 ^ (n + 1) = 4294967296 * ((a n + b n + c) / 4294967296) * 4294967296 ^ n := by rw [Nat.pow_succ]; ac_rfl
   rw [e1]
   have e2 := congrArg (· * 4294967296 ^ n) e
   simp only [Nat.add_mul] at e2
   generalize 4294967296 * ((a n + b n + c) / 4294967296) * 4294967296 ^ n = u at *
   generalize (a n + b n + c) % 4294967296 * 4294967296 ^ n = v at *
   omega
 . by_cases e : j = n
   . subst e; rw [upd_eq]; exact Nat.mod_lt _ (by decide)
   . rw [upd_ne _ _ _ _ e]; exact h.dig j (by omega)
 . have : (a n + b n + c) / 4294967296 < 2 := Nat.div_lt_of_lt_mul (by omega)
   omega
structure MK (a b : Nat → Nat) (n : Nat) (x : Nat → Nat) (c : Nat) : Prop where
 val : V 4294967296 x n + V 4294967296 b n = V 4294967296 a n + c * 4294967296 ^ n
 dig : ∀ j, j < n → x j < 4294967296
 bnd : c ≤ 1
theorem MK.step {a b : Nat → Nat} {n : Nat} {x : Nat → Nat} {c : Nat} (h : MK a b n x c) (ha : a n < 4294967296) (hb : b n < 4294967296) : MK a b (n + 1) (upd x n ((a n + 4294967296 - b n - c) % 4294967296)) (1 - (a n + 4294967296 - b n - c) / 4294967296) := by
 have h1 := h.bnd
 obtain ⟨t, ht⟩ : ∃ t, t = a n + 4294967296 - b n - c := ⟨_, rfl⟩
 obtain ⟨q, hq⟩ : ∃ q, q = t / 4294967296 := ⟨_, rfl⟩
 have hq1 : q ≤ 1 := by
   have : t / 4294967296 < 2 := Nat.div_lt_of_lt_mul (by omega)
   omega
 rw [← ht, ← hq]
 refine ⟨?_, fun j hj => ?_, by omega⟩
 . show V 4294967296 (upd x n _) n + upd x n _ n * 4294967296 ^ n + (V 4294967296 b n + b n * 4294967296 ^ n) = V 4294967296 a n + a n * 4294967296 ^ n + _
   rw [upd_eq, V_congr (o := upd x n (t % 4294967296)) (p := x) n (fun m hm => upd_ne _ _ _ _ (by omega))]
   have hv := h.val
   have e := Nat.mod_add_div t 4294967296
   rw [← hq] at e
   have e3 : t % 4294967296 + b n + c = a n + (1 - q) * 4294967296 := by
     have : (1 - q) * 4294967296 = 4294967296 - 4294967296 * q := by rw [Nat.sub_mul, Nat.one_mul, Nat.mul_comm]
     omega
   have e2 := congrArg (· * 4294967296 ^ n) e3
   simp only [Nat.add_mul] at e2
   have e4 : (1 - q) * 4294967296 ^ (n + 1) = (1 - q) * 4294967296 * 4294967296 ^ n := by rw [Nat.pow_succ]; ac_rfl
   rw [e4]
   generalize (1 - q) * 4294967296 * 4294967296 ^ n = u at *
   generalize t % 4294967296 * 4294967296 ^ n = v at *
   omega
 . by_cases e : j = n
   . subst e; rw [upd_eq]; exact Nat.mod_lt _ (by decide)
   . rw [upd_ne _ _ _ _ e]; exact h.dig j (by omega)
structure TK (E i k : Nat) (A b : Nat → Nat) (o : Nat → Nat) (c : Nat) : Prop where
 val : V 4294967296 o 17 + c * 4294967296 ^ (i + k) = E + A i * V 4294967296 b k * 4294967296 ^ i
 dig : ∀ j, o j < 4294967296
 top : ∀ j, i + 8 ≤ j → o j = 0
 bnd : c < 4294967296
theorem TK.step {E i k : Nat} {A b o : Nat → Nat} {c : Nat} (h : TK E i k A b o c) (hi : i < 8) (hk : k < 8) (hA : A i < 4294967296) (hb : b k < 4294967296) :
   TK E i (k + 1) A b (upd o (i + k) ((o (i + k) + A i * b k + c) % 4294967296)) ((o (i + k) + A i * b k + c) / 4294967296) := by
 obtain ⟨p, hp⟩ : ∃ p, p = A i * b k := ⟨_, rfl⟩
 have hpp : p ≤ 4294967295 * 4294967295 := by rw [hp]; exact Nat.mul_le_mul (by omega) (by omega)
 have h1 := h.bnd
 have h2 := h.dig (i + k)
 rw [← hp]
 refine ⟨?_, fun j => ?_, fun j hj => ?_, ?_⟩
 . have u := V_upd (B := 4294967296) o (i + k) ((o (i + k) + p + c) % 4294967296) 17 (by omega)
   have hv := h.val
   have e := Nat.mod_add_div (o (i + k) + p + c) 4294967296
   have e1 : (o (i + k) + p + c) / 4294967296 * 4294967296 ^ (i + (k + 1)) = 4294967296 * ((o (i + k) + p + c) / 4294967296) * 4294967296 ^ (i + k) := by rw [← Nat.add_assoc, Nat.pow_succ]; ac_rfl
   have e5 : A i * V 4294967296 b (k + 1) * 4294967296 ^ i = A i * V 4294967296 b k * 4294967296 ^ i + p * 4294967296 ^ (i + k) := by
     rw [V, hp, Nat.pow_add, Nat.mul_add, Nat.add_mul]; congr 1; ac_rfl
   rw [e1, e5]
   have e2 := congrArg (· * 4294967296 ^ (i + k)) e
   simp only [Nat.add_mul] at e2
   generalize 4294967296 * ((o (i + k) + p + c) / 4294967296) * 4294967296 ^ (i + k) = u1 at *
   generalize V 4294967296 (upd o (i + k) ((o (i + k) + p + c) % 4294967296)) 17 = u2 at *
   omega
 . by_cases e : j = i + k
   . subst e; rw [upd_eq]; exact Nat.mod_lt _ (by decide)
   . rw [upd_ne _ _ _ _ e]; exact h.dig j
 . rw [upd_ne _ _ _ _ (by omega)]; exact h.top j hj
 . exact Nat.div_lt_of_lt_mul (by omega)
theorem TK.next {E i : Nat} {A b o : Nat → Nat} {c : Nat} (h : TK E i 8 A b o c) (hi : i < 8) : o (i + 8) + c < 4294967296 ∧ TK (E + A i * V 4294967296 b 8 * 4294967296 ^ i) (i + 1) 0 A b (upd o (i + 8) (o (i + 8) + c)) 0 := by
 have h0 := h.top (i + 8) (Nat.le_refl _)
 have hb := h.bnd
 rw [h0, Nat.zero_add]
 refine ⟨hb, ?_, fun j => ?_, fun j hj => ?_, by decide⟩
 . have u := V_upd (B := 4294967296) o (i + 8) c 17 (by omega)
   rw [h0, Nat.zero_mul, Nat.add_zero] at u
   rw [u, h.val]
   show _ = _ + A (i + 1) * 0 * 4294967296 ^ (i + 1)
   rw [Nat.mul_zero, Nat.zero_mul]
 . by_cases e : j = i + 8
   . subst e; rw [upd_eq]; exact hb
   . rw [upd_ne _ _ _ _ e]; exact h.dig j
 . rw [upd_ne _ _ _ _ (by omega)]; exact h.top j (by omega)
end Dg
end
section
namespace Go.Proofs.Ytkhipnhdbaahcaa
open Go Eng
open Dg
abbrev lg (o : Nat → Nat) : List AVal := [.s .u64 ((o 0 : Nat) : Int), .s .u64 ((o 1 : Nat) : Int), .s .u64 ((o 2 : Nat) : Int), .s .u64 ((o 3 : Nat) : Int), .s .u64 ((o 4 : Nat) : Int), .s .u64 ((o 5 : Nat) : Int), .s .u64 ((o 6 : Nat) : Int), .s .u64 ((o 7 : Nat) : Int), .s .u64 ((o 8 : Nat) : Int), .s .u64 ((o 9 : Nat) : Int), .s .u64 ((o 10 : Nat) : Int), .s .u64 ((o 11 : Nat) : Int), .s .u64 ((o 12 : Nat) : Int), .s .u64 ((o 13 : Nat) : Int), .s .u64 ((o 14 : Nat) : Int), .s .u64 ((o 15 : Nat) : Int), .s .u64 ((o 16 : Nat) : Int)]
theorem lg_get {A : Ar} (hA : A = Ar.real) (o : Nat → Nat) (i : Nat) (hi : i < 17) : lsub (lg o) (A.offs 0 i 1) 1 = some [.s .u64 ((o i : Nat) : Int)] := by
 subst hA
 rcases (by omega : i = 0 ∨ i = 1 ∨ i = 2 ∨ i = 3 ∨ i = 4 ∨ i = 5 ∨ i = 6 ∨ i = 7 ∨ i = 8 ∨ i = 9 ∨ i = 10 ∨ i = 11 ∨ i = 12 ∨ i = 13 ∨ i = 14 ∨ i = 15 ∨ i = 16) with rfl | rfl | rfl | rfl | rfl | rfl | rfl | rfl | rfl | rfl | rfl | rfl | rfl | rfl | rfl | rfl | rfl
 all_goals rfl
theorem lim_wd {lim : Lim} (hl : lim = limR) (a i : Nat) : lim a i = ((wdd a i : Nat) : Int) := by subst hl; rfl
theorem q_rem (x : Nat) : rbin .rem .u64 (x : Int) 4294967296 = ((x % 4294967296 : Nat) : Int) := rem_u (y := 4294967296)
theorem q_quo {x : Nat} (hx : x < 18446744073709551616) : rbin .quo .u64 (x : Int) 4294967296 = ((x / 4294967296 : Nat) : Int) := quo_u (y := 4294967296) hx
theorem fromS {lim : Lim} (hl : lim = limR) (a : Nat) (ha : a < 2 ^ 256) (o : Nat → Nat) (ho : o = dg 4294967296 a) : Sp 27 [u4 lim a] (.agg (lg o)) := by
 have hD8 : a < 4294967296 ^ 8 := by rw [pow_D]; exact ha
 have r0 : rbin .rem .u64 (lim a 0) 4294967296 = ((o 0 : Nat) : Int) := by rw [lim_wd hl, q_rem, ho, wdd_lo]
 have q0 : rbin .quo .u64 (lim a 0) 4294967296 = ((o 1 : Nat) : Int) := by rw [lim_wd hl, q_quo (wdd_lt a 0), ho, wdd_hi]
 have r1 : rbin .rem .u64 (lim a 1) 4294967296 = ((o 2 : Nat) : Int) := by rw [lim_wd hl, q_rem, ho, wdd_lo]
 have q1 : rbin .quo .u64 (lim a 1) 4294967296 = ((o 3 : Nat) : Int) := by rw [lim_wd hl, q_quo (wdd_lt a 1), ho, wdd_hi]
 have r2 : rbin .rem .u64 (lim a 2) 4294967296 = ((o 4 : Nat) : Int) := by rw [lim_wd hl, q_rem, ho, wdd_lo]
 have q2 : rbin .quo .u64 (lim a 2) 4294967296 = ((o 5 : Nat) : Int) := by rw [lim_wd hl, q_quo (wdd_lt a 2), ho, wdd_hi]
 have r3 : rbin .rem .u64 (lim a 3) 4294967296 = ((o 6 : Nat) : Int) := by rw [lim_wd hl, q_rem, ho, wdd_lo]
 have q3 : rbin .quo .u64 (lim a 3) 4294967296 = ((o 7 : Nat) : Int) := by rw [lim_wd hl, q_quo (wdd_lt a 3), ho, wdd_hi]
 have z8 : (0 : Int) = ((o 8 : Nat) : Int) := by rw [ho, dg_zero hD8 (by decide)]; rfl
 have z9 : (0 : Int) = ((o 9 : Nat) : Int) := by rw [ho, dg_zero hD8 (by decide)]; rfl
 have z10 : (0 : Int) = ((o 10 : Nat) : Int) := by rw [ho, dg_zero hD8 (by decide)]; rfl
 have z11 : (0 : Int) = ((o 11 : Nat) : Int) := by rw [ho, dg_zero hD8 (by decide)]; rfl
 have z12 : (0 : Int) = ((o 12 : Nat) : Int) := by rw [ho, dg_zero hD8 (by decide)]; rfl
 have z13 : (0 : Int) = ((o 13 : Nat) : Int) := by rw [ho, dg_zero hD8 (by decide)]; rfl
 have z14 : (0 : Int) = ((o 14 : Nat) : Int) := by rw [ho, dg_zero hD8 (by decide)]; rfl
 have z15 : (0 : Int) = ((o 15 : Nat) : Int) := by rw [ho, dg_zero hD8 (by decide)]; rfl
 have z16 : (0 : Int) = ((o 16 : Nat) : Int) := by rw [ho, dg_zero hD8 (by decide)]; rfl
 clear ho
 refine mk Try.func27 rfl rfl L0 R0 (by decide +kernel) fun A S hA hS => ?_
 have r0 : A.bin .rem .u64 (lim a 0) 4294967296 = ((o 0 : Nat) : Int) := by rw [hA]; exact r0
 have q0 : A.bin .quo .u64 (lim a 0) 4294967296 = ((o 1 : Nat) : Int) := by rw [hA]; exact q0
 have r1 : A.bin .rem .u64 (lim a 1) 4294967296 = ((o 2 : Nat) : Int) := by rw [hA]; exact r1
 have q1 : A.bin .quo .u64 (lim a 1) 4294967296 = ((o 3 : Nat) : Int) := by rw [hA]; exact q1
 have r2 : A.bin .rem .u64 (lim a 2) 4294967296 = ((o 4 : Nat) : Int) := by rw [hA]; exact r2
 have q2 : A.bin .quo .u64 (lim a 2) 4294967296 = ((o 5 : Nat) : Int) := by rw [hA]; exact q2
 have r3 : A.bin .rem .u64 (lim a 3) 4294967296 = ((o 6 : Nat) : Int) := by rw [hA]; exact r3
 have q3 : A.bin .quo .u64 (lim a 3) 4294967296 = ((o 7 : Nat) : Int) := by rw [hA]; exact q3
 unfold bodyOf Try.f27
 cbv
 repeat' (first | exact r0 | exact r1 | exact r2 | exact r3 | exact q0 | exact q1 | exact q2 | exact q3 | exact z8 | exact z9 | exact z10 | exact z11 | exact z12 | exact z13 | exact z14 | exact z15 | exact z16 | exact trivial | exact rfl | constructor)
theorem orderS (a b : Nat → Nat) (ha : ∀ j, j < 17 → a j < 4294967296) (hb : ∀ j, j < 17 → b j < 4294967296) (z : Int) (hz : z = cmpZ (V 4294967296 a 17) (V 4294967296 b 17)) : Sp 26 [.agg (lg a), .agg (lg b)] (.s .i64 z) := by
 refine mk Try.func26 rfl rfl L00 R1 (by decide +kernel) fun A S hA hS => ?_
 unfold bodyOf Try.f26
 cbv
 refine .inv (α := Nat × Int) (fun p => ⟨[.any, .any, .own 0 0, .own 1 0, .i .i64 0, .s .i64 p.2, .any, .any, .any, .any, .any, .any, .any, .any, .any, .any, .any, .any, .any, .any, .any, .any, .any, .any], [⟨true, true, lg a⟩, ⟨true, true, lg b⟩]⟩) (fun p => p.1 ≤ 17 ∧ p.2 = (p.1 : Int) - 1 ∧ ∀ j, p.1 ≤ j → j < 17 → a j = b j) (fun p => p.1) (17, 16) ?_ ⟨Nat.le_refl _, rfl, fun j h1 h2 => absurd h1 (by omega)⟩ ?_
 . cbv
   repeat' (first | exact rfl | exact trivial | constructor)
 rintro ⟨k, q⟩ ⟨h1, h2, h3⟩
 dsimp only at h1 h2 h3 ⊢
 by_cases hk : k = 0
 . subst hk
   have hge : A.cmp .geq q 0 = false := (i_ge hA).trans (decide_eq_false (by omega))
   have hz0 : (0 : Int) = z := by
     rw [hz, V_congr (B := 4294967296) (o := a) (p := b) 17 (fun j hj => h3 j (Nat.zero_le _) hj)]
     unfold cmpZ
     rw [if_neg (Nat.lt_irrefl _), if_neg (Nat.lt_irrefl _)]
   cbv
   refine ABr.f hge ?_
   cbv
   exact hz0
 . obtain ⟨i, rfl⟩ : ∃ i, k = i + 1 := ⟨k - 1, by omega⟩
   obtain rfl : q = (i : Int) := by omega
   have hge : A.cmp .geq (i : Int) 0 = true := (i_ge hA).trans (decide_eq_true (by omega))
   have hi : i < 17 := by omega
   have la := lg_get hA a i hi
   have lb := lg_get hA b i hi
   by_cases c1 : a i < b i
   . have e1 : A.cmp .lss ((a i : Nat) : Int) ((b i : Nat) : Int) = true := (i_lt hA).trans (decide_eq_true (by omega))
     have hlt := V_cmp_lt (B := 4294967296) ha hb hi (fun j h h' => h3 j (by omega) h') c1
     have hz1 : (-1 : Int) = z := by rw [hz]; unfold cmpZ; rw [if_pos hlt]
     clear hlt hz h3 h2
     cbv
     refine ABr.t hge ?_
     cbv
     refine .sym i rfl hi ?_
     cbv
     refine .mk _ la ?_
     cbv
     refine .sym i rfl hi ?_
     cbv
     refine .mk _ lb ?_
     cbv
     refine ABr.t e1 ?_
     cbv
     exact hz1
   . have e1 : A.cmp .lss ((a i : Nat) : Int) ((b i : Nat) : Int) = false := (i_lt hA).trans (decide_eq_false (by omega))
     by_cases c2 : b i < a i
     . have e2 : A.cmp .gtr ((a i : Nat) : Int) ((b i : Nat) : Int) = true := by rw [hA]; exact decide_eq_true (by omega)
       have hlt := V_cmp_lt (B := 4294967296) hb ha hi (fun j h h' => (h3 j (by omega) h').symm) c2
       have hz1 : (1 : Int) = z := by rw [hz]; unfold cmpZ; rw [if_neg (by omega), if_pos hlt]
       clear hlt hz h3 h2
       cbv
       refine ABr.t hge ?_
       cbv
       refine .sym i rfl hi ?_
       cbv
       refine .mk _ la ?_
       cbv
       refine .sym i rfl hi ?_
       cbv
       refine .mk _ lb ?_
       cbv
       refine ABr.f e1 ?_
       cbv
       refine .sym i rfl hi ?_
       cbv
       refine .mk _ la ?_
       cbv
       refine .sym i rfl hi ?_
       cbv
       refine .mk _ lb ?_
       cbv
       refine ABr.t e2 ?_
       cbv
       exact hz1
     . have e2 : A.cmp .gtr ((a i : Nat) : Int) ((b i : Nat) : Int) = false := by rw [hA]; exact decide_eq_false (by omega)
       have h4 : ∀ j, i ≤ j → j < 17 → a j = b j := fun j h h' => by
         by_cases e : j = i
         . subst e; omega
         . exact h3 j (by omega) h'
       obtain ⟨y, hy⟩ : ∃ y : Int, y = (i : Int) - 1 := ⟨_, rfl⟩
       have hsub : A.bin .sub .i64 ((i : Nat) : Int) 1 = y := e_sub hA rfl rfl hy.symm (by omega)
       have p1 : i ≤ 17 := by omega
       have p2 : i < i + 1 := by omega
       clear hz h3 h2
       cbv
       refine ABr.t hge ?_
       cbv
       refine .sym i rfl hi ?_
       cbv
       refine .mk _ la ?_
       cbv
       refine .sym i rfl hi ?_
       cbv
       refine .mk _ lb ?_
       cbv
       refine ABr.f e1 ?_
       cbv
       refine .sym i rfl hi ?_
       cbv
       refine .mk _ la ?_
       cbv
       refine .sym i rfl hi ?_
       cbv
       refine .mk _ lb ?_
       cbv
       refine ABr.f e2 ?_
       cbv
       refine ⟨(i, y), ?_, ⟨p1, hy, h4⟩, p2⟩
       cbv
       repeat' (first | exact hsub | exact rfl | exact trivial | constructor)
theorem num8 {a : Nat} (ha : a < 2 ^ 256) : V 4294967296 (dg 4294967296 a) 17 = a := by
 have : a < 4294967296 ^ 17 := Nat.lt_of_lt_of_le ha (by rw [pow_D]; exact Nat.pow_le_pow_right (by decide) (by decide))
 exact V_num this
theorem rCmpS {lim : Lim} (hl : lim = limR) (x y : Nat) (hx : x < 2 ^ 256) (hy : y < 2 ^ 256) : Sp 8 [u4 lim x, u4 lim y] (.s .i64 (cmpZ x y)) := by
 have fx := fromS hl x hx _ rfl
 have fy := fromS hl y hy _ rfl
 have co := orderS (dg 4294967296 x) (dg 4294967296 y) (fun j _ => dg_lt (by decide) x j) (fun j _ => dg_lt (by decide) y j) (cmpZ x y) (by rw [num8 hx, num8 hy])
 generalize dg 4294967296 x = a at *
 generalize dg 4294967296 y = b at *
 generalize cmpZ x y = z at *
 refine mk Try.func8 rfl rfl L0 R1 (by decide +kernel) fun A S hA hS => ?_
 unfold bodyOf Try.f8
 cbv
 refine aF hS fx ?_
 cbv
 refine aF hS fy ?_
 cbv
 refine aF hS co ?_
 cbv
end Go.Proofs.Ytkhipnhdbaahcaa
end
