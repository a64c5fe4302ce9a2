import Derived.Test.YtkhipnhdbaahcaaGreatQBKB
import Derived.Test.YtkhipnhdbaahcaaGreatQBKD
section
set_option linter.unusedVariables false
set_option linter.unusedSimpArgs false
namespace Go.Proofs.YtkhipnhdbaahcaaGreat
open Go Eng
set_option maxRecDepth 100000
set_option exponentiation.threshold 2000
set_option maxHeartbeats 4000000
def LC : Nat → Nat := fun _ => 20
def conReg : List Int := [13, 26, 52, 104, 208, 209, 211, 215, 223, 207, 239, 175, 47, 94, 188, 9, 18, 36, 72, 144, 81, 162, 53, 106, 212, 217, 195, 247, 159, 79, 158, 77, 154, 69, 138, 101, 202, 229, 187, 7, 14, 28, 56, 112, 224, 177, 19, 38, 76, 152, 65, 130, 117, 234, 165, 59, 118, 236, 169, 35, 70, 140, 105, 210, 213, 219, 199, 255, 143, 111, 222, 205, 235, 167, 63, 126, 252, 137, 99, 198, 253, 139, 103, 206, 237, 171, 39, 78, 156, 73, 146, 85, 170, 37, 74, 148, 89, 178, 21, 42, 84, 168, 33, 66, 132, 121, 242, 149, 91, 182, 29, 58, 116, 232, 161, 51, 102, 204, 233, 163, 55, 110, 220, 201, 227, 183, 31, 62, 124, 248, 129, 115, 230, 189, 11, 22, 44, 88, 176, 17, 34, 68, 136, 97, 194, 245, 155, 71, 142]
def conPt : List Int := [32906, 9223372036854808714, 0, 0, 0, 0, 32768, 2147516416, 9223372039002292224, 1, 3, 11, 139, 32907, 32907, 32907, 1, 1, 1, 1, 1, 2147483649, 2147483649, 1, 1, 1, 129, 32897, 2147516545, 9223372039002292353, 1, 1, 9, 9, 32777, 32777, 9223372036854808585, 0, 2, 10, 138, 138, 138, 138, 0, 0, 8, 136, 136, 136, 136, 1, 1, 9, 9, 32777, 2147516425, 2147516425, 0, 2, 10, 10, 10, 2147483658, 2147483658, 1, 3, 11, 139, 32907, 2147516555, 2147516555, 1, 3, 11, 139, 139, 139, 9223372036854775947, 1, 1, 9, 137, 32905, 32905, 9223372036854808713, 1, 3, 3, 3, 32771, 32771, 9223372036854808579, 0, 2, 2, 2, 32770, 32770, 9223372036854808578, 0, 0, 0, 128, 128, 128, 9223372036854775936, 0, 2, 10, 10, 32778, 32778, 32778, 0, 2, 10, 10, 10, 2147483658, 9223372039002259466, 1, 1, 1, 129, 32897, 2147516545, 9223372039002292353, 0, 0, 0, 128, 32896, 32896, 9223372036854808704, 1, 1, 1, 1, 1, 2147483649, 2147483649, 0, 0, 8, 8, 32776, 2147516424, 9223372039002292232]
def conRc : List Int := [1, 32898, 9223372036854808714, 9223372039002292224, 32907, 2147483649, 9223372039002292353, 9223372036854808585, 138, 136, 2147516425, 2147483658, 2147516555, 9223372036854775947, 9223372036854808713, 9223372036854808579, 9223372036854808578, 9223372036854775936, 32778, 9223372039002259466, 9223372039002292353, 9223372036854808704, 2147483649, 9223372039002292232]
def conCell (j m : Nat) : Int := match Nat.ble j (7 * m) with
  | true => 0
  | false => match Nat.ble (7 * m + 7) j with
    | true => conRc.getD m 0
    | false => conPt.getD (j - 20) 0
theorem constantsS : Sp 116 [] (.agg [.i .u64 1, .i .u64 32898, .i .u64 9223372036854808714, .i .u64 9223372039002292224, .i .u64 32907, .i .u64 2147483649, .i .u64 9223372039002292353, .i .u64 9223372036854808585, .i .u64 138, .i .u64 136, .i .u64 2147516425, .i .u64 2147483658, .i .u64 2147516555, .i .u64 9223372036854775947, .i .u64 9223372036854808713, .i .u64 9223372036854808579, .i .u64 9223372036854808578, .i .u64 9223372036854775936, .i .u64 32778, .i .u64 9223372039002259466, .i .u64 9223372039002292353, .i .u64 9223372036854808704, .i .u64 2147483649, .i .u64 9223372039002292232]) := by
  refine mk Tryz.func116 rfl rfl LC R0 (by decide +kernel) fun A S hA hS => ?_
  unfold bodyOf Tryz.f116
  cbv
  refine .inv (α := Nat) (fun j => ⟨[.own 0 0, .own 1 0, .i .i64 (conReg.getD (j - 20) 0), .any, .i .i64 (j : Nat), .any, .any, .any, .any, .any, .any, .any, .any, .any, .any, .any, .any, .any, .any, .any, .any, .any, .any, .any, .any, .any, .any, .any, .any], [⟨true, true, [.i .u64 0, .i .u64 0, .i .u64 0, .i .u64 0, .i .u64 0, .i .u64 0, .i .u64 0, .i .u64 0, .i .u64 0, .i .u64 0, .i .u64 0, .i .u64 0, .i .u64 0, .i .u64 0, .i .u64 0, .i .u64 0, .i .u64 0, .i .u64 0, .i .u64 0, .i .u64 0, .i .u64 0, .i .u64 0, .i .u64 0, .i .u64 0]⟩, ⟨true, true, [.i .u64 (conCell j 0), .i .u64 (conCell j 1), .i .u64 (conCell j 2), .i .u64 (conCell j 3), .i .u64 (conCell j 4), .i .u64 (conCell j 5), .i .u64 (conCell j 6), .i .u64 (conCell j 7), .i .u64 (conCell j 8), .i .u64 (conCell j 9), .i .u64 (conCell j 10), .i .u64 (conCell j 11), .i .u64 (conCell j 12), .i .u64 (conCell j 13), .i .u64 (conCell j 14), .i .u64 (conCell j 15), .i .u64 (conCell j 16), .i .u64 (conCell j 17), .i .u64 (conCell j 18), .i .u64 (conCell j 19), .i .u64 (conCell j 20), .i .u64 (conCell j 21), .i .u64 (conCell j 22), .i .u64 (conCell j 23)]⟩]⟩) (fun j => 20 ≤ j ∧ j ≤ 168) (fun j => 168 - j) 20 ?_ (by decide) ?_
  · cbv
    repeat' (first | exact rfl | exact trivial | constructor)
  intro j hj
  by_cases h : j = 168
  · subst h
    cbv
  · obtain ⟨b, hb⟩ : ∃ b, b = j + 1 := ⟨_, rfl⟩
    have hb1 : 20 ≤ b ∧ b ≤ 168 := by omega
    have hb2 : 168 - b < 168 - j := by omega
    rcases (by omega : j = 20 ∨ j = 21 ∨ j = 22 ∨ j = 23 ∨ j = 24 ∨ j = 25 ∨ j = 26 ∨ j = 27 ∨ j = 28 ∨ j = 29 ∨ j = 30 ∨ j = 31 ∨ j = 32 ∨ j = 33 ∨ j = 34 ∨ j = 35 ∨ j = 36 ∨ j = 37 ∨ j = 38 ∨ j = 39 ∨ j = 40 ∨ j = 41 ∨ j = 42 ∨ j = 43 ∨ j = 44 ∨ j = 45 ∨ j = 46 ∨ j = 47 ∨ j = 48 ∨ j = 49 ∨ j = 50 ∨ j = 51 ∨ j = 52 ∨ j = 53 ∨ j = 54 ∨ j = 55 ∨ j = 56 ∨ j = 57 ∨ j = 58 ∨ j = 59 ∨ j = 60 ∨ j = 61 ∨ j = 62 ∨ j = 63 ∨ j = 64 ∨ j = 65 ∨ j = 66 ∨ j = 67 ∨ j = 68 ∨ j = 69 ∨ j = 70 ∨ j = 71 ∨ j = 72 ∨ j = 73 ∨ j = 74 ∨ j = 75 ∨ j = 76 ∨ j = 77 ∨ j = 78 ∨ j = 79 ∨ j = 80 ∨ j = 81 ∨ j = 82 ∨ j = 83 ∨ j = 84 ∨ j = 85 ∨ j = 86 ∨ j = 87 ∨ j = 88 ∨ j = 89 ∨ j = 90 ∨ j = 91 ∨ j = 92 ∨ j = 93 ∨ j = 94 ∨ j = 95 ∨ j = 96 ∨ j = 97 ∨ j = 98 ∨ j = 99 ∨ j = 100 ∨ j = 101 ∨ j = 102 ∨ j = 103 ∨ j = 104 ∨ j = 105 ∨ j = 106 ∨ j = 107 ∨ j = 108 ∨ j = 109 ∨ j = 110 ∨ j = 111 ∨ j = 112 ∨ j = 113 ∨ j = 114 ∨ j = 115 ∨ j = 116 ∨ j = 117 ∨ j = 118 ∨ j = 119 ∨ j = 120 ∨ j = 121 ∨ j = 122 ∨ j = 123 ∨ j = 124 ∨ j = 125 ∨ j = 126 ∨ j = 127 ∨ j = 128 ∨ j = 129 ∨ j = 130 ∨ j = 131 ∨ j = 132 ∨ j = 133 ∨ j = 134 ∨ j = 135 ∨ j = 136 ∨ j = 137 ∨ j = 138 ∨ j = 139 ∨ j = 140 ∨ j = 141 ∨ j = 142 ∨ j = 143 ∨ j = 144 ∨ j = 145 ∨ j = 146 ∨ j = 147 ∨ j = 148 ∨ j = 149 ∨ j = 150 ∨ j = 151 ∨ j = 152 ∨ j = 153 ∨ j = 154 ∨ j = 155 ∨ j = 156 ∨ j = 157 ∨ j = 158 ∨ j = 159 ∨ j = 160 ∨ j = 161 ∨ j = 162 ∨ j = 163 ∨ j = 164 ∨ j = 165 ∨ j = 166 ∨ j = 167) with rfl | rfl | rfl | rfl | rfl | rfl | rfl | rfl | rfl | rfl | rfl | rfl | rfl | rfl | rfl | rfl | rfl | rfl | rfl | rfl | rfl | rfl | rfl | rfl | rfl | rfl | rfl | rfl | rfl | rfl | rfl | rfl | rfl | rfl | rfl | rfl | rfl | rfl | rfl | rfl | rfl | rfl | rfl | rfl | rfl | rfl | rfl | rfl | rfl | rfl | rfl | rfl | rfl | rfl | rfl | rfl | rfl | rfl | rfl | rfl | rfl | rfl | rfl | rfl | rfl | rfl | rfl | rfl | rfl | rfl | rfl | rfl | rfl | rfl | rfl | rfl | rfl | rfl | rfl | rfl | rfl | rfl | rfl | rfl | rfl | rfl | rfl | rfl | rfl | rfl | rfl | rfl | rfl | rfl | rfl | rfl | rfl | rfl | rfl | rfl | rfl | rfl | rfl | rfl | rfl | rfl | rfl | rfl | rfl | rfl | rfl | rfl | rfl | rfl | rfl | rfl | rfl | rfl | rfl | rfl | rfl | rfl | rfl | rfl | rfl | rfl | rfl | rfl | rfl | rfl | rfl | rfl | rfl | rfl | rfl | rfl | rfl | rfl | rfl | rfl | rfl | rfl | rfl | rfl | rfl | rfl | rfl | rfl
    all_goals
      subst hb
      cbv
      refine ⟨_, ?_, hb1, hb2⟩
      cbv
      repeat' (first | exact rfl | exact trivial | constructor)
end Go.Proofs.YtkhipnhdbaahcaaGreat
end
section
set_option linter.unusedVariables false
set_option linter.unusedSimpArgs false
namespace Go.Proofs.YtkhipnhdbaahcaaGreat
open Go Eng
set_option maxRecDepth 100000
set_option exponentiation.threshold 2000
set_option maxHeartbeats 8000000

theorem keccak64S (f w H : Nat → Int) (hf : ∀ j, 0 ≤ f j ∧ f j < 256) (tn rc : Nat → Int) (S : Nat → Nat → Int)
    (hp : Sp 118 [.ref (rounds tn rc) 0, .agg (lanes (S 0))] (.agg (lanes (S 24)))) (hrc : 1 = rc 0 ∧ 32898 = rc 1 ∧ 9223372036854808714 = rc 2 ∧ 9223372039002292224 = rc 3 ∧ 32907 = rc 4 ∧ 2147483649 = rc 5 ∧ 9223372039002292353 = rc 6 ∧ 9223372036854808585 = rc 7 ∧ 138 = rc 8 ∧ 136 = rc 9 ∧ 2147516425 = rc 10 ∧ 2147483658 = rc 11 ∧ 2147516555 = rc 12 ∧ 9223372036854775947 = rc 13 ∧ 9223372036854808713 = rc 14 ∧ 9223372036854808579 = rc 15 ∧ 9223372036854808578 = rc 16 ∧ 9223372036854775936 = rc 17 ∧ 32778 = rc 18 ∧ 9223372039002259466 = rc 19 ∧ 9223372039002292353 = rc 20 ∧ 9223372036854808704 = rc 21 ∧ 2147483649 = rc 22 ∧ 9223372039002292232 = rc 23) (htn : 0 = tn 0 ∧ 1 = tn 1 ∧ 62 = tn 2 ∧ 28 = tn 3 ∧ 27 = tn 4 ∧ 36 = tn 5 ∧ 44 = tn 6 ∧ 6 = tn 7 ∧ 55 = tn 8 ∧ 20 = tn 9 ∧ 3 = tn 10 ∧ 10 = tn 11 ∧ 43 = tn 12 ∧ 25 = tn 13 ∧ 39 = tn 14 ∧ 41 = tn 15 ∧ 45 = tn 16 ∧ 15 = tn 17 ∧ 21 = tn 18 ∧ 8 = tn 19 ∧ 18 = tn 20 ∧ 2 = tn 21 ∧ 61 = tn 22 ∧ 56 = tn 23 ∧ 14 = tn 24)
    (hw : w 0 = ((((((((f 7)) * 256 + (f 6)) * 256 + (f 5)) * 256 + (f 4)) * 256 + (f 3)) * 256 + (f 2)) * 256 + (f 1)) * 256 + (f 0) ∧ w 1 = ((((((((f 15)) * 256 + (f 14)) * 256 + (f 13)) * 256 + (f 12)) * 256 + (f 11)) * 256 + (f 10)) * 256 + (f 9)) * 256 + (f 8) ∧ w 2 = ((((((((f 23)) * 256 + (f 22)) * 256 + (f 21)) * 256 + (f 20)) * 256 + (f 19)) * 256 + (f 18)) * 256 + (f 17)) * 256 + (f 16) ∧ w 3 = ((((((((f 31)) * 256 + (f 30)) * 256 + (f 29)) * 256 + (f 28)) * 256 + (f 27)) * 256 + (f 26)) * 256 + (f 25)) * 256 + (f 24) ∧ w 4 = ((((((((f 39)) * 256 + (f 38)) * 256 + (f 37)) * 256 + (f 36)) * 256 + (f 35)) * 256 + (f 34)) * 256 + (f 33)) * 256 + (f 32) ∧ w 5 = ((((((((f 47)) * 256 + (f 46)) * 256 + (f 45)) * 256 + (f 44)) * 256 + (f 43)) * 256 + (f 42)) * 256 + (f 41)) * 256 + (f 40) ∧ w 6 = ((((((((f 55)) * 256 + (f 54)) * 256 + (f 53)) * 256 + (f 52)) * 256 + (f 51)) * 256 + (f 50)) * 256 + (f 49)) * 256 + (f 48) ∧ w 7 = ((((((((f 63)) * 256 + (f 62)) * 256 + (f 61)) * 256 + (f 60)) * 256 + (f 59)) * 256 + (f 58)) * 256 + (f 57)) * 256 + (f 56) ∧ w 8 = (((((((0) * 256 + 0) * 256 + 0) * 256 + 0) * 256 + 0) * 256 + 0) * 256 + 0) * 256 + 1 ∧ w 9 = (((((((0) * 256 + 0) * 256 + 0) * 256 + 0) * 256 + 0) * 256 + 0) * 256 + 0) * 256 + 0 ∧ w 10 = (((((((0) * 256 + 0) * 256 + 0) * 256 + 0) * 256 + 0) * 256 + 0) * 256 + 0) * 256 + 0 ∧ w 11 = (((((((0) * 256 + 0) * 256 + 0) * 256 + 0) * 256 + 0) * 256 + 0) * 256 + 0) * 256 + 0 ∧ w 12 = (((((((0) * 256 + 0) * 256 + 0) * 256 + 0) * 256 + 0) * 256 + 0) * 256 + 0) * 256 + 0 ∧ w 13 = (((((((0) * 256 + 0) * 256 + 0) * 256 + 0) * 256 + 0) * 256 + 0) * 256 + 0) * 256 + 0 ∧ w 14 = (((((((0) * 256 + 0) * 256 + 0) * 256 + 0) * 256 + 0) * 256 + 0) * 256 + 0) * 256 + 0 ∧ w 15 = (((((((0) * 256 + 0) * 256 + 0) * 256 + 0) * 256 + 0) * 256 + 0) * 256 + 0) * 256 + 0 ∧ w 16 = (((((((128) * 256 + 0) * 256 + 0) * 256 + 0) * 256 + 0) * 256 + 0) * 256 + 0) * 256 + 0)
    (hs : (∀ A, A = Ar.real → ∀ i, i < 17 → A.bin .xor .u64 0 (w i) = S 0 i) ∧ (∀ i, i < 8 → 0 = S 0 (17 + i)))
    (hh : ∀ i, i < 4 → ∀ j, j < 8 → Ar.real.wrap .u8 (Ar.real.bin .shr .u64 (S 24 i) ((8 * j : Nat) : Int)) = H (8 * i + j)) :
    Sp 75 [.lst false 64 [.s .u8 (f 0), .s .u8 (f 1), .s .u8 (f 2), .s .u8 (f 3), .s .u8 (f 4), .s .u8 (f 5), .s .u8 (f 6), .s .u8 (f 7), .s .u8 (f 8), .s .u8 (f 9), .s .u8 (f 10), .s .u8 (f 11), .s .u8 (f 12), .s .u8 (f 13), .s .u8 (f 14), .s .u8 (f 15), .s .u8 (f 16), .s .u8 (f 17), .s .u8 (f 18), .s .u8 (f 19), .s .u8 (f 20), .s .u8 (f 21), .s .u8 (f 22), .s .u8 (f 23), .s .u8 (f 24), .s .u8 (f 25), .s .u8 (f 26), .s .u8 (f 27), .s .u8 (f 28), .s .u8 (f 29), .s .u8 (f 30), .s .u8 (f 31), .s .u8 (f 32), .s .u8 (f 33), .s .u8 (f 34), .s .u8 (f 35), .s .u8 (f 36), .s .u8 (f 37), .s .u8 (f 38), .s .u8 (f 39), .s .u8 (f 40), .s .u8 (f 41), .s .u8 (f 42), .s .u8 (f 43), .s .u8 (f 44), .s .u8 (f 45), .s .u8 (f 46), .s .u8 (f 47), .s .u8 (f 48), .s .u8 (f 49), .s .u8 (f 50), .s .u8 (f 51), .s .u8 (f 52), .s .u8 (f 53), .s .u8 (f 54), .s .u8 (f 55), .s .u8 (f 56), .s .u8 (f 57), .s .u8 (f 58), .s .u8 (f 59), .s .u8 (f 60), .s .u8 (f 61), .s .u8 (f 62), .s .u8 (f 63)]] (.agg [.s .u8 (H 0), .s .u8 (H 1), .s .u8 (H 2), .s .u8 (H 3), .s .u8 (H 4), .s .u8 (H 5), .s .u8 (H 6), .s .u8 (H 7), .s .u8 (H 8), .s .u8 (H 9), .s .u8 (H 10), .s .u8 (H 11), .s .u8 (H 12), .s .u8 (H 13), .s .u8 (H 14), .s .u8 (H 15), .s .u8 (H 16), .s .u8 (H 17), .s .u8 (H 18), .s .u8 (H 19), .s .u8 (H 20), .s .u8 (H 21), .s .u8 (H 22), .s .u8 (H 23), .s .u8 (H 24), .s .u8 (H 25), .s .u8 (H 26), .s .u8 (H 27), .s .u8 (H 28), .s .u8 (H 29), .s .u8 (H 30), .s .u8 (H 31)]) := by
  obtain ⟨hw0, hw1, hw2, hw3, hw4, hw5, hw6, hw7, hw8, hw9, hw10, hw11, hw12, hw13, hw14, hw15, hw16⟩ := hw
  obtain ⟨hrc0, hrc1, hrc2, hrc3, hrc4, hrc5, hrc6, hrc7, hrc8, hrc9, hrc10, hrc11, hrc12, hrc13, hrc14, hrc15, hrc16, hrc17, hrc18, hrc19, hrc20, hrc21, hrc22, hrc23⟩ := hrc
  obtain ⟨htn0, htn1, htn2, htn3, htn4, htn5, htn6, htn7, htn8, htn9, htn10, htn11, htn12, htn13, htn14, htn15, htn16, htn17, htn18, htn19, htn20, htn21, htn22, htn23, htn24⟩ := htn
  have cw0 := wordS 128 (f 0) (f 1) (f 2) (f 3) (f 4) (f 5) (f 6) (f 7) (w 0) (hf 0) (hf 1) (hf 2) (hf 3) (hf 4) (hf 5) (hf 6) (hf 7) hw0
  have cw1 := wordS 120 (f 8) (f 9) (f 10) (f 11) (f 12) (f 13) (f 14) (f 15) (w 1) (hf 8) (hf 9) (hf 10) (hf 11) (hf 12) (hf 13) (hf 14) (hf 15) hw1
  have cw2 := wordS 112 (f 16) (f 17) (f 18) (f 19) (f 20) (f 21) (f 22) (f 23) (w 2) (hf 16) (hf 17) (hf 18) (hf 19) (hf 20) (hf 21) (hf 22) (hf 23) hw2
  have cw3 := wordS 104 (f 24) (f 25) (f 26) (f 27) (f 28) (f 29) (f 30) (f 31) (w 3) (hf 24) (hf 25) (hf 26) (hf 27) (hf 28) (hf 29) (hf 30) (hf 31) hw3
  have cw4 := wordS 96 (f 32) (f 33) (f 34) (f 35) (f 36) (f 37) (f 38) (f 39) (w 4) (hf 32) (hf 33) (hf 34) (hf 35) (hf 36) (hf 37) (hf 38) (hf 39) hw4
  have cw5 := wordS 88 (f 40) (f 41) (f 42) (f 43) (f 44) (f 45) (f 46) (f 47) (w 5) (hf 40) (hf 41) (hf 42) (hf 43) (hf 44) (hf 45) (hf 46) (hf 47) hw5
  have cw6 := wordS 80 (f 48) (f 49) (f 50) (f 51) (f 52) (f 53) (f 54) (f 55) (w 6) (hf 48) (hf 49) (hf 50) (hf 51) (hf 52) (hf 53) (hf 54) (hf 55) hw6
  have cw7 := wordS 72 (f 56) (f 57) (f 58) (f 59) (f 60) (f 61) (f 62) (f 63) (w 7) (hf 56) (hf 57) (hf 58) (hf 59) (hf 60) (hf 61) (hf 62) (hf 63) hw7
  have cw8 := wordS 64 1 0 0 0 0 0 0 0 (w 8) (by decide) (by decide) (by decide) (by decide) (by decide) (by decide) (by decide) (by decide) hw8
  have cw9 := wordS 56 0 0 0 0 0 0 0 0 (w 9) (by decide) (by decide) (by decide) (by decide) (by decide) (by decide) (by decide) (by decide) hw9
  have cw10 := wordS 48 0 0 0 0 0 0 0 0 (w 10) (by decide) (by decide) (by decide) (by decide) (by decide) (by decide) (by decide) (by decide) hw10
  have cw11 := wordS 40 0 0 0 0 0 0 0 0 (w 11) (by decide) (by decide) (by decide) (by decide) (by decide) (by decide) (by decide) (by decide) hw11
  have cw12 := wordS 32 0 0 0 0 0 0 0 0 (w 12) (by decide) (by decide) (by decide) (by decide) (by decide) (by decide) (by decide) (by decide) hw12
  have cw13 := wordS 24 0 0 0 0 0 0 0 0 (w 13) (by decide) (by decide) (by decide) (by decide) (by decide) (by decide) (by decide) (by decide) hw13
  have cw14 := wordS 16 0 0 0 0 0 0 0 0 (w 14) (by decide) (by decide) (by decide) (by decide) (by decide) (by decide) (by decide) (by decide) hw14
  have cw15 := wordS 8 0 0 0 0 0 0 0 0 (w 15) (by decide) (by decide) (by decide) (by decide) (by decide) (by decide) (by decide) (by decide) hw15
  have cw16 := wordS 0 0 0 0 0 0 0 0 128 (w 16) (by decide) (by decide) (by decide) (by decide) (by decide) (by decide) (by decide) (by decide) hw16
  have hz17 : 0 = S 0 17 := hs.2 0 (by decide)
  have hz18 : 0 = S 0 18 := hs.2 1 (by decide)
  have hz19 : 0 = S 0 19 := hs.2 2 (by decide)
  have hz20 : 0 = S 0 20 := hs.2 3 (by decide)
  have hz21 : 0 = S 0 21 := hs.2 4 (by decide)
  have hz22 : 0 = S 0 22 := hs.2 5 (by decide)
  have hz23 : 0 = S 0 23 := hs.2 6 (by decide)
  have hz24 : 0 = S 0 24 := hs.2 7 (by decide)
  have hx := hs.1
  clear hs
  refine mk Tryz.func75 rfl rfl LN2 RKc (by decide +kernel) fun A S_ hA hS => ?_
  have hx0 := hx A hA 0 (by decide)
  have hx1 := hx A hA 1 (by decide)
  have hx2 := hx A hA 2 (by decide)
  have hx3 := hx A hA 3 (by decide)
  have hx4 := hx A hA 4 (by decide)
  have hx5 := hx A hA 5 (by decide)
  have hx6 := hx A hA 6 (by decide)
  have hx7 := hx A hA 7 (by decide)
  have hx8 := hx A hA 8 (by decide)
  have hx9 := hx A hA 9 (by decide)
  have hx10 := hx A hA 10 (by decide)
  have hx11 := hx A hA 11 (by decide)
  have hx12 := hx A hA 12 (by decide)
  have hx13 := hx A hA 13 (by decide)
  have hx14 := hx A hA 14 (by decide)
  have hx15 := hx A hA 15 (by decide)
  have hx16 := hx A hA 16 (by decide)
  clear hx
  unfold bodyOf Tryz.f75
  cbv
  refine ACall.mk _ (cf hS offsetsS) ?_
  cbv
  refine ACall.mk _ (cf hS constantsS) ?_
  cbv
  refine .invG (gcOf hS) (α := Nat) (fun j => ⟨[.any, .any, .own 0 0, .own 1 0, .osl false 2 0 (65 + j) 1, .any, .any, .any, .any, .any, .any, .any, .any, .any, .any, .any, .any, .any, .any, .any, .any, .any, .any, .any, .any, .any, .any, .any, .any, .any, .any, .any, .any, .any, .any, .any, .any, .any, .any, .any, .any, .any, .any, .any, .any, .any, .any, .any, .any, .any, .any, .any, .any, .any, .any, .any, .any, .any, .any, .any, .any, .any, .any, .any, .any, .any, .any, .any, .any, .any, .any, .any, .any], [⟨true, true, [.i .u8 0, .i .u8 0, .i .u8 0, .i .u8 0, .i .u8 0, .i .u8 0, .i .u8 0, .i .u8 0, .i .u8 0, .i .u8 0, .i .u8 0, .i .u8 0, .i .u8 0, .i .u8 0, .i .u8 0, .i .u8 0, .i .u8 0, .i .u8 0, .i .u8 0, .i .u8 0, .i .u8 0, .i .u8 0, .i .u8 0, .i .u8 0, .i .u8 0, .i .u8 0, .i .u8 0, .i .u8 0, .i .u8 0, .i .u8 0, .i .u8 0, .i .u8 0]⟩, ⟨true, true, [.i .i64 0, .i .i64 1, .i .i64 62, .i .i64 28, .i .i64 27, .i .i64 36, .i .i64 44, .i .i64 6, .i .i64 55, .i .i64 20, .i .i64 3, .i .i64 10, .i .i64 43, .i .i64 25, .i .i64 39, .i .i64 41, .i .i64 45, .i .i64 15, .i .i64 21, .i .i64 8, .i .i64 18, .i .i64 2, .i .i64 61, .i .i64 56, .i .i64 14, .i .u64 1, .i .u64 32898, .i .u64 9223372036854808714, .i .u64 9223372039002292224, .i .u64 32907, .i .u64 2147483649, .i .u64 9223372039002292353, .i .u64 9223372036854808585, .i .u64 138, .i .u64 136, .i .u64 2147516425, .i .u64 2147483658, .i .u64 2147516555, .i .u64 9223372036854775947, .i .u64 9223372036854808713, .i .u64 9223372036854808579, .i .u64 9223372036854808578, .i .u64 9223372036854775936, .i .u64 32778, .i .u64 9223372039002259466, .i .u64 9223372039002292353, .i .u64 9223372036854808704, .i .u64 2147483649, .i .u64 9223372039002292232]⟩, ⟨true, true, app [.s .u8 (f 0), .s .u8 (f 1), .s .u8 (f 2), .s .u8 (f 3), .s .u8 (f 4), .s .u8 (f 5), .s .u8 (f 6), .s .u8 (f 7), .s .u8 (f 8), .s .u8 (f 9), .s .u8 (f 10), .s .u8 (f 11), .s .u8 (f 12), .s .u8 (f 13), .s .u8 (f 14), .s .u8 (f 15), .s .u8 (f 16), .s .u8 (f 17), .s .u8 (f 18), .s .u8 (f 19), .s .u8 (f 20), .s .u8 (f 21), .s .u8 (f 22), .s .u8 (f 23), .s .u8 (f 24), .s .u8 (f 25), .s .u8 (f 26), .s .u8 (f 27), .s .u8 (f 28), .s .u8 (f 29), .s .u8 (f 30), .s .u8 (f 31), .s .u8 (f 32), .s .u8 (f 33), .s .u8 (f 34), .s .u8 (f 35), .s .u8 (f 36), .s .u8 (f 37), .s .u8 (f 38), .s .u8 (f 39), .s .u8 (f 40), .s .u8 (f 41), .s .u8 (f 42), .s .u8 (f 43), .s .u8 (f 44), .s .u8 (f 45), .s .u8 (f 46), .s .u8 (f 47), .s .u8 (f 48), .s .u8 (f 49), .s .u8 (f 50), .s .u8 (f 51), .s .u8 (f 52), .s .u8 (f 53), .s .u8 (f 54), .s .u8 (f 55), .s .u8 (f 56), .s .u8 (f 57), .s .u8 (f 58), .s .u8 (f 59), .s .u8 (f 60), .s .u8 (f 61), .s .u8 (f 62), .s .u8 (f 63), .i .u8 1] (zrow j)⟩]⟩) (fun j => j ≤ 71) (fun j => 71 - j) 0 [0, 1, 5] ?_ (Nat.zero_le _) ?_
  · cbv
    repeat' (first | exact rfl | exact trivial | constructor)
  intro j hj
  by_cases h : j = 71
  · subst h
    clear hj
    cbv
    refine .invG (gcOf hS) (α := Nat) (fun q => ⟨[.any, .any, .own 0 0, .own 1 0, .osl false 2 (136 * q) (136 - 136 * q) 1, .own 3 0, .any, .any, .any, .any, .any, .any, .any, .any, .any, .any, .any, .any, .any, .any, .any, .any, .any, .any, .any, .any, .any, .any, .any, .any, .any, .any, .any, .any, .any, .any, .any, .any, .any, .any, .any, .any, .any, .any, .any, .any, .any, .any, .any, .any, .any, .any, .any, .any, .any, .any, .any, .any, .any, .any, .any, .any, .any, .any, .any, .any, .any, .any, .any, .any, .any, .any, .any], [⟨true, true, [.i .u8 0, .i .u8 0, .i .u8 0, .i .u8 0, .i .u8 0, .i .u8 0, .i .u8 0, .i .u8 0, .i .u8 0, .i .u8 0, .i .u8 0, .i .u8 0, .i .u8 0, .i .u8 0, .i .u8 0, .i .u8 0, .i .u8 0, .i .u8 0, .i .u8 0, .i .u8 0, .i .u8 0, .i .u8 0, .i .u8 0, .i .u8 0, .i .u8 0, .i .u8 0, .i .u8 0, .i .u8 0, .i .u8 0, .i .u8 0, .i .u8 0, .i .u8 0]⟩, ⟨true, true, [.i .i64 0, .i .i64 1, .i .i64 62, .i .i64 28, .i .i64 27, .i .i64 36, .i .i64 44, .i .i64 6, .i .i64 55, .i .i64 20, .i .i64 3, .i .i64 10, .i .i64 43, .i .i64 25, .i .i64 39, .i .i64 41, .i .i64 45, .i .i64 15, .i .i64 21, .i .i64 8, .i .i64 18, .i .i64 2, .i .i64 61, .i .i64 56, .i .i64 14, .i .u64 1, .i .u64 32898, .i .u64 9223372036854808714, .i .u64 9223372039002292224, .i .u64 32907, .i .u64 2147483649, .i .u64 9223372039002292353, .i .u64 9223372036854808585, .i .u64 138, .i .u64 136, .i .u64 2147516425, .i .u64 2147483658, .i .u64 2147516555, .i .u64 9223372036854775947, .i .u64 9223372036854808713, .i .u64 9223372036854808579, .i .u64 9223372036854808578, .i .u64 9223372036854775936, .i .u64 32778, .i .u64 9223372039002259466, .i .u64 9223372039002292353, .i .u64 9223372036854808704, .i .u64 2147483649, .i .u64 9223372039002292232]⟩, ⟨true, true, [.s .u8 (f 0), .s .u8 (f 1), .s .u8 (f 2), .s .u8 (f 3), .s .u8 (f 4), .s .u8 (f 5), .s .u8 (f 6), .s .u8 (f 7), .s .u8 (f 8), .s .u8 (f 9), .s .u8 (f 10), .s .u8 (f 11), .s .u8 (f 12), .s .u8 (f 13), .s .u8 (f 14), .s .u8 (f 15), .s .u8 (f 16), .s .u8 (f 17), .s .u8 (f 18), .s .u8 (f 19), .s .u8 (f 20), .s .u8 (f 21), .s .u8 (f 22), .s .u8 (f 23), .s .u8 (f 24), .s .u8 (f 25), .s .u8 (f 26), .s .u8 (f 27), .s .u8 (f 28), .s .u8 (f 29), .s .u8 (f 30), .s .u8 (f 31), .s .u8 (f 32), .s .u8 (f 33), .s .u8 (f 34), .s .u8 (f 35), .s .u8 (f 36), .s .u8 (f 37), .s .u8 (f 38), .s .u8 (f 39), .s .u8 (f 40), .s .u8 (f 41), .s .u8 (f 42), .s .u8 (f 43), .s .u8 (f 44), .s .u8 (f 45), .s .u8 (f 46), .s .u8 (f 47), .s .u8 (f 48), .s .u8 (f 49), .s .u8 (f 50), .s .u8 (f 51), .s .u8 (f 52), .s .u8 (f 53), .s .u8 (f 54), .s .u8 (f 55), .s .u8 (f 56), .s .u8 (f 57), .s .u8 (f 58), .s .u8 (f 59), .s .u8 (f 60), .s .u8 (f 61), .s .u8 (f 62), .s .u8 (f 63), .i .u8 1, .i .u8 0, .i .u8 0, .i .u8 0, .i .u8 0, .i .u8 0, .i .u8 0, .i .u8 0, .i .u8 0, .i .u8 0, .i .u8 0, .i .u8 0, .i .u8 0, .i .u8 0, .i .u8 0, .i .u8 0, .i .u8 0, .i .u8 0, .i .u8 0, .i .u8 0, .i .u8 0, .i .u8 0, .i .u8 0, .i .u8 0, .i .u8 0, .i .u8 0, .i .u8 0, .i .u8 0, .i .u8 0, .i .u8 0, .i .u8 0, .i .u8 0, .i .u8 0, .i .u8 0, .i .u8 0, .i .u8 0, .i .u8 0, .i .u8 0, .i .u8 0, .i .u8 0, .i .u8 0, .i .u8 0, .i .u8 0, .i .u8 0, .i .u8 0, .i .u8 0, .i .u8 0, .i .u8 0, .i .u8 0, .i .u8 0, .i .u8 0, .i .u8 0, .i .u8 0, .i .u8 0, .i .u8 0, .i .u8 0, .i .u8 0, .i .u8 0, .i .u8 0, .i .u8 0, .i .u8 0, .i .u8 0, .i .u8 0, .i .u8 0, .i .u8 0, .i .u8 0, .i .u8 0, .i .u8 0, .i .u8 0, .i .u8 0, .i .u8 0, .i .u8 128]⟩, ⟨true, true, match q with | 0 => [.i .u64 0, .i .u64 0, .i .u64 0, .i .u64 0, .i .u64 0, .i .u64 0, .i .u64 0, .i .u64 0, .i .u64 0, .i .u64 0, .i .u64 0, .i .u64 0, .i .u64 0, .i .u64 0, .i .u64 0, .i .u64 0, .i .u64 0, .i .u64 0, .i .u64 0, .i .u64 0, .i .u64 0, .i .u64 0, .i .u64 0, .i .u64 0, .i .u64 0] | _ + 1 => lanes (S 24)⟩]⟩) (fun q => q ≤ 1) (fun q => 1 - q) 0 [0, 1, 2, 3] ?_ (Nat.zero_le _) ?_
    · cbv
      repeat' (first | exact rfl | exact trivial | constructor)
    intro q hq
    rcases (by omega : q = 0 ∨ q = 1) with rfl | rfl
    · clear hq
      cbv
      refine ACall.mk _ (cg hS cw0 ?_) ?_
      · cbv
        repeat' (first | exact rfl | exact trivial | constructor)
      cbv
      refine ACall.mk _ (cg hS cw1 ?_) ?_
      · cbv
        repeat' (first | exact rfl | exact trivial | constructor)
      cbv
      refine ACall.mk _ (cg hS cw2 ?_) ?_
      · cbv
        repeat' (first | exact rfl | exact trivial | constructor)
      cbv
      refine ACall.mk _ (cg hS cw3 ?_) ?_
      · cbv
        repeat' (first | exact rfl | exact trivial | constructor)
      cbv
      refine ACall.mk _ (cg hS cw4 ?_) ?_
      · cbv
        repeat' (first | exact rfl | exact trivial | constructor)
      cbv
      refine ACall.mk _ (cg hS cw5 ?_) ?_
      · cbv
        repeat' (first | exact rfl | exact trivial | constructor)
      cbv
      refine ACall.mk _ (cg hS cw6 ?_) ?_
      · cbv
        repeat' (first | exact rfl | exact trivial | constructor)
      cbv
      refine ACall.mk _ (cg hS cw7 ?_) ?_
      · cbv
        repeat' (first | exact rfl | exact trivial | constructor)
      cbv
      refine ACall.mk _ (cg hS cw8 ?_) ?_
      · cbv
        repeat' (first | exact rfl | exact trivial | constructor)
      cbv
      refine ACall.mk _ (cg hS cw9 ?_) ?_
      · cbv
        repeat' (first | exact rfl | exact trivial | constructor)
      cbv
      refine ACall.mk _ (cg hS cw10 ?_) ?_
      · cbv
        repeat' (first | exact rfl | exact trivial | constructor)
      cbv
      refine ACall.mk _ (cg hS cw11 ?_) ?_
      · cbv
        repeat' (first | exact rfl | exact trivial | constructor)
      cbv
      refine ACall.mk _ (cg hS cw12 ?_) ?_
      · cbv
        repeat' (first | exact rfl | exact trivial | constructor)
      cbv
      refine ACall.mk _ (cg hS cw13 ?_) ?_
      · cbv
        repeat' (first | exact rfl | exact trivial | constructor)
      cbv
      refine ACall.mk _ (cg hS cw14 ?_) ?_
      · cbv
        repeat' (first | exact rfl | exact trivial | constructor)
      cbv
      refine ACall.mk _ (cg hS cw15 ?_) ?_
      · cbv
        repeat' (first | exact rfl | exact trivial | constructor)
      cbv
      refine ACall.mk _ (cg hS cw16 ?_) ?_
      · cbv
        repeat' (first | exact rfl | exact trivial | constructor)
      cbv
      refine ACall.mk _ (cg hS hp ?_) ?_
      · cbv
        repeat' (first | exact hx0 | exact hx1 | exact hx2 | exact hx3 | exact hx4 | exact hx5 | exact hx6 | exact hx7 | exact hx8 | exact hx9 | exact hx10 | exact hx11 | exact hx12 | exact hx13 | exact hx14 | exact hx15 | exact hx16 | exact hz17 | exact hz18 | exact hz19 | exact hz20 | exact hz21 | exact hz22 | exact hz23 | exact hz24 | exact hrc0 | exact hrc1 | exact hrc2 | exact hrc3 | exact hrc4 | exact hrc5 | exact hrc6 | exact hrc7 | exact hrc8 | exact hrc9 | exact hrc10 | exact hrc11 | exact hrc12 | exact hrc13 | exact hrc14 | exact hrc15 | exact hrc16 | exact hrc17 | exact hrc18 | exact hrc19 | exact hrc20 | exact hrc21 | exact hrc22 | exact hrc23 | exact htn0 | exact htn1 | exact htn2 | exact htn3 | exact htn4 | exact htn5 | exact htn6 | exact htn7 | exact htn8 | exact htn9 | exact htn10 | exact htn11 | exact htn12 | exact htn13 | exact htn14 | exact htn15 | exact htn16 | exact htn17 | exact htn18 | exact htn19 | exact htn20 | exact htn21 | exact htn22 | exact htn23 | exact htn24 | exact rfl | exact trivial | constructor)
      cbv
      refine ⟨1, [0, 1, 2, 3], ?_, by decide, by decide⟩
      cbv
      repeat' (first | exact rfl | exact trivial | constructor)
    · clear hq
      cbv
      refine AMut.mk _ _ (Go.Proofs.YtkhipnhdbaahcaaGreat.cm hS (layS0 _ _ _ _ (fun j => match j with  | _ => .i .u8 0) _ (fun j => H (0 + j)) (hh 0 (by decide)))) ?_
      cbv
      refine AMut.mk _ _ (Go.Proofs.YtkhipnhdbaahcaaGreat.cm hS (layS1 _ _ _ _ (fun j => match j with | 0 => .s .u8 (H 0) | 1 => .s .u8 (H 1) | 2 => .s .u8 (H 2) | 3 => .s .u8 (H 3) | 4 => .s .u8 (H 4) | 5 => .s .u8 (H 5) | 6 => .s .u8 (H 6) | 7 => .s .u8 (H 7) | _ => .i .u8 0) _ (fun j => H (8 + j)) (hh 1 (by decide)))) ?_
      cbv
      refine AMut.mk _ _ (Go.Proofs.YtkhipnhdbaahcaaGreat.cm hS (layS2 _ _ _ _ (fun j => match j with | 0 => .s .u8 (H 0) | 1 => .s .u8 (H 1) | 2 => .s .u8 (H 2) | 3 => .s .u8 (H 3) | 4 => .s .u8 (H 4) | 5 => .s .u8 (H 5) | 6 => .s .u8 (H 6) | 7 => .s .u8 (H 7) | 8 => .s .u8 (H 8) | 9 => .s .u8 (H 9) | 10 => .s .u8 (H 10) | 11 => .s .u8 (H 11) | 12 => .s .u8 (H 12) | 13 => .s .u8 (H 13) | 14 => .s .u8 (H 14) | 15 => .s .u8 (H 15) | _ => .i .u8 0) _ (fun j => H (16 + j)) (hh 2 (by decide)))) ?_
      cbv
      refine AMut.mk _ _ (Go.Proofs.YtkhipnhdbaahcaaGreat.cm hS (layS3 _ _ _ _ (fun j => match j with | 0 => .s .u8 (H 0) | 1 => .s .u8 (H 1) | 2 => .s .u8 (H 2) | 3 => .s .u8 (H 3) | 4 => .s .u8 (H 4) | 5 => .s .u8 (H 5) | 6 => .s .u8 (H 6) | 7 => .s .u8 (H 7) | 8 => .s .u8 (H 8) | 9 => .s .u8 (H 9) | 10 => .s .u8 (H 10) | 11 => .s .u8 (H 11) | 12 => .s .u8 (H 12) | 13 => .s .u8 (H 13) | 14 => .s .u8 (H 14) | 15 => .s .u8 (H 15) | 16 => .s .u8 (H 16) | 17 => .s .u8 (H 17) | 18 => .s .u8 (H 18) | 19 => .s .u8 (H 19) | 20 => .s .u8 (H 20) | 21 => .s .u8 (H 21) | 22 => .s .u8 (H 22) | 23 => .s .u8 (H 23) | _ => .i .u8 0) _ (fun j => H (24 + j)) (hh 3 (by decide)))) ?_
      cbv
      repeat' (first | exact rfl | exact trivial | constructor)
  · obtain ⟨b, hb⟩ : ∃ b, b = j + 1 := ⟨_, rfl⟩
    have hb1 : b ≤ 71 := by omega
    have hb2 : 71 - b < 71 - j := by omega
    clear cw0 cw1 cw2 cw3 cw4 cw5 cw6 cw7 cw8 cw9 cw10 cw11 cw12 cw13 cw14 cw15 cw16 hw0 hw1 hw2 hw3 hw4 hw5 hw6 hw7 hw8 hw9 hw10 hw11 hw12 hw13 hw14 hw15 hw16 hx0 hx1 hx2 hx3 hx4 hx5 hx6 hx7 hx8 hx9 hx10 hx11 hx12 hx13 hx14 hx15 hx16 hz17 hz18 hz19 hz20 hz21 hz22 hz23 hz24 hrc0 hrc1 hrc2 hrc3 hrc4 hrc5 hrc6 hrc7 hrc8 hrc9 hrc10 hrc11 hrc12 hrc13 hrc14 hrc15 hrc16 hrc17 hrc18 hrc19 hrc20 hrc21 hrc22 hrc23 htn0 htn1 htn2 htn3 htn4 htn5 htn6 htn7 htn8 htn9 htn10 htn11 htn12 htn13 htn14 htn15 htn16 htn17 htn18 htn19 htn20 htn21 htn22 htn23 htn24 hh hp
    rcases (by omega : j = 0 ∨ j = 1 ∨ j = 2 ∨ j = 3 ∨ j = 4 ∨ j = 5 ∨ j = 6 ∨ j = 7 ∨ j = 8 ∨ j = 9 ∨ j = 10 ∨ j = 11 ∨ j = 12 ∨ j = 13 ∨ j = 14 ∨ j = 15 ∨ j = 16 ∨ j = 17 ∨ j = 18 ∨ j = 19 ∨ j = 20 ∨ j = 21 ∨ j = 22 ∨ j = 23 ∨ j = 24 ∨ j = 25 ∨ j = 26 ∨ j = 27 ∨ j = 28 ∨ j = 29 ∨ j = 30 ∨ j = 31 ∨ j = 32 ∨ j = 33 ∨ j = 34 ∨ j = 35 ∨ j = 36 ∨ j = 37 ∨ j = 38 ∨ j = 39 ∨ j = 40 ∨ j = 41 ∨ j = 42 ∨ j = 43 ∨ j = 44 ∨ j = 45 ∨ j = 46 ∨ j = 47 ∨ j = 48 ∨ j = 49 ∨ j = 50 ∨ j = 51 ∨ j = 52 ∨ j = 53 ∨ j = 54 ∨ j = 55 ∨ j = 56 ∨ j = 57 ∨ j = 58 ∨ j = 59 ∨ j = 60 ∨ j = 61 ∨ j = 62 ∨ j = 63 ∨ j = 64 ∨ j = 65 ∨ j = 66 ∨ j = 67 ∨ j = 68 ∨ j = 69 ∨ j = 70) with rfl | rfl | rfl | rfl | rfl | rfl | rfl | rfl | rfl | rfl | rfl | rfl | rfl | rfl | rfl | rfl | rfl | rfl | rfl | rfl | rfl | rfl | rfl | rfl | rfl | rfl | rfl | rfl | rfl | rfl | rfl | rfl | rfl | rfl | rfl | rfl | rfl | rfl | rfl | rfl | rfl | rfl | rfl | rfl | rfl | rfl | rfl | rfl | rfl | rfl | rfl | rfl | rfl | rfl | rfl | rfl | rfl | rfl | rfl | rfl | rfl | rfl | rfl | rfl | rfl | rfl | rfl | rfl | rfl | rfl | rfl
    all_goals
      subst hb
      cbv
      refine ⟨_, [0, 1, 4], ?_, hb1, hb2⟩
      cbv
      repeat' (first | exact rfl | exact trivial | constructor)
end Go.Proofs.YtkhipnhdbaahcaaGreat
end
