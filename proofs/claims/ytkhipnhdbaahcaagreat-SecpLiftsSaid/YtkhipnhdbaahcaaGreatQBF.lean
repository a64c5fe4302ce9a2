import Derived.Test.YtkhipnhdbaahcaaGreatChecked
import Derived.KernelRfl
import Derived.Test.YtkhipnhdbaahcaaGreatQBE24
import Derived.Laws.Externs
import Derived.Test.YtkhipnhdbaahcaaGreatRows
import Derived.WalkKit
import Derived.ProofKit
import Derived.OpenShut
import Derived.ShutString
import Derived.ChangeOld
import Derived.Below
import Derived.Carry
import Derived.SizedLaws
import Derived.ChangeSlices
import Derived.Lib.Mul64
section
set_option linter.unusedVariables false
namespace Go.Proofs.YtkhipnhdbaahcaaGreat
open Go Eng
def TT.und : TypeId → UT
  | 2 => .int .i64
  | 3 => .int .i64
  | 4 => .bool
  | 5 => .int .u8
  | 6 => .int .u8
  | 9 => .str
  | 10 => .str
  | 11 => .str
  | 12 => .int .u64
  | 15 => .ptr 195
  | 16 => .ptr 198
  | 17 => .ptr 208
  | 20 => .iface []
  | 21 => .int .i32
  | 22 => .int .u64
  | 23 => .arr 4 22
  | 24 => .arr 4 22
  | 25 => .struct [(0, 24, "X"), (4, 24, "Y"), (8, 4, "Inf")]
  | 26 => .struct [(0, 24, "X"), (4, 24, "Y"), (8, 4, "Inf")]
  | 29 => .int .i64
  | 50 => .arr 20 5
  | 51 => .arr 20 5
  | 59 => .arr 32 5
  | 60 => .arr 32 5
  | 61 => .struct [(0, 24, "R"), (4, 24, "S"), (8, 3, "Odd")]
  | 62 => .struct [(0, 24, "R"), (4, 24, "S"), (8, 3, "Odd")]
  | 76 => .slice 5
  | 81 => .ptr 124
  | 87 => .struct [(0, 23, "x"), (4, 23, "y"), (8, 23, "z")]
  | 88 => .struct [(0, 23, "x"), (4, 23, "y"), (8, 23, "z")]
  | 93 => .struct [(0, 23, "x"), (4, 23, "y"), (8, 23, "z")]
  | 94 => .struct [(0, 23, "x"), (4, 23, "y"), (8, 23, "z")]
  | 99 => .arr 17 22
  | 100 => .arr 17 22
  | 115 => .int .u64
  | 123 => .struct [(0, 3, "made"), (1, 23, "m"), (5, 22, "inv"), (6, 3, "fast"), (7, 23, "one"), (11, 23, "two")]
  | 124 => .struct [(0, 3, "made"), (1, 23, "m"), (5, 22, "inv"), (6, 3, "fast"), (7, 23, "one"), (11, 23, "two")]
  | 125 => .slice 22
  | 141 => .ptr 147
  | 142 => .arr 25 3
  | 144 => .arr 24 22
  | 146 => .struct [(0, 142, "turn"), (25, 144, "round")]
  | 147 => .struct [(0, 142, "turn"), (25, 144, "round")]
  | 148 => .arr 25 22
  | 156 => .arr 5 22
  | 159 => .slice 3
  | 165 => .ptr 23
  | 167 => .ptr 177
  | 177 => .arr 6 22
  | 190 => .iface [("Error", 193)]
  | 191 => .iface [("Error", 193)]
  | 192 => .ptr 210
  | 196 => .arr 0 16
  | 200 => .int .u32
  | 201 => .int .u8
  | 202 => .int .u8
  | 204 => .ptr 5
  | 205 => .int .i32
  | 206 => .int .i32
  | 209 => .struct [(0, 9, "s")]
  | 210 => .struct [(0, 9, "s")]
  | _ => .other
def TT.size : TypeId → Nat
  | 2 => 1
  | 3 => 1
  | 4 => 1
  | 5 => 1
  | 6 => 1
  | 9 => 1
  | 10 => 1
  | 11 => 1
  | 12 => 1
  | 15 => 1
  | 16 => 1
  | 17 => 1
  | 20 => 1
  | 21 => 1
  | 22 => 1
  | 23 => 4
  | 24 => 4
  | 25 => 9
  | 26 => 9
  | 29 => 1
  | 50 => 20
  | 51 => 20
  | 59 => 32
  | 60 => 32
  | 61 => 9
  | 62 => 9
  | 76 => 1
  | 81 => 1
  | 87 => 12
  | 88 => 12
  | 93 => 12
  | 94 => 12
  | 99 => 17
  | 100 => 17
  | 115 => 1
  | 123 => 15
  | 124 => 15
  | 125 => 1
  | 141 => 1
  | 142 => 25
  | 144 => 24
  | 146 => 49
  | 147 => 49
  | 148 => 25
  | 156 => 5
  | 159 => 1
  | 165 => 1
  | 167 => 1
  | 177 => 6
  | 190 => 1
  | 191 => 1
  | 192 => 1
  | 196 => 0
  | 200 => 1
  | 201 => 1
  | 202 => 1
  | 204 => 1
  | 205 => 1
  | 206 => 1
  | 209 => 1
  | 210 => 1
  | _ => 0
def TT.bytes : TypeId → Nat
  | 2 => 8
  | 3 => 8
  | 4 => 1
  | 5 => 1
  | 6 => 1
  | 9 => 16
  | 10 => 16
  | 11 => 16
  | 12 => 8
  | 15 => 8
  | 16 => 8
  | 17 => 8
  | 20 => 16
  | 21 => 4
  | 22 => 8
  | 23 => 32
  | 24 => 32
  | 25 => 72
  | 26 => 72
  | 29 => 8
  | 50 => 20
  | 51 => 20
  | 59 => 32
  | 60 => 32
  | 61 => 72
  | 62 => 72
  | 76 => 24
  | 81 => 8
  | 87 => 96
  | 88 => 96
  | 93 => 96
  | 94 => 96
  | 99 => 136
  | 100 => 136
  | 115 => 8
  | 123 => 120
  | 124 => 120
  | 125 => 24
  | 141 => 8
  | 142 => 200
  | 144 => 192
  | 146 => 392
  | 147 => 392
  | 148 => 200
  | 156 => 40
  | 159 => 24
  | 165 => 8
  | 167 => 8
  | 177 => 48
  | 190 => 16
  | 191 => 16
  | 192 => 8
  | 196 => 0
  | 200 => 4
  | 201 => 1
  | 202 => 1
  | 204 => 8
  | 205 => 4
  | 206 => 4
  | 209 => 16
  | 210 => 16
  | _ => 0
def TT.zero : TypeId → List Value
  | 2 => [.int .i64 0]
  | 3 => [.int .i64 0]
  | 4 => [.bool false]
  | 5 => [.int .u8 0]
  | 6 => [.int .u8 0]
  | 9 => [.string ⟨#[]⟩]
  | 10 => [.string ⟨#[]⟩]
  | 11 => [.string ⟨#[]⟩]
  | 12 => [.int .u64 0]
  | 15 => [.pointer none]
  | 16 => [.pointer none]
  | 17 => [.pointer none]
  | 20 => [.nilIface]
  | 21 => [.int .i32 0]
  | 22 => [.int .u64 0]
  | 23 => [.int .u64 0, .int .u64 0, .int .u64 0, .int .u64 0]
  | 24 => [.int .u64 0, .int .u64 0, .int .u64 0, .int .u64 0]
  | 25 => [.int .u64 0, .int .u64 0, .int .u64 0, .int .u64 0, .int .u64 0, .int .u64 0, .int .u64 0, .int .u64 0, .bool false]
  | 26 => [.int .u64 0, .int .u64 0, .int .u64 0, .int .u64 0, .int .u64 0, .int .u64 0, .int .u64 0, .int .u64 0, .bool false]
  | 29 => [.int .i64 0]
  | 50 => [.int .u8 0, .int .u8 0, .int .u8 0, .int .u8 0, .int .u8 0, .int .u8 0, .int .u8 0, .int .u8 0, .int .u8 0, .int .u8 0, .int .u8 0, .int .u8 0, .int .u8 0, .int .u8 0, .int .u8 0, .int .u8 0, .int .u8 0, .int .u8 0, .int .u8 0, .int .u8 0]
  | 51 => [.int .u8 0, .int .u8 0, .int .u8 0, .int .u8 0, .int .u8 0, .int .u8 0, .int .u8 0, .int .u8 0, .int .u8 0, .int .u8 0, .int .u8 0, .int .u8 0, .int .u8 0, .int .u8 0, .int .u8 0, .int .u8 0, .int .u8 0, .int .u8 0, .int .u8 0, .int .u8 0]
  | 59 => [.int .u8 0, .int .u8 0, .int .u8 0, .int .u8 0, .int .u8 0, .int .u8 0, .int .u8 0, .int .u8 0, .int .u8 0, .int .u8 0, .int .u8 0, .int .u8 0, .int .u8 0, .int .u8 0, .int .u8 0, .int .u8 0, .int .u8 0, .int .u8 0, .int .u8 0, .int .u8 0, .int .u8 0, .int .u8 0, .int .u8 0, .int .u8 0, .int .u8 0, .int .u8 0, .int .u8 0, .int .u8 0, .int .u8 0, .int .u8 0, .int .u8 0, .int .u8 0]
  | 60 => [.int .u8 0, .int .u8 0, .int .u8 0, .int .u8 0, .int .u8 0, .int .u8 0, .int .u8 0, .int .u8 0, .int .u8 0, .int .u8 0, .int .u8 0, .int .u8 0, .int .u8 0, .int .u8 0, .int .u8 0, .int .u8 0, .int .u8 0, .int .u8 0, .int .u8 0, .int .u8 0, .int .u8 0, .int .u8 0, .int .u8 0, .int .u8 0, .int .u8 0, .int .u8 0, .int .u8 0, .int .u8 0, .int .u8 0, .int .u8 0, .int .u8 0, .int .u8 0]
  | 61 => [.int .u64 0, .int .u64 0, .int .u64 0, .int .u64 0, .int .u64 0, .int .u64 0, .int .u64 0, .int .u64 0, .int .i64 0]
  | 62 => [.int .u64 0, .int .u64 0, .int .u64 0, .int .u64 0, .int .u64 0, .int .u64 0, .int .u64 0, .int .u64 0, .int .i64 0]
  | 76 => [.slice none 0 0]
  | 81 => [.pointer none]
  | 87 => [.int .u64 0, .int .u64 0, .int .u64 0, .int .u64 0, .int .u64 0, .int .u64 0, .int .u64 0, .int .u64 0, .int .u64 0, .int .u64 0, .int .u64 0, .int .u64 0]
  | 88 => [.int .u64 0, .int .u64 0, .int .u64 0, .int .u64 0, .int .u64 0, .int .u64 0, .int .u64 0, .int .u64 0, .int .u64 0, .int .u64 0, .int .u64 0, .int .u64 0]
  | 93 => [.int .u64 0, .int .u64 0, .int .u64 0, .int .u64 0, .int .u64 0, .int .u64 0, .int .u64 0, .int .u64 0, .int .u64 0, .int .u64 0, .int .u64 0, .int .u64 0]
  | 94 => [.int .u64 0, .int .u64 0, .int .u64 0, .int .u64 0, .int .u64 0, .int .u64 0, .int .u64 0, .int .u64 0, .int .u64 0, .int .u64 0, .int .u64 0, .int .u64 0]
  | 99 => [.int .u64 0, .int .u64 0, .int .u64 0, .int .u64 0, .int .u64 0, .int .u64 0, .int .u64 0, .int .u64 0, .int .u64 0, .int .u64 0, .int .u64 0, .int .u64 0, .int .u64 0, .int .u64 0, .int .u64 0, .int .u64 0, .int .u64 0]
  | 100 => [.int .u64 0, .int .u64 0, .int .u64 0, .int .u64 0, .int .u64 0, .int .u64 0, .int .u64 0, .int .u64 0, .int .u64 0, .int .u64 0, .int .u64 0, .int .u64 0, .int .u64 0, .int .u64 0, .int .u64 0, .int .u64 0, .int .u64 0]
  | 115 => [.int .u64 0]
  | 123 => [.int .i64 0, .int .u64 0, .int .u64 0, .int .u64 0, .int .u64 0, .int .u64 0, .int .i64 0, .int .u64 0, .int .u64 0, .int .u64 0, .int .u64 0, .int .u64 0, .int .u64 0, .int .u64 0, .int .u64 0]
  | 124 => [.int .i64 0, .int .u64 0, .int .u64 0, .int .u64 0, .int .u64 0, .int .u64 0, .int .i64 0, .int .u64 0, .int .u64 0, .int .u64 0, .int .u64 0, .int .u64 0, .int .u64 0, .int .u64 0, .int .u64 0]
  | 125 => [.slice none 0 0]
  | 141 => [.pointer none]
  | 142 => [.int .i64 0, .int .i64 0, .int .i64 0, .int .i64 0, .int .i64 0, .int .i64 0, .int .i64 0, .int .i64 0, .int .i64 0, .int .i64 0, .int .i64 0, .int .i64 0, .int .i64 0, .int .i64 0, .int .i64 0, .int .i64 0, .int .i64 0, .int .i64 0, .int .i64 0, .int .i64 0, .int .i64 0, .int .i64 0, .int .i64 0, .int .i64 0, .int .i64 0]
  | 144 => [.int .u64 0, .int .u64 0, .int .u64 0, .int .u64 0, .int .u64 0, .int .u64 0, .int .u64 0, .int .u64 0, .int .u64 0, .int .u64 0, .int .u64 0, .int .u64 0, .int .u64 0, .int .u64 0, .int .u64 0, .int .u64 0, .int .u64 0, .int .u64 0, .int .u64 0, .int .u64 0, .int .u64 0, .int .u64 0, .int .u64 0, .int .u64 0]
  | 146 => [.int .i64 0, .int .i64 0, .int .i64 0, .int .i64 0, .int .i64 0, .int .i64 0, .int .i64 0, .int .i64 0, .int .i64 0, .int .i64 0, .int .i64 0, .int .i64 0, .int .i64 0, .int .i64 0, .int .i64 0, .int .i64 0, .int .i64 0, .int .i64 0, .int .i64 0, .int .i64 0, .int .i64 0, .int .i64 0, .int .i64 0, .int .i64 0, .int .i64 0, .int .u64 0, .int .u64 0, .int .u64 0, .int .u64 0, .int .u64 0, .int .u64 0, .int .u64 0, .int .u64 0, .int .u64 0, .int .u64 0, .int .u64 0, .int .u64 0, .int .u64 0, .int .u64 0, .int .u64 0, .int .u64 0, .int .u64 0, .int .u64 0, .int .u64 0, .int .u64 0, .int .u64 0, .int .u64 0, .int .u64 0, .int .u64 0]
  | 147 => [.int .i64 0, .int .i64 0, .int .i64 0, .int .i64 0, .int .i64 0, .int .i64 0, .int .i64 0, .int .i64 0, .int .i64 0, .int .i64 0, .int .i64 0, .int .i64 0, .int .i64 0, .int .i64 0, .int .i64 0, .int .i64 0, .int .i64 0, .int .i64 0, .int .i64 0, .int .i64 0, .int .i64 0, .int .i64 0, .int .i64 0, .int .i64 0, .int .i64 0, .int .u64 0, .int .u64 0, .int .u64 0, .int .u64 0, .int .u64 0, .int .u64 0, .int .u64 0, .int .u64 0, .int .u64 0, .int .u64 0, .int .u64 0, .int .u64 0, .int .u64 0, .int .u64 0, .int .u64 0, .int .u64 0, .int .u64 0, .int .u64 0, .int .u64 0, .int .u64 0, .int .u64 0, .int .u64 0, .int .u64 0, .int .u64 0]
  | 148 => [.int .u64 0, .int .u64 0, .int .u64 0, .int .u64 0, .int .u64 0, .int .u64 0, .int .u64 0, .int .u64 0, .int .u64 0, .int .u64 0, .int .u64 0, .int .u64 0, .int .u64 0, .int .u64 0, .int .u64 0, .int .u64 0, .int .u64 0, .int .u64 0, .int .u64 0, .int .u64 0, .int .u64 0, .int .u64 0, .int .u64 0, .int .u64 0, .int .u64 0]
  | 156 => [.int .u64 0, .int .u64 0, .int .u64 0, .int .u64 0, .int .u64 0]
  | 159 => [.slice none 0 0]
  | 165 => [.pointer none]
  | 167 => [.pointer none]
  | 177 => [.int .u64 0, .int .u64 0, .int .u64 0, .int .u64 0, .int .u64 0, .int .u64 0]
  | 190 => [.nilIface]
  | 191 => [.nilIface]
  | 192 => [.pointer none]
  | 196 => []
  | 200 => [.int .u32 0]
  | 201 => [.int .u8 0]
  | 202 => [.int .u8 0]
  | 204 => [.pointer none]
  | 205 => [.int .i32 0]
  | 206 => [.int .i32 0]
  | 209 => [.string ⟨#[]⟩]
  | 210 => [.string ⟨#[]⟩]
  | _ => []
def TT.eqok : TypeId → Bool
  | 2 => true
  | 3 => true
  | 4 => true
  | 5 => true
  | 6 => true
  | 9 => true
  | 10 => true
  | 11 => true
  | 12 => true
  | 15 => true
  | 16 => true
  | 17 => true
  | 21 => true
  | 22 => true
  | 23 => true
  | 24 => true
  | 25 => true
  | 26 => true
  | 29 => true
  | 50 => true
  | 51 => true
  | 59 => true
  | 60 => true
  | 61 => true
  | 62 => true
  | 81 => true
  | 87 => true
  | 88 => true
  | 93 => true
  | 94 => true
  | 99 => true
  | 100 => true
  | 115 => true
  | 123 => true
  | 124 => true
  | 141 => true
  | 142 => true
  | 144 => true
  | 146 => true
  | 147 => true
  | 148 => true
  | 156 => true
  | 165 => true
  | 167 => true
  | 177 => true
  | 192 => true
  | 196 => true
  | 200 => true
  | 201 => true
  | 202 => true
  | 204 => true
  | 205 => true
  | 206 => true
  | 209 => true
  | 210 => true
  | _ => false
def TT.mu : FuncId → Bool
  | 119 => true
  | 136 => true
  | 137 => true
  | 165 => true
  | 169 => true
  | 170 => true
  | _ => false
def TT.ms : List (TypeId × String × FuncId) := [(88, "cairn/secp.add", 60), (88, "cairn/secp.affine", 61), (88, "cairn/secp.double", 109), (88, "cairn/secp.none", 107)]
def TT : Ty := ⟨TT.und, TT.size, TT.bytes, TT.zero, fun t name => lookM t name TT.ms, TT.eqok, TT.mu⟩
theorem TT.big : ∀ t, 212 ≤ t → TT.und t = .other := by
  intro t h; unfold TT.und; split <;> first | rfl | exact absurd h (by decide)
theorem TT.zerobig : ∀ t, 212 ≤ t → TT.zero t = [] := by
  intro t h; unfold TT.zero; split <;> first | rfl | exact absurd h (by decide)
theorem TT.sizebig : ∀ t, 212 ≤ t → TT.size t = 0 := by
  intro t h; unfold TT.size; split <;> first | rfl | exact absurd h (by decide)
theorem TT.ochk : (List.range 212).all (fun t => match TT.und t with | .other => TT.size t == 0 | _ => true) = true := by kernel_rfl
theorem TT.zchk : (List.range 212).all (fun t => (TT.zero t).length == TT.size t) = true := by kernel_rfl
theorem TT.other : ∀ t, TT.und t = .other → TT.size t = 0 := by
  intro t h; rcases Nat.lt_or_ge t 212 with h1 | h1
  · have := List.all_eq_true.1 TT.ochk t (by simpa using h1); simp only [h, beq_iff_eq] at this; exact this
  · exact TT.sizebig t h1
theorem TT.zlen : ∀ t, (TT.zero t).length = TT.size t := by
  intro t; rcases Nat.lt_or_ge t 212 with h1 | h1
  · have := List.all_eq_true.1 TT.zchk t (by simpa using h1); exact eq_of_beq this
  · rw [TT.zerobig t h1, TT.sizebig t h1]; rfl
theorem TT.eqbig : ∀ t, 212 ≤ t → TT.eqok t = false := by
  intro t h; unfold TT.eqok; split <;> first | rfl | exact absurd h (by decide)
theorem TT.all : (List.range 212).all (tyAt Tryz.prog TT) = true := by kernel_rfl
theorem TT.ok : TyOk Tryz.prog TT := tyOk_of 212 TT.all TT.big TT.other TT.zlen TT.eqbig (meth_of (P := Tryz.prog) (ms := TT.ms) (by kernel_rfl))
theorem TT.mixed : Tryz.prog.follows .mixedOrders = true := by kernel_rfl
end Go.Proofs.YtkhipnhdbaahcaaGreat
end
section
set_option linter.unusedVariables false
set_option linter.unusedSimpArgs false
namespace Go.Proofs.YtkhipnhdbaahcaaGreat
open Go Eng
set_option maxRecDepth 100000
set_option exponentiation.threshold 2000
abbrev Sp (f : FuncId) (As : List AVal) (r : AVal) : Prop := Eng.Spec Tryz.prog f As r
noncomputable def bodyOf (f : Func) : Code := f.body.getD .skip

/-- Contracts as they are; whether a loop's blocks may be named anew. -/
structure OkS (g : Bool) (S : SpecT) : Prop where
  eq : S = { specs Tryz.prog with gc := g }
theorem gcOf {S : SpecT} (hS : OkS true S) : S.gc = true := by obtain ⟨rfl⟩ := hS; rfl
/-- A contract out of a walk. The arithmetic and the contracts stand behind names, that the walk does not open them. -/
theorem mk {f : FuncId} {fn : Func} {As : List AVal} {r : AVal} (hf : Tryz.prog.funcs[f]? = some fn) (hb : fn.body = some (bodyOf fn)) (hn : (fn.name == "runtime.NumGoroutine") = false) (Nl : Nat → Nat) (tr : Nat → Md)
    (hok : codeOK tr (bodyOf fn) = true) (h : ∀ (A : Ar) (S : SpecT), A = Ar.real → OkS true S → afun A TT S Nl tr fn.ntmps fn.results (bodyOf fn) As (fun x => Sim x r)) : Sp f As r :=
  spec_of_afunK (P := Tryz.prog) (T := TT) TT.ok TT.mixed (draw_ok (P := Tryz.prog) (T := TT) TT.ok) (Sp := specs Tryz.prog) ⟨fun _ _ _ h => h, fun _ _ _ _ _ h => h, fun _ _ _ _ h => h, fun _ => rfl⟩ rfl hf hb hn (N := Nl) (tr := tr) hok (h Ar.real _ rfl ⟨rfl⟩) fun _ h => h
theorem mkM {f : FuncId} {fn : Func} {h0 h1 : List Blk} {As : List AVal} {r : AVal} (hf : Tryz.prog.funcs[f]? = some fn) (hb : fn.body = some (bodyOf fn)) (hn : (fn.name == "runtime.NumGoroutine") = false) (Nl : Nat → Nat) (tr : Nat → Md)
    (hok : codeOK tr (bodyOf fn) = true) (h : ∀ (A : Ar) (S : SpecT), A = Ar.real → OkS false S → afunM A TT S Nl tr fn.ntmps fn.results (bodyOf fn) h0 As (fun r' k => r' = r ∧ k = h1)) : SpecM Tryz.prog f h0 As r h1 :=
  specM_of_afunM (P := Tryz.prog) (T := TT) TT.ok TT.mixed (draw_ok (P := Tryz.prog) (T := TT) TT.ok) (Sp := { specs Tryz.prog with gc := false }) ⟨fun _ _ _ h => h, fun _ _ _ _ _ h => h, fun _ _ _ _ h => h, fun _ => rfl⟩ rfl rfl hf hb hn (N := Nl) (tr := tr) hok (h Ar.real _ rfl ⟨rfl⟩)
theorem mkI {f : FuncId} {fn : Func} {cap : List AVal} {n : Nat} {xs : Nat → List AVal} (hf : Tryz.prog.funcs[f]? = some fn) (hb : fn.body = some (bodyOf fn)) (hn : (fn.name == "runtime.NumGoroutine") = false) (Nl : Nat → Nat) (tr : Nat → Md)
    (hok : codeOK tr (bodyOf fn) = true) (hnr : noRange (bodyOf fn) = true) (h : ∀ (A : Ar) (S : SpecT), A = Ar.real → S.n = n → S.xs = xs → afunI A TT S Nl tr fn.ntmps fn.results (bodyOf fn) S.l cap (fun k => k = ghost n)) : SeqSp Tryz.prog f cap n xs :=
  seq_of_afunI (P := Tryz.prog) (T := TT) TT.ok TT.mixed (draw_ok (P := Tryz.prog) (T := TT) TT.ok) hf hb hn (N := Nl) (tr := tr) hok hnr fun l => h Ar.real { specs Tryz.prog with l := l, n := n, xs := xs, it := true, gc := false } rfl rfl rfl
theorem cf {g : Bool} {S : SpecT} (hS : OkS g S) {f : FuncId} {As : List AVal} {r : AVal} (h : Sp f As r) : S.fn f As r := by obtain ⟨rfl⟩ := hS; exact h
theorem cm {g : Bool} {S : SpecT} (hS : OkS g S) {f : FuncId} {h0 h1 : List Blk} {As : List AVal} {r : AVal} (h : SpecM Tryz.prog f h0 As r h1) : S.mu f h0 As r h1 := by obtain ⟨rfl⟩ := hS; exact h
theorem cs {g : Bool} {S : SpecT} (hS : OkS g S) {f : FuncId} {cap : List AVal} {n : Nat} {xs : Nat → List AVal} (h : SeqSp Tryz.prog f cap n xs) : S.seq f cap n xs := by obtain ⟨rfl⟩ := hS; exact h
def L0 : Nat → Nat := fun _ => 20
def R0 : Nat → Md := fun _ => .own
def R1 : Nat → Md := fun _ => .mid
def R2 : Nat → Md := fun _ => .all
/-- A contract whose arguments are told otherwise. -/
theorem cg {g : Bool} {S : SpecT} (hS : OkS g S) {f : FuncId} {As As' : List AVal} {r : AVal} (h : Sp f As r) (ha : SimL As' As) : S.fn f As' r := by obtain ⟨rfl⟩ := hS; exact Spec.args h ha
theorem cmp_lit {A : Ar} (hA : A = Ar.real) {op : BinOp} {x y : Int} {t : Bool} (h : rcmp op x y = t) : A.cmp op x y = t := by rw [hA]; exact h

/-- A word, known or by a term. -/
inductive IsU : AVal → Int → Prop where
  | i (n : Int) : IsU (.i .u64 n) n
  | s (n : Int) : IsU (.s .u64 n) n
theorem IsU.rep {w : World} {X : Nat → Prop} {ρ : Nat → Option Nat} {v : Value} {x : AVal} {n : Int} (h : Rep w X ρ v x) (hu : IsU x n) : v = .int .u64 n := by
  cases hu with
  | i => exact h.i_inv
  | s => exact h.s_inv

theorem three_args {w : World} {X : Nat → Prop} {vs : List Value} {a b c : AVal} {x y z : Int} (h : RepL w X noρ vs [a, b, c]) (ha : IsU a x) (hb : IsU b y) (hc : IsU c z) : vs = [.int .u64 x, .int .u64 y, .int .u64 z] := by
  cases h with
  | cons h1 h => cases h with
    | cons h2 h => cases h with
      | cons h3 h => cases h with
        | nil => rw [ha.rep h1, hb.rep h2, hc.rep h3]

theorem out_pair {w0 w : World} {X : Nat → Prop} (o k : Int) : OutR w0 w X (.tuple #[.int .u64 o, .int .u64 k]) (.tup [.s .u64 o, .s .u64 k]) :=
  .inl ⟨[], [.int .u64 o, .int .u64 k], _, rfl, rfl, .nil, .tree _ _ (.s _ _) (.tree _ _ (.s _ _) .nil)⟩

theorem add64S {a b c : AVal} {x y z : Int} (ha : IsU a x) (hb : IsU b y) (hc : IsU c z) (hx : 0 ≤ x) (hy : 0 ≤ y) (hz : 0 ≤ z ∧ z ≤ 1) (o k : Int) (h : o + 18446744073709551616 * k = x + y + z) (ho : 0 ≤ o ∧ o < 18446744073709551616) :
    Sp 134 [a, b, c] (.tup [.s .u64 o, .s .u64 k]) := by
  intro X w vs hX hv
  rw [three_args hv ha hb hc]
  unfold CallsX
  rw [run_callFunc_extern Tryz.func134 (by kernel_rfl) (by kernel_rfl) (by kernel_rfl) (e := add64Entry) (by kernel_rfl), run_add64 x y z hx hy hz.1 hz.2]
  simp only [Result.andThen]
  obtain rfl : o = (x + y + z) % 18446744073709551616 := by omega
  obtain rfl : k = (x + y + z) / 18446744073709551616 := by omega
  exact ⟨Ext.refl _ w, out_pair _ _⟩
def sub64E : Array Value → Sem Value := fun args => do
  let (x, y, b) ← Extern.MathBitsCarry.three "Sub64" args
  pure (Extern.MathBitsCarry.pair ((x + Extern.MathBitsCarry.m64 - y - b) % Extern.MathBitsCarry.m64) (if x < y + b then 1 else 0))
theorem run_sub64 {P : Program} (x y b : Nat) (hb : b ≤ 1) (w : World) :
    (sub64E #[.int .u64 x, .int .u64 y, .int .u64 b]).run P w =
      .ok (.tuple #[.int .u64 (((x + 18446744073709551616 - y - b) % 18446744073709551616 : Nat) : Int), .int .u64 ((if x < y + b then 1 else 0 : Nat) : Int)]) w := by
  have : b = 0 ∨ b = 1 := by omega
  rcases this with rfl | rfl <;> rfl
theorem sub64S {a b c : AVal} {x y z : Int} (ha : IsU a x) (hb : IsU b y) (hc : IsU c z) (hx : 0 ≤ x ∧ x < 18446744073709551616) (hy : 0 ≤ y ∧ y < 18446744073709551616) (hz : 0 ≤ z ∧ z ≤ 1) (o k : Int) (h : o - 18446744073709551616 * k = x - y - z) (ho : 0 ≤ o ∧ o < 18446744073709551616) :
    Sp 140 [a, b, c] (.tup [.s .u64 o, .s .u64 k]) := by
  intro X w vs hX hv
  rw [three_args hv ha hb hc]
  unfold CallsX
  obtain ⟨x, rfl⟩ : ∃ n : Nat, x = n := ⟨x.toNat, by omega⟩
  obtain ⟨y, rfl⟩ : ∃ n : Nat, y = n := ⟨y.toNat, by omega⟩
  obtain ⟨z, rfl⟩ : ∃ n : Nat, z = n := ⟨z.toNat, by omega⟩
  rw [run_callFunc_extern Tryz.func140 (by kernel_rfl) (by kernel_rfl) (by kernel_rfl) (e := sub64E) (by kernel_rfl), run_sub64 x y z (by omega)]
  simp only [Result.andThen]
  have h1 : o = (((x + 18446744073709551616 - y - z) % 18446744073709551616 : Nat) : Int) := by omega
  have h2 : k = ((if x < y + z then 1 else 0 : Nat) : Int) := by split <;> omega
  rw [← h1, ← h2]
  exact ⟨Ext.refl _ w, out_pair _ _⟩

/-- A number's words. -/
abbrev Lim := Nat → Nat → Int
def limR : Lim := fun a i => ((a / 2 ^ (64 * i) % 2 ^ 64 : Nat) : Int)
def u4 (lim : Lim) (a : Nat) : AVal := .agg [.s .u64 (lim a 0), .s .u64 (lim a 1), .s .u64 (lim a 2), .s .u64 (lim a 3)]
theorem lim_range {lim : Lim} (hl : lim = limR) (a i : Nat) : 0 ≤ lim a i ∧ lim a i < 18446744073709551616 := by
  subst hl
  unfold limR
  generalize a / 2 ^ (64 * i) = q
  omega
theorem lim_mod {lim : Lim} (hl : lim = limR) (a : Nat) : lim a 0 = ((a % 18446744073709551616 : Nat) : Int) := by subst hl; simp [limR]
theorem lim_succ {lim : Lim} (hl : lim = limR) (a i : Nat) : lim a (i + 1) = lim (a / 18446744073709551616) i := by
  subst hl
  unfold limR
  rw [show 64 * (i + 1) = 64 + 64 * i by omega, Nat.pow_add, ← Nat.div_div_eq_div_mul]
theorem uniq {x y p q : Int} (hx : 0 ≤ x ∧ x < 18446744073709551616) (hy : 0 ≤ y ∧ y < 18446744073709551616) (h : x + 18446744073709551616 * p = y + 18446744073709551616 * q) : x = y ∧ p = q := by omega
theorem split1 {lim : Lim} (hl : lim = limR) (a : Nat) : (a : Int) = lim a 0 + 18446744073709551616 * ((a / 18446744073709551616 : Nat) : Int) := by
  rw [lim_mod hl]; omega
theorem split4 {lim : Lim} (hl : lim = limR) (a : Nat) (ha : a < 2 ^ 256) : (a : Int) = lim a 0 + 18446744073709551616 * (lim a 1 + 18446744073709551616 * (lim a 2 + 18446744073709551616 * lim a 3)) := by
  rw [split1 hl a, lim_succ hl a 0, split1 hl (a / 18446744073709551616), lim_succ hl a 1, lim_succ hl _ 0, split1 hl (a / 18446744073709551616 / 18446744073709551616), lim_succ hl a 2, lim_succ hl _ 1, lim_succ hl _ 0,
    lim_mod hl (a / 18446744073709551616 / 18446744073709551616 / 18446744073709551616), Nat.mod_eq_of_lt (a := a / 18446744073709551616 / 18446744073709551616 / 18446744073709551616)]
  rw [Nat.div_div_eq_div_mul, Nat.div_div_eq_div_mul]
  exact Nat.div_lt_of_lt_mul (by simpa using ha)
theorem lim_of4 {lim : Lim} (hl : lim = limR) {a : Nat} (ha : a < 2 ^ 256) {x0 x1 x2 x3 : Int} (h0 : 0 ≤ x0 ∧ x0 < 18446744073709551616) (h1 : 0 ≤ x1 ∧ x1 < 18446744073709551616) (h2 : 0 ≤ x2 ∧ x2 < 18446744073709551616)
    (h : (a : Int) = x0 + 18446744073709551616 * (x1 + 18446744073709551616 * (x2 + 18446744073709551616 * x3))) : lim a 0 = x0 ∧ lim a 1 = x1 ∧ lim a 2 = x2 ∧ lim a 3 = x3 := by
  rw [split4 hl a ha] at h
  obtain ⟨e0, h⟩ := uniq (lim_range hl a 0) h0 h
  obtain ⟨e1, h⟩ := uniq (lim_range hl a 1) h1 h
  obtain ⟨e2, h⟩ := uniq (lim_range hl a 2) h2 h
  exact ⟨e0, e1, e2, h⟩
theorem carry {x y z : Int} (hx : 0 ≤ x ∧ x < 18446744073709551616) (hy : 0 ≤ y ∧ y < 18446744073709551616) (hz : 0 ≤ z ∧ z ≤ 1) : ∃ o k : Int, o + 18446744073709551616 * k = x + y + z ∧ (0 ≤ o ∧ o < 18446744073709551616) ∧ 0 ≤ k ∧ k ≤ 1 :=
  ⟨(x + y + z) % 18446744073709551616, (x + y + z) / 18446744073709551616, by omega, by omega, by omega⟩
theorem borrow {x y z : Int} (hx : 0 ≤ x ∧ x < 18446744073709551616) (hy : 0 ≤ y ∧ y < 18446744073709551616) (hz : 0 ≤ z ∧ z ≤ 1) : ∃ o k : Int, o - 18446744073709551616 * k = x - y - z ∧ (0 ≤ o ∧ o < 18446744073709551616) ∧ 0 ≤ k ∧ k ≤ 1 :=
  ⟨(x - y - z) % 18446744073709551616, -((x - y - z) / 18446744073709551616), by omega, by omega, by omega⟩
end Go.Proofs.YtkhipnhdbaahcaaGreat
end
section
set_option linter.unusedVariables false
set_option linter.unusedSimpArgs false
namespace Go.Proofs.YtkhipnhdbaahcaaGreat
open Go Eng
set_option maxRecDepth 100000
set_option exponentiation.threshold 2000
theorem own : ownKnob Tryz.prog.godebug = none := by kernel_rfl
theorem laidOut : laidOutB Tryz.prog = true := by kernel_rfl
/-- A law's call, by its contract. -/
theorem calls_of {f : FuncId} {fn : Func} (hf : Tryz.prog.funcs[f]? = some fn) (hb : fn.body.isNone = false) (hn : (fn.name == "runtime.NumGoroutine") = false) {As : List AVal} {W : World} {vs : List Value}
    (hS : Sp f As (.sb true)) (hv : RepL W (fun _ => False) noρ vs As) : Calls Tryz.prog f vs.toArray W fun e W' => e = .returned (.bool true) ∧ Go.RowKit.Below W.heap.size W W' := by
  have h := hS (fun _ => False) W vs (fun _ h => h.elim) hv
  unfold CallsX at h
  rw [callFunc_body hf hn hb] at h
  refine Calls.mono h fun e W' ⟨v, he, hx, ho⟩ => ?_
  have hvb : v = .bool true := by
    rcases ho with ⟨N, vs, xs, _, h2, _⟩ | ⟨N, _, ho⟩
    · cases h2
    · cases ho with
      | tree _ _ hr _ => exact hr.sb_inv
  subst hvb
  exact ⟨he, ⟨hx.os, hx.tape, hx.output, hx.size, fun k hk => hx.block k hk fun h => h⟩⟩
/-- An argument of words alone. -/
theorem open_words {W : World} {base : Nat} {t : TypeId} {n : Nat} {e : TypeId} {v : Value} (hu : Tryz.prog.underlying t = some (.array n e)) (hts : Tryz.prog.cellTypes Tryz.prog.depth t = some (List.replicate n e))
    (he : Tryz.prog.underlying e = some (.int .u64)) (hsz : Tryz.prog.cellsOf t = n) (h : Value.okWide Tryz.prog W .any base t v) : ∃ zs : List Int, v = .agg (zs.map (Value.int .u64)).toArray ∧ zs.length = n ∧ ∀ z ∈ zs, 0 ≤ z ∧ z < 18446744073709551616 := by
  unfold Value.okWide at h
  rw [hu] at h
  obtain ⟨cs, rfl, hcs, ts, h1, ⟨k, hk⟩, h2⟩ := h
  rw [hts] at h1
  cases h1
  rw [List.length_replicate] at h2
  rw [hsz] at hcs
  have each : ∀ (i : Nat) (v : Value), cs[i]? = some v → ∃ z : Int, v = .int .u64 z ∧ 0 ≤ z ∧ z < 18446744073709551616 := by
    intro i v hi
    obtain ⟨u, hu1, hu2⟩ := h2 i v hi
    have hue : u = e := by
      rw [List.getElem?_replicate] at hu1
      split at hu1
      · cases hu1; rfl
      · cases hu1
    subst hue
    unfold Cell.okWide at hu2
    rw [he] at hu2
    unfold Cell.ok at hu2
    rw [he] at hu2
    cases v <;> simp only at hu2 <;> try (exact hu2.elim)
    rename_i k' z
    obtain ⟨rfl, hz⟩ := hu2
    have h3 : (0 : Int) ≤ z ∧ z ≤ 18446744073709551615 := hz
    exact ⟨z, rfl, h3.1, by omega⟩
  have key : ∀ (l : List Value), (∀ (i : Nat) (v : Value), l[i]? = some v → ∃ z : Int, v = .int .u64 z ∧ 0 ≤ z ∧ z < 18446744073709551616) → ∃ zs : List Int, l = zs.map (Value.int .u64) ∧ ∀ z ∈ zs, 0 ≤ z ∧ z < 18446744073709551616 := by
    intro l
    induction l with
    | nil => intro _; exact ⟨[], rfl, fun _ h => by cases h⟩
    | cons x l ih =>
      intro hl
      obtain ⟨z, rfl, hz⟩ := hl 0 x rfl
      obtain ⟨zs, rfl, hzs⟩ := ih fun i v hi => hl (i + 1) v (by simpa using hi)
      exact ⟨z :: zs, rfl, fun y hy => by
        rcases List.mem_cons.1 hy with rfl | hy
        · exact hz
        · exact hzs y hy⟩
  obtain ⟨zs, h3, h4⟩ := key cs.toList fun i v hi => each i v (by simpa using hi)
  refine ⟨zs, by rw [← h3], ?_, h4⟩
  have := congrArg List.length h3
  simp at this
  omega
theorem open_u4 {W : World} {X : Nat → Prop} {base : Nat} {t : TypeId} {e : TypeId} {v : Value} (hu : Tryz.prog.underlying t = some (.array 4 e)) (hts : Tryz.prog.cellTypes Tryz.prog.depth t = some (List.replicate 4 e))
    (he : Tryz.prog.underlying e = some (.int .u64)) (hsz : Tryz.prog.cellsOf t = 4) (h : Value.okWide Tryz.prog W .any base t v) : ∃ a : Nat, a < 2 ^ 256 ∧ Rep W X noρ v (u4 limR a) := by
  obtain ⟨zs, rfl, hl, hz⟩ := open_words hu hts he hsz h
  obtain ⟨z0, z1, z2, z3, rfl⟩ : ∃ z0 z1 z2 z3 : Int, zs = [z0, z1, z2, z3] := by
    match zs, hl with
    | [z0, z1, z2, z3], _ => exact ⟨z0, z1, z2, z3, rfl⟩
  have r0 := hz z0 (by simp)
  have r1 := hz z1 (by simp)
  have r2 := hz z2 (by simp)
  have r3 := hz z3 (by simp)
  obtain ⟨a, ha⟩ : ∃ a : Nat, (a : Int) = z0 + 18446744073709551616 * (z1 + 18446744073709551616 * (z2 + 18446744073709551616 * (z3))) := ⟨(z0 + 18446744073709551616 * (z1 + 18446744073709551616 * (z2 + 18446744073709551616 * (z3)))).toNat, Int.toNat_of_nonneg (by omega)⟩
  have han : a < 2 ^ 256 := by omega
  obtain ⟨e0, e1, e2, e3⟩ := lim_of4 rfl han r0 r1 r2 ha
  refine ⟨a, han, ?_⟩
  unfold u4
  rw [e0, e1, e2, e3]
  exact RepL.agg (vs := [.int .u64 z0, .int .u64 z1, .int .u64 z2, .int .u64 z3]) (.cons (.s _ _) (.cons (.s _ _) (.cons (.s _ _) (.cons (.s _ _) (.nil)))))
end Go.Proofs.YtkhipnhdbaahcaaGreat
end
section
set_option linter.unusedVariables false
set_option linter.unusedSimpArgs false
namespace Go.Proofs.YtkhipnhdbaahcaaGreat
open Go Eng
set_option maxRecDepth 100000
set_option exponentiation.threshold 2000
theorem sum4 {a0 b0 o0 k1 a1 b1 o1 k2 a2 b2 o2 k3 a3 b3 o3 k4 : Int} {a b o k : Nat} (sa : (a : Int) = a0 + 18446744073709551616 * (a1 + 18446744073709551616 * (a2 + 18446744073709551616 * (a3)))) (sb : (b : Int) = b0 + 18446744073709551616 * (b1 + 18446744073709551616 * (b2 + 18446744073709551616 * (b3)))) (h : o + 2 ^ 256 * k = a + b) (ho : o < 2 ^ 256)
    (e0 : o0 + 18446744073709551616 * k1 = a0 + b0 + 0) (e1 : o1 + 18446744073709551616 * k2 = a1 + b1 + k1) (e2 : o2 + 18446744073709551616 * k3 = a2 + b2 + k2) (e3 : o3 + 18446744073709551616 * k4 = a3 + b3 + k3) (r0 : 0 ≤ o0 ∧ o0 < 18446744073709551616) (r1 : 0 ≤ o1 ∧ o1 < 18446744073709551616) (r2 : 0 ≤ o2 ∧ o2 < 18446744073709551616) (r3 : 0 ≤ o3 ∧ o3 < 18446744073709551616) :
    (o : Int) = o0 + 18446744073709551616 * (o1 + 18446744073709551616 * (o2 + 18446744073709551616 * (o3))) ∧ (k : Int) = k4 := by
  have hh : (o : Int) + 115792089237316195423570985008687907853269984665640564039457584007913129639936 * (k : Int) = (a : Int) + (b : Int) := by omega
  have ho' : (o : Int) < 115792089237316195423570985008687907853269984665640564039457584007913129639936 := by omega
  have ho2 : (0 : Int) ≤ o := by omega
  clear h ho
  rw [sa, sb] at hh
  clear sa sb
  omega
theorem dif4 {a0 b0 o0 k1 a1 b1 o1 k2 a2 b2 o2 k3 a3 b3 o3 k4 : Int} {a b o k : Nat} (sa : (a : Int) = a0 + 18446744073709551616 * (a1 + 18446744073709551616 * (a2 + 18446744073709551616 * (a3)))) (sb : (b : Int) = b0 + 18446744073709551616 * (b1 + 18446744073709551616 * (b2 + 18446744073709551616 * (b3)))) (h : o + b = a + 2 ^ 256 * k) (ho : o < 2 ^ 256)
    (e0 : o0 - 18446744073709551616 * k1 = a0 - b0 - 0) (e1 : o1 - 18446744073709551616 * k2 = a1 - b1 - k1) (e2 : o2 - 18446744073709551616 * k3 = a2 - b2 - k2) (e3 : o3 - 18446744073709551616 * k4 = a3 - b3 - k3) (r0 : 0 ≤ o0 ∧ o0 < 18446744073709551616) (r1 : 0 ≤ o1 ∧ o1 < 18446744073709551616) (r2 : 0 ≤ o2 ∧ o2 < 18446744073709551616) (r3 : 0 ≤ o3 ∧ o3 < 18446744073709551616) :
    (o : Int) = o0 + 18446744073709551616 * (o1 + 18446744073709551616 * (o2 + 18446744073709551616 * (o3))) ∧ (k : Int) = k4 := by
  have hh : (o : Int) + (b : Int) = (a : Int) + 115792089237316195423570985008687907853269984665640564039457584007913129639936 * (k : Int) := by omega
  have ho' : (o : Int) < 115792089237316195423570985008687907853269984665640564039457584007913129639936 := by omega
  have ho2 : (0 : Int) ≤ o := by omega
  clear h ho
  rw [sa, sb] at hh
  clear sa sb
  omega
theorem plus4 {lim : Lim} (hl : lim = limR) (a b o k : Nat) (ha : a < 2 ^ 256) (hb : b < 2 ^ 256) (h : o + 2 ^ 256 * k = a + b) (ho : o < 2 ^ 256) :
    Sp 101 [u4 lim a, u4 lim b] (.tup [u4 lim o, .s .u64 k]) := by
  have la := fun i => lim_range hl a i
  have lb := fun i => lim_range hl b i
  obtain ⟨o0, k1, e0, r0, q1⟩ := carry (la 0) (lb 0) (z := 0) (by omega)
  obtain ⟨o1, k2, e1, r1, q2⟩ := carry (la 1) (lb 1) q1
  obtain ⟨o2, k3, e2, r2, q3⟩ := carry (la 2) (lb 2) q2
  obtain ⟨o3, k4, e3, r3, q4⟩ := carry (la 3) (lb 3) q3
  have hs := sum4 (split4 hl a ha) (split4 hl b hb) h ho e0 e1 e2 e3 r0 r1 r2 r3
  have hf := lim_of4 hl ho r0 r1 r2 hs.1
  refine mk Tryz.func101 rfl rfl L0 R0 (by decide +kernel) fun A S hA hS => ?_
  unfold bodyOf Tryz.f101
  cbv
  refine ACall.mk (.tup [.s .u64 o0, .s .u64 k1]) (cf hS (add64S (.s _) (.s _) (.i _) (la 0).1 (lb 0).1 (by omega) _ _ e0 r0)) ?_
  cbv
  refine ACall.mk (.tup [.s .u64 o1, .s .u64 k2]) (cf hS (add64S (.s _) (.s _) (.s _) (la 1).1 (lb 1).1 q1 _ _ e1 r1)) ?_
  cbv
  refine ACall.mk (.tup [.s .u64 o2, .s .u64 k3]) (cf hS (add64S (.s _) (.s _) (.s _) (la 2).1 (lb 2).1 q2 _ _ e2 r2)) ?_
  cbv
  refine ACall.mk (.tup [.s .u64 o3, .s .u64 k4]) (cf hS (add64S (.s _) (.s _) (.s _) (la 3).1 (lb 3).1 q3 _ _ e3 r3)) ?_
  cbv
  obtain ⟨f0, f1, f2, f3⟩ := hf
  exact ⟨⟨f0.symm, f1.symm, f2.symm, f3.symm⟩, hs.2.symm⟩
theorem minus4 {lim : Lim} (hl : lim = limR) (a b o k : Nat) (ha : a < 2 ^ 256) (hb : b < 2 ^ 256) (h : o + b = a + 2 ^ 256 * k) (ho : o < 2 ^ 256) :
    Sp 125 [u4 lim a, u4 lim b] (.tup [u4 lim o, .s .u64 k]) := by
  have la := fun i => lim_range hl a i
  have lb := fun i => lim_range hl b i
  obtain ⟨o0, k1, e0, r0, q1⟩ := borrow (la 0) (lb 0) (z := 0) (by omega)
  obtain ⟨o1, k2, e1, r1, q2⟩ := borrow (la 1) (lb 1) q1
  obtain ⟨o2, k3, e2, r2, q3⟩ := borrow (la 2) (lb 2) q2
  obtain ⟨o3, k4, e3, r3, q4⟩ := borrow (la 3) (lb 3) q3
  have hs := dif4 (split4 hl a ha) (split4 hl b hb) h ho e0 e1 e2 e3 r0 r1 r2 r3
  have hf := lim_of4 hl ho r0 r1 r2 hs.1
  refine mk Tryz.func125 rfl rfl L0 R0 (by decide +kernel) fun A S hA hS => ?_
  unfold bodyOf Tryz.f125
  cbv
  refine ACall.mk (.tup [.s .u64 o0, .s .u64 k1]) (cf hS (sub64S (.s _) (.s _) (.i _) (la 0) (lb 0) (by omega) _ _ e0 r0)) ?_
  cbv
  refine ACall.mk (.tup [.s .u64 o1, .s .u64 k2]) (cf hS (sub64S (.s _) (.s _) (.s _) (la 1) (lb 1) q1 _ _ e1 r1)) ?_
  cbv
  refine ACall.mk (.tup [.s .u64 o2, .s .u64 k3]) (cf hS (sub64S (.s _) (.s _) (.s _) (la 2) (lb 2) q2 _ _ e2 r2)) ?_
  cbv
  refine ACall.mk (.tup [.s .u64 o3, .s .u64 k4]) (cf hS (sub64S (.s _) (.s _) (.s _) (la 3) (lb 3) q3 _ _ e3 r3)) ?_
  cbv
  obtain ⟨f0, f1, f2, f3⟩ := hf
  exact ⟨⟨f0.symm, f1.symm, f2.symm, f3.symm⟩, hs.2.symm⟩
end Go.Proofs.YtkhipnhdbaahcaaGreat
end
section
set_option linter.unusedVariables false
set_option linter.unusedSimpArgs false
namespace Go.Proofs.YtkhipnhdbaahcaaGreat
open Go Eng
set_option maxRecDepth 100000
set_option exponentiation.threshold 2000

theorem shr32 (a : Nat) : rbin .shr .u64 (Int.ofNat a) 32 = Int.ofNat (a / 4294967296) := u_shr a 32 (by omega)
theorem and32 (a : Nat) (ha : a < 18446744073709551616) : rbin .and .u64 (Int.ofNat a) 4294967295 = Int.ofNat (a % 4294967296) := u_mask a 32 (by omega) ha

theorem mul64S (x y hi lo : Nat) (hx : x < 2 ^ 64) (hy : y < 2 ^ 64) (h : lo + 2 ^ 64 * hi = x * y) (hlo : lo < 2 ^ 64) : Sp 167 [.s .u64 x, .s .u64 y] (.tup [.s .u64 hi, .s .u64 lo]) := by
  refine mk Tryz.func167 rfl rfl L0 R0 (by decide +kernel) fun A S hA hS => ?_
  unfold bodyOf Tryz.f167
  cbv
  subst hA
  dsimp only [Ar.real]
  clear hS S
  obtain ⟨h1, h2, h3, h4⟩ := Go.Lib.mul64_hi x y (by simpa using hx) (by simpa using hy)
  have ex : x * y % 18446744073709551616 = lo := by omega
  have eh : x * y / 18446744073709551616 = hi := by omega
  have ha := Go.Lib.half_mul_le (a := x / 4294967296) (b := y / 4294967296) (by omega) (by omega)
  have hb := Go.Lib.half_mul_le (a := x / 4294967296) (b := y % 4294967296) (by omega) (by omega)
  have hc := Go.Lib.half_mul_le (a := x % 4294967296) (b := y / 4294967296) (by omega) (by omega)
  have hd := Go.Lib.half_mul_le (a := x % 4294967296) (b := y % 4294967296) (by omega) (by omega)
  rw [and32 x (by simpa using hx), and32 y (by simpa using hy)]
  simp only [shr32, u_mul]
  rw [Nat.mod_eq_of_lt (show x / 4294967296 * (y / 4294967296) < _ by omega), Nat.mod_eq_of_lt (show x / 4294967296 * (y % 4294967296) < _ by omega), Nat.mod_eq_of_lt (show x % 4294967296 * (y / 4294967296) < _ by omega), Nat.mod_eq_of_lt h1]
  simp only [shr32, u_add]
  rw [Nat.mod_eq_of_lt h2, and32 _ h2]
  simp only [shr32, u_add]
  rw [Nat.mod_eq_of_lt h3, ex]
  rw [← Nat.add_mod_mod, Nat.add_mod_mod] at *
  rw [Nat.mod_add_mod, h4, eh, Nat.mod_eq_of_lt (by omega)]
  exact ⟨rfl, rfl⟩
theorem less_dif {n a b d : Nat} (ha : a < n) (hb : b < n) (t : Bool) (ht : t = decide (a < b)) (hd : d = if a < b then a + n - b else a - b) : ∃ k : Nat, d + b = a + n * k ∧ d < n ∧ k = (if t then 1 else 0) := by
  by_cases h : a < b
  · rw [if_pos h] at hd
    rw [ht, decide_eq_true h]
    exact ⟨1, by omega, by omega, rfl⟩
  · rw [if_neg h] at hd
    rw [ht, decide_eq_false h]
    exact ⟨0, by omega, by omega, rfl⟩
theorem less4S {lim : Lim} (hl : lim = limR) (a b : Nat) (ha : a < 2 ^ 256) (hb : b < 2 ^ 256) (t : Bool) (ht : t = decide (a < b)) : Sp 123 [u4 lim a, u4 lim b] (.sb t) := by
  obtain ⟨d, hd⟩ : ∃ d, d = if a < b then a + 2 ^ 256 - b else a - b := ⟨_, rfl⟩
  obtain ⟨k, h1, h2, h3⟩ := less_dif ha hb t ht hd
  refine mk Tryz.func123 rfl rfl L0 R0 (by decide +kernel) fun A S hA hS => ?_
  unfold bodyOf Tryz.f123
  cbv
  refine ACall.mk (.tup [u4 lim d, .s .u64 k]) (cf hS (minus4 hl a b d k ha hb h1 h2)) ?_
  cbv
  subst hA
  cases t <;> simp at h3 <;> subst h3 <;> rfl
theorem none4S : Sp 100 [] (.agg [.i .u64 0, .i .u64 0, .i .u64 0, .i .u64 0]) := by
  refine mk Tryz.func100 rfl rfl L0 R0 (by decide +kernel) fun A S hA hS => ?_
  unfold bodyOf Tryz.f100
  cbv
/-- x y and two more. -/
theorem stepN {Z C : AVal} (x y z c hi lo : Nat) (hx : x < 18446744073709551616) (hy : y < 18446744073709551616) (hz : z < 18446744073709551616) (hc : c < 18446744073709551616) (hZ : IsU Z z) (hC : IsU C c)
    (h : lo + 18446744073709551616 * hi = x * y + z + c) (hlo : lo < 18446744073709551616) : Sp 159 [.s .u64 x, .s .u64 y, Z, C] (.tup [.s .u64 hi, .s .u64 lo]) := by
  have hxy : x * y ≤ 18446744073709551615 * 18446744073709551615 := Nat.mul_le_mul (by omega) (by omega)
  obtain ⟨p, hp⟩ : ∃ p, p = x * y := ⟨_, rfl⟩
  rw [← hp] at hxy h
  obtain ⟨h0, eh0⟩ : ∃ n, n = p / 18446744073709551616 := ⟨_, rfl⟩
  obtain ⟨l0, el0⟩ : ∃ n, n = p % 18446744073709551616 := ⟨_, rfl⟩
  obtain ⟨l1, k1, e1, r1, q1⟩ := carry (x := l0) (y := z) (z := 0) (by omega) (by omega) (by omega)
  obtain ⟨l2, k2, e2, r2, q2⟩ := carry (x := l1) (y := c) (z := 0) r1 (by omega) (by omega)
  obtain ⟨k1, rfl⟩ : ∃ n : Nat, k1 = n := ⟨k1.toNat, by omega⟩
  obtain ⟨k2, rfl⟩ : ∃ n : Nat, k2 = n := ⟨k2.toNat, by omega⟩
  have hm := mul64S x y h0 l0 (by omega) (by omega) (by omega) (by omega)
  have hfin : l2 = lo ∧ h0 + k1 + k2 = hi := by omega
  have hhi : h0 + k1 + k2 < 18446744073709551616 := by omega
  clear eh0 el0 hxy h
  cases hZ <;> cases hC
  all_goals
    refine mk Tryz.func159 rfl rfl L0 R0 (by decide +kernel) fun A S hA hS => ?_
    unfold bodyOf Tryz.f159
    cbv
    refine ACall.mk (.tup [.s .u64 h0, .s .u64 l0]) (cf hS hm) ?_
    cbv
    refine ACall.mk (.tup [.s .u64 l1, .s .u64 k1]) (cf hS (add64S (.s _) (by first | exact .i _ | exact .s _) (.i _) (by exact Int.natCast_nonneg _) (by exact Int.natCast_nonneg _) (by omega) _ _ e1 r1)) ?_
    cbv
    refine ACall.mk (.tup [.s .u64 l2, .s .u64 k2]) (cf hS (add64S (.s _) (by first | exact .i _ | exact .s _) (.i _) r1.1 (by exact Int.natCast_nonneg _) (by omega) _ _ e2 r2)) ?_
    cbv
    subst hA
    dsimp only [Ar.real]
    rw [u_add, u_add, Nat.mod_eq_of_lt (by omega), Nat.mod_eq_of_lt (by omega), hfin.2, hfin.1]
    exact ⟨rfl, rfl⟩
theorem stepS {Z C : AVal} (x y z c hi lo : Int) (hx : 0 ≤ x ∧ x < 18446744073709551616) (hy : 0 ≤ y ∧ y < 18446744073709551616) (hz : 0 ≤ z ∧ z < 18446744073709551616) (hc : 0 ≤ c ∧ c < 18446744073709551616) (hZ : IsU Z z) (hC : IsU C c)
    (h : lo + 18446744073709551616 * hi = x * y + z + c) (hlo : 0 ≤ lo ∧ lo < 18446744073709551616) : Sp 159 [.s .u64 x, .s .u64 y, Z, C] (.tup [.s .u64 hi, .s .u64 lo]) := by
  obtain ⟨x, rfl⟩ : ∃ n : Nat, x = n := ⟨x.toNat, by omega⟩
  obtain ⟨y, rfl⟩ : ∃ n : Nat, y = n := ⟨y.toNat, by omega⟩
  obtain ⟨z, rfl⟩ : ∃ n : Nat, z = n := ⟨z.toNat, by omega⟩
  obtain ⟨c, rfl⟩ : ∃ n : Nat, c = n := ⟨c.toNat, by omega⟩
  obtain ⟨lo, rfl⟩ : ∃ n : Nat, lo = n := ⟨lo.toNat, by omega⟩
  have hxy : (0 : Int) ≤ (x : Int) * (y : Int) := Int.mul_nonneg (by omega) (by omega)
  obtain ⟨hi, rfl⟩ : ∃ n : Nat, hi = n := ⟨hi.toNat, by omega⟩
  refine stepN x y z c hi lo (by omega) (by omega) (by omega) (by omega) hZ hC ?_ (by omega)
  rw [← Int.natCast_mul] at h
  omega
theorem steps {x y z c : Int} (hx : 0 ≤ x ∧ x < 18446744073709551616) (hy : 0 ≤ y ∧ y < 18446744073709551616) (hz : 0 ≤ z ∧ z < 18446744073709551616) (hc : 0 ≤ c ∧ c < 18446744073709551616) :
    ∃ lo hi : Int, lo + 18446744073709551616 * hi = x * y + z + c ∧ (0 ≤ lo ∧ lo < 18446744073709551616) ∧ 0 ≤ hi ∧ hi < 18446744073709551616 := by
  have h1 : (0 : Int) ≤ x * y := Int.mul_nonneg hx.1 hy.1
  have h2 : x * y ≤ 18446744073709551615 * 18446744073709551615 := Int.mul_le_mul (by omega) (by omega) hy.1 (by omega)
  obtain ⟨p, hp⟩ : ∃ p, p = x * y := ⟨_, rfl⟩
  rw [← hp] at h1 h2 ⊢
  exact ⟨(p + z + c) % 18446744073709551616, (p + z + c) / 18446744073709551616, by omega, by omega, by omega, by omega⟩
end Go.Proofs.YtkhipnhdbaahcaaGreat
end
section
set_option linter.unusedVariables false
set_option linter.unusedSimpArgs false
namespace Go.Proofs.YtkhipnhdbaahcaaGreat
open Go Eng
set_option maxRecDepth 100000
set_option exponentiation.threshold 2000
def LN : Nat → Nat := fun _ => 0
/-- Whole numbers that stay within bounds. -/
abbrev Fits (n : Int) : Prop := -9223372036854775808 ≤ n ∧ n < 9223372036854775808
theorem i_add {A : Ar} (hA : A = Ar.real) {x y : Int} (h : Fits (x + y)) : A.bin .add .i64 x y = x + y := by rw [hA]; exact wrap_i64 _ h
theorem i_sub {A : Ar} (hA : A = Ar.real) {x y : Int} (h : Fits (x - y)) : A.bin .sub .i64 x y = x - y := by rw [hA]; exact wrap_i64 _ h
theorem i_mul {A : Ar} (hA : A = Ar.real) {x y : Int} (h : Fits (x * y)) : A.bin .mul .i64 x y = x * y := by rw [hA]; exact wrap_i64 _ h
theorem i_quo {A : Ar} (hA : A = Ar.real) {x y : Int} (hx : 0 ≤ x) (hy : 0 < y) (h : Fits (x / y)) : A.bin .quo .i64 x y = x / y := by
  rw [hA]
  show IntKind.i64.wrap (x.tdiv y) = _
  rw [Int.tdiv_eq_ediv_of_nonneg hx]
  exact wrap_i64 _ h
theorem i_rem {A : Ar} (hA : A = Ar.real) {x y : Int} (hx : 0 ≤ x) : A.bin .rem .i64 x y = x % y := by
  rw [hA]
  show x.tmod y = _
  rw [Int.tmod_eq_emod_of_nonneg hx]
theorem e_add {A : Ar} (hA : A = Ar.real) {x y a b z : Int} (hx : x = a) (hy : y = b) (hz : a + b = z) (h : Fits z) : A.bin .add .i64 x y = z := by subst hx; subst hy; subst hz; exact i_add hA h
theorem e_sub {A : Ar} (hA : A = Ar.real) {x y a b z : Int} (hx : x = a) (hy : y = b) (hz : a - b = z) (h : Fits z) : A.bin .sub .i64 x y = z := by subst hx; subst hy; subst hz; exact i_sub hA h
theorem e_mul {A : Ar} (hA : A = Ar.real) {x y a b z : Int} (hx : x = a) (hy : y = b) (hz : a * b = z) (h : Fits z) : A.bin .mul .i64 x y = z := by subst hx; subst hy; subst hz; exact i_mul hA h
theorem e_quo {A : Ar} (hA : A = Ar.real) {x y a b z : Int} (hx : x = a) (hy : y = b) (hz : a / b = z) (h0 : 0 ≤ a) (h1 : 0 < b) (h : Fits z) : A.bin .quo .i64 x y = z := by subst hx; subst hy; subst hz; exact i_quo hA h0 h1 h
theorem e_rem {A : Ar} (hA : A = Ar.real) {x y a b z : Int} (hx : x = a) (hy : y = b) (hz : a % b = z) (h0 : 0 ≤ a) : A.bin .rem .i64 x y = z := by subst hx; subst hy; subst hz; exact i_rem hA h0
theorem a_len {A : Ar} (hA : A = Ar.real) (n : Nat) : A.len n = n := by rw [hA]; rfl
theorem a_okbS {A : Ar} (hA : A = Ar.real) {y : Int} (h : 0 ≤ y) : A.okb .shr y = true ∧ A.okb .shl y = true := by
  rw [hA]
  constructor <;> (show (!decide (y < 0)) = true; rw [decide_eq_false (by omega)]; rfl)
theorem i_ge {A : Ar} (hA : A = Ar.real) {x y : Int} : A.cmp .geq x y = decide (x ≥ y) := by rw [hA]; rfl
theorem i_lt {A : Ar} (hA : A = Ar.real) {x y : Int} : A.cmp .lss x y = decide (x < y) := by rw [hA]; rfl
theorem i_eq {A : Ar} (hA : A = Ar.real) {x y : Int} : A.cmp .eql x y = decide (x = y) := by
  rw [hA]; show (x == y) = _; by_cases h : x = y <;> simp [h]
theorem i_ne {A : Ar} (hA : A = Ar.real) {x y : Int} : A.cmp .neq x y = !decide (x = y) := by
  rw [hA]; show (x != y) = _; by_cases h : x = y <;> simp [h]
theorem a_not {A : Ar} (hA : A = Ar.real) (t : Bool) : A.not t = !t := by rw [hA]; rfl
theorem u_bit {A : Ar} (hA : A = Ar.real) {x k : Int} {b : Nat} (hx : 0 ≤ x ∧ x < 18446744073709551616) (hk : k = b) (hb : b ≤ 64) : A.bin .and .u64 (A.bin .shr .u64 x k) 1 = ((x.toNat / 2 ^ b % 2 : Nat) : Int) := by
  obtain ⟨a, rfl⟩ : ∃ n : Nat, x = n := ⟨x.toNat, by omega⟩
  subst hk
  rw [hA]
  show rbin .and .u64 (rbin .shr .u64 (Int.ofNat a) (Int.ofNat b)) (Int.ofNat (2 ^ 1 - 1)) = _
  rw [u_shr a b (by omega), u_mask _ 1 (by omega) (Nat.lt_of_le_of_lt (Nat.div_le_self _ _) (by omega))]
  rfl
/-- Words as a row. -/
def IsRow (cs : List AVal) (ws : Nat → Int) (n : Nat) : Prop := cs.length = n ∧ ∀ i, i < n → lsub cs (i * 1) 1 = some [.s .u64 (ws i)]
/-- A bit of a row, from the highest. -/
def bitAt (ws : Nat → Int) (n i : Nat) : Nat := (ws ((64 * n - 1 - i) / 64)).toNat / 2 ^ ((64 * n - 1 - i) % 64) % 2
theorem digitsI {cs : List AVal} {ws : Nat → Int} {n : Nat} (hcs : IsRow cs ws n) (hn : n < 1000) (hw : ∀ i, i < n → 0 ≤ ws i ∧ ws i < 18446744073709551616) (xs : Nat → List AVal)
    (hx : ∀ i, i < 64 * n → xs i = [.s .u64 (bitAt ws n i : Nat)]) : SeqSp Tryz.prog 158 [.ref [.lst true n cs] 0] (64 * n) xs := by
  refine mkI Tryz.func158 rfl rfl LN R0 (by decide +kernel) (by decide +kernel) fun A S hA hSn hxs => ?_
  unfold bodyOf Tryz.f158
  cbv
  refine .inv (α := Nat × Int) (fun p => ⟨[.v (.func (.yield S.l) #[] #[]), .ref [.lst true n cs] 0, .tup [], .s .i64 p.2, .any, .any, .any, .any, .any, .any, .any, .any, .any, .any, .any, .any, .any, .any, .any, .any, .any, .any, .any, .any], ghost p.1⟩)
    (fun p => p.1 ≤ 64 * n ∧ p.2 = 64 * n - 1 - p.1) (fun p => 64 * n - p.1) (0, 64 * (n : Int) - 1) ?_ ⟨Nat.zero_le _, by omega⟩ ?_
  · have e : A.bin .sub .i64 (A.bin .mul .i64 64 (A.len n)) 1 = 64 * (n : Int) - 1 := e_sub hA (e_mul hA rfl (a_len hA n) rfl (by omega)) rfl rfl (by omega)
    generalize 64 * (n : Int) - 1 = y at e
    cbv
    simp only [and_true]
    exact e
  rintro ⟨j, i⟩ ⟨hj, hi⟩
  dsimp only at hj hi ⊢
  by_cases h0 : i ≥ 0
  · obtain ⟨k, rfl⟩ : ∃ k : Nat, i = k := ⟨i.toNat, by omega⟩
    have hjk : 64 * n - 1 - j = k := by omega
    have hj' : j < 64 * n := by omega
    obtain ⟨y, hy⟩ : ∃ y : Int, y = k - 1 := ⟨_, rfl⟩
    have hlast : y = 64 * n - 1 - (j + 1 : Nat) := by omega
    have hk2 : k < 64000 := by omega
    have hdec : 64 * n - (j + 1) < 64 * n - j := by omega
    obtain ⟨q, hqk⟩ : ∃ q, q = k / 64 := ⟨_, rfl⟩
    have hqn : q < n := by omega
    have hrem : A.bin .rem .i64 (k : Int) 64 = ((k % 64 : Nat) : Int) := e_rem hA rfl rfl (by omega) (by omega)
    have hquo : A.bin .quo .i64 (k : Int) 64 = (q : Int) := e_quo hA rfl rfl (by omega) (by omega) (by omega) (by omega)
    have hsub : A.bin .sub .i64 (k : Int) 1 = y := e_sub hA rfl rfl hy.symm (by omega)
    have hok : A.okb .shr (A.bin .rem .i64 (k : Int) 64) = true := by rw [hrem]; exact (a_okbS hA (by omega)).1
    have hge : A.cmp .geq (k : Int) 0 = true := (i_ge hA).trans (decide_eq_true (by omega))
    have hq := hcs.2 q hqn
    have hbit := u_bit hA (hw q hqn) hrem (by omega)
    have hargs : [AVal.s .u64 (A.bin .and .u64 (A.bin .shr .u64 (ws q) (A.bin .rem .i64 (k : Int) 64)) 1)] = S.xs j := by
      rw [hxs, hx j hj', hbit]
      unfold bitAt
      rw [hjk, hqk]
    cbv
    refine ABr.t hge ?_
    cbv
    refine .mk q hquo hqn ?_
    cbv
    refine .mk _ hq ?_
    cbv
    refine .mk hok ?_
    cbv
    refine .mk j rfl (by rw [hSn]; exact hj') rfl hargs ?_
    cbv
    refine ⟨(j + 1, y), ?_, ⟨hj', hlast⟩, hdec⟩
    cbv
    simp only [and_true]
    exact hsub
  · have hge : A.cmp .geq i 0 = false := (i_ge hA).trans (decide_eq_false h0)
    have hjn : j = 64 * n := by omega
    obtain ⟨e, he⟩ : ∃ e, e = ghost (64 * n) := ⟨_, rfl⟩
    rw [← he]
    cbv
    refine ABr.f hge ?_
    cbv
    rw [he, ← hjn]
    rfl
theorem lim_inj4 {lim : Lim} (hl : lim = limR) {a b : Nat} (ha : a < 2 ^ 256) (hb : b < 2 ^ 256) (h : lim a 0 = lim b 0 ∧ lim a 1 = lim b 1 ∧ lim a 2 = lim b 2 ∧ lim a 3 = lim b 3) : a = b := by
  have e1 := split4 hl a ha
  have e2 := split4 hl b hb
  obtain ⟨h0, h1, h2, h3⟩ := h
  rw [h0, h1, h2, h3, ← e2] at e1
  omega
end Go.Proofs.YtkhipnhdbaahcaaGreat
end
section
set_option linter.unusedVariables false
set_option linter.unusedSimpArgs false
namespace Go.Proofs.YtkhipnhdbaahcaaGreat
open Go Eng
set_option maxRecDepth 100000
set_option exponentiation.threshold 2000

/-- A ring's cells. -/
def ring4 (lim : Lim) (m inv fast one two : Nat) : List AVal :=
  [.i .i64 1, .s .u64 (lim m 0), .s .u64 (lim m 1), .s .u64 (lim m 2), .s .u64 (lim m 3), .s .u64 inv, .s .i64 fast, .s .u64 (lim one 0), .s .u64 (lim one 1), .s .u64 (lim one 2), .s .u64 (lim one 3),
   .s .u64 (lim two 0), .s .u64 (lim two 1), .s .u64 (lim two 2), .s .u64 (lim two 3)]
end Go.Proofs.YtkhipnhdbaahcaaGreat
end
section
set_option linter.unusedVariables false
set_option linter.unusedSimpArgs false
namespace Go.Proofs.YtkhipnhdbaahcaaGreat
open Go Eng
set_option maxRecDepth 100000
set_option exponentiation.threshold 2000
theorem low0 {m l inv q z g : Int} (hi : (m * inv + 1) % 18446744073709551616 = 0) (hq : q = l * inv % 18446744073709551616) (h : z + 18446744073709551616 * g = q * m + l + 0) (hz : 0 ≤ z ∧ z < 18446744073709551616) : z = 0 := by
  have h1 : (q * m + l) % 18446744073709551616 = 0 := by
    rw [hq, Int.add_emod, Int.mul_emod, Int.emod_emod_of_dvd _ (Int.dvd_refl _), ← Int.mul_emod, ← Int.add_emod]
    have : l * inv * m + l = l * (m * inv + 1) := by
      rw [Int.mul_add, Int.mul_one, Int.mul_assoc, Int.mul_comm inv m]
    rw [this, Int.mul_emod, hi]
    simp
  omega
theorem modr {q x : Int} (h : q = x % 18446744073709551616) : 0 ≤ q ∧ q < 18446744073709551616 := by omega
theorem kcr {k c : Int} (hk : 0 ≤ k ∧ k ≤ 1) (hc : 0 ≤ c ∧ c ≤ 1) : 0 ≤ k + c ∧ k + c < 18446744073709551616 := by omega
theorem kcw {k c : Int} (hk : 0 ≤ k ∧ k ≤ 1) (hc : 0 ≤ c ∧ c ≤ 1) : (k + c) % 18446744073709551616 = k + c := by omega
theorem sub_arg {x y : Int} (h : x = y) {f : FuncId} {r : AVal} {rest : List AVal} (hs : Sp f (.s .u64 y :: rest) r) : Sp f (.s .u64 x :: rest) r := h ▸ hs
theorem round4 {p0 p1 p2 p3 r0 r1 r2 r3 l0 l1 l2 l3 h0 h1 h2 h3 g0 g1 g2 g3 u0 u1 u2 u3 t0 t1 t2 t3 t4 k c s : Int}
    (e0 : l0 + 18446744073709551616 * h0 = p0 + t0 + 0) (e1 : l1 + 18446744073709551616 * h1 = p1 + t1 + h0) (e2 : l2 + 18446744073709551616 * h2 = p2 + t2 + h1) (e3 : l3 + 18446744073709551616 * h3 = p3 + t3 + h2) (ea : s + 18446744073709551616 * k = t4 + h3 + 0)
    (f0 : 0 + 18446744073709551616 * g0 = r0 + l0 + 0) (f1 : u0 + 18446744073709551616 * g1 = r1 + l1 + g0) (f2 : u1 + 18446744073709551616 * g2 = r2 + l2 + g1) (f3 : u2 + 18446744073709551616 * g3 = r3 + l3 + g2) (fa : u3 + 18446744073709551616 * c = s + g3 + 0) :
    18446744073709551616 * (u0 + 18446744073709551616 * (u1 + 18446744073709551616 * (u2 + 18446744073709551616 * (u3 + 18446744073709551616 * ((k + c)))))) = (t0 + 18446744073709551616 * (t1 + 18446744073709551616 * (t2 + 18446744073709551616 * (t3 + 18446744073709551616 * (t4))))) + (p0 + 18446744073709551616 * (p1 + 18446744073709551616 * (p2 + 18446744073709551616 * (p3)))) + (r0 + 18446744073709551616 * (r1 + 18446744073709551616 * (r2 + 18446744073709551616 * (r3)))) := by omega
theorem chain4 {T1 T2 T3 T4 y0 y1 y2 y3 z0 z1 z2 z3 : Int} (e0 : 18446744073709551616 * T1 = 0 + y0 + z0) (e1 : 18446744073709551616 * T2 = T1 + y1 + z1) (e2 : 18446744073709551616 * T3 = T2 + y2 + z2) (e3 : 18446744073709551616 * T4 = T3 + y3 + z3) :
    115792089237316195423570985008687907853269984665640564039457584007913129639936 * T4 = (y0 + 18446744073709551616 * (y1 + 18446744073709551616 * (y2 + 18446744073709551616 * (y3)))) + (z0 + 18446744073709551616 * (z1 + 18446744073709551616 * (z2 + 18446744073709551616 * (z3)))) := by omega
theorem horn4 (x0 x1 x2 x3 b : Int) : x0 * b + 18446744073709551616 * (x1 * b + 18446744073709551616 * (x2 * b + 18446744073709551616 * (x3 * b))) = (x0 + 18446744073709551616 * (x1 + 18446744073709551616 * (x2 + 18446744073709551616 * (x3)))) * b := by simp only [Int.add_mul, Int.mul_assoc]
theorem horm4 (x0 x1 x2 x3 b : Int) : b * x0 + 18446744073709551616 * (b * x1 + 18446744073709551616 * (b * x2 + 18446744073709551616 * (b * x3))) = b * (x0 + 18446744073709551616 * (x1 + 18446744073709551616 * (x2 + 18446744073709551616 * (x3)))) := by simp only [Int.mul_add, Int.mul_left_comm]
theorem mont_core {M a b m r Q T : Nat} (hM : 0 < M) (ha : a < M) (hb : b < M) (hab : a < m ∨ b < m) (hQ : Q < M) (hr : r < m) (h : M * T = a * b + Q * m) (hc : Nat.Coprime m M) (hrr : r * M % m = a * b % m) :
    T < 2 * m ∧ r = if T < m then T else T - m := by
  have h1 : a * b < M * m := by
    rcases hab with h' | h'
    · refine Nat.lt_of_le_of_lt (Nat.mul_le_mul_left _ (Nat.le_of_lt hb)) ?_
      rw [Nat.mul_comm M m]
      exact Nat.mul_lt_mul_of_pos_right h' hM
    · exact Nat.lt_of_le_of_lt (Nat.mul_le_mul_right _ (Nat.le_of_lt ha)) (Nat.mul_lt_mul_of_pos_left h' hM)
  have h2 : Q * m ≤ M * m := Nat.mul_le_mul_right _ (Nat.le_of_lt hQ)
  have hT : T < 2 * m := by
    have h3 : M * T < M * (2 * m) := by rw [h, show M * (2 * m) = M * m + M * m by rw [Nat.mul_left_comm]; omega]; omega
    exact Nat.lt_of_mul_lt_mul_left h3
  refine ⟨hT, ?_⟩
  obtain ⟨R, hR⟩ : ∃ R, R = if T < m then T else T - m := ⟨_, rfl⟩
  rw [← hR]
  have hRm : R < m := by rw [hR]; split <;> omega
  have hRT : R * M % m = a * b % m := by
    have : T * M % m = a * b % m := by rw [Nat.mul_comm, h]; simp
    rw [← this, Nat.mul_mod, Nat.mul_mod T]
    congr 2
    rw [hR]
    split
    · rfl
    · rename_i h'
      rw [Nat.mod_eq_sub_mod (a := T) (by omega)]
  have e : r * M % m = R * M % m := hrr.trans hRT.symm
  have key : ∀ {x y : Nat}, x < m → y < m → x * M % m = y * M % m → x ≤ y → x = y := by
    intro x y hx hy he hle
    have h4 : (y * M - x * M) % m = 0 := Nat.sub_mod_eq_zero_of_mod_eq he.symm
    rw [← Nat.sub_mul] at h4
    have h5 : m ∣ (y - x) := Nat.Coprime.dvd_of_dvd_mul_right hc (Nat.dvd_of_mod_eq_zero h4)
    have h6 := Nat.eq_zero_of_dvd_of_lt h5 (by omega)
    omega
  rcases Nat.le_total r R with h' | h'
  · exact key hr hRm e h'
  · exact (key hRm hr e.symm h').symm
theorem odd_coprime {m : Nat} (h : m % 2 = 1) (k : Nat) : Nat.Coprime m (2 ^ k) := by
  apply Nat.Coprime.pow_right
  rw [Nat.coprime_iff_gcd_eq_one, Nat.gcd_comm, Nat.gcd_rec, h]
  rfl
theorem mont_fin {M a b m r : Nat} {Q x t T : Int} (hM : 0 < M) (ha : a < M) (hb : b < M) (hm : m < M) (hab : a < m ∨ b < m) (hr : r < m) (hc : Nat.Coprime m M) (hrr : r * M % m = a * b % m)
    (hC : (M : Int) * T = (a : Int) * (b : Int) + Q * (m : Int)) (hQ : 0 ≤ Q ∧ Q < M) (hx : 0 ≤ x ∧ x < M) (ht : 0 ≤ t) (hT : T = x + (M : Int) * t) :
    ∃ s d k' : Nat, s < M ∧ (s : Int) = x ∧ d + m = s + M * k' ∧ d < M ∧ (((t > 0 ∨ k' = 0) ∧ d = r) ∨ (t = 0 ∧ k' = 1 ∧ s = r)) := by
  obtain ⟨x, rfl⟩ : ∃ n : Nat, x = n := ⟨x.toNat, by omega⟩
  obtain ⟨t, rfl⟩ : ∃ n : Nat, t = n := ⟨t.toNat, by omega⟩
  obtain ⟨Q, rfl⟩ : ∃ n : Nat, Q = n := ⟨Q.toNat, by omega⟩
  have h : M * (x + M * t) = a * b + Q * m := by
    rw [hT] at hC
    exact_mod_cast hC
  obtain ⟨h1, h2⟩ := mont_core hM ha hb hab (by omega) hr h hc hrr
  have ht2 : t < 2 := by
    rcases Nat.lt_or_ge t 2 with h' | h'
    · exact h'
    · have : M * 2 ≤ M * t := Nat.mul_le_mul_left _ h'
      omega
  have hxM : x < M := by omega
  by_cases hlt : x + M * t < m
  · have h0 : t = 0 := by
      rcases Nat.eq_zero_or_pos t with h' | h'
      · exact h'
      · have : M * 1 ≤ M * t := Nat.mul_le_mul_left _ h'
        omega
    subst h0
    rw [if_pos hlt] at h2
    exact ⟨x, x + M - m, 1, hxM, rfl, by omega, by omega, .inr ⟨rfl, rfl, by omega⟩⟩
  · rw [if_neg hlt] at h2
    have : t = 0 ∨ t = 1 := by omega
    rcases this with rfl | rfl
    · exact ⟨x, x - m, 0, hxM, rfl, by omega, by omega, .inl ⟨.inr rfl, by omega⟩⟩
    · exact ⟨x, x + M - m, 1, hxM, rfl, by omega, by omega, .inl ⟨.inl (by omega), by omega⟩⟩

theorem mont_end4 {a b m r : Nat} {x0 x1 x2 x3 q0 q1 q2 q3 T k c : Int} (ha : a < 2 ^ 256) (hb : b < 2 ^ 256) (hm : m < 2 ^ 256) (hodd : m % 2 = 1) (hab : a < m ∨ b < m) (hr : r < m) (hrr : r * 2 ^ 256 % m = a * b % m)
    (hC : 115792089237316195423570985008687907853269984665640564039457584007913129639936 * T = (a : Int) * (b : Int) + (q0 + 18446744073709551616 * (q1 + 18446744073709551616 * (q2 + 18446744073709551616 * (q3)))) * (m : Int)) (rq0 : 0 ≤ q0 ∧ q0 < 18446744073709551616) (rq1 : 0 ≤ q1 ∧ q1 < 18446744073709551616) (rq2 : 0 ≤ q2 ∧ q2 < 18446744073709551616) (rq3 : 0 ≤ q3 ∧ q3 < 18446744073709551616) (rx0 : 0 ≤ x0 ∧ x0 < 18446744073709551616) (rx1 : 0 ≤ x1 ∧ x1 < 18446744073709551616) (rx2 : 0 ≤ x2 ∧ x2 < 18446744073709551616) (rx3 : 0 ≤ x3 ∧ x3 < 18446744073709551616) (hk : 0 ≤ k ∧ k ≤ 1) (hc : 0 ≤ c ∧ c ≤ 1) (hT : T = x0 + 18446744073709551616 * (x1 + 18446744073709551616 * (x2 + 18446744073709551616 * (x3 + 18446744073709551616 * ((k + c)))))) :
    ∃ s d k' : Nat, s < 2 ^ 256 ∧ (s : Int) = x0 + 18446744073709551616 * (x1 + 18446744073709551616 * (x2 + 18446744073709551616 * (x3))) ∧ d + m = s + 2 ^ 256 * k' ∧ d < 2 ^ 256 ∧ ((((k + c > 0) ∨ k' = 0) ∧ d = r) ∨ (k + c = 0 ∧ k' = 1 ∧ s = r)) := by
  have eM : ((2 ^ 256 : Nat) : Int) = 115792089237316195423570985008687907853269984665640564039457584007913129639936 := by rfl
  have hQ : 0 ≤ q0 + 18446744073709551616 * (q1 + 18446744073709551616 * (q2 + 18446744073709551616 * (q3))) ∧ q0 + 18446744073709551616 * (q1 + 18446744073709551616 * (q2 + 18446744073709551616 * (q3))) < 115792089237316195423570985008687907853269984665640564039457584007913129639936 := by clear hC hT; omega
  have hx : 0 ≤ x0 + 18446744073709551616 * (x1 + 18446744073709551616 * (x2 + 18446744073709551616 * (x3))) ∧ x0 + 18446744073709551616 * (x1 + 18446744073709551616 * (x2 + 18446744073709551616 * (x3))) < 115792089237316195423570985008687907853269984665640564039457584007913129639936 := by clear hC hT; omega
  have hT' : T = (x0 + 18446744073709551616 * (x1 + 18446744073709551616 * (x2 + 18446744073709551616 * (x3)))) + 115792089237316195423570985008687907853269984665640564039457584007913129639936 * (k + c) := by rw [hT]; clear hC hT hQ hx; omega
  rw [← eM] at hQ hx hT' hC
  exact mont_fin (Nat.two_pow_pos 256) ha hb hm hab hr (odd_coprime hodd 256) hrr hC hQ hx (by omega) hT'
end Go.Proofs.YtkhipnhdbaahcaaGreat
end
