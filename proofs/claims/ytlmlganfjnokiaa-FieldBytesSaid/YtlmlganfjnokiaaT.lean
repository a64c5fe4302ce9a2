import Derived.Test.YtlmlganfjnokiaaE24
import Derived.Test.YtlmlganfjnokiaaChecked
import Derived.KernelRfl
set_option linter.unusedVariables false
namespace Go.Proofs.Ytlmlganfjnokiaa
open Go Eng
def TT.und : TypeId → UT
  | 2 => .int .i64
  | 3 => .int .i64
  | 4 => .bool
  | 5 => .int .u8
  | 6 => .int .u8
  | 9 => .str
  | 10 => .str
  | 11 => .str
  | 12 => .int .u64
  | 15 => .ptr 115
  | 16 => .ptr 118
  | 17 => .ptr 128
  | 20 => .iface []
  | 21 => .int .i32
  | 23 => .int .u64
  | 24 => .arr 4 23
  | 27 => .slice 23
  | 29 => .arr 6 23
  | 32 => .slice 24
  | 34 => .ptr 69
  | 35 => .int .i64
  | 42 => .ptr 91
  | 55 => .struct [(0, 27, "M"), (1, 23, "fold"), (2, 27, "two")]
  | 56 => .struct [(0, 27, "M"), (1, 23, "fold"), (2, 27, "two")]
  | 68 => .struct [(0, 3, "made"), (1, 24, "m"), (5, 23, "inv"), (6, 3, "fast"), (7, 24, "one"), (11, 24, "two")]
  | 69 => .struct [(0, 3, "made"), (1, 24, "m"), (5, 23, "inv"), (6, 3, "fast"), (7, 24, "one"), (11, 24, "two")]
  | 70 => .slice 34
  | 72 => .slice 5
  | 89 => .int .u64
  | 90 => .struct [(0, 3, "made"), (1, 29, "m"), (7, 23, "inv"), (8, 3, "fast"), (9, 29, "one"), (15, 29, "two")]
  | 91 => .struct [(0, 3, "made"), (1, 29, "m"), (7, 23, "inv"), (8, 3, "fast"), (9, 29, "one"), (15, 29, "two")]
  | 102 => .ptr 24
  | 104 => .ptr 29
  | 116 => .arr 0 16
  | 120 => .int .u32
  | 121 => .int .u8
  | 122 => .int .u8
  | 124 => .ptr 5
  | 125 => .int .i32
  | 126 => .int .i32
  | _ => .other
def TT.size : TypeId → Nat
  | 2 => 1
  | 3 => 1
  | 4 => 1
  | 5 => 1
  | 6 => 1
  | 9 => 1
  | 10 => 1
  | 11 => 1
  | 12 => 1
  | 15 => 1
  | 16 => 1
  | 17 => 1
  | 20 => 1
  | 21 => 1
  | 23 => 1
  | 24 => 4
  | 27 => 1
  | 29 => 6
  | 32 => 1
  | 34 => 1
  | 35 => 1
  | 42 => 1
  | 55 => 3
  | 56 => 3
  | 68 => 15
  | 69 => 15
  | 70 => 1
  | 72 => 1
  | 89 => 1
  | 90 => 21
  | 91 => 21
  | 102 => 1
  | 104 => 1
  | 116 => 0
  | 120 => 1
  | 121 => 1
  | 122 => 1
  | 124 => 1
  | 125 => 1
  | 126 => 1
  | _ => 0
def TT.bytes : TypeId → Nat
  | 2 => 8
  | 3 => 8
  | 4 => 1
  | 5 => 1
  | 6 => 1
  | 9 => 16
  | 10 => 16
  | 11 => 16
  | 12 => 8
  | 15 => 8
  | 16 => 8
  | 17 => 8
  | 20 => 16
  | 21 => 4
  | 23 => 8
  | 24 => 32
  | 27 => 24
  | 29 => 48
  | 32 => 24
  | 34 => 8
  | 35 => 8
  | 42 => 8
  | 55 => 56
  | 56 => 56
  | 68 => 120
  | 69 => 120
  | 70 => 24
  | 72 => 24
  | 89 => 8
  | 90 => 168
  | 91 => 168
  | 102 => 8
  | 104 => 8
  | 116 => 0
  | 120 => 4
  | 121 => 1
  | 122 => 1
  | 124 => 8
  | 125 => 4
  | 126 => 4
  | _ => 0
def TT.zero : TypeId → List Value
  | 2 => [.int .i64 0]
  | 3 => [.int .i64 0]
  | 4 => [.bool false]
  | 5 => [.int .u8 0]
  | 6 => [.int .u8 0]
  | 9 => [.string ⟨#[]⟩]
  | 10 => [.string ⟨#[]⟩]
  | 11 => [.string ⟨#[]⟩]
  | 12 => [.int .u64 0]
  | 15 => [.pointer none]
  | 16 => [.pointer none]
  | 17 => [.pointer none]
  | 20 => [.nilIface]
  | 21 => [.int .i32 0]
  | 23 => [.int .u64 0]
  | 24 => [.int .u64 0, .int .u64 0, .int .u64 0, .int .u64 0]
  | 27 => [.slice none 0 0]
  | 29 => [.int .u64 0, .int .u64 0, .int .u64 0, .int .u64 0, .int .u64 0, .int .u64 0]
  | 32 => [.slice none 0 0]
  | 34 => [.pointer none]
  | 35 => [.int .i64 0]
  | 42 => [.pointer none]
  | 55 => [.slice none 0 0, .int .u64 0, .slice none 0 0]
  | 56 => [.slice none 0 0, .int .u64 0, .slice none 0 0]
  | 68 => [.int .i64 0, .int .u64 0, .int .u64 0, .int .u64 0, .int .u64 0, .int .u64 0, .int .i64 0, .int .u64 0, .int .u64 0, .int .u64 0, .int .u64 0, .int .u64 0, .int .u64 0, .int .u64 0, .int .u64 0]
  | 69 => [.int .i64 0, .int .u64 0, .int .u64 0, .int .u64 0, .int .u64 0, .int .u64 0, .int .i64 0, .int .u64 0, .int .u64 0, .int .u64 0, .int .u64 0, .int .u64 0, .int .u64 0, .int .u64 0, .int .u64 0]
  | 70 => [.slice none 0 0]
  | 72 => [.slice none 0 0]
  | 89 => [.int .u64 0]
  | 90 => [.int .i64 0, .int .u64 0, .int .u64 0, .int .u64 0, .int .u64 0, .int .u64 0, .int .u64 0, .int .u64 0, .int .i64 0, .int .u64 0, .int .u64 0, .int .u64 0, .int .u64 0, .int .u64 0, .int .u64 0, .int .u64 0, .int .u64 0, .int .u64 0, .int .u64 0, .int .u64 0, .int .u64 0]
  | 91 => [.int .i64 0, .int .u64 0, .int .u64 0, .int .u64 0, .int .u64 0, .int .u64 0, .int .u64 0, .int .u64 0, .int .i64 0, .int .u64 0, .int .u64 0, .int .u64 0, .int .u64 0, .int .u64 0, .int .u64 0, .int .u64 0, .int .u64 0, .int .u64 0, .int .u64 0, .int .u64 0, .int .u64 0]
  | 102 => [.pointer none]
  | 104 => [.pointer none]
  | 116 => []
  | 120 => [.int .u32 0]
  | 121 => [.int .u8 0]
  | 122 => [.int .u8 0]
  | 124 => [.pointer none]
  | 125 => [.int .i32 0]
  | 126 => [.int .i32 0]
  | _ => []
def TT.eqok : TypeId → Bool
  | 2 => true
  | 3 => true
  | 4 => true
  | 5 => true
  | 6 => true
  | 9 => true
  | 10 => true
  | 11 => true
  | 12 => true
  | 15 => true
  | 16 => true
  | 17 => true
  | 21 => true
  | 23 => true
  | 24 => true
  | 29 => true
  | 34 => true
  | 35 => true
  | 42 => true
  | 68 => true
  | 69 => true
  | 89 => true
  | 90 => true
  | 91 => true
  | 102 => true
  | 104 => true
  | 116 => true
  | 120 => true
  | 121 => true
  | 122 => true
  | 124 => true
  | 125 => true
  | 126 => true
  | _ => false
def TT.mu : FuncId → Bool
  | 100 => true
  | 101 => true
  | _ => false
def TT : Ty := ⟨TT.und, TT.size, TT.bytes, TT.zero, fun _ _ => none, TT.eqok, TT.mu⟩
theorem TT.big : ∀ t, 130 ≤ t → TT.und t = .other := by
  intro t h; unfold TT.und; split <;> first | rfl | exact absurd h (by decide)
theorem TT.other : ∀ t, TT.und t = .other → TT.size t = 0 := by
  intro t h; unfold TT.und at h; unfold TT.size; split at h <;> first | (cases h; done) | rfl | (split <;> first | rfl | (exfalso; simp_all))
theorem TT.zlen : ∀ t, (TT.zero t).length = TT.size t := by
  intro t; unfold TT.zero; split <;> first | rfl | (unfold TT.size; split <;> first | rfl | (exfalso; simp_all))
theorem TT.eqbig : ∀ t, 130 ≤ t → TT.eqok t = false := by
  intro t h; unfold TT.eqok; split <;> first | rfl | exact absurd h (by decide)
theorem TT.all : (List.range 130).all (tyAt Try.prog TT) = true := by kernel_rfl
theorem TT.ok : TyOk Try.prog TT := tyOk_of 130 TT.all TT.big TT.other TT.zlen TT.eqbig (fun t name f h => by cases h)
theorem TT.mixed : Try.prog.follows .mixedOrders = true := by kernel_rfl
end Go.Proofs.Ytlmlganfjnokiaa
