import Derived.Test.YtmholgclgamnnaaGreatQXE24
import Derived.Test.YtmholgclgamnnaaGreatChecked
import Derived.KernelRfl
import Derived.Laws.Externs
import Derived.Test.YtmholgclgamnnaaGreatRows
import Derived.WalkKit
import Derived.ProofKit
import Derived.OpenShut
import Derived.ShutString
import Derived.ChangeOld
import Derived.Below
import Derived.Carry
import Derived.SizedLaws
import Derived.ChangeSlices
set_option linter.unusedVariables false
set_option linter.unusedSimpArgs false
set_option linter.unusedSectionVars false
set_option maxRecDepth 100000
set_option exponentiation.threshold 2000
section
namespace Go.Proofs.YtmholgclgamnnaaGreat
open Go Eng
def TT.und : TypeId → UT
 | 2 => .int .i64
 | 3 => .int .i64
 | 4 => .bool
 | 5 => .int .u8
 | 6 => .int .u8
 | 9 => .str
 | 10 => .str
 | 11 => .str
 | 12 => .int .u64
 | 15 => .ptr 287
 | 16 => .ptr 290
 | 17 => .ptr 300
 | 20 => .iface []
 | 21 => .int .i32
 | 22 => .int .u64
 | 23 => .arr 6 22
 | 24 => .struct [(0, 23, "X0"), (6, 23, "X1"), (12, 23, "Y0"), (18, 23, "Y1"), (24, 4, "Inf")]
 | 25 => .struct [(0, 23, "X0"), (6, 23, "X1"), (12, 23, "Y0"), (18, 23, "Y1"), (24, 4, "Inf")]
 | 26 => .arr 4 22
 | 27 => .arr 4 22
 | 29 => .ptr 146
 | 31 => .slice 22
 | 32 => .struct [(0, 31, "M"), (1, 22, "fold"), (2, 31, "two")]
 | 33 => .struct [(0, 31, "M"), (1, 22, "fold"), (2, 31, "two")]
 | 34 => .slice 31
 | 35 => .struct [(0, 34, "X"), (1, 34, "Y"), (2, 4, "Inf")]
 | 36 => .struct [(0, 34, "X"), (1, 34, "Y"), (2, 4, "Inf")]
 | 37 => .struct [(0, 33, "F"), (3, 3, "Deg"), (4, 34, "B"), (5, 31, "R"), (6, 36, "Base")]
 | 38 => .struct [(0, 33, "F"), (3, 3, "Deg"), (4, 34, "B"), (5, 31, "R"), (6, 36, "Base")]
 | 40 => .struct [(0, 23, "X"), (6, 23, "Y"), (12, 4, "Inf")]
 | 41 => .struct [(0, 23, "X"), (6, 23, "Y"), (12, 4, "Inf")]
 | 45 => .int .i64
 | 57 => .ptr 108
 | 59 => .struct [(0, 26, "X"), (4, 26, "Y"), (8, 4, "Inf")]
 | 60 => .struct [(0, 26, "X"), (4, 26, "Y"), (8, 4, "Inf")]
 | 69 => .arr 2 23
 | 70 => .struct [(0, 69, "X"), (12, 69, "Y"), (24, 4, "Inf")]
 | 71 => .struct [(0, 69, "X"), (12, 69, "Y"), (24, 4, "Inf")]
 | 81 => .arr 2 26
 | 82 => .struct [(0, 81, "X"), (8, 81, "Y"), (16, 4, "Inf")]
 | 83 => .struct [(0, 81, "X"), (8, 81, "Y"), (16, 4, "Inf")]
 | 88 => .int .u64
 | 98 => .ptr 245
 | 99 => .iface [("cairn/curve.add", 246), ("cairn/curve.inv", 168), ("cairn/curve.mul", 246), ("cairn/curve.sub", 246)]
 | 100 => .iface [("cairn/curve.add", 246), ("cairn/curve.inv", 168), ("cairn/curve.mul", 246), ("cairn/curve.sub", 246)]
 | 101 => .struct [(0, 100, "f"), (1, 26, "b")]
 | 102 => .struct [(0, 100, "f"), (1, 26, "b")]
 | 103 => .iface [("cairn/curve.add", 172), ("cairn/curve.inv", 173), ("cairn/curve.mul", 172), ("cairn/curve.sub", 172)]
 | 104 => .iface [("cairn/curve.add", 172), ("cairn/curve.inv", 173), ("cairn/curve.mul", 172), ("cairn/curve.sub", 172)]
 | 105 => .struct [(0, 104, "f"), (1, 81, "b")]
 | 106 => .struct [(0, 104, "f"), (1, 81, "b")]
 | 107 => .struct [(0, 3, "made"), (1, 98, "ring"), (2, 26, "one"), (6, 27, "order"), (10, 102, "g1"), (15, 106, "g2"), (24, 60, "base1"), (33, 83, "base2")]
 | 108 => .struct [(0, 3, "made"), (1, 98, "ring"), (2, 26, "one"), (6, 27, "order"), (10, 102, "g1"), (15, 106, "g2"), (24, 60, "base1"), (33, 83, "base2")]
 | 109 => .slice 57
 | 111 => .slice 5
 | 126 => .ptr 229
 | 133 => .struct [(0, 126, "r")]
 | 134 => .struct [(0, 126, "r")]
 | 135 => .iface [("cairn/curve.add", 219), ("cairn/curve.inv", 130), ("cairn/curve.mul", 219), ("cairn/curve.sub", 219)]
 | 136 => .iface [("cairn/curve.add", 219), ("cairn/curve.inv", 130), ("cairn/curve.mul", 219), ("cairn/curve.sub", 219)]
 | 137 => .struct [(0, 136, "f"), (1, 23, "b")]
 | 138 => .struct [(0, 136, "f"), (1, 23, "b")]
 | 139 => .struct [(0, 126, "r")]
 | 140 => .iface [("cairn/curve.add", 253), ("cairn/curve.inv", 188), ("cairn/curve.mul", 253), ("cairn/curve.sub", 253)]
 | 141 => .iface [("cairn/curve.add", 253), ("cairn/curve.inv", 188), ("cairn/curve.mul", 253), ("cairn/curve.sub", 253)]
 | 142 => .struct [(0, 141, "f"), (1, 69, "b")]
 | 143 => .struct [(0, 141, "f"), (1, 69, "b")]
 | 145 => .struct [(0, 3, "made"), (1, 126, "ring"), (2, 23, "one"), (8, 27, "order"), (12, 138, "g1"), (19, 143, "g2"), (32, 41, "base1"), (45, 71, "base2")]
 | 146 => .struct [(0, 3, "made"), (1, 126, "ring"), (2, 23, "one"), (8, 27, "order"), (12, 138, "g1"), (19, 143, "g2"), (32, 41, "base1"), (45, 71, "base2")]
 | 156 => .struct [(0, 23, "x"), (6, 23, "y"), (12, 23, "z")]
 | 157 => .struct [(0, 23, "x"), (6, 23, "y"), (12, 23, "z")]
 | 161 => .arr 2 41
 | 170 => .struct [(0, 98, "r")]
 | 171 => .struct [(0, 98, "r")]
 | 174 => .struct [(0, 98, "r")]
 | 177 => .struct [(0, 26, "x"), (4, 26, "y"), (8, 26, "z")]
 | 178 => .struct [(0, 26, "x"), (4, 26, "y"), (8, 26, "z")]
 | 181 => .arr 2 60
 | 186 => .arr 4 23
 | 189 => .arr 2 71
 | 192 => .struct [(0, 69, "x"), (12, 69, "y"), (24, 69, "z")]
 | 193 => .struct [(0, 69, "x"), (12, 69, "y"), (24, 69, "z")]
 | 198 => .struct [(0, 81, "x"), (8, 81, "y"), (16, 81, "z")]
 | 199 => .struct [(0, 81, "x"), (8, 81, "y"), (16, 81, "z")]
 | 204 => .arr 2 83
 | 206 => .arr 4 26
 | 220 => .slice 26
 | 228 => .struct [(0, 3, "made"), (1, 23, "m"), (7, 22, "inv"), (8, 3, "fast"), (9, 23, "one"), (15, 23, "two")]
 | 229 => .struct [(0, 3, "made"), (1, 23, "m"), (7, 22, "inv"), (8, 3, "fast"), (9, 23, "one"), (15, 23, "two")]
 | 237 => .struct [(0, 34, "x"), (1, 34, "y"), (2, 34, "z")]
 | 238 => .struct [(0, 34, "x"), (1, 34, "y"), (2, 34, "z")]
 | 244 => .struct [(0, 3, "made"), (1, 26, "m"), (5, 22, "inv"), (6, 3, "fast"), (7, 26, "one"), (11, 26, "two")]
 | 245 => .struct [(0, 3, "made"), (1, 26, "m"), (5, 22, "inv"), (6, 3, "fast"), (7, 26, "one"), (11, 26, "two")]
 | 268 => .ptr 23
 | 269 => .ptr 26
 | 288 => .arr 0 16
 | 292 => .int .u32
 | 293 => .int .u8
 | 294 => .int .u8
 | 296 => .ptr 5
 | 297 => .int .i32
 | 298 => .int .i32
 | _ => .other
def TT.size : TypeId → Nat
 | 2 => 1
 | 3 => 1
 | 4 => 1
 | 5 => 1
 | 6 => 1
 | 9 => 1
 | 10 => 1
 | 11 => 1
 | 12 => 1
 | 15 => 1
 | 16 => 1
 | 17 => 1
 | 20 => 1
 | 21 => 1
 | 22 => 1
 | 23 => 6
 | 24 => 25
 | 25 => 25
 | 26 => 4
 | 27 => 4
 | 29 => 1
 | 31 => 1
 | 32 => 3
 | 33 => 3
 | 34 => 1
 | 35 => 3
 | 36 => 3
 | 37 => 9
 | 38 => 9
 | 40 => 13
 | 41 => 13
 | 45 => 1
 | 57 => 1
 | 59 => 9
 | 60 => 9
 | 69 => 12
 | 70 => 25
 | 71 => 25
 | 81 => 8
 | 82 => 17
 | 83 => 17
 | 88 => 1
 | 98 => 1
 | 99 => 1
 | 100 => 1
 | 101 => 5
 | 102 => 5
 | 103 => 1
 | 104 => 1
 | 105 => 9
 | 106 => 9
 | 107 => 50
 | 108 => 50
 | 109 => 1
 | 111 => 1
 | 126 => 1
 | 133 => 1
 | 134 => 1
 | 135 => 1
 | 136 => 1
 | 137 => 7
 | 138 => 7
 | 139 => 1
 | 140 => 1
 | 141 => 1
 | 142 => 13
 | 143 => 13
 | 145 => 70
 | 146 => 70
 | 156 => 18
 | 157 => 18
 | 161 => 26
 | 170 => 1
 | 171 => 1
 | 174 => 1
 | 177 => 12
 | 178 => 12
 | 181 => 18
 | 186 => 24
 | 189 => 50
 | 192 => 36
 | 193 => 36
 | 198 => 24
 | 199 => 24
 | 204 => 34
 | 206 => 16
 | 220 => 1
 | 228 => 21
 | 229 => 21
 | 237 => 3
 | 238 => 3
 | 244 => 15
 | 245 => 15
 | 268 => 1
 | 269 => 1
 | 288 => 0
 | 292 => 1
 | 293 => 1
 | 294 => 1
 | 296 => 1
 | 297 => 1
 | 298 => 1
 | _ => 0
def TT.bytes : TypeId → Nat
 | 2 => 8
 | 3 => 8
 | 4 => 1
 | 5 => 1
 | 6 => 1
 | 9 => 16
 | 10 => 16
 | 11 => 16
 | 12 => 8
 | 15 => 8
 | 16 => 8
 | 17 => 8
 | 20 => 16
 | 21 => 4
 | 22 => 8
 | 23 => 48
 | 24 => 200
 | 25 => 200
 | 26 => 32
 | 27 => 32
 | 29 => 8
 | 31 => 24
 | 32 => 56
 | 33 => 56
 | 34 => 24
 | 35 => 56
 | 36 => 56
 | 37 => 168
 | 38 => 168
 | 40 => 104
 | 41 => 104
 | 45 => 8
 | 57 => 8
 | 59 => 72
 | 60 => 72
 | 69 => 96
 | 70 => 200
 | 71 => 200
 | 81 => 64
 | 82 => 136
 | 83 => 136
 | 88 => 8
 | 98 => 8
 | 99 => 16
 | 100 => 16
 | 101 => 48
 | 102 => 48
 | 103 => 16
 | 104 => 16
 | 105 => 80
 | 106 => 80
 | 107 => 416
 | 108 => 416
 | 109 => 24
 | 111 => 24
 | 126 => 8
 | 133 => 8
 | 134 => 8
 | 135 => 16
 | 136 => 16
 | 137 => 64
 | 138 => 64
 | 139 => 8
 | 140 => 16
 | 141 => 16
 | 142 => 112
 | 143 => 112
 | 145 => 576
 | 146 => 576
 | 156 => 144
 | 157 => 144
 | 161 => 208
 | 170 => 8
 | 171 => 8
 | 174 => 8
 | 177 => 96
 | 178 => 96
 | 181 => 144
 | 186 => 192
 | 189 => 400
 | 192 => 288
 | 193 => 288
 | 198 => 192
 | 199 => 192
 | 204 => 272
 | 206 => 128
 | 220 => 24
 | 228 => 168
 | 229 => 168
 | 237 => 72
 | 238 => 72
 | 244 => 120
 | 245 => 120
 | 268 => 8
 | 269 => 8
 | 288 => 0
 | 292 => 4
 | 293 => 1
 | 294 => 1
 | 296 => 8
 | 297 => 4
 | 298 => 4
 | _ => 0
def TT.zero : TypeId → List Value
 | 2 => [.int .i64 0]
 | 3 => [.int .i64 0]
 | 4 => [.bool false]
 | 5 => [.int .u8 0]
 | 6 => [.int .u8 0]
 | 9 => [.string ⟨#[]⟩]
 | 10 => [.string ⟨#[]⟩]
 | 11 => [.string ⟨#[]⟩]
 | 12 => [.int .u64 0]
 | 15 => [.pointer none]
 | 16 => [.pointer none]
 | 17 => [.pointer none]
 | 20 => [.nilIface]
 | 21 => [.int .i32 0]
 | 22 => [.int .u64 0]
 | 23 => [.int .u64 0, .int .u64 0, .int .u64 0, .int .u64 0, .int .u64 0, .int .u64 0]
 | 24 => [.int .u64 0, .int .u64 0, .int .u64 0, .int .u64 0, .int .u64 0, .int .u64 0, .int .u64 0, .int .u64 0, .int .u64 0, .int .u64 0, .int .u64 0, .int .u64 0, .int .u64 0, .int .u64 0, .int .u64 0, .int .u64 0, .int .u64 0, .int .u64 0, .int .u64 0, .int .u64 0, .int .u64 0, .int .u64 0, .int .u64 0, .int .u64 0, .bool false]
 | 25 => [.int .u64 0, .int .u64 0, .int .u64 0, .int .u64 0, .int .u64 0, .int .u64 0, .int .u64 0, .int .u64 0, .int .u64 0, .int .u64 0, .int .u64 0, .int .u64 0, .int .u64 0, .int .u64 0, .int .u64 0, .int .u64 0, .int .u64 0, .int .u64 0, .int .u64 0, .int .u64 0, .int .u64 0, .int .u64 0, .int .u64 0, .int .u64 0, .bool false]
 | 26 => [.int .u64 0, .int .u64 0, .int .u64 0, .int .u64 0]
 | 27 => [.int .u64 0, .int .u64 0, .int .u64 0, .int .u64 0]
 | 29 => [.pointer none]
 | 31 => [.slice none 0 0]
 | 32 => [.slice none 0 0, .int .u64 0, .slice none 0 0]
 | 33 => [.slice none 0 0, .int .u64 0, .slice none 0 0]
 | 34 => [.slice none 0 0]
 | 35 => [.slice none 0 0, .slice none 0 0, .bool false]
 | 36 => [.slice none 0 0, .slice none 0 0, .bool false]
 | 37 => [.slice none 0 0, .int .u64 0, .slice none 0 0, .int .i64 0, .slice none 0 0, .slice none 0 0, .slice none 0 0, .slice none 0 0, .bool false]
 | 38 => [.slice none 0 0, .int .u64 0, .slice none 0 0, .int .i64 0, .slice none 0 0, .slice none 0 0, .slice none 0 0, .slice none 0 0, .bool false]
 | 40 => [.int .u64 0, .int .u64 0, .int .u64 0, .int .u64 0, .int .u64 0, .int .u64 0, .int .u64 0, .int .u64 0, .int .u64 0, .int .u64 0, .int .u64 0, .int .u64 0, .bool false]
 | 41 => [.int .u64 0, .int .u64 0, .int .u64 0, .int .u64 0, .int .u64 0, .int .u64 0, .int .u64 0, .int .u64 0, .int .u64 0, .int .u64 0, .int .u64 0, .int .u64 0, .bool false]
 | 45 => [.int .i64 0]
 | 57 => [.pointer none]
 | 59 => [.int .u64 0, .int .u64 0, .int .u64 0, .int .u64 0, .int .u64 0, .int .u64 0, .int .u64 0, .int .u64 0, .bool false]
 | 60 => [.int .u64 0, .int .u64 0, .int .u64 0, .int .u64 0, .int .u64 0, .int .u64 0, .int .u64 0, .int .u64 0, .bool false]
 | 69 => [.int .u64 0, .int .u64 0, .int .u64 0, .int .u64 0, .int .u64 0, .int .u64 0, .int .u64 0, .int .u64 0, .int .u64 0, .int .u64 0, .int .u64 0, .int .u64 0]
 | 70 => [.int .u64 0, .int .u64 0, .int .u64 0, .int .u64 0, .int .u64 0, .int .u64 0, .int .u64 0, .int .u64 0, .int .u64 0, .int .u64 0, .int .u64 0, .int .u64 0, .int .u64 0, .int .u64 0, .int .u64 0, .int .u64 0, .int .u64 0, .int .u64 0, .int .u64 0, .int .u64 0, .int .u64 0, .int .u64 0, .int .u64 0, .int .u64 0, .bool false]
 | 71 => [.int .u64 0, .int .u64 0, .int .u64 0, .int .u64 0, .int .u64 0, .int .u64 0, .int .u64 0, .int .u64 0, .int .u64 0, .int .u64 0, .int .u64 0, .int .u64 0, .int .u64 0, .int .u64 0, .int .u64 0, .int .u64 0, .int .u64 0, .int .u64 0, .int .u64 0, .int .u64 0, .int .u64 0, .int .u64 0, .int .u64 0, .int .u64 0, .bool false]
 | 81 => [.int .u64 0, .int .u64 0, .int .u64 0, .int .u64 0, .int .u64 0, .int .u64 0, .int .u64 0, .int .u64 0]
 | 82 => [.int .u64 0, .int .u64 0, .int .u64 0, .int .u64 0, .int .u64 0, .int .u64 0, .int .u64 0, .int .u64 0, .int .u64 0, .int .u64 0, .int .u64 0, .int .u64 0, .int .u64 0, .int .u64 0, .int .u64 0, .int .u64 0, .bool false]
 | 83 => [.int .u64 0, .int .u64 0, .int .u64 0, .int .u64 0, .int .u64 0, .int .u64 0, .int .u64 0, .int .u64 0, .int .u64 0, .int .u64 0, .int .u64 0, .int .u64 0, .int .u64 0, .int .u64 0, .int .u64 0, .int .u64 0, .bool false]
 | 88 => [.int .u64 0]
 | 98 => [.pointer none]
 | 99 => [.nilIface]
 | 100 => [.nilIface]
 | 101 => [.nilIface, .int .u64 0, .int .u64 0, .int .u64 0, .int .u64 0]
 | 102 => [.nilIface, .int .u64 0, .int .u64 0, .int .u64 0, .int .u64 0]
 | 103 => [.nilIface]
 | 104 => [.nilIface]
 | 105 => [.nilIface, .int .u64 0, .int .u64 0, .int .u64 0, .int .u64 0, .int .u64 0, .int .u64 0, .int .u64 0, .int .u64 0]
 | 106 => [.nilIface, .int .u64 0, .int .u64 0, .int .u64 0, .int .u64 0, .int .u64 0, .int .u64 0, .int .u64 0, .int .u64 0]
 | 107 => [.int .i64 0, .pointer none, .int .u64 0, .int .u64 0, .int .u64 0, .int .u64 0, .int .u64 0, .int .u64 0, .int .u64 0, .int .u64 0, .nilIface, .int .u64 0, .int .u64 0, .int .u64 0, .int .u64 0, .nilIface, .int .u64 0, .int .u64 0, .int .u64 0, .int .u64 0, .int .u64 0, .int .u64 0, .int .u64 0, .int .u64 0, .int .u64 0, .int .u64 0, .int .u64 0, .int .u64 0, .int .u64 0, .int .u64 0, .int .u64 0, .int .u64 0, .bool false, .int .u64 0, .int .u64 0, .int .u64 0, .int .u64 0, .int .u64 0, .int .u64 0, .int .u64 0, .int .u64 0, .int .u64 0, .int .u64 0, .int .u64 0, .int .u64 0, .int .u64 0, .int .u64 0, .int .u64 0, .int .u64 0, .bool false]
 | 108 => [.int .i64 0, .pointer none, .int .u64 0, .int .u64 0, .int .u64 0, .int .u64 0, .int .u64 0, .int .u64 0, .int .u64 0, .int .u64 0, .nilIface, .int .u64 0, .int .u64 0, .int .u64 0, .int .u64 0, .nilIface, .int .u64 0, .int .u64 0, .int .u64 0, .int .u64 0, .int .u64 0, .int .u64 0, .int .u64 0, .int .u64 0, .int .u64 0, .int .u64 0, .int .u64 0, .int .u64 0, .int .u64 0, .int .u64 0, .int .u64 0, .int .u64 0, .bool false, .int .u64 0, .int .u64 0, .int .u64 0, .int .u64 0, .int .u64 0, .int .u64 0, .int .u64 0, .int .u64 0, .int .u64 0, .int .u64 0, .int .u64 0, .int .u64 0, .int .u64 0, .int .u64 0, .int .u64 0, .int .u64 0, .bool false]
 | 109 => [.slice none 0 0]
 | 111 => [.slice none 0 0]
 | 126 => [.pointer none]
 | 133 => [.pointer none]
 | 134 => [.pointer none]
 | 135 => [.nilIface]
 | 136 => [.nilIface]
 | 137 => [.nilIface, .int .u64 0, .int .u64 0, .int .u64 0, .int .u64 0, .int .u64 0, .int .u64 0]
 | 138 => [.nilIface, .int .u64 0, .int .u64 0, .int .u64 0, .int .u64 0, .int .u64 0, .int .u64 0]
 | 139 => [.pointer none]
 | 140 => [.nilIface]
 | 141 => [.nilIface]
 | 142 => [.nilIface, .int .u64 0, .int .u64 0, .int .u64 0, .int .u64 0, .int .u64 0, .int .u64 0, .int .u64 0, .int .u64 0, .int .u64 0, .int .u64 0, .int .u64 0, .int .u64 0]
 | 143 => [.nilIface, .int .u64 0, .int .u64 0, .int .u64 0, .int .u64 0, .int .u64 0, .int .u64 0, .int .u64 0, .int .u64 0, .int .u64 0, .int .u64 0, .int .u64 0, .int .u64 0]
 | 145 => [.int .i64 0, .pointer none, .int .u64 0, .int .u64 0, .int .u64 0, .int .u64 0, .int .u64 0, .int .u64 0, .int .u64 0, .int .u64 0, .int .u64 0, .int .u64 0, .nilIface, .int .u64 0, .int .u64 0, .int .u64 0, .int .u64 0, .int .u64 0, .int .u64 0, .nilIface, .int .u64 0, .int .u64 0, .int .u64 0, .int .u64 0, .int .u64 0, .int .u64 0, .int .u64 0, .int .u64 0, .int .u64 0, .int .u64 0, .int .u64 0, .int .u64 0, .int .u64 0, .int .u64 0, .int .u64 0, .int .u64 0, .int .u64 0, .int .u64 0, .int .u64 0, .int .u64 0, .int .u64 0, .int .u64 0, .int .u64 0, .int .u64 0, .bool false, .int .u64 0, .int .u64 0, .int .u64 0, .int .u64 0, .int .u64 0, .int .u64 0, .int .u64 0, .int .u64 0, .int .u64 0, .int .u64 0, .int .u64 0, .int .u64 0, .int .u64 0, .int .u64 0, .int .u64 0, .int .u64 0, .int .u64 0, .int .u64 0, .int .u64 0, .int .u64 0, .int .u64 0, .int .u64 0, .int .u64 0, .int .u64 0, .bool false]
 | 146 => [.int .i64 0, .pointer none, .int .u64 0, .int .u64 0, .int .u64 0, .int .u64 0, .int .u64 0, .int .u64 0, .int .u64 0, .int .u64 0, .int .u64 0, .int .u64 0, .nilIface, .int .u64 0, .int .u64 0, .int .u64 0, .int .u64 0, .int .u64 0, .int .u64 0, .nilIface, .int .u64 0, .int .u64 0, .int .u64 0, .int .u64 0, .int .u64 0, .int .u64 0, .int .u64 0, .int .u64 0, .int .u64 0, .int .u64 0, .int .u64 0, .int .u64 0, .int .u64 0, .int .u64 0, .int .u64 0, .int .u64 0, .int .u64 0, .int .u64 0, .int .u64 0, .int .u64 0, .int .u64 0, .int .u64 0, .int .u64 0, .int .u64 0, .bool false, .int .u64 0, .int .u64 0, .int .u64 0, .int .u64 0, .int .u64 0, .int .u64 0, .int .u64 0, .int .u64 0, .int .u64 0, .int .u64 0, .int .u64 0, .int .u64 0, .int .u64 0, .int .u64 0, .int .u64 0, .int .u64 0, .int .u64 0, .int .u64 0, .int .u64 0, .int .u64 0, .int .u64 0, .int .u64 0, .int .u64 0, .int .u64 0, .bool false]
 | 156 => [.int .u64 0, .int .u64 0, .int .u64 0, .int .u64 0, .int .u64 0, .int .u64 0, .int .u64 0, .int .u64 0, .int .u64 0, .int .u64 0, .int .u64 0, .int .u64 0, .int .u64 0, .int .u64 0, .int .u64 0, .int .u64 0, .int .u64 0, .int .u64 0]
 | 157 => [.int .u64 0, .int .u64 0, .int .u64 0, .int .u64 0, .int .u64 0, .int .u64 0, .int .u64 0, .int .u64 0, .int .u64 0, .int .u64 0, .int .u64 0, .int .u64 0, .int .u64 0, .int .u64 0, .int .u64 0, .int .u64 0, .int .u64 0, .int .u64 0]
 | 161 => [.int .u64 0, .int .u64 0, .int .u64 0, .int .u64 0, .int .u64 0, .int .u64 0, .int .u64 0, .int .u64 0, .int .u64 0, .int .u64 0, .int .u64 0, .int .u64 0, .bool false, .int .u64 0, .int .u64 0, .int .u64 0, .int .u64 0, .int .u64 0, .int .u64 0, .int .u64 0, .int .u64 0, .int .u64 0, .int .u64 0, .int .u64 0, .int .u64 0, .bool false]
 | 170 => [.pointer none]
 | 171 => [.pointer none]
 | 174 => [.pointer none]
 | 177 => [.int .u64 0, .int .u64 0, .int .u64 0, .int .u64 0, .int .u64 0, .int .u64 0, .int .u64 0, .int .u64 0, .int .u64 0, .int .u64 0, .int .u64 0, .int .u64 0]
 | 178 => [.int .u64 0, .int .u64 0, .int .u64 0, .int .u64 0, .int .u64 0, .int .u64 0, .int .u64 0, .int .u64 0, .int .u64 0, .int .u64 0, .int .u64 0, .int .u64 0]
 | 181 => [.int .u64 0, .int .u64 0, .int .u64 0, .int .u64 0, .int .u64 0, .int .u64 0, .int .u64 0, .int .u64 0, .bool false, .int .u64 0, .int .u64 0, .int .u64 0, .int .u64 0, .int .u64 0, .int .u64 0, .int .u64 0, .int .u64 0, .bool false]
 | 186 => [.int .u64 0, .int .u64 0, .int .u64 0, .int .u64 0, .int .u64 0, .int .u64 0, .int .u64 0, .int .u64 0, .int .u64 0, .int .u64 0, .int .u64 0, .int .u64 0, .int .u64 0, .int .u64 0, .int .u64 0, .int .u64 0, .int .u64 0, .int .u64 0, .int .u64 0, .int .u64 0, .int .u64 0, .int .u64 0, .int .u64 0, .int .u64 0]
 | 189 => [.int .u64 0, .int .u64 0, .int .u64 0, .int .u64 0, .int .u64 0, .int .u64 0, .int .u64 0, .int .u64 0, .int .u64 0, .int .u64 0, .int .u64 0, .int .u64 0, .int .u64 0, .int .u64 0, .int .u64 0, .int .u64 0, .int .u64 0, .int .u64 0, .int .u64 0, .int .u64 0, .int .u64 0, .int .u64 0, .int .u64 0, .int .u64 0, .bool false, .int .u64 0, .int .u64 0, .int .u64 0, .int .u64 0, .int .u64 0, .int .u64 0, .int .u64 0, .int .u64 0, .int .u64 0, .int .u64 0, .int .u64 0, .int .u64 0, .int .u64 0, .int .u64 0, .int .u64 0, .int .u64 0, .int .u64 0, .int .u64 0, .int .u64 0, .int .u64 0, .int .u64 0, .int .u64 0, .int .u64 0, .int .u64 0, .bool false]
 | 192 => [.int .u64 0, .int .u64 0, .int .u64 0, .int .u64 0, .int .u64 0, .int .u64 0, .int .u64 0, .int .u64 0, .int .u64 0, .int .u64 0, .int .u64 0, .int .u64 0, .int .u64 0, .int .u64 0, .int .u64 0, .int .u64 0, .int .u64 0, .int .u64 0, .int .u64 0, .int .u64 0, .int .u64 0, .int .u64 0, .int .u64 0, .int .u64 0, .int .u64 0, .int .u64 0, .int .u64 0, .int .u64 0, .int .u64 0, .int .u64 0, .int .u64 0, .int .u64 0, .int .u64 0, .int .u64 0, .int .u64 0, .int .u64 0]
 | 193 => [.int .u64 0, .int .u64 0, .int .u64 0, .int .u64 0, .int .u64 0, .int .u64 0, .int .u64 0, .int .u64 0, .int .u64 0, .int .u64 0, .int .u64 0, .int .u64 0, .int .u64 0, .int .u64 0, .int .u64 0, .int .u64 0, .int .u64 0, .int .u64 0, .int .u64 0, .int .u64 0, .int .u64 0, .int .u64 0, .int .u64 0, .int .u64 0, .int .u64 0, .int .u64 0, .int .u64 0, .int .u64 0, .int .u64 0, .int .u64 0, .int .u64 0, .int .u64 0, .int .u64 0, .int .u64 0, .int .u64 0, .int .u64 0]
 | 198 => [.int .u64 0, .int .u64 0, .int .u64 0, .int .u64 0, .int .u64 0, .int .u64 0, .int .u64 0, .int .u64 0, .int .u64 0, .int .u64 0, .int .u64 0, .int .u64 0, .int .u64 0, .int .u64 0, .int .u64 0, .int .u64 0, .int .u64 0, .int .u64 0, .int .u64 0, .int .u64 0, .int .u64 0, .int .u64 0, .int .u64 0, .int .u64 0]
 | 199 => [.int .u64 0, .int .u64 0, .int .u64 0, .int .u64 0, .int .u64 0, .int .u64 0, .int .u64 0, .int .u64 0, .int .u64 0, .int .u64 0, .int .u64 0, .int .u64 0, .int .u64 0, .int .u64 0, .int .u64 0, .int .u64 0, .int .u64 0, .int .u64 0, .int .u64 0, .int .u64 0, .int .u64 0, .int .u64 0, .int .u64 0, .int .u64 0]
 | 204 => [.int .u64 0, .int .u64 0, .int .u64 0, .int .u64 0, .int .u64 0, .int .u64 0, .int .u64 0, .int .u64 0, .int .u64 0, .int .u64 0, .int .u64 0, .int .u64 0, .int .u64 0, .int .u64 0, .int .u64 0, .int .u64 0, .bool false, .int .u64 0, .int .u64 0, .int .u64 0, .int .u64 0, .int .u64 0, .int .u64 0, .int .u64 0, .int .u64 0, .int .u64 0, .int .u64 0, .int .u64 0, .int .u64 0, .int .u64 0, .int .u64 0, .int .u64 0, .int .u64 0, .bool false]
 | 206 => [.int .u64 0, .int .u64 0, .int .u64 0, .int .u64 0, .int .u64 0, .int .u64 0, .int .u64 0, .int .u64 0, .int .u64 0, .int .u64 0, .int .u64 0, .int .u64 0, .int .u64 0, .int .u64 0, .int .u64 0, .int .u64 0]
 | 220 => [.slice none 0 0]
 | 228 => [.int .i64 0, .int .u64 0, .int .u64 0, .int .u64 0, .int .u64 0, .int .u64 0, .int .u64 0, .int .u64 0, .int .i64 0, .int .u64 0, .int .u64 0, .int .u64 0, .int .u64 0, .int .u64 0, .int .u64 0, .int .u64 0, .int .u64 0, .int .u64 0, .int .u64 0, .int .u64 0, .int .u64 0]
 | 229 => [.int .i64 0, .int .u64 0, .int .u64 0, .int .u64 0, .int .u64 0, .int .u64 0, .int .u64 0, .int .u64 0, .int .i64 0, .int .u64 0, .int .u64 0, .int .u64 0, .int .u64 0, .int .u64 0, .int .u64 0, .int .u64 0, .int .u64 0, .int .u64 0, .int .u64 0, .int .u64 0, .int .u64 0]
 | 237 => [.slice none 0 0, .slice none 0 0, .slice none 0 0]
 | 238 => [.slice none 0 0, .slice none 0 0, .slice none 0 0]
 | 244 => [.int .i64 0, .int .u64 0, .int .u64 0, .int .u64 0, .int .u64 0, .int .u64 0, .int .i64 0, .int .u64 0, .int .u64 0, .int .u64 0, .int .u64 0, .int .u64 0, .int .u64 0, .int .u64 0, .int .u64 0]
 | 245 => [.int .i64 0, .int .u64 0, .int .u64 0, .int .u64 0, .int .u64 0, .int .u64 0, .int .i64 0, .int .u64 0, .int .u64 0, .int .u64 0, .int .u64 0, .int .u64 0, .int .u64 0, .int .u64 0, .int .u64 0]
 | 268 => [.pointer none]
 | 269 => [.pointer none]
 | 288 => []
 | 292 => [.int .u32 0]
 | 293 => [.int .u8 0]
 | 294 => [.int .u8 0]
 | 296 => [.pointer none]
 | 297 => [.int .i32 0]
 | 298 => [.int .i32 0]
 | _ => []
def TT.eqok : TypeId → Bool
 | 2 => true
 | 3 => true
 | 4 => true
 | 5 => true
 | 6 => true
 | 9 => true
 | 10 => true
 | 11 => true
 | 12 => true
 | 15 => true
 | 16 => true
 | 17 => true
 | 21 => true
 | 22 => true
 | 23 => true
 | 24 => true
 | 25 => true
 | 26 => true
 | 27 => true
 | 29 => true
 | 40 => true
 | 41 => true
 | 45 => true
 | 57 => true
 | 59 => true
 | 60 => true
 | 69 => true
 | 70 => true
 | 71 => true
 | 81 => true
 | 82 => true
 | 83 => true
 | 88 => true
 | 98 => true
 | 126 => true
 | 133 => true
 | 134 => true
 | 139 => true
 | 156 => true
 | 157 => true
 | 161 => true
 | 170 => true
 | 171 => true
 | 174 => true
 | 177 => true
 | 178 => true
 | 181 => true
 | 186 => true
 | 189 => true
 | 192 => true
 | 193 => true
 | 198 => true
 | 199 => true
 | 204 => true
 | 206 => true
 | 228 => true
 | 229 => true
 | 244 => true
 | 245 => true
 | 268 => true
 | 269 => true
 | 288 => true
 | 292 => true
 | 293 => true
 | 294 => true
 | 296 => true
 | 297 => true
 | 298 => true
 | _ => false
def TT.mu : FuncId → Bool
 | 203 => true
 | 204 => true
 | _ => false
def TT.ms : List (TypeId × String × FuncId) := [(25, "Ref", 16), (33, "Exp", 198), (33, "Inv", 187), (33, "MulMod", 161), (33, "One", 219), (33, "Root", 151), (33, "cairn/cairnref05.reduce", 220), (33, "cairn/cairnref05.small", 197), (33, "cairn/cairnref05.times", 206), (38, "Add", 23), (38, "Good", 19), (38, "Group", 21), (38, "Infinite", 150), (38, "Mul", 27), (38, "Neg", 36), (38, "cairn/cairnref07.add", 90), (38, "cairn/cairnref07.inv", 127), (38, "cairn/cairnref07.mul", 89), (38, "cairn/cairnref07.none", 119), (38, "cairn/cairnref07.one", 208), (38, "cairn/cairnref07.plus", 167), (38, "cairn/cairnref07.sub", 118), (38, "cairn/cairnref07.sum", 97), (38, "cairn/cairnref07.times", 93), (38, "cairn/cairnref07.twice", 166), (102, "cairn/curve.flat", 182), (102, "cairn/curve.on", 111), (102, "cairn/curve.plus", 116), (102, "cairn/curve.times", 112), (102, "cairn/curve.twice", 181), (106, "cairn/curve.flat", 189), (106, "cairn/curve.on", 133), (106, "cairn/curve.plus", 132), (106, "cairn/curve.times", 128), (106, "cairn/curve.twice", 188), (134, "cairn/curve.add", 251), (134, "cairn/curve.inv", 252), (134, "cairn/curve.mul", 253), (134, "cairn/curve.sub", 254), (138, "cairn/curve.flat", 168), (138, "cairn/curve.on", 85), (138, "cairn/curve.plus", 96), (138, "cairn/curve.times", 91), (138, "cairn/curve.twice", 164), (139, "cairn/curve.add", 256), (139, "cairn/curve.inv", 257), (139, "cairn/curve.mul", 258), (139, "cairn/curve.sub", 259), (143, "cairn/curve.flat", 184), (143, "cairn/curve.on", 120), (143, "cairn/curve.plus", 124), (143, "cairn/curve.times", 126), (143, "cairn/curve.twice", 186), (171, "cairn/curve.add", 260), (171, "cairn/curve.inv", 104), (171, "cairn/curve.mul", 103), (171, "cairn/curve.sub", 261), (174, "cairn/curve.add", 262), (174, "cairn/curve.inv", 263), (174, "cairn/curve.mul", 264), (174, "cairn/curve.sub", 265)]
def TT : Ty := ⟨TT.und, TT.size, TT.bytes, TT.zero, fun t name => lookM t name TT.ms, TT.eqok, TT.mu⟩
theorem TT.big : ∀ t, 306 ≤ t → TT.und t = .other := by
 intro t h; unfold TT.und; split <;> first | rfl | exact absurd h (by decide)
theorem TT.zerobig : ∀ t, 306 ≤ t → TT.zero t = [] := by
 intro t h; unfold TT.zero; split <;> first | rfl | exact absurd h (by decide)
theorem TT.sizebig : ∀ t, 306 ≤ t → TT.size t = 0 := by
 intro t h; unfold TT.size; split <;> first | rfl | exact absurd h (by decide)
theorem TT.ochk : (List.range 306).all (fun t => match TT.und t with | .other => TT.size t == 0 | _ => true) = true := by kernel_rfl
theorem TT.zchk : (List.range 306).all (fun t => (TT.zero t).length == TT.size t) = true := by kernel_rfl
theorem TT.other : ∀ t, TT.und t = .other → TT.size t = 0 := by
 intro t h; rcases Nat.lt_or_ge t 306 with h1 | h1
 . have := List.all_eq_true.1 TT.ochk t (by simpa using h1); simp only [h, beq_iff_eq] at this; exact this
 . exact TT.sizebig t h1
theorem TT.zlen : ∀ t, (TT.zero t).length = TT.size t := by
 intro t; rcases Nat.lt_or_ge t 306 with h1 | h1
 . have := List.all_eq_true.1 TT.zchk t (by simpa using h1); exact eq_of_beq this
 . rw [TT.zerobig t h1, TT.sizebig t h1]; rfl
theorem TT.eqbig : ∀ t, 306 ≤ t → TT.eqok t = false := by
 intro t h; unfold TT.eqok; split <;> first | rfl | exact absurd h (by decide)
theorem TT.all : (List.range 306).all (tyAt Tryz.prog TT) = true := by kernel_rfl
theorem TT.ok : TyOk Tryz.prog TT := tyOk_of 306 TT.all TT.big TT.other TT.zlen TT.eqbig (meth_of (P := Tryz.prog) (ms := TT.ms) (by kernel_rfl))
theorem TT.mixed : Tryz.prog.follows .mixedOrders = true := by kernel_rfl
abbrev Sp (f : FuncId) (As : List AVal) (r : AVal) : Prop := Eng.Spec Tryz.prog f As r
noncomputable def bodyOf (f : Func) : Code := f.body.getD .skip
abbrev qb (bs : Nat → Nat) (i : Nat) : AVal := .s .u8 (bs i : Nat)
abbrev q0x128 (bs : Nat → Nat) : List AVal := [qb bs 0, qb bs 1, qb bs 2, qb bs 3, qb bs 4, qb bs 5, qb bs 6, qb bs 7, qb bs 8, qb bs 9, qb bs 10, qb bs 11, qb bs 12, qb bs 13, qb bs 14, qb bs 15, qb bs 16, qb bs 17, qb bs 18, qb bs 19, qb bs 20, qb bs 21, qb bs 22, qb bs 23, qb bs 24, qb bs 25, qb bs 26, qb bs 27, qb bs 28, qb bs 29, qb bs 30, qb bs 31, qb bs 32, qb bs 33, qb bs 34, qb bs 35, qb bs 36, qb bs 37, qb bs 38, qb bs 39, qb bs 40, qb bs 41, qb bs 42, qb bs 43, qb bs 44, qb bs 45, qb bs 46, qb bs 47, qb bs 48, qb bs 49, qb bs 50, qb bs 51, qb bs 52, qb bs 53, qb bs 54, qb bs 55, qb bs 56, qb bs 57, qb bs 58, qb bs 59, qb bs 60, qb bs 61, qb bs 62, qb bs 63, qb bs 64, qb bs 65, qb bs 66, qb bs 67, qb bs 68, qb bs 69, qb bs 70, qb bs 71, qb bs 72, qb bs 73, qb bs 74, qb bs 75, qb bs 76, qb bs 77, qb bs 78, qb bs 79, qb bs 80, qb bs 81, qb bs 82, qb bs 83, qb bs 84, qb bs 85, qb bs 86, qb bs 87, qb bs 88, qb bs 89, qb bs 90, qb bs 91, qb bs 92, qb bs 93, qb bs 94, qb bs 95, qb bs 96, qb bs 97, qb bs 98, qb bs 99, qb bs 100, qb bs 101, qb bs 102, qb bs 103, qb bs 104, qb bs 105, qb bs 106, qb bs 107, qb bs 108, qb bs 109, qb bs 110, qb bs 111, qb bs 112, qb bs 113, qb bs 114, qb bs 115, qb bs 116, qb bs 117, qb bs 118, qb bs 119, qb bs 120, qb bs 121, qb bs 122, qb bs 123, qb bs 124, qb bs 125, qb bs 126, qb bs 127]
abbrev q0x64 (bs : Nat → Nat) : List AVal := [qb bs 0, qb bs 1, qb bs 2, qb bs 3, qb bs 4, qb bs 5, qb bs 6, qb bs 7, qb bs 8, qb bs 9, qb bs 10, qb bs 11, qb bs 12, qb bs 13, qb bs 14, qb bs 15, qb bs 16, qb bs 17, qb bs 18, qb bs 19, qb bs 20, qb bs 21, qb bs 22, qb bs 23, qb bs 24, qb bs 25, qb bs 26, qb bs 27, qb bs 28, qb bs 29, qb bs 30, qb bs 31, qb bs 32, qb bs 33, qb bs 34, qb bs 35, qb bs 36, qb bs 37, qb bs 38, qb bs 39, qb bs 40, qb bs 41, qb bs 42, qb bs 43, qb bs 44, qb bs 45, qb bs 46, qb bs 47, qb bs 48, qb bs 49, qb bs 50, qb bs 51, qb bs 52, qb bs 53, qb bs 54, qb bs 55, qb bs 56, qb bs 57, qb bs 58, qb bs 59, qb bs 60, qb bs 61, qb bs 62, qb bs 63]
abbrev q0x48 (bs : Nat → Nat) : List AVal := [qb bs 0, qb bs 1, qb bs 2, qb bs 3, qb bs 4, qb bs 5, qb bs 6, qb bs 7, qb bs 8, qb bs 9, qb bs 10, qb bs 11, qb bs 12, qb bs 13, qb bs 14, qb bs 15, qb bs 16, qb bs 17, qb bs 18, qb bs 19, qb bs 20, qb bs 21, qb bs 22, qb bs 23, qb bs 24, qb bs 25, qb bs 26, qb bs 27, qb bs 28, qb bs 29, qb bs 30, qb bs 31, qb bs 32, qb bs 33, qb bs 34, qb bs 35, qb bs 36, qb bs 37, qb bs 38, qb bs 39, qb bs 40, qb bs 41, qb bs 42, qb bs 43, qb bs 44, qb bs 45, qb bs 46, qb bs 47]
abbrev q0x32 (bs : Nat → Nat) : List AVal := [qb bs 0, qb bs 1, qb bs 2, qb bs 3, qb bs 4, qb bs 5, qb bs 6, qb bs 7, qb bs 8, qb bs 9, qb bs 10, qb bs 11, qb bs 12, qb bs 13, qb bs 14, qb bs 15, qb bs 16, qb bs 17, qb bs 18, qb bs 19, qb bs 20, qb bs 21, qb bs 22, qb bs 23, qb bs 24, qb bs 25, qb bs 26, qb bs 27, qb bs 28, qb bs 29, qb bs 30, qb bs 31]
abbrev q32x64 (bs : Nat → Nat) : List AVal := [qb bs 32, qb bs 33, qb bs 34, qb bs 35, qb bs 36, qb bs 37, qb bs 38, qb bs 39, qb bs 40, qb bs 41, qb bs 42, qb bs 43, qb bs 44, qb bs 45, qb bs 46, qb bs 47, qb bs 48, qb bs 49, qb bs 50, qb bs 51, qb bs 52, qb bs 53, qb bs 54, qb bs 55, qb bs 56, qb bs 57, qb bs 58, qb bs 59, qb bs 60, qb bs 61, qb bs 62, qb bs 63]
abbrev q64x96 (bs : Nat → Nat) : List AVal := [qb bs 64, qb bs 65, qb bs 66, qb bs 67, qb bs 68, qb bs 69, qb bs 70, qb bs 71, qb bs 72, qb bs 73, qb bs 74, qb bs 75, qb bs 76, qb bs 77, qb bs 78, qb bs 79, qb bs 80, qb bs 81, qb bs 82, qb bs 83, qb bs 84, qb bs 85, qb bs 86, qb bs 87, qb bs 88, qb bs 89, qb bs 90, qb bs 91, qb bs 92, qb bs 93, qb bs 94, qb bs 95]
abbrev q96x128 (bs : Nat → Nat) : List AVal := [qb bs 96, qb bs 97, qb bs 98, qb bs 99, qb bs 100, qb bs 101, qb bs 102, qb bs 103, qb bs 104, qb bs 105, qb bs 106, qb bs 107, qb bs 108, qb bs 109, qb bs 110, qb bs 111, qb bs 112, qb bs 113, qb bs 114, qb bs 115, qb bs 116, qb bs 117, qb bs 118, qb bs 119, qb bs 120, qb bs 121, qb bs 122, qb bs 123, qb bs 124, qb bs 125, qb bs 126, qb bs 127]
theorem mk {f : FuncId} {fn : Func} {As : List AVal} {r : AVal} (hf : Tryz.prog.funcs[f]? = some fn) (hb : fn.body = some (bodyOf fn)) (hn : (fn.name == "runtime.NumGoroutine") = false) (Nl : Nat → Nat) (tr : Nat → Md)
   (hok : codeOK tr (bodyOf fn) = true) (h : ∀ (A : Ar) (S : SpecT), A = Ar.real → S = specs Tryz.prog → afun A TT S Nl tr fn.ntmps fn.results (bodyOf fn) As (fun x => Sim x r)) : Sp f As r :=
 spec_of_afunK (P := Tryz.prog) (T := TT) TT.ok TT.mixed (draw_ok (P := Tryz.prog) (T := TT) TT.ok) (Sp := specs Tryz.prog) ⟨fun _ _ _ h => h, fun _ _ _ _ _ h => h, fun _ _ _ _ h => h, fun _ => rfl⟩ rfl hf hb hn (N := Nl) (tr := tr) hok (h Ar.real _ rfl rfl) fun _ h => h
theorem mkM {f : FuncId} {fn : Func} {h0 h1 : List Blk} {As : List AVal} {r : AVal} (hf : Tryz.prog.funcs[f]? = some fn) (hb : fn.body = some (bodyOf fn)) (hn : (fn.name == "runtime.NumGoroutine") = false) (Nl : Nat → Nat) (tr : Nat → Md)
   (hok : codeOK tr (bodyOf fn) = true) (h : ∀ (A : Ar) (S : SpecT), A = Ar.real → S = specs Tryz.prog → afunM A TT S Nl tr fn.ntmps fn.results (bodyOf fn) h0 As (fun r' k => r' = r ∧ k = h1)) : SpecM Tryz.prog f h0 As r h1 :=
 specM_of_afunM (P := Tryz.prog) (T := TT) TT.ok TT.mixed (draw_ok (P := Tryz.prog) (T := TT) TT.ok) (Sp := specs Tryz.prog) ⟨fun _ _ _ h => h, fun _ _ _ _ _ h => h, fun _ _ _ _ h => h, fun _ => rfl⟩ rfl hf hb hn (N := Nl) (tr := tr) hok (h Ar.real _ rfl rfl)
theorem mkI {f : FuncId} {fn : Func} {cap : List AVal} {n : Nat} {xs : Nat → List AVal} (hf : Tryz.prog.funcs[f]? = some fn) (hb : fn.body = some (bodyOf fn)) (hn : (fn.name == "runtime.NumGoroutine") = false) (Nl : Nat → Nat) (tr : Nat → Md)
   (hok : codeOK tr (bodyOf fn) = true) (hnr : noRange (bodyOf fn) = true) (h : ∀ (A : Ar) (S : SpecT), A = Ar.real → S.n = n → S.xs = xs → afunI A TT S Nl tr fn.ntmps fn.results (bodyOf fn) S.l cap (fun k => k = ghost n)) : SeqSp Tryz.prog f cap n xs :=
 seq_of_afunI (P := Tryz.prog) (T := TT) TT.ok TT.mixed (draw_ok (P := Tryz.prog) (T := TT) TT.ok) hf hb hn (N := Nl) (tr := tr) hok hnr fun l => h Ar.real { specs Tryz.prog with l := l, n := n, xs := xs, it := true } rfl rfl rfl
theorem cf {S : SpecT} (hS : S = specs Tryz.prog) {f : FuncId} {As : List AVal} {r : AVal} (h : Sp f As r) : S.fn f As r := by subst hS; exact h
theorem cm {S : SpecT} (hS : S = specs Tryz.prog) {f : FuncId} {h0 h1 : List Blk} {As : List AVal} {r : AVal} (h : SpecM Tryz.prog f h0 As r h1) : S.mu f h0 As r h1 := by subst hS; exact h
theorem cs {S : SpecT} (hS : S = specs Tryz.prog) {f : FuncId} {cap : List AVal} {n : Nat} {xs : Nat → List AVal} (h : SeqSp Tryz.prog f cap n xs) : S.seq f cap n xs := by subst hS; exact h
def L0 : Nat → Nat := fun _ => 20
def R0 : Nat → Md := fun _ => .own
def R1 : Nat → Md := fun _ => .mid
def R2 : Nat → Md := fun _ => .all
theorem cg {S : SpecT} (hS : S = specs Tryz.prog) {f : FuncId} {As As' : List AVal} {r : AVal} (h : Sp f As r) (ha : SimL As' As) : S.fn f As' r := by subst hS; exact Spec.args h ha
theorem aF {S : SpecT} (hS : S = specs Tryz.prog) {f : FuncId} {As : List AVal} {r : AVal} {K : AVal → Prop} (h : Sp f As r) (k : K r) : ACall S f As K := ACall.mk _ (cf hS h) k
theorem aG {S : SpecT} (hS : S = specs Tryz.prog) {f : FuncId} {As As' : List AVal} {r : AVal} {K : AVal → Prop} (h : Sp f As r) (ha : SimL As' As) (k : K r) : ACall S f As' K := ACall.mk _ (cg hS h ha) k
theorem cmp_lit {A : Ar} (hA : A = Ar.real) {op : BinOp} {x y : Int} {t : Bool} (h : rcmp op x y = t) : A.cmp op x y = t := by rw [hA]; exact h
inductive IsU : AVal → Int → Prop where
 | i (n : Int) : IsU (.i .u64 n) n
 | s (n : Int) : IsU (.s .u64 n) n
theorem IsU.rep {w : World} {X : Nat → Prop} {ρ : Nat → Option Nat} {v : Value} {x : AVal} {n : Int} (h : Rep w X ρ v x) (hu : IsU x n) : v = .int .u64 n := by
 cases hu with
 | i => exact h.i_inv
 | s => exact h.s_inv
theorem three_args {w : World} {X : Nat → Prop} {vs : List Value} {a b c : AVal} {x y z : Int} (h : RepL w X noρ vs [a, b, c]) (ha : IsU a x) (hb : IsU b y) (hc : IsU c z) : vs = [.int .u64 x, .int .u64 y, .int .u64 z] := by
 cases h with
 | cons h1 h => cases h with
   | cons h2 h => cases h with
     | cons h3 h => cases h with
       | nil => rw [ha.rep h1, hb.rep h2, hc.rep h3]
theorem out_pair {w0 w : World} {X : Nat → Prop} (o k : Int) : OutR w0 w X (.tuple #[.int .u64 o, .int .u64 k]) (.tup [.s .u64 o, .s .u64 k]) :=
 .inl ⟨[], [.int .u64 o, .int .u64 k], _, rfl, rfl, .nil, .tree _ _ (.s _ _) (.tree _ _ (.s _ _) .nil)⟩
theorem add64S {a b c : AVal} {x y z : Int} (ha : IsU a x) (hb : IsU b y) (hc : IsU c z) (hx : 0 ≤ x) (hy : 0 ≤ y) (hz : 0 ≤ z ∧ z ≤ 1) (o k : Int) (h : o + 18446744073709551616 * k = x + y + z) (ho : 0 ≤ o ∧ o < 18446744073709551616) :
   Sp 216 [a, b, c] (.tup [.s .u64 o, .s .u64 k]) := by
 intro X w vs hX hv
 rw [three_args hv ha hb hc]
 unfold CallsX
 rw [run_callFunc_extern Tryz.func216 (by kernel_rfl) (by kernel_rfl) (by kernel_rfl) (e := add64Entry) (by kernel_rfl), run_add64 x y z hx hy hz.1 hz.2]
 simp only [Result.andThen]
 obtain rfl : o = (x + y + z) % 18446744073709551616 := by omega
 obtain rfl : k = (x + y + z) / 18446744073709551616 := by omega
 exact ⟨Ext.refl _ w, out_pair _ _⟩
def sub64E : Array Value → Sem Value := fun args => do
 let (x, y, b) ← Extern.MathBitsCarry.three "Sub64" args
 pure (Extern.MathBitsCarry.pair ((x + Extern.MathBitsCarry.m64 - y - b) % Extern.MathBitsCarry.m64) (if x < y + b then 1 else 0))
theorem run_sub64 {P : Program} (x y b : Nat) (hb : b ≤ 1) (w : World) :
   (sub64E #[.int .u64 x, .int .u64 y, .int .u64 b]).run P w =
     .ok (.tuple #[.int .u64 (((x + 18446744073709551616 - y - b) % 18446744073709551616 : Nat) : Int), .int .u64 ((if x < y + b then 1 else 0 : Nat) : Int)]) w := by
 have : b = 0 ∨ b = 1 := by omega
 rcases this with rfl | rfl <;> rfl
theorem sub64S {a b c : AVal} {x y z : Int} (ha : IsU a x) (hb : IsU b y) (hc : IsU c z) (hx : 0 ≤ x ∧ x < 18446744073709551616) (hy : 0 ≤ y ∧ y < 18446744073709551616) (hz : 0 ≤ z ∧ z ≤ 1) (o k : Int) (h : o - 18446744073709551616 * k = x - y - z) (ho : 0 ≤ o ∧ o < 18446744073709551616) :
   Sp 221 [a, b, c] (.tup [.s .u64 o, .s .u64 k]) := by
 intro X w vs hX hv
 rw [three_args hv ha hb hc]
 unfold CallsX
 obtain ⟨x, rfl⟩ : ∃ n : Nat, x = n := ⟨x.toNat, by omega⟩
 obtain ⟨y, rfl⟩ : ∃ n : Nat, y = n := ⟨y.toNat, by omega⟩
 obtain ⟨z, rfl⟩ : ∃ n : Nat, z = n := ⟨z.toNat, by omega⟩
 rw [run_callFunc_extern Tryz.func221 (by kernel_rfl) (by kernel_rfl) (by kernel_rfl) (e := sub64E) (by kernel_rfl), run_sub64 x y z (by omega)]
 simp only [Result.andThen]
 have h1 : o = (((x + 18446744073709551616 - y - z) % 18446744073709551616 : Nat) : Int) := by omega
 have h2 : k = ((if x < y + z then 1 else 0 : Nat) : Int) := by split <;> omega
 rw [← h1, ← h2]
 exact ⟨Ext.refl _ w, out_pair _ _⟩
abbrev Lim := Nat → Nat → Int
def limR : Lim := fun a i => ((a / 2 ^ (64 * i) % 2 ^ 64 : Nat) : Int)
def u4 (lim : Lim) (a : Nat) : AVal := .agg [.s .u64 (lim a 0), .s .u64 (lim a 1), .s .u64 (lim a 2), .s .u64 (lim a 3)]
def u6 (lim : Lim) (a : Nat) : AVal := .agg [.s .u64 (lim a 0), .s .u64 (lim a 1), .s .u64 (lim a 2), .s .u64 (lim a 3), .s .u64 (lim a 4), .s .u64 (lim a 5)]
theorem lim_range {lim : Lim} (hl : lim = limR) (a i : Nat) : 0 ≤ lim a i ∧ lim a i < 18446744073709551616 := by
 subst hl
 unfold limR
 generalize a / 2 ^ (64 * i) = q
 omega
theorem lim_mod {lim : Lim} (hl : lim = limR) (a : Nat) : lim a 0 = ((a % 18446744073709551616 : Nat) : Int) := by subst hl; simp [limR]
theorem lim_succ {lim : Lim} (hl : lim = limR) (a i : Nat) : lim a (i + 1) = lim (a / 18446744073709551616) i := by
 subst hl
 unfold limR
 rw [show 64 * (i + 1) = 64 + 64 * i by omega, Nat.pow_add, ← Nat.div_div_eq_div_mul]
theorem uniq {x y p q : Int} (hx : 0 ≤ x ∧ x < 18446744073709551616) (hy : 0 ≤ y ∧ y < 18446744073709551616) (h : x + 18446744073709551616 * p = y + 18446744073709551616 * q) : x = y ∧ p = q := by omega
theorem split1 {lim : Lim} (hl : lim = limR) (a : Nat) : (a : Int) = lim a 0 + 18446744073709551616 * ((a / 18446744073709551616 : Nat) : Int) := by
 rw [lim_mod hl]; omega
theorem split4 {lim : Lim} (hl : lim = limR) (a : Nat) (ha : a < 2 ^ 256) : (a : Int) = lim a 0 + 18446744073709551616 * (lim a 1 + 18446744073709551616 * (lim a 2 + 18446744073709551616 * lim a 3)) := by
 rw [split1 hl a, lim_succ hl a 0, split1 hl (a / 18446744073709551616), lim_succ hl a 1, lim_succ hl _ 0, split1 hl (a / 18446744073709551616 / 18446744073709551616), lim_succ hl a 2, lim_succ hl _ 1, lim_succ hl _ 0,
   lim_mod hl (a / 18446744073709551616 / 18446744073709551616 / 18446744073709551616), Nat.mod_eq_of_lt (a := a / 18446744073709551616 / 18446744073709551616 / 18446744073709551616)]
 rw [Nat.div_div_eq_div_mul, Nat.div_div_eq_div_mul]
 exact Nat.div_lt_of_lt_mul (by simpa using ha)
theorem split6 {lim : Lim} (hl : lim = limR) (a : Nat) (ha : a < 2 ^ 384) : (a : Int) = lim a 0 + 18446744073709551616 * (lim a 1 + 18446744073709551616 * (lim a 2 + 18446744073709551616 * (lim a 3 + 18446744073709551616 * (lim a 4 + 18446744073709551616 * lim a 5)))) := by
 have h : a / 18446744073709551616 / 18446744073709551616 < 2 ^ 256 := by
   rw [Nat.div_div_eq_div_mul]
   exact Nat.div_lt_of_lt_mul (by simpa using ha)
 have := split4 hl _ h
 rw [split1 hl a, lim_succ hl a 0, split1 hl (a / 18446744073709551616), this]
 simp only [← lim_succ hl]
theorem lim_of4 {lim : Lim} (hl : lim = limR) {a : Nat} (ha : a < 2 ^ 256) {x0 x1 x2 x3 : Int} (h0 : 0 ≤ x0 ∧ x0 < 18446744073709551616) (h1 : 0 ≤ x1 ∧ x1 < 18446744073709551616) (h2 : 0 ≤ x2 ∧ x2 < 18446744073709551616)
   (h : (a : Int) = x0 + 18446744073709551616 * (x1 + 18446744073709551616 * (x2 + 18446744073709551616 * x3))) : lim a 0 = x0 ∧ lim a 1 = x1 ∧ lim a 2 = x2 ∧ lim a 3 = x3 := by
 rw [split4 hl a ha] at h
 obtain ⟨e0, h⟩ := uniq (lim_range hl a 0) h0 h
 obtain ⟨e1, h⟩ := uniq (lim_range hl a 1) h1 h
 obtain ⟨e2, h⟩ := uniq (lim_range hl a 2) h2 h
 exact ⟨e0, e1, e2, h⟩
theorem lim_of6 {lim : Lim} (hl : lim = limR) {a : Nat} (ha : a < 2 ^ 384) {x0 x1 x2 x3 x4 x5 : Int} (h0 : 0 ≤ x0 ∧ x0 < 18446744073709551616) (h1 : 0 ≤ x1 ∧ x1 < 18446744073709551616) (h2 : 0 ≤ x2 ∧ x2 < 18446744073709551616)
   (h3 : 0 ≤ x3 ∧ x3 < 18446744073709551616) (h4 : 0 ≤ x4 ∧ x4 < 18446744073709551616)
   (h : (a : Int) = x0 + 18446744073709551616 * (x1 + 18446744073709551616 * (x2 + 18446744073709551616 * (x3 + 18446744073709551616 * (x4 + 18446744073709551616 * x5))))) : lim a 0 = x0 ∧ lim a 1 = x1 ∧ lim a 2 = x2 ∧ lim a 3 = x3 ∧ lim a 4 = x4 ∧ lim a 5 = x5 := by
 rw [split6 hl a ha] at h
 obtain ⟨e0, h⟩ := uniq (lim_range hl a 0) h0 h
 obtain ⟨e1, h⟩ := uniq (lim_range hl a 1) h1 h
 obtain ⟨e2, h⟩ := uniq (lim_range hl a 2) h2 h
 obtain ⟨e3, h⟩ := uniq (lim_range hl a 3) h3 h
 obtain ⟨e4, h⟩ := uniq (lim_range hl a 4) h4 h
 exact ⟨e0, e1, e2, e3, e4, h⟩
theorem carry {x y z : Int} (hx : 0 ≤ x ∧ x < 18446744073709551616) (hy : 0 ≤ y ∧ y < 18446744073709551616) (hz : 0 ≤ z ∧ z ≤ 1) : ∃ o k : Int, o + 18446744073709551616 * k = x + y + z ∧ (0 ≤ o ∧ o < 18446744073709551616) ∧ 0 ≤ k ∧ k ≤ 1 :=
 ⟨(x + y + z) % 18446744073709551616, (x + y + z) / 18446744073709551616, by omega, by omega, by omega⟩
theorem borrow {x y z : Int} (hx : 0 ≤ x ∧ x < 18446744073709551616) (hy : 0 ≤ y ∧ y < 18446744073709551616) (hz : 0 ≤ z ∧ z ≤ 1) : ∃ o k : Int, o - 18446744073709551616 * k = x - y - z ∧ (0 ≤ o ∧ o < 18446744073709551616) ∧ 0 ≤ k ∧ k ≤ 1 :=
 ⟨(x - y - z) % 18446744073709551616, -((x - y - z) / 18446744073709551616), by omega, by omega, by omega⟩
theorem own : ownKnob Tryz.prog.godebug = none := by kernel_rfl
theorem laidOut : laidOutB Tryz.prog = true := by kernel_rfl
theorem calls_of {f : FuncId} {fn : Func} (hf : Tryz.prog.funcs[f]? = some fn) (hb : fn.body.isNone = false) (hn : (fn.name == "runtime.NumGoroutine") = false) {As : List AVal} {W : World} {vs : List Value}
   (hS : Sp f As (.sb true)) (hv : RepL W (fun _ => False) noρ vs As) : Calls Tryz.prog f vs.toArray W fun e W' => e = .returned (.bool true) ∧ Go.RowKit.Below W.heap.size W W' := by
 have h := hS (fun _ => False) W vs (fun _ h => h.elim) hv
 unfold CallsX at h
 rw [callFunc_body hf hn hb] at h
 refine Calls.mono h fun e W' ⟨v, he, hx, ho⟩ => ?_
 have hvb : v = .bool true := by
   rcases ho with ⟨N, vs, xs, _, h2, _⟩ | ⟨N, _, ho⟩
   . cases h2
   . cases ho with
     | tree _ _ hr _ => exact hr.sb_inv
 subst hvb
 exact ⟨he, ⟨hx.os, hx.tape, hx.output, hx.size, fun k hk => hx.block k hk fun h => h⟩⟩
theorem sum4 {a0 b0 o0 k1 a1 b1 o1 k2 a2 b2 o2 k3 a3 b3 o3 k4 : Int} {a b o k : Nat} (sa : (a : Int) = a0 + 18446744073709551616 * (a1 + 18446744073709551616 * (a2 + 18446744073709551616 * (a3)))) (sb : (b : Int) = b0 + 18446744073709551616 * (b1 + 18446744073709551616 * (b2 + 18446744073709551616 * (b3)))) (h : o + 2 ^ 256 * k = a + b) (ho : o < 2 ^ 256)
   (e0 : o0 + 18446744073709551616 * k1 = a0 + b0 + 0) (e1 : o1 + 18446744073709551616 * k2 = a1 + b1 + k1) (e2 : o2 + 18446744073709551616 * k3 = a2 + b2 + k2) (e3 : o3 + 18446744073709551616 * k4 = a3 + b3 + k3) (r0 : 0 ≤ o0 ∧ o0 < 18446744073709551616) (r1 : 0 ≤ o1 ∧ o1 < 18446744073709551616) (r2 : 0 ≤ o2 ∧ o2 < 18446744073709551616) (r3 : 0 ≤ o3 ∧ o3 < 18446744073709551616) :
   (o : Int) = o0 + 18446744073709551616 * (o1 + 18446744073709551616 * (o2 + 18446744073709551616 * (o3))) ∧ (k : Int) = k4 := by
 have hh : (o : Int) + 115792089237316195423570985008687907853269984665640564039457584007913129639936 * (k : Int) = (a : Int) + (b : Int) := by omega
 have ho' : (o : Int) < 115792089237316195423570985008687907853269984665640564039457584007913129639936 := by omega
 have ho2 : (0 : Int) ≤ o := by omega
 clear h ho
 rw [sa, sb] at hh
 clear sa sb
 omega
theorem dif4 {a0 b0 o0 k1 a1 b1 o1 k2 a2 b2 o2 k3 a3 b3 o3 k4 : Int} {a b o k : Nat} (sa : (a : Int) = a0 + 18446744073709551616 * (a1 + 18446744073709551616 * (a2 + 18446744073709551616 * (a3)))) (sb : (b : Int) = b0 + 18446744073709551616 * (b1 + 18446744073709551616 * (b2 + 18446744073709551616 * (b3)))) (h : o + b = a + 2 ^ 256 * k) (ho : o < 2 ^ 256)
   (e0 : o0 - 18446744073709551616 * k1 = a0 - b0 - 0) (e1 : o1 - 18446744073709551616 * k2 = a1 - b1 - k1) (e2 : o2 - 18446744073709551616 * k3 = a2 - b2 - k2) (e3 : o3 - 18446744073709551616 * k4 = a3 - b3 - k3) (r0 : 0 ≤ o0 ∧ o0 < 18446744073709551616) (r1 : 0 ≤ o1 ∧ o1 < 18446744073709551616) (r2 : 0 ≤ o2 ∧ o2 < 18446744073709551616) (r3 : 0 ≤ o3 ∧ o3 < 18446744073709551616) :
   (o : Int) = o0 + 18446744073709551616 * (o1 + 18446744073709551616 * (o2 + 18446744073709551616 * (o3))) ∧ (k : Int) = k4 := by
 have hh : (o : Int) + (b : Int) = (a : Int) + 115792089237316195423570985008687907853269984665640564039457584007913129639936 * (k : Int) := by omega
 have ho' : (o : Int) < 115792089237316195423570985008687907853269984665640564039457584007913129639936 := by omega
 have ho2 : (0 : Int) ≤ o := by omega
 clear h ho
 rw [sa, sb] at hh
 clear sa sb
 omega
theorem plus4 {lim : Lim} (hl : lim = limR) (a b o k : Nat) (ha : a < 2 ^ 256) (hb : b < 2 ^ 256) (h : o + 2 ^ 256 * k = a + b) (ho : o < 2 ^ 256) :
   Sp 209 [u4 lim a, u4 lim b] (.tup [u4 lim o, .s .u64 k]) := by
 have la := fun i => lim_range hl a i
 have lb := fun i => lim_range hl b i
 obtain ⟨o0, k1, e0, r0, q1⟩ := carry (la 0) (lb 0) (z := 0) (by omega)
 obtain ⟨o1, k2, e1, r1, q2⟩ := carry (la 1) (lb 1) q1
 obtain ⟨o2, k3, e2, r2, q3⟩ := carry (la 2) (lb 2) q2
 obtain ⟨o3, k4, e3, r3, q4⟩ := carry (la 3) (lb 3) q3
 have hs := sum4 (split4 hl a ha) (split4 hl b hb) h ho e0 e1 e2 e3 r0 r1 r2 r3
 have hf := lim_of4 hl ho r0 r1 r2 hs.1
 refine mk Tryz.func209 rfl rfl L0 R0 (by decide +kernel) fun A S hA hS => ?_
 unfold bodyOf Tryz.f209
 cbv
 refine ACall.mk (.tup [.s .u64 o0, .s .u64 k1]) (cf hS (add64S (.s _) (.s _) (.i _) (la 0).1 (lb 0).1 (by omega) _ _ e0 r0)) ?_
 cbv
 refine ACall.mk (.tup [.s .u64 o1, .s .u64 k2]) (cf hS (add64S (.s _) (.s _) (.s _) (la 1).1 (lb 1).1 q1 _ _ e1 r1)) ?_
 cbv
 refine ACall.mk (.tup [.s .u64 o2, .s .u64 k3]) (cf hS (add64S (.s _) (.s _) (.s _) (la 2).1 (lb 2).1 q2 _ _ e2 r2)) ?_
 cbv
 refine ACall.mk (.tup [.s .u64 o3, .s .u64 k4]) (cf hS (add64S (.s _) (.s _) (.s _) (la 3).1 (lb 3).1 q3 _ _ e3 r3)) ?_
 cbv
 obtain ⟨f0, f1, f2, f3⟩ := hf
 exact ⟨⟨f0.symm, f1.symm, f2.symm, f3.symm⟩, hs.2.symm⟩
theorem minus4 {lim : Lim} (hl : lim = limR) (a b o k : Nat) (ha : a < 2 ^ 256) (hb : b < 2 ^ 256) (h : o + b = a + 2 ^ 256 * k) (ho : o < 2 ^ 256) :
   Sp 210 [u4 lim a, u4 lim b] (.tup [u4 lim o, .s .u64 k]) := by
 have la := fun i => lim_range hl a i
 have lb := fun i => lim_range hl b i
 obtain ⟨o0, k1, e0, r0, q1⟩ := borrow (la 0) (lb 0) (z := 0) (by omega)
 obtain ⟨o1, k2, e1, r1, q2⟩ := borrow (la 1) (lb 1) q1
 obtain ⟨o2, k3, e2, r2, q3⟩ := borrow (la 2) (lb 2) q2
 obtain ⟨o3, k4, e3, r3, q4⟩ := borrow (la 3) (lb 3) q3
 have hs := dif4 (split4 hl a ha) (split4 hl b hb) h ho e0 e1 e2 e3 r0 r1 r2 r3
 have hf := lim_of4 hl ho r0 r1 r2 hs.1
 refine mk Tryz.func210 rfl rfl L0 R0 (by decide +kernel) fun A S hA hS => ?_
 unfold bodyOf Tryz.f210
 cbv
 refine ACall.mk (.tup [.s .u64 o0, .s .u64 k1]) (cf hS (sub64S (.s _) (.s _) (.i _) (la 0) (lb 0) (by omega) _ _ e0 r0)) ?_
 cbv
 refine ACall.mk (.tup [.s .u64 o1, .s .u64 k2]) (cf hS (sub64S (.s _) (.s _) (.s _) (la 1) (lb 1) q1 _ _ e1 r1)) ?_
 cbv
 refine ACall.mk (.tup [.s .u64 o2, .s .u64 k3]) (cf hS (sub64S (.s _) (.s _) (.s _) (la 2) (lb 2) q2 _ _ e2 r2)) ?_
 cbv
 refine ACall.mk (.tup [.s .u64 o3, .s .u64 k4]) (cf hS (sub64S (.s _) (.s _) (.s _) (la 3) (lb 3) q3 _ _ e3 r3)) ?_
 cbv
 obtain ⟨f0, f1, f2, f3⟩ := hf
 exact ⟨⟨f0.symm, f1.symm, f2.symm, f3.symm⟩, hs.2.symm⟩
theorem sum6 {a0 b0 o0 k1 a1 b1 o1 k2 a2 b2 o2 k3 a3 b3 o3 k4 a4 b4 o4 k5 a5 b5 o5 k6 : Int} {a b o k : Nat} (sa : (a : Int) = a0 + 18446744073709551616 * (a1 + 18446744073709551616 * (a2 + 18446744073709551616 * (a3 + 18446744073709551616 * (a4 + 18446744073709551616 * (a5)))))) (sb : (b : Int) = b0 + 18446744073709551616 * (b1 + 18446744073709551616 * (b2 + 18446744073709551616 * (b3 + 18446744073709551616 * (b4 + 18446744073709551616 * (b5)))))) (h : o + 2 ^ 384 * k = a + b) (ho : o < 2 ^ 384)
   (e0 : o0 + 18446744073709551616 * k1 = a0 + b0 + 0) (e1 : o1 + 18446744073709551616 * k2 = a1 + b1 + k1) (e2 : o2 + 18446744073709551616 * k3 = a2 + b2 + k2) (e3 : o3 + 18446744073709551616 * k4 = a3 + b3 + k3) (e4 : o4 + 18446744073709551616 * k5 = a4 + b4 + k4) (e5 : o5 + 18446744073709551616 * k6 = a5 + b5 + k5) (r0 : 0 ≤ o0 ∧ o0 < 18446744073709551616) (r1 : 0 ≤ o1 ∧ o1 < 18446744073709551616) (r2 : 0 ≤ o2 ∧ o2 < 18446744073709551616) (r3 : 0 ≤ o3 ∧ o3 < 18446744073709551616) (r4 : 0 ≤ o4 ∧ o4 < 18446744073709551616) (r5 : 0 ≤ o5 ∧ o5 < 18446744073709551616) :
   (o : Int) = o0 + 18446744073709551616 * (o1 + 18446744073709551616 * (o2 + 18446744073709551616 * (o3 + 18446744073709551616 * (o4 + 18446744073709551616 * (o5))))) ∧ (k : Int) = k6 := by
 have hh : (o : Int) + 39402006196394479212279040100143613805079739270465446667948293404245721771497210611414266254884915640806627990306816 * (k : Int) = (a : Int) + (b : Int) := by omega
 have ho' : (o : Int) < 39402006196394479212279040100143613805079739270465446667948293404245721771497210611414266254884915640806627990306816 := by omega
 have ho2 : (0 : Int) ≤ o := by omega
 clear h ho
 rw [sa, sb] at hh
 clear sa sb
 omega
theorem dif6 {a0 b0 o0 k1 a1 b1 o1 k2 a2 b2 o2 k3 a3 b3 o3 k4 a4 b4 o4 k5 a5 b5 o5 k6 : Int} {a b o k : Nat} (sa : (a : Int) = a0 + 18446744073709551616 * (a1 + 18446744073709551616 * (a2 + 18446744073709551616 * (a3 + 18446744073709551616 * (a4 + 18446744073709551616 * (a5)))))) (sb : (b : Int) = b0 + 18446744073709551616 * (b1 + 18446744073709551616 * (b2 + 18446744073709551616 * (b3 + 18446744073709551616 * (b4 + 18446744073709551616 * (b5)))))) (h : o + b = a + 2 ^ 384 * k) (ho : o < 2 ^ 384)
   (e0 : o0 - 18446744073709551616 * k1 = a0 - b0 - 0) (e1 : o1 - 18446744073709551616 * k2 = a1 - b1 - k1) (e2 : o2 - 18446744073709551616 * k3 = a2 - b2 - k2) (e3 : o3 - 18446744073709551616 * k4 = a3 - b3 - k3) (e4 : o4 - 18446744073709551616 * k5 = a4 - b4 - k4) (e5 : o5 - 18446744073709551616 * k6 = a5 - b5 - k5) (r0 : 0 ≤ o0 ∧ o0 < 18446744073709551616) (r1 : 0 ≤ o1 ∧ o1 < 18446744073709551616) (r2 : 0 ≤ o2 ∧ o2 < 18446744073709551616) (r3 : 0 ≤ o3 ∧ o3 < 18446744073709551616) (r4 : 0 ≤ o4 ∧ o4 < 18446744073709551616) (r5 : 0 ≤ o5 ∧ o5 < 18446744073709551616) :
   (o : Int) = o0 + 18446744073709551616 * (o1 + 18446744073709551616 * (o2 + 18446744073709551616 * (o3 + 18446744073709551616 * (o4 + 18446744073709551616 * (o5))))) ∧ (k : Int) = k6 := by
 have hh : (o : Int) + (b : Int) = (a : Int) + 39402006196394479212279040100143613805079739270465446667948293404245721771497210611414266254884915640806627990306816 * (k : Int) := by omega
 have ho' : (o : Int) < 39402006196394479212279040100143613805079739270465446667948293404245721771497210611414266254884915640806627990306816 := by omega
 have ho2 : (0 : Int) ≤ o := by omega
 clear h ho
 rw [sa, sb] at hh
 clear sa sb
 omega
theorem plus6 {lim : Lim} (hl : lim = limR) (a b o k : Nat) (ha : a < 2 ^ 384) (hb : b < 2 ^ 384) (h : o + 2 ^ 384 * k = a + b) (ho : o < 2 ^ 384) :
   Sp 193 [u6 lim a, u6 lim b] (.tup [u6 lim o, .s .u64 k]) := by
 have la := fun i => lim_range hl a i
 have lb := fun i => lim_range hl b i
 obtain ⟨o0, k1, e0, r0, q1⟩ := carry (la 0) (lb 0) (z := 0) (by omega)
 obtain ⟨o1, k2, e1, r1, q2⟩ := carry (la 1) (lb 1) q1
 obtain ⟨o2, k3, e2, r2, q3⟩ := carry (la 2) (lb 2) q2
 obtain ⟨o3, k4, e3, r3, q4⟩ := carry (la 3) (lb 3) q3
 obtain ⟨o4, k5, e4, r4, q5⟩ := carry (la 4) (lb 4) q4
 obtain ⟨o5, k6, e5, r5, q6⟩ := carry (la 5) (lb 5) q5
 have hs := sum6 (split6 hl a ha) (split6 hl b hb) h ho e0 e1 e2 e3 e4 e5 r0 r1 r2 r3 r4 r5
 have hf := lim_of6 hl ho r0 r1 r2 r3 r4 hs.1
 refine mk Tryz.func193 rfl rfl L0 R0 (by decide +kernel) fun A S hA hS => ?_
 unfold bodyOf Tryz.f193
 cbv
 refine ACall.mk (.tup [.s .u64 o0, .s .u64 k1]) (cf hS (add64S (.s _) (.s _) (.i _) (la 0).1 (lb 0).1 (by omega) _ _ e0 r0)) ?_
 cbv
 refine ACall.mk (.tup [.s .u64 o1, .s .u64 k2]) (cf hS (add64S (.s _) (.s _) (.s _) (la 1).1 (lb 1).1 q1 _ _ e1 r1)) ?_
 cbv
 refine ACall.mk (.tup [.s .u64 o2, .s .u64 k3]) (cf hS (add64S (.s _) (.s _) (.s _) (la 2).1 (lb 2).1 q2 _ _ e2 r2)) ?_
 cbv
 refine ACall.mk (.tup [.s .u64 o3, .s .u64 k4]) (cf hS (add64S (.s _) (.s _) (.s _) (la 3).1 (lb 3).1 q3 _ _ e3 r3)) ?_
 cbv
 refine ACall.mk (.tup [.s .u64 o4, .s .u64 k5]) (cf hS (add64S (.s _) (.s _) (.s _) (la 4).1 (lb 4).1 q4 _ _ e4 r4)) ?_
 cbv
 refine ACall.mk (.tup [.s .u64 o5, .s .u64 k6]) (cf hS (add64S (.s _) (.s _) (.s _) (la 5).1 (lb 5).1 q5 _ _ e5 r5)) ?_
 cbv
 obtain ⟨f0, f1, f2, f3, f4, f5⟩ := hf
 exact ⟨⟨f0.symm, f1.symm, f2.symm, f3.symm, f4.symm, f5.symm⟩, hs.2.symm⟩
theorem minus6 {lim : Lim} (hl : lim = limR) (a b o k : Nat) (ha : a < 2 ^ 384) (hb : b < 2 ^ 384) (h : o + b = a + 2 ^ 384 * k) (ho : o < 2 ^ 384) :
   Sp 200 [u6 lim a, u6 lim b] (.tup [u6 lim o, .s .u64 k]) := by
 have la := fun i => lim_range hl a i
 have lb := fun i => lim_range hl b i
 obtain ⟨o0, k1, e0, r0, q1⟩ := borrow (la 0) (lb 0) (z := 0) (by omega)
 obtain ⟨o1, k2, e1, r1, q2⟩ := borrow (la 1) (lb 1) q1
 obtain ⟨o2, k3, e2, r2, q3⟩ := borrow (la 2) (lb 2) q2
 obtain ⟨o3, k4, e3, r3, q4⟩ := borrow (la 3) (lb 3) q3
 obtain ⟨o4, k5, e4, r4, q5⟩ := borrow (la 4) (lb 4) q4
 obtain ⟨o5, k6, e5, r5, q6⟩ := borrow (la 5) (lb 5) q5
 have hs := dif6 (split6 hl a ha) (split6 hl b hb) h ho e0 e1 e2 e3 e4 e5 r0 r1 r2 r3 r4 r5
 have hf := lim_of6 hl ho r0 r1 r2 r3 r4 hs.1
 refine mk Tryz.func200 rfl rfl L0 R0 (by decide +kernel) fun A S hA hS => ?_
 unfold bodyOf Tryz.f200
 cbv
 refine ACall.mk (.tup [.s .u64 o0, .s .u64 k1]) (cf hS (sub64S (.s _) (.s _) (.i _) (la 0) (lb 0) (by omega) _ _ e0 r0)) ?_
 cbv
 refine ACall.mk (.tup [.s .u64 o1, .s .u64 k2]) (cf hS (sub64S (.s _) (.s _) (.s _) (la 1) (lb 1) q1 _ _ e1 r1)) ?_
 cbv
 refine ACall.mk (.tup [.s .u64 o2, .s .u64 k3]) (cf hS (sub64S (.s _) (.s _) (.s _) (la 2) (lb 2) q2 _ _ e2 r2)) ?_
 cbv
 refine ACall.mk (.tup [.s .u64 o3, .s .u64 k4]) (cf hS (sub64S (.s _) (.s _) (.s _) (la 3) (lb 3) q3 _ _ e3 r3)) ?_
 cbv
 refine ACall.mk (.tup [.s .u64 o4, .s .u64 k5]) (cf hS (sub64S (.s _) (.s _) (.s _) (la 4) (lb 4) q4 _ _ e4 r4)) ?_
 cbv
 refine ACall.mk (.tup [.s .u64 o5, .s .u64 k6]) (cf hS (sub64S (.s _) (.s _) (.s _) (la 5) (lb 5) q5 _ _ e5 r5)) ?_
 cbv
 obtain ⟨f0, f1, f2, f3, f4, f5⟩ := hf
 exact ⟨⟨f0.symm, f1.symm, f2.symm, f3.symm, f4.symm, f5.symm⟩, hs.2.symm⟩
end Go.Proofs.YtmholgclgamnnaaGreat
end
