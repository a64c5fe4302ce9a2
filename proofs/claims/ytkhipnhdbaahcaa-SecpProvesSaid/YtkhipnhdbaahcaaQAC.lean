import Derived.Test.YtkhipnhdbaahcaaQAE24
import Derived.Test.YtkhipnhdbaahcaaChecked
import Derived.KernelRfl
import Derived.Laws.Externs
import Derived.Test.YtkhipnhdbaahcaaRows
import Derived.WalkKit
import Derived.ProofKit
import Derived.OpenShut
import Derived.ShutString
import Derived.ChangeOld
import Derived.Below
import Derived.Carry
import Derived.SizedLaws
import Derived.ChangeSlices
set_option linter.unusedVariables false
set_option linter.unusedSimpArgs false
set_option linter.unusedSectionVars false
set_option maxRecDepth 100000
set_option exponentiation.threshold 2000
section
namespace Go.Proofs.Ytkhipnhdbaahcaa
open Go Eng
def TT.und : TypeId → UT
 | 2 => .int .i64
 | 3 => .int .i64
 | 4 => .bool
 | 5 => .int .u8
 | 6 => .int .u8
 | 9 => .str
 | 10 => .str
 | 11 => .str
 | 12 => .int .u64
 | 15 => .ptr 166
 | 16 => .ptr 169
 | 17 => .ptr 179
 | 20 => .iface []
 | 21 => .int .i32
 | 22 => .int .u64
 | 24 => .arr 4 22
 | 25 => .arr 4 22
 | 26 => .int .i64
 | 31 => .arr 32 5
 | 32 => .arr 32 5
 | 33 => .arr 20 5
 | 34 => .arr 20 5
 | 35 => .arr 256 5
 | 36 => .arr 256 5
 | 37 => .slice 5
 | 38 => .arr 8 5
 | 39 => .struct [(0, 32, "Parent"), (32, 32, "Uncles"), (64, 34, "Coinbase"), (84, 32, "State"), (116, 32, "Txs"), (148, 32, "Receipts"), (180, 36, "Bloom"), (436, 25, "Difficulty"), (440, 22, "Number"), (441, 22, "Limit"), (442, 22, "Used"), (443, 22, "Time"), (444, 37, "Extra"), (445, 32, "Random"), (477, 38, "Nonce"), (485, 25, "BaseFee"), (489, 32, "Withdrawals"), (521, 22, "BlobUsed"), (522, 22, "Excess"), (523, 32, "Beacon")]
 | 40 => .struct [(0, 32, "Parent"), (32, 32, "Uncles"), (64, 34, "Coinbase"), (84, 32, "State"), (116, 32, "Txs"), (148, 32, "Receipts"), (180, 36, "Bloom"), (436, 25, "Difficulty"), (440, 22, "Number"), (441, 22, "Limit"), (442, 22, "Used"), (443, 22, "Time"), (444, 37, "Extra"), (445, 32, "Random"), (477, 38, "Nonce"), (485, 25, "BaseFee"), (489, 32, "Withdrawals"), (521, 22, "BlobUsed"), (522, 22, "Excess"), (523, 32, "Beacon")]
 | 47 => .struct [(0, 25, "R"), (4, 25, "S"), (8, 3, "Odd")]
 | 48 => .struct [(0, 25, "R"), (4, 25, "S"), (8, 3, "Odd")]
 | 49 => .struct [(0, 25, "X"), (4, 25, "Y"), (8, 4, "Inf")]
 | 50 => .struct [(0, 25, "X"), (4, 25, "Y"), (8, 4, "Inf")]
 | 61 => .arr 17 22
 | 62 => .arr 17 22
 | 78 => .ptr 107
 | 89 => .slice 22
 | 93 => .arr 8 22
 | 95 => .int .u64
 | 96 => .arr 6 22
 | 106 => .struct [(0, 3, "made"), (1, 24, "m"), (5, 22, "inv"), (6, 3, "fast"), (7, 24, "one"), (11, 24, "two")]
 | 107 => .struct [(0, 3, "made"), (1, 24, "m"), (5, 22, "inv"), (6, 3, "fast"), (7, 24, "one"), (11, 24, "two")]
 | 113 => .struct [(0, 24, "x"), (4, 24, "y"), (8, 24, "z")]
 | 114 => .struct [(0, 24, "x"), (4, 24, "y"), (8, 24, "z")]
 | 120 => .ptr 126
 | 121 => .arr 25 3
 | 123 => .arr 24 22
 | 125 => .struct [(0, 121, "turn"), (25, 123, "round")]
 | 126 => .struct [(0, 121, "turn"), (25, 123, "round")]
 | 127 => .arr 25 22
 | 134 => .iface [("Error", 164)]
 | 135 => .iface [("Error", 164)]
 | 137 => .slice 3
 | 139 => .ptr 24
 | 141 => .ptr 96
 | 150 => .arr 5 22
 | 163 => .ptr 181
 | 167 => .arr 0 16
 | 171 => .int .u32
 | 172 => .int .u8
 | 173 => .int .u8
 | 175 => .ptr 5
 | 176 => .int .i32
 | 177 => .int .i32
 | 180 => .struct [(0, 9, "s")]
 | 181 => .struct [(0, 9, "s")]
 | _ => .other
def TT.size : TypeId → Nat
 | 2 => 1
 | 3 => 1
 | 4 => 1
 | 5 => 1
 | 6 => 1
 | 9 => 1
 | 10 => 1
 | 11 => 1
 | 12 => 1
 | 15 => 1
 | 16 => 1
 | 17 => 1
 | 20 => 1
 | 21 => 1
 | 22 => 1
 | 24 => 4
 | 25 => 4
 | 26 => 1
 | 31 => 32
 | 32 => 32
 | 33 => 20
 | 34 => 20
 | 35 => 256
 | 36 => 256
 | 37 => 1
 | 38 => 8
 | 39 => 555
 | 40 => 555
 | 47 => 9
 | 48 => 9
 | 49 => 9
 | 50 => 9
 | 61 => 17
 | 62 => 17
 | 78 => 1
 | 89 => 1
 | 93 => 8
 | 95 => 1
 | 96 => 6
 | 106 => 15
 | 107 => 15
 | 113 => 12
 | 114 => 12
 | 120 => 1
 | 121 => 25
 | 123 => 24
 | 125 => 49
 | 126 => 49
 | 127 => 25
 | 134 => 1
 | 135 => 1
 | 137 => 1
 | 139 => 1
 | 141 => 1
 | 150 => 5
 | 163 => 1
 | 167 => 0
 | 171 => 1
 | 172 => 1
 | 173 => 1
 | 175 => 1
 | 176 => 1
 | 177 => 1
 | 180 => 1
 | 181 => 1
 | _ => 0
def TT.bytes : TypeId → Nat
 | 2 => 8
 | 3 => 8
 | 4 => 1
 | 5 => 1
 | 6 => 1
 | 9 => 16
 | 10 => 16
 | 11 => 16
 | 12 => 8
 | 15 => 8
 | 16 => 8
 | 17 => 8
 | 20 => 16
 | 21 => 4
 | 22 => 8
 | 24 => 32
 | 25 => 32
 | 26 => 8
 | 31 => 32
 | 32 => 32
 | 33 => 20
 | 34 => 20
 | 35 => 256
 | 36 => 256
 | 37 => 24
 | 38 => 8
 | 39 => 680
 | 40 => 680
 | 47 => 72
 | 48 => 72
 | 49 => 72
 | 50 => 72
 | 61 => 136
 | 62 => 136
 | 78 => 8
 | 89 => 24
 | 93 => 64
 | 95 => 8
 | 96 => 48
 | 106 => 120
 | 107 => 120
 | 113 => 96
 | 114 => 96
 | 120 => 8
 | 121 => 200
 | 123 => 192
 | 125 => 392
 | 126 => 392
 | 127 => 200
 | 134 => 16
 | 135 => 16
 | 137 => 24
 | 139 => 8
 | 141 => 8
 | 150 => 40
 | 163 => 8
 | 167 => 0
 | 171 => 4
 | 172 => 1
 | 173 => 1
 | 175 => 8
 | 176 => 4
 | 177 => 4
 | 180 => 16
 | 181 => 16
 | _ => 0
def TT.zero : TypeId → List Value
 | 2 => [.int .i64 0]
 | 3 => [.int .i64 0]
 | 4 => [.bool false]
 | 5 => [.int .u8 0]
 | 6 => [.int .u8 0]
 | 9 => [.string ⟨#[]⟩]
 | 10 => [.string ⟨#[]⟩]
 | 11 => [.string ⟨#[]⟩]
 | 12 => [.int .u64 0]
 | 15 => [.pointer none]
 | 16 => [.pointer none]
 | 17 => [.pointer none]
 | 20 => [.nilIface]
 | 21 => [.int .i32 0]
 | 22 => [.int .u64 0]
 | 24 => [.int .u64 0, .int .u64 0, .int .u64 0, .int .u64 0]
 | 25 => [.int .u64 0, .int .u64 0, .int .u64 0, .int .u64 0]
 | 26 => [.int .i64 0]
 | 31 => [.int .u8 0, .int .u8 0, .int .u8 0, .int .u8 0, .int .u8 0, .int .u8 0, .int .u8 0, .int .u8 0, .int .u8 0, .int .u8 0, .int .u8 0, .int .u8 0, .int .u8 0, .int .u8 0, .int .u8 0, .int .u8 0, .int .u8 0, .int .u8 0, .int .u8 0, .int .u8 0, .int .u8 0, .int .u8 0, .int .u8 0, .int .u8 0, .int .u8 0, .int .u8 0, .int .u8 0, .int .u8 0, .int .u8 0, .int .u8 0, .int .u8 0, .int .u8 0]
 | 32 => [.int .u8 0, .int .u8 0, .int .u8 0, .int .u8 0, .int .u8 0, .int .u8 0, .int .u8 0, .int .u8 0, .int .u8 0, .int .u8 0, .int .u8 0, .int .u8 0, .int .u8 0, .int .u8 0, .int .u8 0, .int .u8 0, .int .u8 0, .int .u8 0, .int .u8 0, .int .u8 0, .int .u8 0, .int .u8 0, .int .u8 0, .int .u8 0, .int .u8 0, .int .u8 0, .int .u8 0, .int .u8 0, .int .u8 0, .int .u8 0, .int .u8 0, .int .u8 0]
 | 33 => [.int .u8 0, .int .u8 0, .int .u8 0, .int .u8 0, .int .u8 0, .int .u8 0, .int .u8 0, .int .u8 0, .int .u8 0, .int .u8 0, .int .u8 0, .int .u8 0, .int .u8 0, .int .u8 0, .int .u8 0, .int .u8 0, .int .u8 0, .int .u8 0, .int .u8 0, .int .u8 0]
 | 34 => [.int .u8 0, .int .u8 0, .int .u8 0, .int .u8 0, .int .u8 0, .int .u8 0, .int .u8 0, .int .u8 0, .int .u8 0, .int .u8 0, .int .u8 0, .int .u8 0, .int .u8 0, .int .u8 0, .int .u8 0, .int .u8 0, .int .u8 0, .int .u8 0, .int .u8 0, .int .u8 0]
 | 35 => [.int .u8 0, .int .u8 0, .int .u8 0, .int .u8 0, .int .u8 0, .int .u8 0, .int .u8 0, .int .u8 0, .int .u8 0, .int .u8 0, .int .u8 0, .int .u8 0, .int .u8 0, .int .u8 0, .int .u8 0, .int .u8 0, .int .u8 0, .int .u8 0, .int .u8 0, .int .u8 0, .int .u8 0, .int .u8 0, .int .u8 0, .int .u8 0, .int .u8 0, .int .u8 0, .int .u8 0, .int .u8 0, .int .u8 0, .int .u8 0, .int .u8 0, .int .u8 0, .int .u8 0, .int .u8 0, .int .u8 0, .int .u8 0, .int .u8 0, .int .u8 0, .int .u8 0, .int .u8 0, .int .u8 0, .int .u8 0, .int .u8 0, .int .u8 0, .int .u8 0, .int .u8 0, .int .u8 0, .int .u8 0, .int .u8 0, .int .u8 0, .int .u8 0, .int .u8 0, .int .u8 0, .int .u8 0, .int .u8 0, .int .u8 0, .int .u8 0, .int .u8 0, .int .u8 0, .int .u8 0, .int .u8 0, .int .u8 0, .int .u8 0, .int .u8 0, .int .u8 0, .int .u8 0, .int .u8 0, .int .u8 0, .int .u8 0, .int .u8 0, .int .u8 0, .int .u8 0, .int .u8 0, .int .u8 0, .int .u8 0, .int .u8 0, .int .u8 0, .int .u8 0, .int .u8 0, .int .u8 0, .int .u8 0, .int .u8 0, .int .u8 0, .int .u8 0, .int .u8 0, .int .u8 0, .int .u8 0, .int .u8 0, .int .u8 0, .int .u8 0, .int .u8 0, .int .u8 0, .int .u8 0, .int .u8 0, .int .u8 0, .int .u8 0, .int .u8 0, .int .u8 0, .int .u8 0, .int .u8 0, .int .u8 0, .int .u8 0, .int .u8 0, .int .u8 0, .int .u8 0, .int .u8 0, .int .u8 0, .int .u8 0, .int .u8 0, .int .u8 0, .int .u8 0, .int .u8 0, .int .u8 0, .int .u8 0, .int .u8 0, .int .u8 0, .int .u8 0, .int .u8 0, .int .u8 0, .int .u8 0, .int .u8 0, .int .u8 0, .int .u8 0, .int .u8 0, .int .u8 0, .int .u8 0, .int .u8 0, .int .u8 0, .int .u8 0, .int .u8 0, .int .u8 0, .int .u8 0, .int .u8 0, .int .u8 0, .int .u8 0, .int .u8 0, .int .u8 0, .int .u8 0, .int .u8 0, .int .u8 0, .int .u8 0, .int .u8 0, .int .u8 0, .int .u8 0, .int .u8 0, .int .u8 0, .int .u8 0, .int .u8 0, .int .u8 0, .int .u8 0, .int .u8 0, .int .u8 0, .int .u8 0, .int .u8 0, .int .u8 0, .int .u8 0, .int .u8 0, .int .u8 0, .int .u8 0, .int .u8 0, .int .u8 0, .int .u8 0, .int .u8 0, .int .u8 0, .int .u8 0, .int .u8 0, .int .u8 0, .int .u8 0, .int .u8 0, .int .u8 0, .int .u8 0, .int .u8 0, .int .u8 0, .int .u8 0, .int .u8 0, .int .u8 0, .int .u8 0, .int .u8 0, .int .u8 0, .int .u8 0, .int .u8 0, .int .u8 0, .int .u8 0, .int .u8 0, .int .u8 0, .int .u8 0, .int .u8 0, .int .u8 0, .int .u8 0, .int .u8 0, .int .u8 0, .int .u8 0, .int .u8 0, .int .u8 0, .int .u8 0, .int .u8 0, .int .u8 0, .int .u8 0, .int .u8 0, .int .u8 0, .int .u8 0, .int .u8 0, .int .u8 0, .int .u8 0, .int .u8 0, .int .u8 0, .int .u8 0, .int .u8 0, .int .u8 0, .int .u8 0, .int .u8 0, .int .u8 0, .int .u8 0, .int .u8 0, .int .u8 0, .int .u8 0, .int .u8 0, .int .u8 0, .int .u8 0, .int .u8 0, .int .u8 0, .int .u8 0, .int .u8 0, .int .u8 0, .int .u8 0, .int .u8 0, .int .u8 0, .int .u8 0, .int .u8 0, .int .u8 0, .int .u8 0, .int .u8 0, .int .u8 0, .int .u8 0, .int .u8 0, .int .u8 0, .int .u8 0, .int .u8 0, .int .u8 0, .int .u8 0, .int .u8 0, .int .u8 0, .int .u8 0, .int .u8 0, .int .u8 0, .int .u8 0, .int .u8 0, .int .u8 0, .int .u8 0, .int .u8 0, .int .u8 0, .int .u8 0, .int .u8 0, .int .u8 0, .int .u8 0, .int .u8 0]
 | 36 => [.int .u8 0, .int .u8 0, .int .u8 0, .int .u8 0, .int .u8 0, .int .u8 0, .int .u8 0, .int .u8 0, .int .u8 0, .int .u8 0, .int .u8 0, .int .u8 0, .int .u8 0, .int .u8 0, .int .u8 0, .int .u8 0, .int .u8 0, .int .u8 0, .int .u8 0, .int .u8 0, .int .u8 0, .int .u8 0, .int .u8 0, .int .u8 0, .int .u8 0, .int .u8 0, .int .u8 0, .int .u8 0, .int .u8 0, .int .u8 0, .int .u8 0, .int .u8 0, .int .u8 0, .int .u8 0, .int .u8 0, .int .u8 0, .int .u8 0, .int .u8 0, .int .u8 0, .int .u8 0, .int .u8 0, .int .u8 0, .int .u8 0, .int .u8 0, .int .u8 0, .int .u8 0, .int .u8 0, .int .u8 0, .int .u8 0, .int .u8 0, .int .u8 0, .int .u8 0, .int .u8 0, .int .u8 0, .int .u8 0, .int .u8 0, .int .u8 0, .int .u8 0, .int .u8 0, .int .u8 0, .int .u8 0, .int .u8 0, .int .u8 0, .int .u8 0, .int .u8 0, .int .u8 0, .int .u8 0, .int .u8 0, .int .u8 0, .int .u8 0, .int .u8 0, .int .u8 0, .int .u8 0, .int .u8 0, .int .u8 0, .int .u8 0, .int .u8 0, .int .u8 0, .int .u8 0, .int .u8 0, .int .u8 0, .int .u8 0, .int .u8 0, .int .u8 0, .int .u8 0, .int .u8 0, .int .u8 0, .int .u8 0, .int .u8 0, .int .u8 0, .int .u8 0, .int .u8 0, .int .u8 0, .int .u8 0, .int .u8 0, .int .u8 0, .int .u8 0, .int .u8 0, .int .u8 0, .int .u8 0, .int .u8 0, .int .u8 0, .int .u8 0, .int .u8 0, .int .u8 0, .int .u8 0, .int .u8 0, .int .u8 0, .int .u8 0, .int .u8 0, .int .u8 0, .int .u8 0, .int .u8 0, .int .u8 0, .int .u8 0, .int .u8 0, .int .u8 0, .int .u8 0, .int .u8 0, .int .u8 0, .int .u8 0, .int .u8 0, .int .u8 0, .int .u8 0, .int .u8 0, .int .u8 0, .int .u8 0, .int .u8 0, .int .u8 0, .int .u8 0, .int .u8 0, .int .u8 0, .int .u8 0, .int .u8 0, .int .u8 0, .int .u8 0, .int .u8 0, .int .u8 0, .int .u8 0, .int .u8 0, .int .u8 0, .int .u8 0, .int .u8 0, .int .u8 0, .int .u8 0, .int .u8 0, .int .u8 0, .int .u8 0, .int .u8 0, .int .u8 0, .int .u8 0, .int .u8 0, .int .u8 0, .int .u8 0, .int .u8 0, .int .u8 0, .int .u8 0, .int .u8 0, .int .u8 0, .int .u8 0, .int .u8 0, .int .u8 0, .int .u8 0, .int .u8 0, .int .u8 0, .int .u8 0, .int .u8 0, .int .u8 0, .int .u8 0, .int .u8 0, .int .u8 0, .int .u8 0, .int .u8 0, .int .u8 0, .int .u8 0, .int .u8 0, .int .u8 0, .int .u8 0, .int .u8 0, .int .u8 0, .int .u8 0, .int .u8 0, .int .u8 0, .int .u8 0, .int .u8 0, .int .u8 0, .int .u8 0, .int .u8 0, .int .u8 0, .int .u8 0, .int .u8 0, .int .u8 0, .int .u8 0, .int .u8 0, .int .u8 0, .int .u8 0, .int .u8 0, .int .u8 0, .int .u8 0, .int .u8 0, .int .u8 0, .int .u8 0, .int .u8 0, .int .u8 0, .int .u8 0, .int .u8 0, .int .u8 0, .int .u8 0, .int .u8 0, .int .u8 0, .int .u8 0, .int .u8 0, .int .u8 0, .int .u8 0, .int .u8 0, .int .u8 0, .int .u8 0, .int .u8 0, .int .u8 0, .int .u8 0, .int .u8 0, .int .u8 0, .int .u8 0, .int .u8 0, .int .u8 0, .int .u8 0, .int .u8 0, .int .u8 0, .int .u8 0, .int .u8 0, .int .u8 0, .int .u8 0, .int .u8 0, .int .u8 0, .int .u8 0, .int .u8 0, .int .u8 0, .int .u8 0, .int .u8 0, .int .u8 0, .int .u8 0, .int .u8 0, .int .u8 0, .int .u8 0, .int .u8 0, .int .u8 0, .int .u8 0, .int .u8 0, .int .u8 0, .int .u8 0, .int .u8 0, .int .u8 0, .int .u8 0, .int .u8 0, .int .u8 0, .int .u8 0]
 | 37 => [.slice none 0 0]
 | 38 => [.int .u8 0, .int .u8 0, .int .u8 0, .int .u8 0, .int .u8 0, .int .u8 0, .int .u8 0, .int .u8 0]
 | 39 => [.int .u8 0, .int .u8 0, .int .u8 0, .int .u8 0, .int .u8 0, .int .u8 0, .int .u8 0, .int .u8 0, .int .u8 0, .int .u8 0, .int .u8 0, .int .u8 0, .int .u8 0, .int .u8 0, .int .u8 0, .int .u8 0, .int .u8 0, .int .u8 0, .int .u8 0, .int .u8 0, .int .u8 0, .int .u8 0, .int .u8 0, .int .u8 0, .int .u8 0, .int .u8 0, .int .u8 0, .int .u8 0, .int .u8 0, .int .u8 0, .int .u8 0, .int .u8 0, .int .u8 0, .int .u8 0, .int .u8 0, .int .u8 0, .int .u8 0, .int .u8 0, .int .u8 0, .int .u8 0, .int .u8 0, .int .u8 0, .int .u8 0, .int .u8 0, .int .u8 0, .int .u8 0, .int .u8 0, .int .u8 0, .int .u8 0, .int .u8 0, .int .u8 0, .int .u8 0, .int .u8 0, .int .u8 0, .int .u8 0, .int .u8 0, .int .u8 0, .int .u8 0, .int .u8 0, .int .u8 0, .int .u8 0, .int .u8 0, .int .u8 0, .int .u8 0, .int .u8 0, .int .u8 0, .int .u8 0, .int .u8 0, .int .u8 0, .int .u8 0, .int .u8 0, .int .u8 0, .int .u8 0, .int .u8 0, .int .u8 0, .int .u8 0, .int .u8 0, .int .u8 0, .int .u8 0, .int .u8 0, .int .u8 0, .int .u8 0, .int .u8 0, .int .u8 0, .int .u8 0, .int .u8 0, .int .u8 0, .int .u8 0, .int .u8 0, .int .u8 0, .int .u8 0, .int .u8 0, .int .u8 0, .int .u8 0, .int .u8 0, .int .u8 0, .int .u8 0, .int .u8 0, .int .u8 0, .int .u8 0, .int .u8 0, .int .u8 0, .int .u8 0, .int .u8 0, .int .u8 0, .int .u8 0, .int .u8 0, .int .u8 0, .int .u8 0, .int .u8 0, .int .u8 0, .int .u8 0, .int .u8 0, .int .u8 0, .int .u8 0, .int .u8 0, .int .u8 0, .int .u8 0, .int .u8 0, .int .u8 0, .int .u8 0, .int .u8 0, .int .u8 0, .int .u8 0, .int .u8 0, .int .u8 0, .int .u8 0, .int .u8 0, .int .u8 0, .int .u8 0, .int .u8 0, .int .u8 0, .int .u8 0, .int .u8 0, .int .u8 0, .int .u8 0, .int .u8 0, .int .u8 0, .int .u8 0, .int .u8 0, .int .u8 0, .int .u8 0, .int .u8 0, .int .u8 0, .int .u8 0, .int .u8 0, .int .u8 0, .int .u8 0, .int .u8 0, .int .u8 0, .int .u8 0, .int .u8 0, .int .u8 0, .int .u8 0, .int .u8 0, .int .u8 0, .int .u8 0, .int .u8 0, .int .u8 0, .int .u8 0, .int .u8 0, .int .u8 0, .int .u8 0, .int .u8 0, .int .u8 0, .int .u8 0, .int .u8 0, .int .u8 0, .int .u8 0, .int .u8 0, .int .u8 0, .int .u8 0, .int .u8 0, .int .u8 0, .int .u8 0, .int .u8 0, .int .u8 0, .int .u8 0, .int .u8 0, .int .u8 0, .int .u8 0, .int .u8 0, .int .u8 0, .int .u8 0, .int .u8 0, .int .u8 0, .int .u8 0, .int .u8 0, .int .u8 0, .int .u8 0, .int .u8 0, .int .u8 0, .int .u8 0, .int .u8 0, .int .u8 0, .int .u8 0, .int .u8 0, .int .u8 0, .int .u8 0, .int .u8 0, .int .u8 0, .int .u8 0, .int .u8 0, .int .u8 0, .int .u8 0, .int .u8 0, .int .u8 0, .int .u8 0, .int .u8 0, .int .u8 0, .int .u8 0, .int .u8 0, .int .u8 0, .int .u8 0, .int .u8 0, .int .u8 0, .int .u8 0, .int .u8 0, .int .u8 0, .int .u8 0, .int .u8 0, .int .u8 0, .int .u8 0, .int .u8 0, .int .u8 0, .int .u8 0, .int .u8 0, .int .u8 0, .int .u8 0, .int .u8 0, .int .u8 0, .int .u8 0, .int .u8 0, .int .u8 0, .int .u8 0, .int .u8 0, .int .u8 0, .int .u8 0, .int .u8 0, .int .u8 0, .int .u8 0, .int .u8 0, .int .u8 0, .int .u8 0, .int .u8 0, .int .u8 0, .int .u8 0, .int .u8 0, .int .u8 0, .int .u8 0, .int .u8 0, .int .u8 0, .int .u8 0, .int .u8 0, .int .u8 0, .int .u8 0, .int .u8 0, .int .u8 0, .int .u8 0, .int .u8 0, .int .u8 0, .int .u8 0, .int .u8 0, .int .u8 0, .int .u8 0, .int .u8 0, .int .u8 0, .int .u8 0, .int .u8 0, .int .u8 0, .int .u8 0, .int .u8 0, .int .u8 0, .int .u8 0, .int .u8 0, .int .u8 0, .int .u8 0, .int .u8 0, .int .u8 0, .int .u8 0, .int .u8 0, .int .u8 0, .int .u8 0, .int .u8 0, .int .u8 0, .int .u8 0, .int .u8 0, .int .u8 0, .int .u8 0, .int .u8 0, .int .u8 0, .int .u8 0, .int .u8 0, .int .u8 0, .int .u8 0, .int .u8 0, .int .u8 0, .int .u8 0, .int .u8 0, .int .u8 0, .int .u8 0, .int .u8 0, .int .u8 0, .int .u8 0, .int .u8 0, .int .u8 0, .int .u8 0, .int .u8 0, .int .u8 0, .int .u8 0, .int .u8 0, .int .u8 0, .int .u8 0, .int .u8 0, .int .u8 0, .int .u8 0, .int .u8 0, .int .u8 0, .int .u8 0, .int .u8 0, .int .u8 0, .int .u8 0, .int .u8 0, .int .u8 0, .int .u8 0, .int .u8 0, .int .u8 0, .int .u8 0, .int .u8 0, .int .u8 0, .int .u8 0, .int .u8 0, .int .u8 0, .int .u8 0, .int .u8 0, .int .u8 0, .int .u8 0, .int .u8 0, .int .u8 0, .int .u8 0, .int .u8 0, .int .u8 0, .int .u8 0, .int .u8 0, .int .u8 0, .int .u8 0, .int .u8 0, .int .u8 0, .int .u8 0, .int .u8 0, .int .u8 0, .int .u8 0, .int .u8 0, .int .u8 0, .int .u8 0, .int .u8 0, .int .u8 0, .int .u8 0, .int .u8 0, .int .u8 0, .int .u8 0, .int .u8 0, .int .u8 0, .int .u8 0, .int .u8 0, .int .u8 0, .int .u8 0, .int .u8 0, .int .u8 0, .int .u8 0, .int .u8 0, .int .u8 0, .int .u8 0, .int .u8 0, .int .u8 0, .int .u8 0, .int .u8 0, .int .u8 0, .int .u8 0, .int .u8 0, .int .u8 0, .int .u8 0, .int .u8 0, .int .u8 0, .int .u8 0, .int .u8 0, .int .u8 0, .int .u8 0, .int .u8 0, .int .u8 0, .int .u8 0, .int .u8 0, .int .u8 0, .int .u8 0, .int .u8 0, .int .u8 0, .int .u8 0, .int .u8 0, .int .u8 0, .int .u8 0, .int .u8 0, .int .u8 0, .int .u8 0, .int .u8 0, .int .u8 0, .int .u8 0, .int .u8 0, .int .u8 0, .int .u8 0, .int .u8 0, .int .u8 0, .int .u8 0, .int .u8 0, .int .u8 0, .int .u8 0, .int .u8 0, .int .u8 0, .int .u8 0, .int .u8 0, .int .u8 0, .int .u8 0, .int .u8 0, .int .u8 0, .int .u8 0, .int .u8 0, .int .u8 0, .int .u8 0, .int .u8 0, .int .u8 0, .int .u8 0, .int .u8 0, .int .u8 0, .int .u8 0, .int .u8 0, .int .u8 0, .int .u8 0, .int .u64 0, .int .u64 0, .int .u64 0, .int .u64 0, .int .u64 0, .int .u64 0, .int .u64 0, .int .u64 0, .slice none 0 0, .int .u8 0, .int .u8 0, .int .u8 0, .int .u8 0, .int .u8 0, .int .u8 0, .int .u8 0, .int .u8 0, .int .u8 0, .int .u8 0, .int .u8 0, .int .u8 0, .int .u8 0, .int .u8 0, .int .u8 0, .int .u8 0, .int .u8 0, .int .u8 0, .int .u8 0, .int .u8 0, .int .u8 0, .int .u8 0, .int .u8 0, .int .u8 0, .int .u8 0, .int .u8 0, .int .u8 0, .int .u8 0, .int .u8 0, .int .u8 0, .int .u8 0, .int .u8 0, .int .u8 0, .int .u8 0, .int .u8 0, .int .u8 0, .int .u8 0, .int .u8 0, .int .u8 0, .int .u8 0, .int .u64 0, .int .u64 0, .int .u64 0, .int .u64 0, .int .u8 0, .int .u8 0, .int .u8 0, .int .u8 0, .int .u8 0, .int .u8 0, .int .u8 0, .int .u8 0, .int .u8 0, .int .u8 0, .int .u8 0, .int .u8 0, .int .u8 0, .int .u8 0, .int .u8 0, .int .u8 0, .int .u8 0, .int .u8 0, .int .u8 0, .int .u8 0, .int .u8 0, .int .u8 0, .int .u8 0, .int .u8 0, .int .u8 0, .int .u8 0, .int .u8 0, .int .u8 0, .int .u8 0, .int .u8 0, .int .u8 0, .int .u8 0, .int .u64 0, .int .u64 0, .int .u8 0, .int .u8 0, .int .u8 0, .int .u8 0, .int .u8 0, .int .u8 0, .int .u8 0, .int .u8 0, .int .u8 0, .int .u8 0, .int .u8 0, .int .u8 0, .int .u8 0, .int .u8 0, .int .u8 0, .int .u8 0, .int .u8 0, .int .u8 0, .int .u8 0, .int .u8 0, .int .u8 0, .int .u8 0, .int .u8 0, .int .u8 0, .int .u8 0, .int .u8 0, .int .u8 0, .int .u8 0, .int .u8 0, .int .u8 0, .int .u8 0, .int .u8 0]
 | 40 => [.int .u8 0, .int .u8 0, .int .u8 0, .int .u8 0, .int .u8 0, .int .u8 0, .int .u8 0, .int .u8 0, .int .u8 0, .int .u8 0, .int .u8 0, .int .u8 0, .int .u8 0, .int .u8 0, .int .u8 0, .int .u8 0, .int .u8 0, .int .u8 0, .int .u8 0, .int .u8 0, .int .u8 0, .int .u8 0, .int .u8 0, .int .u8 0, .int .u8 0, .int .u8 0, .int .u8 0, .int .u8 0, .int .u8 0, .int .u8 0, .int .u8 0, .int .u8 0, .int .u8 0, .int .u8 0, .int .u8 0, .int .u8 0, .int .u8 0, .int .u8 0, .int .u8 0, .int .u8 0, .int .u8 0, .int .u8 0, .int .u8 0, .int .u8 0, .int .u8 0, .int .u8 0, .int .u8 0, .int .u8 0, .int .u8 0, .int .u8 0, .int .u8 0, .int .u8 0, .int .u8 0, .int .u8 0, .int .u8 0, .int .u8 0, .int .u8 0, .int .u8 0, .int .u8 0, .int .u8 0, .int .u8 0, .int .u8 0, .int .u8 0, .int .u8 0, .int .u8 0, .int .u8 0, .int .u8 0, .int .u8 0, .int .u8 0, .int .u8 0, .int .u8 0, .int .u8 0, .int .u8 0, .int .u8 0, .int .u8 0, .int .u8 0, .int .u8 0, .int .u8 0, .int .u8 0, .int .u8 0, .int .u8 0, .int .u8 0, .int .u8 0, .int .u8 0, .int .u8 0, .int .u8 0, .int .u8 0, .int .u8 0, .int .u8 0, .int .u8 0, .int .u8 0, .int .u8 0, .int .u8 0, .int .u8 0, .int .u8 0, .int .u8 0, .int .u8 0, .int .u8 0, .int .u8 0, .int .u8 0, .int .u8 0, .int .u8 0, .int .u8 0, .int .u8 0, .int .u8 0, .int .u8 0, .int .u8 0, .int .u8 0, .int .u8 0, .int .u8 0, .int .u8 0, .int .u8 0, .int .u8 0, .int .u8 0, .int .u8 0, .int .u8 0, .int .u8 0, .int .u8 0, .int .u8 0, .int .u8 0, .int .u8 0, .int .u8 0, .int .u8 0, .int .u8 0, .int .u8 0, .int .u8 0, .int .u8 0, .int .u8 0, .int .u8 0, .int .u8 0, .int .u8 0, .int .u8 0, .int .u8 0, .int .u8 0, .int .u8 0, .int .u8 0, .int .u8 0, .int .u8 0, .int .u8 0, .int .u8 0, .int .u8 0, .int .u8 0, .int .u8 0, .int .u8 0, .int .u8 0, .int .u8 0, .int .u8 0, .int .u8 0, .int .u8 0, .int .u8 0, .int .u8 0, .int .u8 0, .int .u8 0, .int .u8 0, .int .u8 0, .int .u8 0, .int .u8 0, .int .u8 0, .int .u8 0, .int .u8 0, .int .u8 0, .int .u8 0, .int .u8 0, .int .u8 0, .int .u8 0, .int .u8 0, .int .u8 0, .int .u8 0, .int .u8 0, .int .u8 0, .int .u8 0, .int .u8 0, .int .u8 0, .int .u8 0, .int .u8 0, .int .u8 0, .int .u8 0, .int .u8 0, .int .u8 0, .int .u8 0, .int .u8 0, .int .u8 0, .int .u8 0, .int .u8 0, .int .u8 0, .int .u8 0, .int .u8 0, .int .u8 0, .int .u8 0, .int .u8 0, .int .u8 0, .int .u8 0, .int .u8 0, .int .u8 0, .int .u8 0, .int .u8 0, .int .u8 0, .int .u8 0, .int .u8 0, .int .u8 0, .int .u8 0, .int .u8 0, .int .u8 0, .int .u8 0, .int .u8 0, .int .u8 0, .int .u8 0, .int .u8 0, .int .u8 0, .int .u8 0, .int .u8 0, .int .u8 0, .int .u8 0, .int .u8 0, .int .u8 0, .int .u8 0, .int .u8 0, .int .u8 0, .int .u8 0, .int .u8 0, .int .u8 0, .int .u8 0, .int .u8 0, .int .u8 0, .int .u8 0, .int .u8 0, .int .u8 0, .int .u8 0, .int .u8 0, .int .u8 0, .int .u8 0, .int .u8 0, .int .u8 0, .int .u8 0, .int .u8 0, .int .u8 0, .int .u8 0, .int .u8 0, .int .u8 0, .int .u8 0, .int .u8 0, .int .u8 0, .int .u8 0, .int .u8 0, .int .u8 0, .int .u8 0, .int .u8 0, .int .u8 0, .int .u8 0, .int .u8 0, .int .u8 0, .int .u8 0, .int .u8 0, .int .u8 0, .int .u8 0, .int .u8 0, .int .u8 0, .int .u8 0, .int .u8 0, .int .u8 0, .int .u8 0, .int .u8 0, .int .u8 0, .int .u8 0, .int .u8 0, .int .u8 0, .int .u8 0, .int .u8 0, .int .u8 0, .int .u8 0, .int .u8 0, .int .u8 0, .int .u8 0, .int .u8 0, .int .u8 0, .int .u8 0, .int .u8 0, .int .u8 0, .int .u8 0, .int .u8 0, .int .u8 0, .int .u8 0, .int .u8 0, .int .u8 0, .int .u8 0, .int .u8 0, .int .u8 0, .int .u8 0, .int .u8 0, .int .u8 0, .int .u8 0, .int .u8 0, .int .u8 0, .int .u8 0, .int .u8 0, .int .u8 0, .int .u8 0, .int .u8 0, .int .u8 0, .int .u8 0, .int .u8 0, .int .u8 0, .int .u8 0, .int .u8 0, .int .u8 0, .int .u8 0, .int .u8 0, .int .u8 0, .int .u8 0, .int .u8 0, .int .u8 0, .int .u8 0, .int .u8 0, .int .u8 0, .int .u8 0, .int .u8 0, .int .u8 0, .int .u8 0, .int .u8 0, .int .u8 0, .int .u8 0, .int .u8 0, .int .u8 0, .int .u8 0, .int .u8 0, .int .u8 0, .int .u8 0, .int .u8 0, .int .u8 0, .int .u8 0, .int .u8 0, .int .u8 0, .int .u8 0, .int .u8 0, .int .u8 0, .int .u8 0, .int .u8 0, .int .u8 0, .int .u8 0, .int .u8 0, .int .u8 0, .int .u8 0, .int .u8 0, .int .u8 0, .int .u8 0, .int .u8 0, .int .u8 0, .int .u8 0, .int .u8 0, .int .u8 0, .int .u8 0, .int .u8 0, .int .u8 0, .int .u8 0, .int .u8 0, .int .u8 0, .int .u8 0, .int .u8 0, .int .u8 0, .int .u8 0, .int .u8 0, .int .u8 0, .int .u8 0, .int .u8 0, .int .u8 0, .int .u8 0, .int .u8 0, .int .u8 0, .int .u8 0, .int .u8 0, .int .u8 0, .int .u8 0, .int .u8 0, .int .u8 0, .int .u8 0, .int .u8 0, .int .u8 0, .int .u8 0, .int .u8 0, .int .u8 0, .int .u8 0, .int .u8 0, .int .u8 0, .int .u8 0, .int .u8 0, .int .u8 0, .int .u8 0, .int .u8 0, .int .u8 0, .int .u8 0, .int .u8 0, .int .u8 0, .int .u8 0, .int .u8 0, .int .u8 0, .int .u8 0, .int .u8 0, .int .u8 0, .int .u8 0, .int .u8 0, .int .u8 0, .int .u8 0, .int .u8 0, .int .u8 0, .int .u8 0, .int .u8 0, .int .u8 0, .int .u8 0, .int .u8 0, .int .u8 0, .int .u8 0, .int .u8 0, .int .u8 0, .int .u8 0, .int .u8 0, .int .u8 0, .int .u8 0, .int .u8 0, .int .u8 0, .int .u8 0, .int .u8 0, .int .u8 0, .int .u8 0, .int .u8 0, .int .u8 0, .int .u8 0, .int .u8 0, .int .u8 0, .int .u8 0, .int .u8 0, .int .u8 0, .int .u8 0, .int .u8 0, .int .u8 0, .int .u8 0, .int .u8 0, .int .u64 0, .int .u64 0, .int .u64 0, .int .u64 0, .int .u64 0, .int .u64 0, .int .u64 0, .int .u64 0, .slice none 0 0, .int .u8 0, .int .u8 0, .int .u8 0, .int .u8 0, .int .u8 0, .int .u8 0, .int .u8 0, .int .u8 0, .int .u8 0, .int .u8 0, .int .u8 0, .int .u8 0, .int .u8 0, .int .u8 0, .int .u8 0, .int .u8 0, .int .u8 0, .int .u8 0, .int .u8 0, .int .u8 0, .int .u8 0, .int .u8 0, .int .u8 0, .int .u8 0, .int .u8 0, .int .u8 0, .int .u8 0, .int .u8 0, .int .u8 0, .int .u8 0, .int .u8 0, .int .u8 0, .int .u8 0, .int .u8 0, .int .u8 0, .int .u8 0, .int .u8 0, .int .u8 0, .int .u8 0, .int .u8 0, .int .u64 0, .int .u64 0, .int .u64 0, .int .u64 0, .int .u8 0, .int .u8 0, .int .u8 0, .int .u8 0, .int .u8 0, .int .u8 0, .int .u8 0, .int .u8 0, .int .u8 0, .int .u8 0, .int .u8 0, .int .u8 0, .int .u8 0, .int .u8 0, .int .u8 0, .int .u8 0, .int .u8 0, .int .u8 0, .int .u8 0, .int .u8 0, .int .u8 0, .int .u8 0, .int .u8 0, .int .u8 0, .int .u8 0, .int .u8 0, .int .u8 0, .int .u8 0, .int .u8 0, .int .u8 0, .int .u8 0, .int .u8 0, .int .u64 0, .int .u64 0, .int .u8 0, .int .u8 0, .int .u8 0, .int .u8 0, .int .u8 0, .int .u8 0, .int .u8 0, .int .u8 0, .int .u8 0, .int .u8 0, .int .u8 0, .int .u8 0, .int .u8 0, .int .u8 0, .int .u8 0, .int .u8 0, .int .u8 0, .int .u8 0, .int .u8 0, .int .u8 0, .int .u8 0, .int .u8 0, .int .u8 0, .int .u8 0, .int .u8 0, .int .u8 0, .int .u8 0, .int .u8 0, .int .u8 0, .int .u8 0, .int .u8 0, .int .u8 0]
 | 47 => [.int .u64 0, .int .u64 0, .int .u64 0, .int .u64 0, .int .u64 0, .int .u64 0, .int .u64 0, .int .u64 0, .int .i64 0]
 | 48 => [.int .u64 0, .int .u64 0, .int .u64 0, .int .u64 0, .int .u64 0, .int .u64 0, .int .u64 0, .int .u64 0, .int .i64 0]
 | 49 => [.int .u64 0, .int .u64 0, .int .u64 0, .int .u64 0, .int .u64 0, .int .u64 0, .int .u64 0, .int .u64 0, .bool false]
 | 50 => [.int .u64 0, .int .u64 0, .int .u64 0, .int .u64 0, .int .u64 0, .int .u64 0, .int .u64 0, .int .u64 0, .bool false]
 | 61 => [.int .u64 0, .int .u64 0, .int .u64 0, .int .u64 0, .int .u64 0, .int .u64 0, .int .u64 0, .int .u64 0, .int .u64 0, .int .u64 0, .int .u64 0, .int .u64 0, .int .u64 0, .int .u64 0, .int .u64 0, .int .u64 0, .int .u64 0]
 | 62 => [.int .u64 0, .int .u64 0, .int .u64 0, .int .u64 0, .int .u64 0, .int .u64 0, .int .u64 0, .int .u64 0, .int .u64 0, .int .u64 0, .int .u64 0, .int .u64 0, .int .u64 0, .int .u64 0, .int .u64 0, .int .u64 0, .int .u64 0]
 | 78 => [.pointer none]
 | 89 => [.slice none 0 0]
 | 93 => [.int .u64 0, .int .u64 0, .int .u64 0, .int .u64 0, .int .u64 0, .int .u64 0, .int .u64 0, .int .u64 0]
 | 95 => [.int .u64 0]
 | 96 => [.int .u64 0, .int .u64 0, .int .u64 0, .int .u64 0, .int .u64 0, .int .u64 0]
 | 106 => [.int .i64 0, .int .u64 0, .int .u64 0, .int .u64 0, .int .u64 0, .int .u64 0, .int .i64 0, .int .u64 0, .int .u64 0, .int .u64 0, .int .u64 0, .int .u64 0, .int .u64 0, .int .u64 0, .int .u64 0]
 | 107 => [.int .i64 0, .int .u64 0, .int .u64 0, .int .u64 0, .int .u64 0, .int .u64 0, .int .i64 0, .int .u64 0, .int .u64 0, .int .u64 0, .int .u64 0, .int .u64 0, .int .u64 0, .int .u64 0, .int .u64 0]
 | 113 => [.int .u64 0, .int .u64 0, .int .u64 0, .int .u64 0, .int .u64 0, .int .u64 0, .int .u64 0, .int .u64 0, .int .u64 0, .int .u64 0, .int .u64 0, .int .u64 0]
 | 114 => [.int .u64 0, .int .u64 0, .int .u64 0, .int .u64 0, .int .u64 0, .int .u64 0, .int .u64 0, .int .u64 0, .int .u64 0, .int .u64 0, .int .u64 0, .int .u64 0]
 | 120 => [.pointer none]
 | 121 => [.int .i64 0, .int .i64 0, .int .i64 0, .int .i64 0, .int .i64 0, .int .i64 0, .int .i64 0, .int .i64 0, .int .i64 0, .int .i64 0, .int .i64 0, .int .i64 0, .int .i64 0, .int .i64 0, .int .i64 0, .int .i64 0, .int .i64 0, .int .i64 0, .int .i64 0, .int .i64 0, .int .i64 0, .int .i64 0, .int .i64 0, .int .i64 0, .int .i64 0]
 | 123 => [.int .u64 0, .int .u64 0, .int .u64 0, .int .u64 0, .int .u64 0, .int .u64 0, .int .u64 0, .int .u64 0, .int .u64 0, .int .u64 0, .int .u64 0, .int .u64 0, .int .u64 0, .int .u64 0, .int .u64 0, .int .u64 0, .int .u64 0, .int .u64 0, .int .u64 0, .int .u64 0, .int .u64 0, .int .u64 0, .int .u64 0, .int .u64 0]
 | 125 => [.int .i64 0, .int .i64 0, .int .i64 0, .int .i64 0, .int .i64 0, .int .i64 0, .int .i64 0, .int .i64 0, .int .i64 0, .int .i64 0, .int .i64 0, .int .i64 0, .int .i64 0, .int .i64 0, .int .i64 0, .int .i64 0, .int .i64 0, .int .i64 0, .int .i64 0, .int .i64 0, .int .i64 0, .int .i64 0, .int .i64 0, .int .i64 0, .int .i64 0, .int .u64 0, .int .u64 0, .int .u64 0, .int .u64 0, .int .u64 0, .int .u64 0, .int .u64 0, .int .u64 0, .int .u64 0, .int .u64 0, .int .u64 0, .int .u64 0, .int .u64 0, .int .u64 0, .int .u64 0, .int .u64 0, .int .u64 0, .int .u64 0, .int .u64 0, .int .u64 0, .int .u64 0, .int .u64 0, .int .u64 0, .int .u64 0]
 | 126 => [.int .i64 0, .int .i64 0, .int .i64 0, .int .i64 0, .int .i64 0, .int .i64 0, .int .i64 0, .int .i64 0, .int .i64 0, .int .i64 0, .int .i64 0, .int .i64 0, .int .i64 0, .int .i64 0, .int .i64 0, .int .i64 0, .int .i64 0, .int .i64 0, .int .i64 0, .int .i64 0, .int .i64 0, .int .i64 0, .int .i64 0, .int .i64 0, .int .i64 0, .int .u64 0, .int .u64 0, .int .u64 0, .int .u64 0, .int .u64 0, .int .u64 0, .int .u64 0, .int .u64 0, .int .u64 0, .int .u64 0, .int .u64 0, .int .u64 0, .int .u64 0, .int .u64 0, .int .u64 0, .int .u64 0, .int .u64 0, .int .u64 0, .int .u64 0, .int .u64 0, .int .u64 0, .int .u64 0, .int .u64 0, .int .u64 0]
 | 127 => [.int .u64 0, .int .u64 0, .int .u64 0, .int .u64 0, .int .u64 0, .int .u64 0, .int .u64 0, .int .u64 0, .int .u64 0, .int .u64 0, .int .u64 0, .int .u64 0, .int .u64 0, .int .u64 0, .int .u64 0, .int .u64 0, .int .u64 0, .int .u64 0, .int .u64 0, .int .u64 0, .int .u64 0, .int .u64 0, .int .u64 0, .int .u64 0, .int .u64 0]
 | 134 => [.nilIface]
 | 135 => [.nilIface]
 | 137 => [.slice none 0 0]
 | 139 => [.pointer none]
 | 141 => [.pointer none]
 | 150 => [.int .u64 0, .int .u64 0, .int .u64 0, .int .u64 0, .int .u64 0]
 | 163 => [.pointer none]
 | 167 => []
 | 171 => [.int .u32 0]
 | 172 => [.int .u8 0]
 | 173 => [.int .u8 0]
 | 175 => [.pointer none]
 | 176 => [.int .i32 0]
 | 177 => [.int .i32 0]
 | 180 => [.string ⟨#[]⟩]
 | 181 => [.string ⟨#[]⟩]
 | _ => []
def TT.eqok : TypeId → Bool
 | 2 => true
 | 3 => true
 | 4 => true
 | 5 => true
 | 6 => true
 | 9 => true
 | 10 => true
 | 11 => true
 | 12 => true
 | 15 => true
 | 16 => true
 | 17 => true
 | 21 => true
 | 22 => true
 | 24 => true
 | 25 => true
 | 26 => true
 | 31 => true
 | 32 => true
 | 33 => true
 | 34 => true
 | 35 => true
 | 36 => true
 | 38 => true
 | 47 => true
 | 48 => true
 | 49 => true
 | 50 => true
 | 61 => true
 | 62 => true
 | 78 => true
 | 93 => true
 | 95 => true
 | 96 => true
 | 106 => true
 | 107 => true
 | 113 => true
 | 114 => true
 | 120 => true
 | 121 => true
 | 123 => true
 | 125 => true
 | 126 => true
 | 127 => true
 | 139 => true
 | 141 => true
 | 150 => true
 | 163 => true
 | 167 => true
 | 171 => true
 | 172 => true
 | 173 => true
 | 175 => true
 | 176 => true
 | 177 => true
 | 180 => true
 | 181 => true
 | _ => false
def TT.mu : FuncId → Bool
 | 92 => true
 | 102 => true
 | 103 => true
 | 115 => true
 | 126 => true
 | 127 => true
 | _ => false
def TT.ms : List (TypeId × String × FuncId) := [(114, "cairn/secp.add", 83), (114, "cairn/secp.affine", 84), (114, "cairn/secp.double", 109), (114, "cairn/secp.none", 110)]
def TT : Ty := ⟨TT.und, TT.size, TT.bytes, TT.zero, fun t name => lookM t name TT.ms, TT.eqok, TT.mu⟩
theorem TT.big : ∀ t, 183 ≤ t → TT.und t = .other := by
 intro t h; unfold TT.und; split <;> first | rfl | exact absurd h (by decide)
theorem TT.zerobig : ∀ t, 183 ≤ t → TT.zero t = [] := by
 intro t h; unfold TT.zero; split <;> first | rfl | exact absurd h (by decide)
theorem TT.sizebig : ∀ t, 183 ≤ t → TT.size t = 0 := by
 intro t h; unfold TT.size; split <;> first | rfl | exact absurd h (by decide)
theorem TT.ochk : (List.range 183).all (fun t => match TT.und t with | .other => TT.size t == 0 | _ => true) = true := by kernel_rfl
theorem TT.zchk : (List.range 183).all (fun t => (TT.zero t).length == TT.size t) = true := by kernel_rfl
theorem TT.other : ∀ t, TT.und t = .other → TT.size t = 0 := by
 intro t h; rcases Nat.lt_or_ge t 183 with h1 | h1
 . have := List.all_eq_true.1 TT.ochk t (by simpa using h1); simp only [h, beq_iff_eq] at this; exact this
 . exact TT.sizebig t h1
theorem TT.zlen : ∀ t, (TT.zero t).length = TT.size t := by
 intro t; rcases Nat.lt_or_ge t 183 with h1 | h1
 . have := List.all_eq_true.1 TT.zchk t (by simpa using h1); exact eq_of_beq this
 . rw [TT.zerobig t h1, TT.sizebig t h1]; rfl
theorem TT.eqbig : ∀ t, 183 ≤ t → TT.eqok t = false := by
 intro t h; unfold TT.eqok; split <;> first | rfl | exact absurd h (by decide)
theorem TT.all : (List.range 183).all (tyAt Try.prog TT) = true := by kernel_rfl
theorem TT.ok : TyOk Try.prog TT := tyOk_of 183 TT.all TT.big TT.other TT.zlen TT.eqbig (meth_of (P := Try.prog) (ms := TT.ms) (by kernel_rfl))
theorem TT.mixed : Try.prog.follows .mixedOrders = true := by kernel_rfl
abbrev Sp (f : FuncId) (As : List AVal) (r : AVal) : Prop := Eng.Spec Try.prog f As r
noncomputable def bodyOf (f : Func) : Code := f.body.getD .skip
structure OkS (g : Bool) (S : SpecT) : Prop where
 eq : S = { specs Try.prog with gc := g }
theorem gcOf {S : SpecT} (hS : OkS true S) : S.gc = true := by obtain ⟨rfl⟩ := hS; rfl
abbrev qb (bs : Nat → Nat) (i : Nat) : AVal := .s .u8 (bs i : Nat)
abbrev q0x128 (bs : Nat → Nat) : List AVal := [qb bs 0, qb bs 1, qb bs 2, qb bs 3, qb bs 4, qb bs 5, qb bs 6, qb bs 7, qb bs 8, qb bs 9, qb bs 10, qb bs 11, qb bs 12, qb bs 13, qb bs 14, qb bs 15, qb bs 16, qb bs 17, qb bs 18, qb bs 19, qb bs 20, qb bs 21, qb bs 22, qb bs 23, qb bs 24, qb bs 25, qb bs 26, qb bs 27, qb bs 28, qb bs 29, qb bs 30, qb bs 31, qb bs 32, qb bs 33, qb bs 34, qb bs 35, qb bs 36, qb bs 37, qb bs 38, qb bs 39, qb bs 40, qb bs 41, qb bs 42, qb bs 43, qb bs 44, qb bs 45, qb bs 46, qb bs 47, qb bs 48, qb bs 49, qb bs 50, qb bs 51, qb bs 52, qb bs 53, qb bs 54, qb bs 55, qb bs 56, qb bs 57, qb bs 58, qb bs 59, qb bs 60, qb bs 61, qb bs 62, qb bs 63, qb bs 64, qb bs 65, qb bs 66, qb bs 67, qb bs 68, qb bs 69, qb bs 70, qb bs 71, qb bs 72, qb bs 73, qb bs 74, qb bs 75, qb bs 76, qb bs 77, qb bs 78, qb bs 79, qb bs 80, qb bs 81, qb bs 82, qb bs 83, qb bs 84, qb bs 85, qb bs 86, qb bs 87, qb bs 88, qb bs 89, qb bs 90, qb bs 91, qb bs 92, qb bs 93, qb bs 94, qb bs 95, qb bs 96, qb bs 97, qb bs 98, qb bs 99, qb bs 100, qb bs 101, qb bs 102, qb bs 103, qb bs 104, qb bs 105, qb bs 106, qb bs 107, qb bs 108, qb bs 109, qb bs 110, qb bs 111, qb bs 112, qb bs 113, qb bs 114, qb bs 115, qb bs 116, qb bs 117, qb bs 118, qb bs 119, qb bs 120, qb bs 121, qb bs 122, qb bs 123, qb bs 124, qb bs 125, qb bs 126, qb bs 127]
abbrev q0x64 (bs : Nat → Nat) : List AVal := [qb bs 0, qb bs 1, qb bs 2, qb bs 3, qb bs 4, qb bs 5, qb bs 6, qb bs 7, qb bs 8, qb bs 9, qb bs 10, qb bs 11, qb bs 12, qb bs 13, qb bs 14, qb bs 15, qb bs 16, qb bs 17, qb bs 18, qb bs 19, qb bs 20, qb bs 21, qb bs 22, qb bs 23, qb bs 24, qb bs 25, qb bs 26, qb bs 27, qb bs 28, qb bs 29, qb bs 30, qb bs 31, qb bs 32, qb bs 33, qb bs 34, qb bs 35, qb bs 36, qb bs 37, qb bs 38, qb bs 39, qb bs 40, qb bs 41, qb bs 42, qb bs 43, qb bs 44, qb bs 45, qb bs 46, qb bs 47, qb bs 48, qb bs 49, qb bs 50, qb bs 51, qb bs 52, qb bs 53, qb bs 54, qb bs 55, qb bs 56, qb bs 57, qb bs 58, qb bs 59, qb bs 60, qb bs 61, qb bs 62, qb bs 63]
abbrev q0x48 (bs : Nat → Nat) : List AVal := [qb bs 0, qb bs 1, qb bs 2, qb bs 3, qb bs 4, qb bs 5, qb bs 6, qb bs 7, qb bs 8, qb bs 9, qb bs 10, qb bs 11, qb bs 12, qb bs 13, qb bs 14, qb bs 15, qb bs 16, qb bs 17, qb bs 18, qb bs 19, qb bs 20, qb bs 21, qb bs 22, qb bs 23, qb bs 24, qb bs 25, qb bs 26, qb bs 27, qb bs 28, qb bs 29, qb bs 30, qb bs 31, qb bs 32, qb bs 33, qb bs 34, qb bs 35, qb bs 36, qb bs 37, qb bs 38, qb bs 39, qb bs 40, qb bs 41, qb bs 42, qb bs 43, qb bs 44, qb bs 45, qb bs 46, qb bs 47]
abbrev q0x32 (bs : Nat → Nat) : List AVal := [qb bs 0, qb bs 1, qb bs 2, qb bs 3, qb bs 4, qb bs 5, qb bs 6, qb bs 7, qb bs 8, qb bs 9, qb bs 10, qb bs 11, qb bs 12, qb bs 13, qb bs 14, qb bs 15, qb bs 16, qb bs 17, qb bs 18, qb bs 19, qb bs 20, qb bs 21, qb bs 22, qb bs 23, qb bs 24, qb bs 25, qb bs 26, qb bs 27, qb bs 28, qb bs 29, qb bs 30, qb bs 31]
abbrev q32x64 (bs : Nat → Nat) : List AVal := [qb bs 32, qb bs 33, qb bs 34, qb bs 35, qb bs 36, qb bs 37, qb bs 38, qb bs 39, qb bs 40, qb bs 41, qb bs 42, qb bs 43, qb bs 44, qb bs 45, qb bs 46, qb bs 47, qb bs 48, qb bs 49, qb bs 50, qb bs 51, qb bs 52, qb bs 53, qb bs 54, qb bs 55, qb bs 56, qb bs 57, qb bs 58, qb bs 59, qb bs 60, qb bs 61, qb bs 62, qb bs 63]
abbrev q64x96 (bs : Nat → Nat) : List AVal := [qb bs 64, qb bs 65, qb bs 66, qb bs 67, qb bs 68, qb bs 69, qb bs 70, qb bs 71, qb bs 72, qb bs 73, qb bs 74, qb bs 75, qb bs 76, qb bs 77, qb bs 78, qb bs 79, qb bs 80, qb bs 81, qb bs 82, qb bs 83, qb bs 84, qb bs 85, qb bs 86, qb bs 87, qb bs 88, qb bs 89, qb bs 90, qb bs 91, qb bs 92, qb bs 93, qb bs 94, qb bs 95]
abbrev q96x128 (bs : Nat → Nat) : List AVal := [qb bs 96, qb bs 97, qb bs 98, qb bs 99, qb bs 100, qb bs 101, qb bs 102, qb bs 103, qb bs 104, qb bs 105, qb bs 106, qb bs 107, qb bs 108, qb bs 109, qb bs 110, qb bs 111, qb bs 112, qb bs 113, qb bs 114, qb bs 115, qb bs 116, qb bs 117, qb bs 118, qb bs 119, qb bs 120, qb bs 121, qb bs 122, qb bs 123, qb bs 124, qb bs 125, qb bs 126, qb bs 127]
theorem mk {f : FuncId} {fn : Func} {As : List AVal} {r : AVal} (hf : Try.prog.funcs[f]? = some fn) (hb : fn.body = some (bodyOf fn)) (hn : (fn.name == "runtime.NumGoroutine") = false) (Nl : Nat → Nat) (tr : Nat → Md)
   (hok : codeOK tr (bodyOf fn) = true) (h : ∀ (A : Ar) (S : SpecT), A = Ar.real → OkS true S → afun A TT S Nl tr fn.ntmps fn.results (bodyOf fn) As (fun x => Sim x r)) : Sp f As r :=
 spec_of_afunK (P := Try.prog) (T := TT) TT.ok TT.mixed (draw_ok (P := Try.prog) (T := TT) TT.ok) (Sp := specs Try.prog) ⟨fun _ _ _ h => h, fun _ _ _ _ _ h => h, fun _ _ _ _ h => h, fun _ => rfl⟩ rfl hf hb hn (N := Nl) (tr := tr) hok (h Ar.real _ rfl ⟨rfl⟩) fun _ h => h
theorem mkM {f : FuncId} {fn : Func} {h0 h1 : List Blk} {As : List AVal} {r : AVal} (hf : Try.prog.funcs[f]? = some fn) (hb : fn.body = some (bodyOf fn)) (hn : (fn.name == "runtime.NumGoroutine") = false) (Nl : Nat → Nat) (tr : Nat → Md)
   (hok : codeOK tr (bodyOf fn) = true) (h : ∀ (A : Ar) (S : SpecT), A = Ar.real → OkS false S → afunM A TT S Nl tr fn.ntmps fn.results (bodyOf fn) h0 As (fun r' k => r' = r ∧ k = h1)) : SpecM Try.prog f h0 As r h1 :=
 specM_of_afunM (P := Try.prog) (T := TT) TT.ok TT.mixed (draw_ok (P := Try.prog) (T := TT) TT.ok) (Sp := { specs Try.prog with gc := false }) ⟨fun _ _ _ h => h, fun _ _ _ _ _ h => h, fun _ _ _ _ h => h, fun _ => rfl⟩ rfl rfl hf hb hn (N := Nl) (tr := tr) hok (h Ar.real _ rfl ⟨rfl⟩)
theorem mkI {f : FuncId} {fn : Func} {cap : List AVal} {n : Nat} {xs : Nat → List AVal} (hf : Try.prog.funcs[f]? = some fn) (hb : fn.body = some (bodyOf fn)) (hn : (fn.name == "runtime.NumGoroutine") = false) (Nl : Nat → Nat) (tr : Nat → Md)
   (hok : codeOK tr (bodyOf fn) = true) (hnr : noRange (bodyOf fn) = true) (h : ∀ (A : Ar) (S : SpecT), A = Ar.real → S.n = n → S.xs = xs → afunI A TT S Nl tr fn.ntmps fn.results (bodyOf fn) S.l cap (fun k => k = ghost n)) : SeqSp Try.prog f cap n xs :=
 seq_of_afunI (P := Try.prog) (T := TT) TT.ok TT.mixed (draw_ok (P := Try.prog) (T := TT) TT.ok) hf hb hn (N := Nl) (tr := tr) hok hnr fun l => h Ar.real { specs Try.prog with l := l, n := n, xs := xs, it := true, gc := false } rfl rfl rfl
theorem cf {g : Bool} {S : SpecT} (hS : OkS g S) {f : FuncId} {As : List AVal} {r : AVal} (h : Sp f As r) : S.fn f As r := by obtain ⟨rfl⟩ := hS; exact h
theorem cm {g : Bool} {S : SpecT} (hS : OkS g S) {f : FuncId} {h0 h1 : List Blk} {As : List AVal} {r : AVal} (h : SpecM Try.prog f h0 As r h1) : S.mu f h0 As r h1 := by obtain ⟨rfl⟩ := hS; exact h
theorem cs {g : Bool} {S : SpecT} (hS : OkS g S) {f : FuncId} {cap : List AVal} {n : Nat} {xs : Nat → List AVal} (h : SeqSp Try.prog f cap n xs) : S.seq f cap n xs := by obtain ⟨rfl⟩ := hS; exact h
def L0 : Nat → Nat := fun _ => 20
def R0 : Nat → Md := fun _ => .own
def R1 : Nat → Md := fun _ => .mid
def R2 : Nat → Md := fun _ => .all
theorem cg {g : Bool} {S : SpecT} (hS : OkS g S) {f : FuncId} {As As' : List AVal} {r : AVal} (h : Sp f As r) (ha : SimL As' As) : S.fn f As' r := by obtain ⟨rfl⟩ := hS; exact Spec.args h ha
theorem aF {g : Bool} {S : SpecT} (hS : OkS g S) {f : FuncId} {As : List AVal} {r : AVal} {K : AVal → Prop} (h : Sp f As r) (k : K r) : ACall S f As K := ACall.mk _ (cf hS h) k
theorem aG {g : Bool} {S : SpecT} (hS : OkS g S) {f : FuncId} {As As' : List AVal} {r : AVal} {K : AVal → Prop} (h : Sp f As r) (ha : SimL As' As) (k : K r) : ACall S f As' K := ACall.mk _ (cg hS h ha) k
theorem cmp_lit {A : Ar} (hA : A = Ar.real) {op : BinOp} {x y : Int} {t : Bool} (h : rcmp op x y = t) : A.cmp op x y = t := by rw [hA]; exact h
inductive IsU : AVal → Int → Prop where
 | i (n : Int) : IsU (.i .u64 n) n
 | s (n : Int) : IsU (.s .u64 n) n
theorem IsU.rep {w : World} {X : Nat → Prop} {ρ : Nat → Option Nat} {v : Value} {x : AVal} {n : Int} (h : Rep w X ρ v x) (hu : IsU x n) : v = .int .u64 n := by
 cases hu with
 | i => exact h.i_inv
 | s => exact h.s_inv
theorem three_args {w : World} {X : Nat → Prop} {vs : List Value} {a b c : AVal} {x y z : Int} (h : RepL w X noρ vs [a, b, c]) (ha : IsU a x) (hb : IsU b y) (hc : IsU c z) : vs = [.int .u64 x, .int .u64 y, .int .u64 z] := by
 cases h with
 | cons h1 h => cases h with
   | cons h2 h => cases h with
     | cons h3 h => cases h with
       | nil => rw [ha.rep h1, hb.rep h2, hc.rep h3]
theorem out_pair {w0 w : World} {X : Nat → Prop} (o k : Int) : OutR w0 w X (.tuple #[.int .u64 o, .int .u64 k]) (.tup [.s .u64 o, .s .u64 k]) :=
 .inl ⟨[], [.int .u64 o, .int .u64 k], _, rfl, rfl, .nil, .tree _ _ (.s _ _) (.tree _ _ (.s _ _) .nil)⟩
theorem add64S {a b c : AVal} {x y z : Int} (ha : IsU a x) (hb : IsU b y) (hc : IsU c z) (hx : 0 ≤ x) (hy : 0 ≤ y) (hz : 0 ≤ z ∧ z ≤ 1) (o k : Int) (h : o + 18446744073709551616 * k = x + y + z) (ho : 0 ≤ o ∧ o < 18446744073709551616) :
   Sp 56 [a, b, c] (.tup [.s .u64 o, .s .u64 k]) := by
 intro X w vs hX hv
 rw [three_args hv ha hb hc]
 unfold CallsX
 rw [run_callFunc_extern Try.func56 (by kernel_rfl) (by kernel_rfl) (by kernel_rfl) (e := add64Entry) (by kernel_rfl), run_add64 x y z hx hy hz.1 hz.2]
 simp only [Result.andThen]
 obtain rfl : o = (x + y + z) % 18446744073709551616 := by omega
 obtain rfl : k = (x + y + z) / 18446744073709551616 := by omega
 exact ⟨Ext.refl _ w, out_pair _ _⟩
def sub64E : Array Value → Sem Value := fun args => do
 let (x, y, b) ← Extern.MathBitsCarry.three "Sub64" args
 pure (Extern.MathBitsCarry.pair ((x + Extern.MathBitsCarry.m64 - y - b) % Extern.MathBitsCarry.m64) (if x < y + b then 1 else 0))
theorem run_sub64 {P : Program} (x y b : Nat) (hb : b ≤ 1) (w : World) :
   (sub64E #[.int .u64 x, .int .u64 y, .int .u64 b]).run P w =
     .ok (.tuple #[.int .u64 (((x + 18446744073709551616 - y - b) % 18446744073709551616 : Nat) : Int), .int .u64 ((if x < y + b then 1 else 0 : Nat) : Int)]) w := by
 have : b = 0 ∨ b = 1 := by omega
 rcases this with rfl | rfl <;> rfl
theorem sub64S {a b c : AVal} {x y z : Int} (ha : IsU a x) (hb : IsU b y) (hc : IsU c z) (hx : 0 ≤ x ∧ x < 18446744073709551616) (hy : 0 ≤ y ∧ y < 18446744073709551616) (hz : 0 ≤ z ∧ z ≤ 1) (o k : Int) (h : o - 18446744073709551616 * k = x - y - z) (ho : 0 ≤ o ∧ o < 18446744073709551616) :
   Sp 97 [a, b, c] (.tup [.s .u64 o, .s .u64 k]) := by
 intro X w vs hX hv
 rw [three_args hv ha hb hc]
 unfold CallsX
 obtain ⟨x, rfl⟩ : ∃ n : Nat, x = n := ⟨x.toNat, by omega⟩
 obtain ⟨y, rfl⟩ : ∃ n : Nat, y = n := ⟨y.toNat, by omega⟩
 obtain ⟨z, rfl⟩ : ∃ n : Nat, z = n := ⟨z.toNat, by omega⟩
 rw [run_callFunc_extern Try.func97 (by kernel_rfl) (by kernel_rfl) (by kernel_rfl) (e := sub64E) (by kernel_rfl), run_sub64 x y z (by omega)]
 simp only [Result.andThen]
 have h1 : o = (((x + 18446744073709551616 - y - z) % 18446744073709551616 : Nat) : Int) := by omega
 have h2 : k = ((if x < y + z then 1 else 0 : Nat) : Int) := by split <;> omega
 rw [← h1, ← h2]
 exact ⟨Ext.refl _ w, out_pair _ _⟩
abbrev Lim := Nat → Nat → Int
def limR : Lim := fun a i => ((a / 2 ^ (64 * i) % 2 ^ 64 : Nat) : Int)
def u4 (lim : Lim) (a : Nat) : AVal := .agg [.s .u64 (lim a 0), .s .u64 (lim a 1), .s .u64 (lim a 2), .s .u64 (lim a 3)]
theorem lim_range {lim : Lim} (hl : lim = limR) (a i : Nat) : 0 ≤ lim a i ∧ lim a i < 18446744073709551616 := by
 subst hl
 unfold limR
 generalize a / 2 ^ (64 * i) = q
 omega
theorem lim_mod {lim : Lim} (hl : lim = limR) (a : Nat) : lim a 0 = ((a % 18446744073709551616 : Nat) : Int) := by subst hl; simp [limR]
theorem lim_succ {lim : Lim} (hl : lim = limR) (a i : Nat) : lim a (i + 1) = lim (a / 18446744073709551616) i := by
 subst hl
 unfold limR
 rw [show 64 * (i + 1) = 64 + 64 * i by omega, Nat.pow_add, ← Nat.div_div_eq_div_mul]
theorem uniq {x y p q : Int} (hx : 0 ≤ x ∧ x < 18446744073709551616) (hy : 0 ≤ y ∧ y < 18446744073709551616) (h : x + 18446744073709551616 * p = y + 18446744073709551616 * q) : x = y ∧ p = q := by omega
theorem split1 {lim : Lim} (hl : lim = limR) (a : Nat) : (a : Int) = lim a 0 + 18446744073709551616 * ((a / 18446744073709551616 : Nat) : Int) := by
 rw [lim_mod hl]; omega
theorem split4 {lim : Lim} (hl : lim = limR) (a : Nat) (ha : a < 2 ^ 256) : (a : Int) = lim a 0 + 18446744073709551616 * (lim a 1 + 18446744073709551616 * (lim a 2 + 18446744073709551616 * lim a 3)) := by
 rw [split1 hl a, lim_succ hl a 0, split1 hl (a / 18446744073709551616), lim_succ hl a 1, lim_succ hl _ 0, split1 hl (a / 18446744073709551616 / 18446744073709551616), lim_succ hl a 2, lim_succ hl _ 1, lim_succ hl _ 0,
   lim_mod hl (a / 18446744073709551616 / 18446744073709551616 / 18446744073709551616), Nat.mod_eq_of_lt (a := a / 18446744073709551616 / 18446744073709551616 / 18446744073709551616)]
 rw [Nat.div_div_eq_div_mul, Nat.div_div_eq_div_mul]
 exact Nat.div_lt_of_lt_mul (by simpa using ha)
theorem lim_of4 {lim : Lim} (hl : lim = limR) {a : Nat} (ha : a < 2 ^ 256) {x0 x1 x2 x3 : Int} (h0 : 0 ≤ x0 ∧ x0 < 18446744073709551616) (h1 : 0 ≤ x1 ∧ x1 < 18446744073709551616) (h2 : 0 ≤ x2 ∧ x2 < 18446744073709551616)
   (h : (a : Int) = x0 + 18446744073709551616 * (x1 + 18446744073709551616 * (x2 + 18446744073709551616 * x3))) : lim a 0 = x0 ∧ lim a 1 = x1 ∧ lim a 2 = x2 ∧ lim a 3 = x3 := by
 rw [split4 hl a ha] at h
 obtain ⟨e0, h⟩ := uniq (lim_range hl a 0) h0 h
 obtain ⟨e1, h⟩ := uniq (lim_range hl a 1) h1 h
 obtain ⟨e2, h⟩ := uniq (lim_range hl a 2) h2 h
 exact ⟨e0, e1, e2, h⟩
theorem carry {x y z : Int} (hx : 0 ≤ x ∧ x < 18446744073709551616) (hy : 0 ≤ y ∧ y < 18446744073709551616) (hz : 0 ≤ z ∧ z ≤ 1) : ∃ o k : Int, o + 18446744073709551616 * k = x + y + z ∧ (0 ≤ o ∧ o < 18446744073709551616) ∧ 0 ≤ k ∧ k ≤ 1 :=
 ⟨(x + y + z) % 18446744073709551616, (x + y + z) / 18446744073709551616, by omega, by omega, by omega⟩
theorem borrow {x y z : Int} (hx : 0 ≤ x ∧ x < 18446744073709551616) (hy : 0 ≤ y ∧ y < 18446744073709551616) (hz : 0 ≤ z ∧ z ≤ 1) : ∃ o k : Int, o - 18446744073709551616 * k = x - y - z ∧ (0 ≤ o ∧ o < 18446744073709551616) ∧ 0 ≤ k ∧ k ≤ 1 :=
 ⟨(x - y - z) % 18446744073709551616, -((x - y - z) / 18446744073709551616), by omega, by omega, by omega⟩
theorem own : ownKnob Try.prog.godebug = none := by kernel_rfl
theorem laidOut : laidOutB Try.prog = true := by kernel_rfl
theorem calls_of {f : FuncId} {fn : Func} (hf : Try.prog.funcs[f]? = some fn) (hb : fn.body.isNone = false) (hn : (fn.name == "runtime.NumGoroutine") = false) {As : List AVal} {W : World} {vs : List Value}
   (hS : Sp f As (.sb true)) (hv : RepL W (fun _ => False) noρ vs As) : Calls Try.prog f vs.toArray W fun e W' => e = .returned (.bool true) ∧ Go.RowKit.Below W.heap.size W W' := by
 have h := hS (fun _ => False) W vs (fun _ h => h.elim) hv
 unfold CallsX at h
 rw [callFunc_body hf hn hb] at h
 refine Calls.mono h fun e W' ⟨v, he, hx, ho⟩ => ?_
 have hvb : v = .bool true := by
   rcases ho with ⟨N, vs, xs, _, h2, _⟩ | ⟨N, _, ho⟩
   . cases h2
   . cases ho with
     | tree _ _ hr _ => exact hr.sb_inv
 subst hvb
 exact ⟨he, ⟨hx.os, hx.tape, hx.output, hx.size, fun k hk => hx.block k hk fun h => h⟩⟩
theorem sum4 {a0 b0 o0 k1 a1 b1 o1 k2 a2 b2 o2 k3 a3 b3 o3 k4 : Int} {a b o k : Nat} (sa : (a : Int) = a0 + 18446744073709551616 * (a1 + 18446744073709551616 * (a2 + 18446744073709551616 * (a3)))) (sb : (b : Int) = b0 + 18446744073709551616 * (b1 + 18446744073709551616 * (b2 + 18446744073709551616 * (b3)))) (h : o + 2 ^ 256 * k = a + b) (ho : o < 2 ^ 256)
   (e0 : o0 + 18446744073709551616 * k1 = a0 + b0 + 0) (e1 : o1 + 18446744073709551616 * k2 = a1 + b1 + k1) (e2 : o2 + 18446744073709551616 * k3 = a2 + b2 + k2) (e3 : o3 + 18446744073709551616 * k4 = a3 + b3 + k3) (r0 : 0 ≤ o0 ∧ o0 < 18446744073709551616) (r1 : 0 ≤ o1 ∧ o1 < 18446744073709551616) (r2 : 0 ≤ o2 ∧ o2 < 18446744073709551616) (r3 : 0 ≤ o3 ∧ o3 < 18446744073709551616) :
   (o : Int) = o0 + 18446744073709551616 * (o1 + 18446744073709551616 * (o2 + 18446744073709551616 * (o3))) ∧ (k : Int) = k4 := by
 have hh : (o : Int) + 115792089237316195423570985008687907853269984665640564039457584007913129639936 * (k : Int) = (a : Int) + (b : Int) := by omega
 have ho' : (o : Int) < 115792089237316195423570985008687907853269984665640564039457584007913129639936 := by omega
 have ho2 : (0 : Int) ≤ o := by omega
 clear h ho
 rw [sa, sb] at hh
 clear sa sb
 omega
theorem dif4 {a0 b0 o0 k1 a1 b1 o1 k2 a2 b2 o2 k3 a3 b3 o3 k4 : Int} {a b o k : Nat} (sa : (a : Int) = a0 + 18446744073709551616 * (a1 + 18446744073709551616 * (a2 + 18446744073709551616 * (a3)))) (sb : (b : Int) = b0 + 18446744073709551616 * (b1 + 18446744073709551616 * (b2 + 18446744073709551616 * (b3)))) (h : o + b = a + 2 ^ 256 * k) (ho : o < 2 ^ 256)
   (e0 : o0 - 18446744073709551616 * k1 = a0 - b0 - 0) (e1 : o1 - 18446744073709551616 * k2 = a1 - b1 - k1) (e2 : o2 - 18446744073709551616 * k3 = a2 - b2 - k2) (e3 : o3 - 18446744073709551616 * k4 = a3 - b3 - k3) (r0 : 0 ≤ o0 ∧ o0 < 18446744073709551616) (r1 : 0 ≤ o1 ∧ o1 < 18446744073709551616) (r2 : 0 ≤ o2 ∧ o2 < 18446744073709551616) (r3 : 0 ≤ o3 ∧ o3 < 18446744073709551616) :
   (o : Int) = o0 + 18446744073709551616 * (o1 + 18446744073709551616 * (o2 + 18446744073709551616 * (o3))) ∧ (k : Int) = k4 := by
 have hh : (o : Int) + (b : Int) = (a : Int) + 115792089237316195423570985008687907853269984665640564039457584007913129639936 * (k : Int) := by omega
 have ho' : (o : Int) < 115792089237316195423570985008687907853269984665640564039457584007913129639936 := by omega
 have ho2 : (0 : Int) ≤ o := by omega
 clear h ho
 rw [sa, sb] at hh
 clear sa sb
 omega
theorem plus4 {lim : Lim} (hl : lim = limR) (a b o k : Nat) (ha : a < 2 ^ 256) (hb : b < 2 ^ 256) (h : o + 2 ^ 256 * k = a + b) (ho : o < 2 ^ 256) :
   Sp 98 [u4 lim a, u4 lim b] (.tup [u4 lim o, .s .u64 k]) := by
 have la := fun i => lim_range hl a i
 have lb := fun i => lim_range hl b i
 obtain ⟨o0, k1, e0, r0, q1⟩ := carry (la 0) (lb 0) (z := 0) (by omega)
 obtain ⟨o1, k2, e1, r1, q2⟩ := carry (la 1) (lb 1) q1
 obtain ⟨o2, k3, e2, r2, q3⟩ := carry (la 2) (lb 2) q2
 obtain ⟨o3, k4, e3, r3, q4⟩ := carry (la 3) (lb 3) q3
 have hs := sum4 (split4 hl a ha) (split4 hl b hb) h ho e0 e1 e2 e3 r0 r1 r2 r3
 have hf := lim_of4 hl ho r0 r1 r2 hs.1
 refine mk Try.func98 rfl rfl L0 R0 (by decide +kernel) fun A S hA hS => ?_
 unfold bodyOf Try.f98
 cbv
 refine ACall.mk (.tup [.s .u64 o0, .s .u64 k1]) (cf hS (add64S (.s _) (.s _) (.i _) (la 0).1 (lb 0).1 (by omega) _ _ e0 r0)) ?_
 cbv
 refine ACall.mk (.tup [.s .u64 o1, .s .u64 k2]) (cf hS (add64S (.s _) (.s _) (.s _) (la 1).1 (lb 1).1 q1 _ _ e1 r1)) ?_
 cbv
 refine ACall.mk (.tup [.s .u64 o2, .s .u64 k3]) (cf hS (add64S (.s _) (.s _) (.s _) (la 2).1 (lb 2).1 q2 _ _ e2 r2)) ?_
 cbv
 refine ACall.mk (.tup [.s .u64 o3, .s .u64 k4]) (cf hS (add64S (.s _) (.s _) (.s _) (la 3).1 (lb 3).1 q3 _ _ e3 r3)) ?_
 cbv
 obtain ⟨f0, f1, f2, f3⟩ := hf
 exact ⟨⟨f0.symm, f1.symm, f2.symm, f3.symm⟩, hs.2.symm⟩
theorem minus4 {lim : Lim} (hl : lim = limR) (a b o k : Nat) (ha : a < 2 ^ 256) (hb : b < 2 ^ 256) (h : o + b = a + 2 ^ 256 * k) (ho : o < 2 ^ 256) :
   Sp 78 [u4 lim a, u4 lim b] (.tup [u4 lim o, .s .u64 k]) := by
 have la := fun i => lim_range hl a i
 have lb := fun i => lim_range hl b i
 obtain ⟨o0, k1, e0, r0, q1⟩ := borrow (la 0) (lb 0) (z := 0) (by omega)
 obtain ⟨o1, k2, e1, r1, q2⟩ := borrow (la 1) (lb 1) q1
 obtain ⟨o2, k3, e2, r2, q3⟩ := borrow (la 2) (lb 2) q2
 obtain ⟨o3, k4, e3, r3, q4⟩ := borrow (la 3) (lb 3) q3
 have hs := dif4 (split4 hl a ha) (split4 hl b hb) h ho e0 e1 e2 e3 r0 r1 r2 r3
 have hf := lim_of4 hl ho r0 r1 r2 hs.1
 refine mk Try.func78 rfl rfl L0 R0 (by decide +kernel) fun A S hA hS => ?_
 unfold bodyOf Try.f78
 cbv
 refine ACall.mk (.tup [.s .u64 o0, .s .u64 k1]) (cf hS (sub64S (.s _) (.s _) (.i _) (la 0) (lb 0) (by omega) _ _ e0 r0)) ?_
 cbv
 refine ACall.mk (.tup [.s .u64 o1, .s .u64 k2]) (cf hS (sub64S (.s _) (.s _) (.s _) (la 1) (lb 1) q1 _ _ e1 r1)) ?_
 cbv
 refine ACall.mk (.tup [.s .u64 o2, .s .u64 k3]) (cf hS (sub64S (.s _) (.s _) (.s _) (la 2) (lb 2) q2 _ _ e2 r2)) ?_
 cbv
 refine ACall.mk (.tup [.s .u64 o3, .s .u64 k4]) (cf hS (sub64S (.s _) (.s _) (.s _) (la 3) (lb 3) q3 _ _ e3 r3)) ?_
 cbv
 obtain ⟨f0, f1, f2, f3⟩ := hf
 exact ⟨⟨f0.symm, f1.symm, f2.symm, f3.symm⟩, hs.2.symm⟩
end Go.Proofs.Ytkhipnhdbaahcaa
end
