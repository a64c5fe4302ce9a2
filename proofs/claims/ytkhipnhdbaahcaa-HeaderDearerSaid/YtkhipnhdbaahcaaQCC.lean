import Derived.Test.YtkhipnhdbaahcaaQCE24
import Derived.Test.YtkhipnhdbaahcaaChecked
import Derived.KernelRfl
import Derived.Laws.Externs
import Derived.Test.YtkhipnhdbaahcaaRows
import Derived.WalkKit
import Derived.ProofKit
import Derived.OpenShut
import Derived.ShutString
import Derived.ChangeOld
import Derived.Below
import Derived.Carry
import Derived.SizedLaws
import Derived.ChangeSlices
set_option linter.unusedVariables false
set_option linter.unusedSimpArgs false
set_option linter.unusedSectionVars false
set_option maxRecDepth 100000
set_option exponentiation.threshold 2000
section
namespace Go.Proofs.Ytkhipnhdbaahcaa
open Go Eng
def TT.und : TypeId → UT
 | 2 => .int .i64
 | 3 => .int .i64
 | 4 => .bool
 | 5 => .int .u8
 | 6 => .int .u8
 | 9 => .str
 | 10 => .str
 | 11 => .str
 | 12 => .int .u64
 | 15 => .ptr 166
 | 16 => .ptr 169
 | 17 => .ptr 179
 | 20 => .iface []
 | 21 => .int .i32
 | 22 => .int .u64
 | 24 => .arr 4 22
 | 25 => .arr 4 22
 | 26 => .int .i64
 | 31 => .arr 32 5
 | 32 => .arr 32 5
 | 33 => .arr 20 5
 | 34 => .arr 20 5
 | 35 => .arr 256 5
 | 36 => .arr 256 5
 | 37 => .slice 5
 | 38 => .arr 8 5
 | 39 => .struct [(0, 32, "Parent"), (32, 32, "Uncles"), (64, 34, "Coinbase"), (84, 32, "State"), (116, 32, "Txs"), (148, 32, "Receipts"), (180, 36, "Bloom"), (436, 25, "Difficulty"), (440, 22, "Number"), (441, 22, "Limit"), (442, 22, "Used"), (443, 22, "Time"), (444, 37, "Extra"), (445, 32, "Random"), (477, 38, "Nonce"), (485, 25, "BaseFee"), (489, 32, "Withdrawals"), (521, 22, "BlobUsed"), (522, 22, "Excess"), (523, 32, "Beacon")]
 | 40 => .struct [(0, 32, "Parent"), (32, 32, "Uncles"), (64, 34, "Coinbase"), (84, 32, "State"), (116, 32, "Txs"), (148, 32, "Receipts"), (180, 36, "Bloom"), (436, 25, "Difficulty"), (440, 22, "Number"), (441, 22, "Limit"), (442, 22, "Used"), (443, 22, "Time"), (444, 37, "Extra"), (445, 32, "Random"), (477, 38, "Nonce"), (485, 25, "BaseFee"), (489, 32, "Withdrawals"), (521, 22, "BlobUsed"), (522, 22, "Excess"), (523, 32, "Beacon")]
 | 47 => .struct [(0, 25, "R"), (4, 25, "S"), (8, 3, "Odd")]
 | 48 => .struct [(0, 25, "R"), (4, 25, "S"), (8, 3, "Odd")]
 | 49 => .struct [(0, 25, "X"), (4, 25, "Y"), (8, 4, "Inf")]
 | 50 => .struct [(0, 25, "X"), (4, 25, "Y"), (8, 4, "Inf")]
 | 61 => .arr 17 22
 | 62 => .arr 17 22
 | 78 => .ptr 107
 | 89 => .slice 22
 | 93 => .arr 8 22
 | 95 => .int .u64
 | 96 => .arr 6 22
 | 106 => .struct [(0, 3, "made"), (1, 24, "m"), (5, 22, "inv"), (6, 3, "fast"), (7, 24, "one"), (11, 24, "two")]
 | 107 => .struct [(0, 3, "made"), (1, 24, "m"), (5, 22, "inv"), (6, 3, "fast"), (7, 24, "one"), (11, 24, "two")]
 | 113 => .struct [(0, 24, "x"), (4, 24, "y"), (8, 24, "z")]
 | 114 => .struct [(0, 24, "x"), (4, 24, "y"), (8, 24, "z")]
 | 120 => .ptr 126
 | 121 => .arr 25 3
 | 123 => .arr 24 22
 | 125 => .struct [(0, 121, "turn"), (25, 123, "round")]
 | 126 => .struct [(0, 121, "turn"), (25, 123, "round")]
 | 127 => .arr 25 22
 | 134 => .iface [("Error", 164)]
 | 135 => .iface [("Error", 164)]
 | 137 => .slice 3
 | 139 => .ptr 24
 | 141 => .ptr 96
 | 150 => .arr 5 22
 | 163 => .ptr 181
 | 167 => .arr 0 16
 | 171 => .int .u32
 | 172 => .int .u8
 | 173 => .int .u8
 | 175 => .ptr 5
 | 176 => .int .i32
 | 177 => .int .i32
 | 180 => .struct [(0, 9, "s")]
 | 181 => .struct [(0, 9, "s")]
 | _ => .other
def TT.size : TypeId → Nat
 | 2 => 1
 | 3 => 1
 | 4 => 1
 | 5 => 1
 | 6 => 1
 | 9 => 1
 | 10 => 1
 | 11 => 1
 | 12 => 1
 | 15 => 1
 | 16 => 1
 | 17 => 1
 | 20 => 1
 | 21 => 1
 | 22 => 1
 | 24 => 4
 | 25 => 4
 | 26 => 1
 | 31 => 32
 | 32 => 32
 | 33 => 20
 | 34 => 20
 | 35 => 256
 | 36 => 256
 | 37 => 1
 | 38 => 8
 | 39 => 555
 | 40 => 555
 | 47 => 9
 | 48 => 9
 | 49 => 9
 | 50 => 9
 | 61 => 17
 | 62 => 17
 | 78 => 1
 | 89 => 1
 | 93 => 8
 | 95 => 1
 | 96 => 6
 | 106 => 15
 | 107 => 15
 | 113 => 12
 | 114 => 12
 | 120 => 1
 | 121 => 25
 | 123 => 24
 | 125 => 49
 | 126 => 49
 | 127 => 25
 | 134 => 1
 | 135 => 1
 | 137 => 1
 | 139 => 1
 | 141 => 1
 | 150 => 5
 | 163 => 1
 | 167 => 0
 | 171 => 1
 | 172 => 1
 | 173 => 1
 | 175 => 1
 | 176 => 1
 | 177 => 1
 | 180 => 1
 | 181 => 1
 | _ => 0
def TT.bytes : TypeId → Nat
 | 2 => 8
 | 3 => 8
 | 4 => 1
 | 5 => 1
 | 6 => 1
 | 9 => 16
 | 10 => 16
 | 11 => 16
 | 12 => 8
 | 15 => 8
 | 16 => 8
 | 17 => 8
 | 20 => 16
 | 21 => 4
 | 22 => 8
 | 24 => 32
 | 25 => 32
 | 26 => 8
 | 31 => 32
 | 32 => 32
 | 33 => 20
 | 34 => 20
 | 35 => 256
 | 36 => 256
 | 37 => 24
 | 38 => 8
 | 39 => 680
 | 40 => 680
 | 47 => 72
 | 48 => 72
 | 49 => 72
 | 50 => 72
 | 61 => 136
 | 62 => 136
 | 78 => 8
 | 89 => 24
 | 93 => 64
 | 95 => 8
 | 96 => 48
 | 106 => 120
 | 107 => 120
 | 113 => 96
 | 114 => 96
 | 120 => 8
 | 121 => 200
 | 123 => 192
 | 125 => 392
 | 126 => 392
 | 127 => 200
 | 134 => 16
 | 135 => 16
 | 137 => 24
 | 139 => 8
 | 141 => 8
 | 150 => 40
 | 163 => 8
 | 167 => 0
 | 171 => 4
 | 172 => 1
 | 173 => 1
 | 175 => 8
 | 176 => 4
 | 177 => 4
 | 180 => 16
 | 181 => 16
 | _ => 0
def TT.zero : TypeId → List Value
 | 2 => [.int .i64 0]
 | 3 => [.int .i64 0]
 | 4 => [.bool false]
 | 5 => [.int .u8 0]
 | 6 => [.int .u8 0]
 | 9 => [.string ⟨#[]⟩]
 | 10 => [.string ⟨#[]⟩]
 | 11 => [.string ⟨#[]⟩]
 | 12 => [.int .u64 0]
 | 15 => [.pointer none]
 | 16 => [.pointer none]
 | 17 => [.pointer none]
 | 20 => [.nilIface]
 | 21 => [.int .i32 0]
 | 22 => [.int .u64 0]
 | 24 => [.int .u64 0, .int .u64 0, .int .u64 0, .int .u64 0]
 | 25 => [.int .u64 0, .int .u64 0, .int .u64 0, .int .u64 0]
 | 26 => [.int .i64 0]
 | 31 => [.int .u8 0, .int .u8 0, .int .u8 0, .int .u8 0, .int .u8 0, .int .u8 0, .int .u8 0, .int .u8 0, .int .u8 0, .int .u8 0, .int .u8 0, .int .u8 0, .int .u8 0, .int .u8 0, .int .u8 0, .int .u8 0, .int .u8 0, .int .u8 0, .int .u8 0, .int .u8 0, .int .u8 0, .int .u8 0, .int .u8 0, .int .u8 0, .int .u8 0, .int .u8 0, .int .u8 0, .int .u8 0, .int .u8 0, .int .u8 0, .int .u8 0, .int .u8 0]
 | 32 => [.int .u8 0, .int .u8 0, .int .u8 0, .int .u8 0, .int .u8 0, .int .u8 0, .int .u8 0, .int .u8 0, .int .u8 0, .int .u8 0, .int .u8 0, .int .u8 0, .int .u8 0, .int .u8 0, .int .u8 0, .int .u8 0, .int .u8 0, .int .u8 0, .int .u8 0, .int .u8 0, .int .u8 0, .int .u8 0, .int .u8 0, .int .u8 0, .int .u8 0, .int .u8 0, .int .u8 0, .int .u8 0, .int .u8 0, .int .u8 0, .int .u8 0, .int .u8 0]
 | 33 => [.int .u8 0, .int .u8 0, .int .u8 0, .int .u8 0, .int .u8 0, .int .u8 0, .int .u8 0, .int .u8 0, .int .u8 0, .int .u8 0, .int .u8 0, .int .u8 0, .int .u8 0, .int .u8 0, .int .u8 0, .int .u8 0, .int .u8 0, .int .u8 0, .int .u8 0, .int .u8 0]
 | 34 => [.int .u8 0, .int .u8 0, .int .u8 0, .int .u8 0, .int .u8 0, .int .u8 0, .int .u8 0, .int .u8 0, .int .u8 0, .int .u8 0, .int .u8 0, .int .u8 0, .int .u8 0, .int .u8 0, .int .u8 0, .int .u8 0, .int .u8 0, .int .u8 0, .int .u8 0, .int .u8 0]
 | 35 => [.int .u8 0, .int .u8 0, .int .u8 0, .int .u8 0, .int .u8 0, .int .u8 0, .int .u8 0, .int .u8 0, .int .u8 0, .int .u8 0, .int .u8 0, .int .u8 0, .int .u8 0, .int .u8 0, .int .u8 0, .int .u8 0, .int .u8 0, .int .u8 0, .int .u8 0, .int .u8 0, .int .u8 0, .int .u8 0, .int .u8 0, .int .u8 0, .int .u8 0, .int .u8 0, .int .u8 0, .int .u8 0, .int .u8 0, .int .u8 0, .int .u8 0, .int .u8 0, .int .u8 0, .int .u8 0, .int .u8 0, .int .u8 0, .int .u8 0, .int .u8 0, .int .u8 0, .int .u8 0, .int .u8 0, .int .u8 0, .int .u8 0, .int .u8 0, .int .u8 0, .int .u8 0, .int .u8 0, .int .u8 0, .int .u8 0, .int .u8 0, .int .u8 0, .int .u8 0, .int .u8 0, .int .u8 0, .int .u8 0, .int .u8 0, .int .u8 0, .int .u8 0, .int .u8 0, .int .u8 0, .int .u8 0, .int .u8 0, .int .u8 0, .int .u8 0, .int .u8 0, .int .u8 0, .int .u8 0, .int .u8 0, .int .u8 0, .int .u8 0, .int .u8 0, .int .u8 0, .int .u8 0, .int .u8 0, .int .u8 0, .int .u8 0, .int .u8 0, .int .u8 0, .int .u8 0, .int .u8 0, .int .u8 0, .int .u8 0, .int .u8 0, .int .u8 0, .int .u8 0, .int .u8 0, .int .u8 0, .int .u8 0, .int .u8 0, .int .u8 0, .int .u8 0, .int .u8 0, .int .u8 0, .int .u8 0, .int .u8 0, .int .u8 0, .int .u8 0, .int .u8 0, .int .u8 0, .int .u8 0, .int .u8 0, .int .u8 0, .int .u8 0, .int .u8 0, .int .u8 0, .int .u8 0, .int .u8 0, .int .u8 0, .int .u8 0, .int .u8 0, .int .u8 0, .int .u8 0, .int .u8 0, .int .u8 0, .int .u8 0, .int .u8 0, .int .u8 0, .int .u8 0, .int .u8 0, .int .u8 0, .int .u8 0, .int .u8 0, .int .u8 0, .int .u8 0, .int .u8 0, .int .u8 0, .int .u8 0, .int .u8 0, .int .u8 0, .int .u8 0, .int .u8 0, .int .u8 0, .int .u8 0, .int .u8 0, .int .u8 0, .int .u8 0, .int .u8 0, .int .u8 0, .int .u8 0, .int .u8 0, .int .u8 0, .int .u8 0, .int .u8 0, .int .u8 0, .int .u8 0, .int .u8 0, .int .u8 0, .int .u8 0, .int .u8 0, .int .u8 0, .int .u8 0, .int .u8 0, .int .u8 0, .int .u8 0, .int .u8 0, .int .u8 0, .int .u8 0, .int .u8 0, .int .u8 0, .int .u8 0, .int .u8 0, .int .u8 0, .int .u8 0, .int .u8 0, .int .u8 0, .int .u8 0, .int .u8 0, .int .u8 0, .int .u8 0, .int .u8 0, .int .u8 0, .int .u8 0, .int .u8 0, .int .u8 0, .int .u8 0, .int .u8 0, .int .u8 0, .int .u8 0, .int .u8 0, .int .u8 0, .int .u8 0, .int .u8 0, .int .u8 0, .int .u8 0, .int .u8 0, .int .u8 0, .int .u8 0, .int .u8 0, .int .u8 0, .int .u8 0, .int .u8 0, .int .u8 0, .int .u8 0, .int .u8 0, .int .u8 0, .int .u8 0, .int .u8 0, .int .u8 0, .int .u8 0, .int .u8 0, .int .u8 0, .int .u8 0, .int .u8 0, .int .u8 0, .int .u8 0, .int .u8 0, .int .u8 0, .int .u8 0, .int .u8 0, .int .u8 0, .int .u8 0, .int .u8 0, .int .u8 0, .int .u8 0, .int .u8 0, .int .u8 0, .int .u8 0, .int .u8 0, .int .u8 0, .int .u8 0, .int .u8 0, .int .u8 0, .int .u8 0, .int .u8 0, .int .u8 0, .int .u8 0, .int .u8 0, .int .u8 0, .int .u8 0, .int .u8 0, .int .u8 0, .int .u8 0, .int .u8 0, .int .u8 0, .int .u8 0, .int .u8 0, .int .u8 0, .int .u8 0, .int .u8 0, .int .u8 0, .int .u8 0, .int .u8 0, .int .u8 0, .int .u8 0, .int .u8 0, .int .u8 0, .int .u8 0, .int .u8 0, .int .u8 0, .int .u8 0, .int .u8 0, .int .u8 0, .int .u8 0, .int .u8 0, .int .u8 0, .int .u8 0]
 | 36 => [.int .u8 0, .int .u8 0, .int .u8 0, .int .u8 0, .int .u8 0, .int .u8 0, .int .u8 0, .int .u8 0, .int .u8 0, .int .u8 0, .int .u8 0, .int .u8 0, .int .u8 0, .int .u8 0, .int .u8 0, .int .u8 0, .int .u8 0, .int .u8 0, .int .u8 0, .int .u8 0, .int .u8 0, .int .u8 0, .int .u8 0, .int .u8 0, .int .u8 0, .int .u8 0, .int .u8 0, .int .u8 0, .int .u8 0, .int .u8 0, .int .u8 0, .int .u8 0, .int .u8 0, .int .u8 0, .int .u8 0, .int .u8 0, .int .u8 0, .int .u8 0, .int .u8 0, .int .u8 0, .int .u8 0, .int .u8 0, .int .u8 0, .int .u8 0, .int .u8 0, .int .u8 0, .int .u8 0, .int .u8 0, .int .u8 0, .int .u8 0, .int .u8 0, .int .u8 0, .int .u8 0, .int .u8 0, .int .u8 0, .int .u8 0, .int .u8 0, .int .u8 0, .int .u8 0, .int .u8 0, .int .u8 0, .int .u8 0, .int .u8 0, .int .u8 0, .int .u8 0, .int .u8 0, .int .u8 0, .int .u8 0, .int .u8 0, .int .u8 0, .int .u8 0, .int .u8 0, .int .u8 0, .int .u8 0, .int .u8 0, .int .u8 0, .int .u8 0, .int .u8 0, .int .u8 0, .int .u8 0, .int .u8 0, .int .u8 0, .int .u8 0, .int .u8 0, .int .u8 0, .int .u8 0, .int .u8 0, .int .u8 0, .int .u8 0, .int .u8 0, .int .u8 0, .int .u8 0, .int .u8 0, .int .u8 0, .int .u8 0, .int .u8 0, .int .u8 0, .int .u8 0, .int .u8 0, .int .u8 0, .int .u8 0, .int .u8 0, .int .u8 0, .int .u8 0, .int .u8 0, .int .u8 0, .int .u8 0, .int .u8 0, .int .u8 0, .int .u8 0, .int .u8 0, .int .u8 0, .int .u8 0, .int .u8 0, .int .u8 0, .int .u8 0, .int .u8 0, .int .u8 0, .int .u8 0, .int .u8 0, .int .u8 0, .int .u8 0, .int .u8 0, .int .u8 0, .int .u8 0, .int .u8 0, .int .u8 0, .int .u8 0, .int .u8 0, .int .u8 0, .int .u8 0, .int .u8 0, .int .u8 0, .int .u8 0, .int .u8 0, .int .u8 0, .int .u8 0, .int .u8 0, .int .u8 0, .int .u8 0, .int .u8 0, .int .u8 0, .int .u8 0, .int .u8 0, .int .u8 0, .int .u8 0, .int .u8 0, .int .u8 0, .int .u8 0, .int .u8 0, .int .u8 0, .int .u8 0, .int .u8 0, .int .u8 0, .int .u8 0, .int .u8 0, .int .u8 0, .int .u8 0, .int .u8 0, .int .u8 0, .int .u8 0, .int .u8 0, .int .u8 0, .int .u8 0, .int .u8 0, .int .u8 0, .int .u8 0, .int .u8 0, .int .u8 0, .int .u8 0, .int .u8 0, .int .u8 0, .int .u8 0, .int .u8 0, .int .u8 0, .int .u8 0, .int .u8 0, .int .u8 0, .int .u8 0, .int .u8 0, .int .u8 0, .int .u8 0, .int .u8 0, .int .u8 0, .int .u8 0, .int .u8 0, .int .u8 0, .int .u8 0, .int .u8 0, .int .u8 0, .int .u8 0, .int .u8 0, .int .u8 0, .int .u8 0, .int .u8 0, .int .u8 0, .int .u8 0, .int .u8 0, .int .u8 0, .int .u8 0, .int .u8 0, .int .u8 0, .int .u8 0, .int .u8 0, .int .u8 0, .int .u8 0, .int .u8 0, .int .u8 0, .int .u8 0, .int .u8 0, .int .u8 0, .int .u8 0, .int .u8 0, .int .u8 0, .int .u8 0, .int .u8 0, .int .u8 0, .int .u8 0, .int .u8 0, .int .u8 0, .int .u8 0, .int .u8 0, .int .u8 0, .int .u8 0, .int .u8 0, .int .u8 0, .int .u8 0, .int .u8 0, .int .u8 0, .int .u8 0, .int .u8 0, .int .u8 0, .int .u8 0, .int .u8 0, .int .u8 0, .int .u8 0, .int .u8 0, .int .u8 0, .int .u8 0, .int .u8 0, .int .u8 0, .int .u8 0, .int .u8 0, .int .u8 0, .int .u8 0, .int .u8 0, .int .u8 0, .int .u8 0, .int .u8 0, .int .u8 0, .int .u8 0, .int .u8 0, .int .u8 0, .int .u8 0, .int .u8 0, .int .u8 0]
 | 37 => [.slice none 0 0]
 | 38 => [.int .u8 0, .int .u8 0, .int .u8 0, .int .u8 0, .int .u8 0, .int .u8 0, .int .u8 0, .int .u8 0]
 | 39 => [.int .u8 0, .int .u8 0, .int .u8 0, .int .u8 0, .int .u8 0, .int .u8 0, .int .u8 0, .int .u8 0, .int .u8 0, .int .u8 0, .int .u8 0, .int .u8 0, .int .u8 0, .int .u8 0, .int .u8 0, .int .u8 0, .int .u8 0, .int .u8 0, .int .u8 0, .int .u8 0, .int .u8 0, .int .u8 0, .int .u8 0, .int .u8 0, .int .u8 0, .int .u8 0, .int .u8 0, .int .u8 0, .int .u8 0, .int .u8 0, .int .u8 0, .int .u8 0, .int .u8 0, .int .u8 0, .int .u8 0, .int .u8 0, .int .u8 0, .int .u8 0, .int .u8 0, .int .u8 0, .int .u8 0, .int .u8 0, .int .u8 0, .int .u8 0, .int .u8 0, .int .u8 0, .int .u8 0, .int .u8 0, .int .u8 0, .int .u8 0, .int .u8 0, .int .u8 0, .int .u8 0, .int .u8 0, .int .u8 0, .int .u8 0, .int .u8 0, .int .u8 0, .int .u8 0, .int .u8 0, .int .u8 0, .int .u8 0, .int .u8 0, .int .u8 0, .int .u8 0, .int .u8 0, .int .u8 0, .int .u8 0, .int .u8 0, .int .u8 0, .int .u8 0, .int .u8 0, .int .u8 0, .int .u8 0, .int .u8 0, .int .u8 0, .int .u8 0, .int .u8 0, .int .u8 0, .int .u8 0, .int .u8 0, .int .u8 0, .int .u8 0, .int .u8 0, .int .u8 0, .int .u8 0, .int .u8 0, .int .u8 0, .int .u8 0, .int .u8 0, .int .u8 0, .int .u8 0, .int .u8 0, .int .u8 0, .int .u8 0, .int .u8 0, .int .u8 0, .int .u8 0, .int .u8 0, .int .u8 0, .int .u8 0, .int .u8 0, .int .u8 0, .int .u8 0, .int .u8 0, .int .u8 0, .int .u8 0, .int .u8 0, .int .u8 0, .int .u8 0, .int .u8 0, .int .u8 0, .int .u8 0, .int .u8 0, .int .u8 0, .int .u8 0, .int .u8 0, .int .u8 0, .int .u8 0, .int .u8 0, .int .u8 0, .int .u8 0, .int .u8 0, .int .u8 0, .int .u8 0, .int .u8 0, .int .u8 0, .int .u8 0, .int .u8 0, .int .u8 0, .int .u8 0, .int .u8 0, .int .u8 0, .int .u8 0, .int .u8 0, .int .u8 0, .int .u8 0, .int .u8 0, .int .u8 0, .int .u8 0, .int .u8 0, .int .u8 0, .int .u8 0, .int .u8 0, .int .u8 0, .int .u8 0, .int .u8 0, .int .u8 0, .int .u8 0, .int .u8 0, .int .u8 0, .int .u8 0, .int .u8 0, .int .u8 0, .int .u8 0, .int .u8 0, .int .u8 0, .int .u8 0, .int .u8 0, .int .u8 0, .int .u8 0, .int .u8 0, .int .u8 0, .int .u8 0, .int .u8 0, .int .u8 0, .int .u8 0, .int .u8 0, .int .u8 0, .int .u8 0, .int .u8 0, .int .u8 0, .int .u8 0, .int .u8 0, .int .u8 0, .int .u8 0, .int .u8 0, .int .u8 0, .int .u8 0, .int .u8 0, .int .u8 0, .int .u8 0, .int .u8 0, .int .u8 0, .int .u8 0, .int .u8 0, .int .u8 0, .int .u8 0, .int .u8 0, .int .u8 0, .int .u8 0, .int .u8 0, .int .u8 0, .int .u8 0, .int .u8 0, .int .u8 0, .int .u8 0, .int .u8 0, .int .u8 0, .int .u8 0, .int .u8 0, .int .u8 0, .int .u8 0, .int .u8 0, .int .u8 0, .int .u8 0, .int .u8 0, .int .u8 0, .int .u8 0, .int .u8 0, .int .u8 0, .int .u8 0, .int .u8 0, .int .u8 0, .int .u8 0, .int .u8 0, .int .u8 0, .int .u8 0, .int .u8 0, .int .u8 0, .int .u8 0, .int .u8 0, .int .u8 0, .int .u8 0, .int .u8 0, .int .u8 0, .int .u8 0, .int .u8 0, .int .u8 0, .int .u8 0, .int .u8 0, .int .u8 0, .int .u8 0, .int .u8 0, .int .u8 0, .int .u8 0, .int .u8 0, .int .u8 0, .int .u8 0, .int .u8 0, .int .u8 0, .int .u8 0, .int .u8 0, .int .u8 0, .int .u8 0, .int .u8 0, .int .u8 0, .int .u8 0, .int .u8 0, .int .u8 0, .int .u8 0, .int .u8 0, .int .u8 0, .int .u8 0, .int .u8 0, .int .u8 0, .int .u8 0, .int .u8 0, .int .u8 0, .int .u8 0, .int .u8 0, .int .u8 0, .int .u8 0, .int .u8 0, .int .u8 0, .int .u8 0, .int .u8 0, .int .u8 0, .int .u8 0, .int .u8 0, .int .u8 0, .int .u8 0, .int .u8 0, .int .u8 0, .int .u8 0, .int .u8 0, .int .u8 0, .int .u8 0, .int .u8 0, .int .u8 0, .int .u8 0, .int .u8 0, .int .u8 0, .int .u8 0, .int .u8 0, .int .u8 0, .int .u8 0, .int .u8 0, .int .u8 0, .int .u8 0, .int .u8 0, .int .u8 0, .int .u8 0, .int .u8 0, .int .u8 0, .int .u8 0, .int .u8 0, .int .u8 0, .int .u8 0, .int .u8 0, .int .u8 0, .int .u8 0, .int .u8 0, .int .u8 0, .int .u8 0, .int .u8 0, .int .u8 0, .int .u8 0, .int .u8 0, .int .u8 0, .int .u8 0, .int .u8 0, .int .u8 0, .int .u8 0, .int .u8 0, .int .u8 0, .int .u8 0, .int .u8 0, .int .u8 0, .int .u8 0, .int .u8 0, .int .u8 0, .int .u8 0, .int .u8 0, .int .u8 0, .int .u8 0, .int .u8 0, .int .u8 0, .int .u8 0, .int .u8 0, .int .u8 0, .int .u8 0, .int .u8 0, .int .u8 0, .int .u8 0, .int .u8 0, .int .u8 0, .int .u8 0, .int .u8 0, .int .u8 0, .int .u8 0, .int .u8 0, .int .u8 0, .int .u8 0, .int .u8 0, .int .u8 0, .int .u8 0, .int .u8 0, .int .u8 0, .int .u8 0, .int .u8 0, .int .u8 0, .int .u8 0, .int .u8 0, .int .u8 0, .int .u8 0, .int .u8 0, .int .u8 0, .int .u8 0, .int .u8 0, .int .u8 0, .int .u8 0, .int .u8 0, .int .u8 0, .int .u8 0, .int .u8 0, .int .u8 0, .int .u8 0, .int .u8 0, .int .u8 0, .int .u8 0, .int .u8 0, .int .u8 0, .int .u8 0, .int .u8 0, .int .u8 0, .int .u8 0, .int .u8 0, .int .u8 0, .int .u8 0, .int .u8 0, .int .u8 0, .int .u8 0, .int .u8 0, .int .u8 0, .int .u8 0, .int .u8 0, .int .u8 0, .int .u8 0, .int .u8 0, .int .u8 0, .int .u8 0, .int .u8 0, .int .u8 0, .int .u8 0, .int .u8 0, .int .u8 0, .int .u8 0, .int .u8 0, .int .u8 0, .int .u8 0, .int .u8 0, .int .u8 0, .int .u8 0, .int .u8 0, .int .u8 0, .int .u8 0, .int .u8 0, .int .u8 0, .int .u8 0, .int .u8 0, .int .u8 0, .int .u8 0, .int .u8 0, .int .u8 0, .int .u8 0, .int .u8 0, .int .u8 0, .int .u8 0, .int .u8 0, .int .u8 0, .int .u8 0, .int .u8 0, .int .u8 0, .int .u8 0, .int .u8 0, .int .u8 0, .int .u8 0, .int .u8 0, .int .u8 0, .int .u8 0, .int .u8 0, .int .u8 0, .int .u8 0, .int .u8 0, .int .u8 0, .int .u64 0, .int .u64 0, .int .u64 0, .int .u64 0, .int .u64 0, .int .u64 0, .int .u64 0, .int .u64 0, .slice none 0 0, .int .u8 0, .int .u8 0, .int .u8 0, .int .u8 0, .int .u8 0, .int .u8 0, .int .u8 0, .int .u8 0, .int .u8 0, .int .u8 0, .int .u8 0, .int .u8 0, .int .u8 0, .int .u8 0, .int .u8 0, .int .u8 0, .int .u8 0, .int .u8 0, .int .u8 0, .int .u8 0, .int .u8 0, .int .u8 0, .int .u8 0, .int .u8 0, .int .u8 0, .int .u8 0, .int .u8 0, .int .u8 0, .int .u8 0, .int .u8 0, .int .u8 0, .int .u8 0, .int .u8 0, .int .u8 0, .int .u8 0, .int .u8 0, .int .u8 0, .int .u8 0, .int .u8 0, .int .u8 0, .int .u64 0, .int .u64 0, .int .u64 0, .int .u64 0, .int .u8 0, .int .u8 0, .int .u8 0, .int .u8 0, .int .u8 0, .int .u8 0, .int .u8 0, .int .u8 0, .int .u8 0, .int .u8 0, .int .u8 0, .int .u8 0, .int .u8 0, .int .u8 0, .int .u8 0, .int .u8 0, .int .u8 0, .int .u8 0, .int .u8 0, .int .u8 0, .int .u8 0, .int .u8 0, .int .u8 0, .int .u8 0, .int .u8 0, .int .u8 0, .int .u8 0, .int .u8 0, .int .u8 0, .int .u8 0, .int .u8 0, .int .u8 0, .int .u64 0, .int .u64 0, .int .u8 0, .int .u8 0, .int .u8 0, .int .u8 0, .int .u8 0, .int .u8 0, .int .u8 0, .int .u8 0, .int .u8 0, .int .u8 0, .int .u8 0, .int .u8 0, .int .u8 0, .int .u8 0, .int .u8 0, .int .u8 0, .int .u8 0, .int .u8 0, .int .u8 0, .int .u8 0, .int .u8 0, .int .u8 0, .int .u8 0, .int .u8 0, .int .u8 0, .int .u8 0, .int .u8 0, .int .u8 0, .int .u8 0, .int .u8 0, .int .u8 0, .int .u8 0]
 | 40 => [.int .u8 0, .int .u8 0, .int .u8 0, .int .u8 0, .int .u8 0, .int .u8 0, .int .u8 0, .int .u8 0, .int .u8 0, .int .u8 0, .int .u8 0, .int .u8 0, .int .u8 0, .int .u8 0, .int .u8 0, .int .u8 0, .int .u8 0, .int .u8 0, .int .u8 0, .int .u8 0, .int .u8 0, .int .u8 0, .int .u8 0, .int .u8 0, .int .u8 0, .int .u8 0, .int .u8 0, .int .u8 0, .int .u8 0, .int .u8 0, .int .u8 0, .int .u8 0, .int .u8 0, .int .u8 0, .int .u8 0, .int .u8 0, .int .u8 0, .int .u8 0, .int .u8 0, .int .u8 0, .int .u8 0, .int .u8 0, .int .u8 0, .int .u8 0, .int .u8 0, .int .u8 0, .int .u8 0, .int .u8 0, .int .u8 0, .int .u8 0, .int .u8 0, .int .u8 0, .int .u8 0, .int .u8 0, .int .u8 0, .int .u8 0, .int .u8 0, .int .u8 0, .int .u8 0, .int .u8 0, .int .u8 0, .int .u8 0, .int .u8 0, .int .u8 0, .int .u8 0, .int .u8 0, .int .u8 0, .int .u8 0, .int .u8 0, .int .u8 0, .int .u8 0, .int .u8 0, .int .u8 0, .int .u8 0, .int .u8 0, .int .u8 0, .int .u8 0, .int .u8 0, .int .u8 0, .int .u8 0, .int .u8 0, .int .u8 0, .int .u8 0, .int .u8 0, .int .u8 0, .int .u8 0, .int .u8 0, .int .u8 0, .int .u8 0, .int .u8 0, .int .u8 0, .int .u8 0, .int .u8 0, .int .u8 0, .int .u8 0, .int .u8 0, .int .u8 0, .int .u8 0, .int .u8 0, .int .u8 0, .int .u8 0, .int .u8 0, .int .u8 0, .int .u8 0, .int .u8 0, .int .u8 0, .int .u8 0, .int .u8 0, .int .u8 0, .int .u8 0, .int .u8 0, .int .u8 0, .int .u8 0, .int .u8 0, .int .u8 0, .int .u8 0, .int .u8 0, .int .u8 0, .int .u8 0, .int .u8 0, .int .u8 0, .int .u8 0, .int .u8 0, .int .u8 0, .int .u8 0, .int .u8 0, .int .u8 0, .int .u8 0, .int .u8 0, .int .u8 0, .int .u8 0, .int .u8 0, .int .u8 0, .int .u8 0, .int .u8 0, .int .u8 0, .int .u8 0, .int .u8 0, .int .u8 0, .int .u8 0, .int .u8 0, .int .u8 0, .int .u8 0, .int .u8 0, .int .u8 0, .int .u8 0, .int .u8 0, .int .u8 0, .int .u8 0, .int .u8 0, .int .u8 0, .int .u8 0, .int .u8 0, .int .u8 0, .int .u8 0, .int .u8 0, .int .u8 0, .int .u8 0, .int .u8 0, .int .u8 0, .int .u8 0, .int .u8 0, .int .u8 0, .int .u8 0, .int .u8 0, .int .u8 0, .int .u8 0, .int .u8 0, .int .u8 0, .int .u8 0, .int .u8 0, .int .u8 0, .int .u8 0, .int .u8 0, .int .u8 0, .int .u8 0, .int .u8 0, .int .u8 0, .int .u8 0, .int .u8 0, .int .u8 0, .int .u8 0, .int .u8 0, .int .u8 0, .int .u8 0, .int .u8 0, .int .u8 0, .int .u8 0, .int .u8 0, .int .u8 0, .int .u8 0, .int .u8 0, .int .u8 0, .int .u8 0, .int .u8 0, .int .u8 0, .int .u8 0, .int .u8 0, .int .u8 0, .int .u8 0, .int .u8 0, .int .u8 0, .int .u8 0, .int .u8 0, .int .u8 0, .int .u8 0, .int .u8 0, .int .u8 0, .int .u8 0, .int .u8 0, .int .u8 0, .int .u8 0, .int .u8 0, .int .u8 0, .int .u8 0, .int .u8 0, .int .u8 0, .int .u8 0, .int .u8 0, .int .u8 0, .int .u8 0, .int .u8 0, .int .u8 0, .int .u8 0, .int .u8 0, .int .u8 0, .int .u8 0, .int .u8 0, .int .u8 0, .int .u8 0, .int .u8 0, .int .u8 0, .int .u8 0, .int .u8 0, .int .u8 0, .int .u8 0, .int .u8 0, .int .u8 0, .int .u8 0, .int .u8 0, .int .u8 0, .int .u8 0, .int .u8 0, .int .u8 0, .int .u8 0, .int .u8 0, .int .u8 0, .int .u8 0, .int .u8 0, .int .u8 0, .int .u8 0, .int .u8 0, .int .u8 0, .int .u8 0, .int .u8 0, .int .u8 0, .int .u8 0, .int .u8 0, .int .u8 0, .int .u8 0, .int .u8 0, .int .u8 0, .int .u8 0, .int .u8 0, .int .u8 0, .int .u8 0, .int .u8 0, .int .u8 0, .int .u8 0, .int .u8 0, .int .u8 0, .int .u8 0, .int .u8 0, .int .u8 0, .int .u8 0, .int .u8 0, .int .u8 0, .int .u8 0, .int .u8 0, .int .u8 0, .int .u8 0, .int .u8 0, .int .u8 0, .int .u8 0, .int .u8 0, .int .u8 0, .int .u8 0, .int .u8 0, .int .u8 0, .int .u8 0, .int .u8 0, .int .u8 0, .int .u8 0, .int .u8 0, .int .u8 0, .int .u8 0, .int .u8 0, .int .u8 0, .int .u8 0, .int .u8 0, .int .u8 0, .int .u8 0, .int .u8 0, .int .u8 0, .int .u8 0, .int .u8 0, .int .u8 0, .int .u8 0, .int .u8 0, .int .u8 0, .int .u8 0, .int .u8 0, .int .u8 0, .int .u8 0, .int .u8 0, .int .u8 0, .int .u8 0, .int .u8 0, .int .u8 0, .int .u8 0, .int .u8 0, .int .u8 0, .int .u8 0, .int .u8 0, .int .u8 0, .int .u8 0, .int .u8 0, .int .u8 0, .int .u8 0, .int .u8 0, .int .u8 0, .int .u8 0, .int .u8 0, .int .u8 0, .int .u8 0, .int .u8 0, .int .u8 0, .int .u8 0, .int .u8 0, .int .u8 0, .int .u8 0, .int .u8 0, .int .u8 0, .int .u8 0, .int .u8 0, .int .u8 0, .int .u8 0, .int .u8 0, .int .u8 0, .int .u8 0, .int .u8 0, .int .u8 0, .int .u8 0, .int .u8 0, .int .u8 0, .int .u8 0, .int .u8 0, .int .u8 0, .int .u8 0, .int .u8 0, .int .u8 0, .int .u8 0, .int .u8 0, .int .u8 0, .int .u8 0, .int .u8 0, .int .u8 0, .int .u8 0, .int .u8 0, .int .u8 0, .int .u8 0, .int .u8 0, .int .u8 0, .int .u8 0, .int .u8 0, .int .u8 0, .int .u8 0, .int .u8 0, .int .u8 0, .int .u8 0, .int .u8 0, .int .u8 0, .int .u8 0, .int .u8 0, .int .u8 0, .int .u8 0, .int .u8 0, .int .u8 0, .int .u8 0, .int .u8 0, .int .u8 0, .int .u8 0, .int .u8 0, .int .u8 0, .int .u8 0, .int .u8 0, .int .u8 0, .int .u8 0, .int .u8 0, .int .u8 0, .int .u8 0, .int .u8 0, .int .u8 0, .int .u8 0, .int .u8 0, .int .u8 0, .int .u8 0, .int .u8 0, .int .u8 0, .int .u8 0, .int .u8 0, .int .u8 0, .int .u8 0, .int .u8 0, .int .u8 0, .int .u8 0, .int .u8 0, .int .u8 0, .int .u8 0, .int .u8 0, .int .u8 0, .int .u8 0, .int .u8 0, .int .u8 0, .int .u8 0, .int .u8 0, .int .u8 0, .int .u8 0, .int .u8 0, .int .u8 0, .int .u8 0, .int .u8 0, .int .u8 0, .int .u8 0, .int .u8 0, .int .u8 0, .int .u64 0, .int .u64 0, .int .u64 0, .int .u64 0, .int .u64 0, .int .u64 0, .int .u64 0, .int .u64 0, .slice none 0 0, .int .u8 0, .int .u8 0, .int .u8 0, .int .u8 0, .int .u8 0, .int .u8 0, .int .u8 0, .int .u8 0, .int .u8 0, .int .u8 0, .int .u8 0, .int .u8 0, .int .u8 0, .int .u8 0, .int .u8 0, .int .u8 0, .int .u8 0, .int .u8 0, .int .u8 0, .int .u8 0, .int .u8 0, .int .u8 0, .int .u8 0, .int .u8 0, .int .u8 0, .int .u8 0, .int .u8 0, .int .u8 0, .int .u8 0, .int .u8 0, .int .u8 0, .int .u8 0, .int .u8 0, .int .u8 0, .int .u8 0, .int .u8 0, .int .u8 0, .int .u8 0, .int .u8 0, .int .u8 0, .int .u64 0, .int .u64 0, .int .u64 0, .int .u64 0, .int .u8 0, .int .u8 0, .int .u8 0, .int .u8 0, .int .u8 0, .int .u8 0, .int .u8 0, .int .u8 0, .int .u8 0, .int .u8 0, .int .u8 0, .int .u8 0, .int .u8 0, .int .u8 0, .int .u8 0, .int .u8 0, .int .u8 0, .int .u8 0, .int .u8 0, .int .u8 0, .int .u8 0, .int .u8 0, .int .u8 0, .int .u8 0, .int .u8 0, .int .u8 0, .int .u8 0, .int .u8 0, .int .u8 0, .int .u8 0, .int .u8 0, .int .u8 0, .int .u64 0, .int .u64 0, .int .u8 0, .int .u8 0, .int .u8 0, .int .u8 0, .int .u8 0, .int .u8 0, .int .u8 0, .int .u8 0, .int .u8 0, .int .u8 0, .int .u8 0, .int .u8 0, .int .u8 0, .int .u8 0, .int .u8 0, .int .u8 0, .int .u8 0, .int .u8 0, .int .u8 0, .int .u8 0, .int .u8 0, .int .u8 0, .int .u8 0, .int .u8 0, .int .u8 0, .int .u8 0, .int .u8 0, .int .u8 0, .int .u8 0, .int .u8 0, .int .u8 0, .int .u8 0]
 | 47 => [.int .u64 0, .int .u64 0, .int .u64 0, .int .u64 0, .int .u64 0, .int .u64 0, .int .u64 0, .int .u64 0, .int .i64 0]
 | 48 => [.int .u64 0, .int .u64 0, .int .u64 0, .int .u64 0, .int .u64 0, .int .u64 0, .int .u64 0, .int .u64 0, .int .i64 0]
 | 49 => [.int .u64 0, .int .u64 0, .int .u64 0, .int .u64 0, .int .u64 0, .int .u64 0, .int .u64 0, .int .u64 0, .bool false]
 | 50 => [.int .u64 0, .int .u64 0, .int .u64 0, .int .u64 0, .int .u64 0, .int .u64 0, .int .u64 0, .int .u64 0, .bool false]
 | 61 => [.int .u64 0, .int .u64 0, .int .u64 0, .int .u64 0, .int .u64 0, .int .u64 0, .int .u64 0, .int .u64 0, .int .u64 0, .int .u64 0, .int .u64 0, .int .u64 0, .int .u64 0, .int .u64 0, .int .u64 0, .int .u64 0, .int .u64 0]
 | 62 => [.int .u64 0, .int .u64 0, .int .u64 0, .int .u64 0, .int .u64 0, .int .u64 0, .int .u64 0, .int .u64 0, .int .u64 0, .int .u64 0, .int .u64 0, .int .u64 0, .int .u64 0, .int .u64 0, .int .u64 0, .int .u64 0, .int .u64 0]
 | 78 => [.pointer none]
 | 89 => [.slice none 0 0]
 | 93 => [.int .u64 0, .int .u64 0, .int .u64 0, .int .u64 0, .int .u64 0, .int .u64 0, .int .u64 0, .int .u64 0]
 | 95 => [.int .u64 0]
 | 96 => [.int .u64 0, .int .u64 0, .int .u64 0, .int .u64 0, .int .u64 0, .int .u64 0]
 | 106 => [.int .i64 0, .int .u64 0, .int .u64 0, .int .u64 0, .int .u64 0, .int .u64 0, .int .i64 0, .int .u64 0, .int .u64 0, .int .u64 0, .int .u64 0, .int .u64 0, .int .u64 0, .int .u64 0, .int .u64 0]
 | 107 => [.int .i64 0, .int .u64 0, .int .u64 0, .int .u64 0, .int .u64 0, .int .u64 0, .int .i64 0, .int .u64 0, .int .u64 0, .int .u64 0, .int .u64 0, .int .u64 0, .int .u64 0, .int .u64 0, .int .u64 0]
 | 113 => [.int .u64 0, .int .u64 0, .int .u64 0, .int .u64 0, .int .u64 0, .int .u64 0, .int .u64 0, .int .u64 0, .int .u64 0, .int .u64 0, .int .u64 0, .int .u64 0]
 | 114 => [.int .u64 0, .int .u64 0, .int .u64 0, .int .u64 0, .int .u64 0, .int .u64 0, .int .u64 0, .int .u64 0, .int .u64 0, .int .u64 0, .int .u64 0, .int .u64 0]
 | 120 => [.pointer none]
 | 121 => [.int .i64 0, .int .i64 0, .int .i64 0, .int .i64 0, .int .i64 0, .int .i64 0, .int .i64 0, .int .i64 0, .int .i64 0, .int .i64 0, .int .i64 0, .int .i64 0, .int .i64 0, .int .i64 0, .int .i64 0, .int .i64 0, .int .i64 0, .int .i64 0, .int .i64 0, .int .i64 0, .int .i64 0, .int .i64 0, .int .i64 0, .int .i64 0, .int .i64 0]
 | 123 => [.int .u64 0, .int .u64 0, .int .u64 0, .int .u64 0, .int .u64 0, .int .u64 0, .int .u64 0, .int .u64 0, .int .u64 0, .int .u64 0, .int .u64 0, .int .u64 0, .int .u64 0, .int .u64 0, .int .u64 0, .int .u64 0, .int .u64 0, .int .u64 0, .int .u64 0, .int .u64 0, .int .u64 0, .int .u64 0, .int .u64 0, .int .u64 0]
 | 125 => [.int .i64 0, .int .i64 0, .int .i64 0, .int .i64 0, .int .i64 0, .int .i64 0, .int .i64 0, .int .i64 0, .int .i64 0, .int .i64 0, .int .i64 0, .int .i64 0, .int .i64 0, .int .i64 0, .int .i64 0, .int .i64 0, .int .i64 0, .int .i64 0, .int .i64 0, .int .i64 0, .int .i64 0, .int .i64 0, .int .i64 0, .int .i64 0, .int .i64 0, .int .u64 0, .int .u64 0, .int .u64 0, .int .u64 0, .int .u64 0, .int .u64 0, .int .u64 0, .int .u64 0, .int .u64 0, .int .u64 0, .int .u64 0, .int .u64 0, .int .u64 0, .int .u64 0, .int .u64 0, .int .u64 0, .int .u64 0, .int .u64 0, .int .u64 0, .int .u64 0, .int .u64 0, .int .u64 0, .int .u64 0, .int .u64 0]
 | 126 => [.int .i64 0, .int .i64 0, .int .i64 0, .int .i64 0, .int .i64 0, .int .i64 0, .int .i64 0, .int .i64 0, .int .i64 0, .int .i64 0, .int .i64 0, .int .i64 0, .int .i64 0, .int .i64 0, .int .i64 0, .int .i64 0, .int .i64 0, .int .i64 0, .int .i64 0, .int .i64 0, .int .i64 0, .int .i64 0, .int .i64 0, .int .i64 0, .int .i64 0, .int .u64 0, .int .u64 0, .int .u64 0, .int .u64 0, .int .u64 0, .int .u64 0, .int .u64 0, .int .u64 0, .int .u64 0, .int .u64 0, .int .u64 0, .int .u64 0, .int .u64 0, .int .u64 0, .int .u64 0, .int .u64 0, .int .u64 0, .int .u64 0, .int .u64 0, .int .u64 0, .int .u64 0, .int .u64 0, .int .u64 0, .int .u64 0]
 | 127 => [.int .u64 0, .int .u64 0, .int .u64 0, .int .u64 0, .int .u64 0, .int .u64 0, .int .u64 0, .int .u64 0, .int .u64 0, .int .u64 0, .int .u64 0, .int .u64 0, .int .u64 0, .int .u64 0, .int .u64 0, .int .u64 0, .int .u64 0, .int .u64 0, .int .u64 0, .int .u64 0, .int .u64 0, .int .u64 0, .int .u64 0, .int .u64 0, .int .u64 0]
 | 134 => [.nilIface]
 | 135 => [.nilIface]
 | 137 => [.slice none 0 0]
 | 139 => [.pointer none]
 | 141 => [.pointer none]
 | 150 => [.int .u64 0, .int .u64 0, .int .u64 0, .int .u64 0, .int .u64 0]
 | 163 => [.pointer none]
 | 167 => []
 | 171 => [.int .u32 0]
 | 172 => [.int .u8 0]
 | 173 => [.int .u8 0]
 | 175 => [.pointer none]
 | 176 => [.int .i32 0]
 | 177 => [.int .i32 0]
 | 180 => [.string ⟨#[]⟩]
 | 181 => [.string ⟨#[]⟩]
 | _ => []
def TT.eqok : TypeId → Bool
 | 2 => true
 | 3 => true
 | 4 => true
 | 5 => true
 | 6 => true
 | 9 => true
 | 10 => true
 | 11 => true
 | 12 => true
 | 15 => true
 | 16 => true
 | 17 => true
 | 21 => true
 | 22 => true
 | 24 => true
 | 25 => true
 | 26 => true
 | 31 => true
 | 32 => true
 | 33 => true
 | 34 => true
 | 35 => true
 | 36 => true
 | 38 => true
 | 47 => true
 | 48 => true
 | 49 => true
 | 50 => true
 | 61 => true
 | 62 => true
 | 78 => true
 | 93 => true
 | 95 => true
 | 96 => true
 | 106 => true
 | 107 => true
 | 113 => true
 | 114 => true
 | 120 => true
 | 121 => true
 | 123 => true
 | 125 => true
 | 126 => true
 | 127 => true
 | 139 => true
 | 141 => true
 | 150 => true
 | 163 => true
 | 167 => true
 | 171 => true
 | 172 => true
 | 173 => true
 | 175 => true
 | 176 => true
 | 177 => true
 | 180 => true
 | 181 => true
 | _ => false
def TT.mu : FuncId → Bool
 | 92 => true
 | 102 => true
 | 103 => true
 | 115 => true
 | 126 => true
 | 127 => true
 | _ => false
def TT.ms : List (TypeId × String × FuncId) := [(114, "cairn/secp.add", 83), (114, "cairn/secp.affine", 84), (114, "cairn/secp.double", 109), (114, "cairn/secp.none", 110)]
def TT : Ty := ⟨TT.und, TT.size, TT.bytes, TT.zero, fun t name => lookM t name TT.ms, TT.eqok, TT.mu⟩
theorem TT.big : ∀ t, 183 ≤ t → TT.und t = .other := by
 intro t h; unfold TT.und; split <;> first | rfl | exact absurd h (by decide)
theorem TT.zerobig : ∀ t, 183 ≤ t → TT.zero t = [] := by
 intro t h; unfold TT.zero; split <;> first | rfl | exact absurd h (by decide)
theorem TT.sizebig : ∀ t, 183 ≤ t → TT.size t = 0 := by
 intro t h; unfold TT.size; split <;> first | rfl | exact absurd h (by decide)
theorem TT.ochk : (List.range 183).all (fun t => match TT.und t with | .other => TT.size t == 0 | _ => true) = true := by kernel_rfl
theorem TT.zchk : (List.range 183).all (fun t => (TT.zero t).length == TT.size t) = true := by kernel_rfl
theorem TT.other : ∀ t, TT.und t = .other → TT.size t = 0 := by
 intro t h; rcases Nat.lt_or_ge t 183 with h1 | h1
 . have := List.all_eq_true.1 TT.ochk t (by simpa using h1); simp only [h, beq_iff_eq] at this; exact this
 . exact TT.sizebig t h1
theorem TT.zlen : ∀ t, (TT.zero t).length = TT.size t := by
 intro t; rcases Nat.lt_or_ge t 183 with h1 | h1
 . have := List.all_eq_true.1 TT.zchk t (by simpa using h1); exact eq_of_beq this
 . rw [TT.zerobig t h1, TT.sizebig t h1]; rfl
theorem TT.eqbig : ∀ t, 183 ≤ t → TT.eqok t = false := by
 intro t h; unfold TT.eqok; split <;> first | rfl | exact absurd h (by decide)
theorem TT.all : (List.range 183).all (tyAt Try.prog TT) = true := by kernel_rfl
theorem TT.ok : TyOk Try.prog TT := tyOk_of 183 TT.all TT.big TT.other TT.zlen TT.eqbig (meth_of (P := Try.prog) (ms := TT.ms) (by kernel_rfl))
theorem TT.mixed : Try.prog.follows .mixedOrders = true := by kernel_rfl
abbrev Sp (f : FuncId) (As : List AVal) (r : AVal) : Prop := Eng.Spec Try.prog f As r
noncomputable def bodyOf (f : Func) : Code := f.body.getD .skip
structure OkS (g : Bool) (S : SpecT) : Prop where
 eq : S = { specs Try.prog with gc := g }
theorem gcOf {S : SpecT} (hS : OkS true S) : S.gc = true := by obtain ⟨rfl⟩ := hS; rfl
abbrev qb (bs : Nat → Nat) (i : Nat) : AVal := .s .u8 (bs i : Nat)
abbrev q0x128 (bs : Nat → Nat) : List AVal := [qb bs 0, qb bs 1, qb bs 2, qb bs 3, qb bs 4, qb bs 5, qb bs 6, qb bs 7, qb bs 8, qb bs 9, qb bs 10, qb bs 11, qb bs 12, qb bs 13, qb bs 14, qb bs 15, qb bs 16, qb bs 17, qb bs 18, qb bs 19, qb bs 20, qb bs 21, qb bs 22, qb bs 23, qb bs 24, qb bs 25, qb bs 26, qb bs 27, qb bs 28, qb bs 29, qb bs 30, qb bs 31, qb bs 32, qb bs 33, qb bs 34, qb bs 35, qb bs 36, qb bs 37, qb bs 38, qb bs 39, qb bs 40, qb bs 41, qb bs 42, qb bs 43, qb bs 44, qb bs 45, qb bs 46, qb bs 47, qb bs 48, qb bs 49, qb bs 50, qb bs 51, qb bs 52, qb bs 53, qb bs 54, qb bs 55, qb bs 56, qb bs 57, qb bs 58, qb bs 59, qb bs 60, qb bs 61, qb bs 62, qb bs 63, qb bs 64, qb bs 65, qb bs 66, qb bs 67, qb bs 68, qb bs 69, qb bs 70, qb bs 71, qb bs 72, qb bs 73, qb bs 74, qb bs 75, qb bs 76, qb bs 77, qb bs 78, qb bs 79, qb bs 80, qb bs 81, qb bs 82, qb bs 83, qb bs 84, qb bs 85, qb bs 86, qb bs 87, qb bs 88, qb bs 89, qb bs 90, qb bs 91, qb bs 92, qb bs 93, qb bs 94, qb bs 95, qb bs 96, qb bs 97, qb bs 98, qb bs 99, qb bs 100, qb bs 101, qb bs 102, qb bs 103, qb bs 104, qb bs 105, qb bs 106, qb bs 107, qb bs 108, qb bs 109, qb bs 110, qb bs 111, qb bs 112, qb bs 113, qb bs 114, qb bs 115, qb bs 116, qb bs 117, qb bs 118, qb bs 119, qb bs 120, qb bs 121, qb bs 122, qb bs 123, qb bs 124, qb bs 125, qb bs 126, qb bs 127]
abbrev q0x64 (bs : Nat → Nat) : List AVal := [qb bs 0, qb bs 1, qb bs 2, qb bs 3, qb bs 4, qb bs 5, qb bs 6, qb bs 7, qb bs 8, qb bs 9, qb bs 10, qb bs 11, qb bs 12, qb bs 13, qb bs 14, qb bs 15, qb bs 16, qb bs 17, qb bs 18, qb bs 19, qb bs 20, qb bs 21, qb bs 22, qb bs 23, qb bs 24, qb bs 25, qb bs 26, qb bs 27, qb bs 28, qb bs 29, qb bs 30, qb bs 31, qb bs 32, qb bs 33, qb bs 34, qb bs 35, qb bs 36, qb bs 37, qb bs 38, qb bs 39, qb bs 40, qb bs 41, qb bs 42, qb bs 43, qb bs 44, qb bs 45, qb bs 46, qb bs 47, qb bs 48, qb bs 49, qb bs 50, qb bs 51, qb bs 52, qb bs 53, qb bs 54, qb bs 55, qb bs 56, qb bs 57, qb bs 58, qb bs 59, qb bs 60, qb bs 61, qb bs 62, qb bs 63]
abbrev q0x48 (bs : Nat → Nat) : List AVal := [qb bs 0, qb bs 1, qb bs 2, qb bs 3, qb bs 4, qb bs 5, qb bs 6, qb bs 7, qb bs 8, qb bs 9, qb bs 10, qb bs 11, qb bs 12, qb bs 13, qb bs 14, qb bs 15, qb bs 16, qb bs 17, qb bs 18, qb bs 19, qb bs 20, qb bs 21, qb bs 22, qb bs 23, qb bs 24, qb bs 25, qb bs 26, qb bs 27, qb bs 28, qb bs 29, qb bs 30, qb bs 31, qb bs 32, qb bs 33, qb bs 34, qb bs 35, qb bs 36, qb bs 37, qb bs 38, qb bs 39, qb bs 40, qb bs 41, qb bs 42, qb bs 43, qb bs 44, qb bs 45, qb bs 46, qb bs 47]
abbrev q0x32 (bs : Nat → Nat) : List AVal := [qb bs 0, qb bs 1, qb bs 2, qb bs 3, qb bs 4, qb bs 5, qb bs 6, qb bs 7, qb bs 8, qb bs 9, qb bs 10, qb bs 11, qb bs 12, qb bs 13, qb bs 14, qb bs 15, qb bs 16, qb bs 17, qb bs 18, qb bs 19, qb bs 20, qb bs 21, qb bs 22, qb bs 23, qb bs 24, qb bs 25, qb bs 26, qb bs 27, qb bs 28, qb bs 29, qb bs 30, qb bs 31]
abbrev q32x64 (bs : Nat → Nat) : List AVal := [qb bs 32, qb bs 33, qb bs 34, qb bs 35, qb bs 36, qb bs 37, qb bs 38, qb bs 39, qb bs 40, qb bs 41, qb bs 42, qb bs 43, qb bs 44, qb bs 45, qb bs 46, qb bs 47, qb bs 48, qb bs 49, qb bs 50, qb bs 51, qb bs 52, qb bs 53, qb bs 54, qb bs 55, qb bs 56, qb bs 57, qb bs 58, qb bs 59, qb bs 60, qb bs 61, qb bs 62, qb bs 63]
abbrev q64x96 (bs : Nat → Nat) : List AVal := [qb bs 64, qb bs 65, qb bs 66, qb bs 67, qb bs 68, qb bs 69, qb bs 70, qb bs 71, qb bs 72, qb bs 73, qb bs 74, qb bs 75, qb bs 76, qb bs 77, qb bs 78, qb bs 79, qb bs 80, qb bs 81, qb bs 82, qb bs 83, qb bs 84, qb bs 85, qb bs 86, qb bs 87, qb bs 88, qb bs 89, qb bs 90, qb bs 91, qb bs 92, qb bs 93, qb bs 94, qb bs 95]
abbrev q96x128 (bs : Nat → Nat) : List AVal := [qb bs 96, qb bs 97, qb bs 98, qb bs 99, qb bs 100, qb bs 101, qb bs 102, qb bs 103, qb bs 104, qb bs 105, qb bs 106, qb bs 107, qb bs 108, qb bs 109, qb bs 110, qb bs 111, qb bs 112, qb bs 113, qb bs 114, qb bs 115, qb bs 116, qb bs 117, qb bs 118, qb bs 119, qb bs 120, qb bs 121, qb bs 122, qb bs 123, qb bs 124, qb bs 125, qb bs 126, qb bs 127]
theorem mk {f : FuncId} {fn : Func} {As : List AVal} {r : AVal} (hf : Try.prog.funcs[f]? = some fn) (hb : fn.body = some (bodyOf fn)) (hn : (fn.name == "runtime.NumGoroutine") = false) (Nl : Nat → Nat) (tr : Nat → Md)
   (hok : codeOK tr (bodyOf fn) = true) (h : ∀ (A : Ar) (S : SpecT), A = Ar.real → OkS true S → afun A TT S Nl tr fn.ntmps fn.results (bodyOf fn) As (fun x => Sim x r)) : Sp f As r :=
 spec_of_afunK (P := Try.prog) (T := TT) TT.ok TT.mixed (draw_ok (P := Try.prog) (T := TT) TT.ok) (Sp := specs Try.prog) ⟨fun _ _ _ h => h, fun _ _ _ _ _ h => h, fun _ _ _ _ h => h, fun _ => rfl⟩ rfl hf hb hn (N := Nl) (tr := tr) hok (h Ar.real _ rfl ⟨rfl⟩) fun _ h => h
theorem mkM {f : FuncId} {fn : Func} {h0 h1 : List Blk} {As : List AVal} {r : AVal} (hf : Try.prog.funcs[f]? = some fn) (hb : fn.body = some (bodyOf fn)) (hn : (fn.name == "runtime.NumGoroutine") = false) (Nl : Nat → Nat) (tr : Nat → Md)
   (hok : codeOK tr (bodyOf fn) = true) (h : ∀ (A : Ar) (S : SpecT), A = Ar.real → OkS false S → afunM A TT S Nl tr fn.ntmps fn.results (bodyOf fn) h0 As (fun r' k => r' = r ∧ k = h1)) : SpecM Try.prog f h0 As r h1 :=
 specM_of_afunM (P := Try.prog) (T := TT) TT.ok TT.mixed (draw_ok (P := Try.prog) (T := TT) TT.ok) (Sp := { specs Try.prog with gc := false }) ⟨fun _ _ _ h => h, fun _ _ _ _ _ h => h, fun _ _ _ _ h => h, fun _ => rfl⟩ rfl rfl hf hb hn (N := Nl) (tr := tr) hok (h Ar.real _ rfl ⟨rfl⟩)
theorem cf {g : Bool} {S : SpecT} (hS : OkS g S) {f : FuncId} {As : List AVal} {r : AVal} (h : Sp f As r) : S.fn f As r := by obtain ⟨rfl⟩ := hS; exact h
theorem cm {g : Bool} {S : SpecT} (hS : OkS g S) {f : FuncId} {h0 h1 : List Blk} {As : List AVal} {r : AVal} (h : SpecM Try.prog f h0 As r h1) : S.mu f h0 As r h1 := by obtain ⟨rfl⟩ := hS; exact h
theorem cs {g : Bool} {S : SpecT} (hS : OkS g S) {f : FuncId} {cap : List AVal} {n : Nat} {xs : Nat → List AVal} (h : SeqSp Try.prog f cap n xs) : S.seq f cap n xs := by obtain ⟨rfl⟩ := hS; exact h
def L0 : Nat → Nat := fun _ => 20
def R0 : Nat → Md := fun _ => .own
def R1 : Nat → Md := fun _ => .mid
def R2 : Nat → Md := fun _ => .all
theorem cg {g : Bool} {S : SpecT} (hS : OkS g S) {f : FuncId} {As As' : List AVal} {r : AVal} (h : Sp f As r) (ha : SimL As' As) : S.fn f As' r := by obtain ⟨rfl⟩ := hS; exact Spec.args h ha
inductive IsU : AVal → Int → Prop where
 | i (n : Int) : IsU (.i .u64 n) n
 | s (n : Int) : IsU (.s .u64 n) n
theorem IsU.rep {w : World} {X : Nat → Prop} {ρ : Nat → Option Nat} {v : Value} {x : AVal} {n : Int} (h : Rep w X ρ v x) (hu : IsU x n) : v = .int .u64 n := by
 cases hu with
 | i => exact h.i_inv
 | s => exact h.s_inv
theorem three_args {w : World} {X : Nat → Prop} {vs : List Value} {a b c : AVal} {x y z : Int} (h : RepL w X noρ vs [a, b, c]) (ha : IsU a x) (hb : IsU b y) (hc : IsU c z) : vs = [.int .u64 x, .int .u64 y, .int .u64 z] := by
 cases h with
 | cons h1 h => cases h with
   | cons h2 h => cases h with
     | cons h3 h => cases h with
       | nil => rw [ha.rep h1, hb.rep h2, hc.rep h3]
theorem out_pair {w0 w : World} {X : Nat → Prop} (o k : Int) : OutR w0 w X (.tuple #[.int .u64 o, .int .u64 k]) (.tup [.s .u64 o, .s .u64 k]) :=
 .inl ⟨[], [.int .u64 o, .int .u64 k], _, rfl, rfl, .nil, .tree _ _ (.s _ _) (.tree _ _ (.s _ _) .nil)⟩
theorem add64S {a b c : AVal} {x y z : Int} (ha : IsU a x) (hb : IsU b y) (hc : IsU c z) (hx : 0 ≤ x) (hy : 0 ≤ y) (hz : 0 ≤ z ∧ z ≤ 1) (o k : Int) (h : o + 18446744073709551616 * k = x + y + z) (ho : 0 ≤ o ∧ o < 18446744073709551616) :
   Sp 56 [a, b, c] (.tup [.s .u64 o, .s .u64 k]) := by
 intro X w vs hX hv
 rw [three_args hv ha hb hc]
 unfold CallsX
 rw [run_callFunc_extern Try.func56 (by kernel_rfl) (by kernel_rfl) (by kernel_rfl) (e := add64Entry) (by kernel_rfl), run_add64 x y z hx hy hz.1 hz.2]
 simp only [Result.andThen]
 obtain rfl : o = (x + y + z) % 18446744073709551616 := by omega
 obtain rfl : k = (x + y + z) / 18446744073709551616 := by omega
 exact ⟨Ext.refl _ w, out_pair _ _⟩
abbrev Lim := Nat → Nat → Int
def limR : Lim := fun a i => ((a / 2 ^ (64 * i) % 2 ^ 64 : Nat) : Int)
def u4 (lim : Lim) (a : Nat) : AVal := .agg [.s .u64 (lim a 0), .s .u64 (lim a 1), .s .u64 (lim a 2), .s .u64 (lim a 3)]
theorem lim_range {lim : Lim} (hl : lim = limR) (a i : Nat) : 0 ≤ lim a i ∧ lim a i < 18446744073709551616 := by
 subst hl
 unfold limR
 generalize a / 2 ^ (64 * i) = q
 omega
theorem lim_mod {lim : Lim} (hl : lim = limR) (a : Nat) : lim a 0 = ((a % 18446744073709551616 : Nat) : Int) := by subst hl; simp [limR]
theorem lim_succ {lim : Lim} (hl : lim = limR) (a i : Nat) : lim a (i + 1) = lim (a / 18446744073709551616) i := by
 subst hl
 unfold limR
 rw [show 64 * (i + 1) = 64 + 64 * i by omega, Nat.pow_add, ← Nat.div_div_eq_div_mul]
theorem uniq {x y p q : Int} (hx : 0 ≤ x ∧ x < 18446744073709551616) (hy : 0 ≤ y ∧ y < 18446744073709551616) (h : x + 18446744073709551616 * p = y + 18446744073709551616 * q) : x = y ∧ p = q := by omega
theorem split1 {lim : Lim} (hl : lim = limR) (a : Nat) : (a : Int) = lim a 0 + 18446744073709551616 * ((a / 18446744073709551616 : Nat) : Int) := by
 rw [lim_mod hl]; omega
theorem split4 {lim : Lim} (hl : lim = limR) (a : Nat) (ha : a < 2 ^ 256) : (a : Int) = lim a 0 + 18446744073709551616 * (lim a 1 + 18446744073709551616 * (lim a 2 + 18446744073709551616 * lim a 3)) := by
 rw [split1 hl a, lim_succ hl a 0, split1 hl (a / 18446744073709551616), lim_succ hl a 1, lim_succ hl _ 0, split1 hl (a / 18446744073709551616 / 18446744073709551616), lim_succ hl a 2, lim_succ hl _ 1, lim_succ hl _ 0,
   lim_mod hl (a / 18446744073709551616 / 18446744073709551616 / 18446744073709551616), Nat.mod_eq_of_lt (a := a / 18446744073709551616 / 18446744073709551616 / 18446744073709551616)]
 rw [Nat.div_div_eq_div_mul, Nat.div_div_eq_div_mul]
 exact Nat.div_lt_of_lt_mul (by simpa using ha)
theorem lim_of4 {lim : Lim} (hl : lim = limR) {a : Nat} (ha : a < 2 ^ 256) {x0 x1 x2 x3 : Int} (h0 : 0 ≤ x0 ∧ x0 < 18446744073709551616) (h1 : 0 ≤ x1 ∧ x1 < 18446744073709551616) (h2 : 0 ≤ x2 ∧ x2 < 18446744073709551616)
   (h : (a : Int) = x0 + 18446744073709551616 * (x1 + 18446744073709551616 * (x2 + 18446744073709551616 * x3))) : lim a 0 = x0 ∧ lim a 1 = x1 ∧ lim a 2 = x2 ∧ lim a 3 = x3 := by
 rw [split4 hl a ha] at h
 obtain ⟨e0, h⟩ := uniq (lim_range hl a 0) h0 h
 obtain ⟨e1, h⟩ := uniq (lim_range hl a 1) h1 h
 obtain ⟨e2, h⟩ := uniq (lim_range hl a 2) h2 h
 exact ⟨e0, e1, e2, h⟩
theorem carry {x y z : Int} (hx : 0 ≤ x ∧ x < 18446744073709551616) (hy : 0 ≤ y ∧ y < 18446744073709551616) (hz : 0 ≤ z ∧ z ≤ 1) : ∃ o k : Int, o + 18446744073709551616 * k = x + y + z ∧ (0 ≤ o ∧ o < 18446744073709551616) ∧ 0 ≤ k ∧ k ≤ 1 :=
 ⟨(x + y + z) % 18446744073709551616, (x + y + z) / 18446744073709551616, by omega, by omega, by omega⟩
theorem aF {g : Bool} {S : SpecT} (hS : OkS g S) {f : FuncId} {As : List AVal} {r : AVal} {K : AVal → Prop} (h : Sp f As r) (k : K r) : ACall S f As K := ACall.mk _ (cf hS h) k
theorem aG {g : Bool} {S : SpecT} (hS : OkS g S) {f : FuncId} {As As' : List AVal} {r : AVal} {K : AVal → Prop} (h : Sp f As r) (ha : SimL As' As) (k : K r) : ACall S f As' K := ACall.mk _ (cg hS h ha) k
theorem own : ownKnob Try.prog.godebug = none := by kernel_rfl
theorem laidOut : laidOutB Try.prog = true := by kernel_rfl
theorem calls_of {f : FuncId} {fn : Func} (hf : Try.prog.funcs[f]? = some fn) (hb : fn.body.isNone = false) (hn : (fn.name == "runtime.NumGoroutine") = false) {As : List AVal} {W : World} {vs : List Value}
   (hS : Sp f As (.sb true)) (hv : RepL W (fun _ => False) noρ vs As) : Calls Try.prog f vs.toArray W fun e W' => e = .returned (.bool true) ∧ Go.RowKit.Below W.heap.size W W' := by
 have h := hS (fun _ => False) W vs (fun _ h => h.elim) hv
 unfold CallsX at h
 rw [callFunc_body hf hn hb] at h
 refine Calls.mono h fun e W' ⟨v, he, hx, ho⟩ => ?_
 have hvb : v = .bool true := by
   rcases ho with ⟨N, vs, xs, _, h2, _⟩ | ⟨N, _, ho⟩
   . cases h2
   . cases ho with
     | tree _ _ hr _ => exact hr.sb_inv
 subst hvb
 exact ⟨he, ⟨hx.os, hx.tape, hx.output, hx.size, fun k hk => hx.block k hk fun h => h⟩⟩
end Go.Proofs.Ytkhipnhdbaahcaa
end
section
namespace Dg
def V (B : Nat) (o : Nat → Nat) : Nat → Nat
 | 0 => 0
 | n + 1 => V B o n + o n * B ^ n
def upd (o : Nat → Nat) (j v : Nat) : Nat → Nat := fun m => if m = j then v else o m
theorem upd_eq (o : Nat → Nat) (j v : Nat) : upd o j v j = v := if_pos rfl
theorem upd_ne (o : Nat → Nat) (j v m : Nat) (h : m ≠ j) : upd o j v m = o m := if_neg h
section
variable {B : Nat} {o p : Nat → Nat}
theorem V_congr : ∀ n, (∀ j, j < n → o j = p j) → V B o n = V B p n
 | 0, _ => rfl
 | n + 1, h => by rw [V, V, V_congr n (fun j hj => h j (by omega)), h n (by omega)]
theorem V_upd (o : Nat → Nat) (j v : Nat) : ∀ n, j < n → V B (upd o j v) n + o j * B ^ j = V B o n + v * B ^ j
 | 0, h => by omega
 | n + 1, h => by
   rw [V, V]
   by_cases e : j = n
   . subst e
     rw [upd_eq, V_congr (o := upd o j v) (p := o) j (fun m hm => upd_ne _ _ _ _ (by omega))]
     omega
   . rw [upd_ne _ _ _ _ (fun h => e h.symm)]
     have := V_upd o j v n (by omega)
     omega
theorem V_lt : ∀ n, (∀ j, j < n → o j < B) → V B o n < B ^ n
 | 0, _ => by simp [V]
 | n + 1, h => by
   have h1 := V_lt n (fun j hj => h j (by omega))
   have h2 : (o n + 1) * B ^ n ≤ B * B ^ n := Nat.mul_le_mul_right _ (h n (by omega))
   rw [V, Nat.pow_succ, Nat.mul_comm (B ^ n)]
   rw [Nat.add_mul, Nat.one_mul] at h2
   omega
theorem V_dig (hB : 0 < B) : ∀ n, (∀ j, j < n → o j < B) → ∀ j, j < n → V B o n / B ^ j % B = o j
 | 0, _, j, hj => by omega
 | n + 1, h, j, hj => by
   rw [V]
   have hp : 0 < B ^ j := Nat.pow_pos hB
   by_cases e : j = n
   . subst e
     rw [Nat.add_mul_div_right _ _ hp, Nat.div_eq_of_lt (V_lt j (fun i hi => h i (by omega))), Nat.zero_add, Nat.mod_eq_of_lt (h j (by omega))]
   . have ih := V_dig hB n (fun i hi => h i (by omega)) j (by omega)
     rw [show n = j + 1 + (n - j - 1) by omega, Nat.pow_add, Nat.pow_succ, ← show n = j + 1 + (n - j - 1) by omega]
     rw [show o n * (B ^ j * B * B ^ (n - j - 1)) = B ^ j * (B * (o n * B ^ (n - j - 1))) by ac_rfl]
     rw [Nat.add_mul_div_left _ _ hp, Nat.add_mul_mod_self_left]
     exact ih
theorem V_zero {n : Nat} (h : ∀ j, j < n → o j = 0) : V B o n = 0 := by
 induction n with
 | zero => rfl
 | succ n ih => rw [V, ih (fun j hj => h j (by omega)), h n (by omega), Nat.zero_mul]
theorem V_shift (o : Nat → Nat) (n : Nat) : ∀ k, V B o (n + k) = V B o n + B ^ n * V B (fun j => o (n + j)) k
 | 0 => by simp [V]
 | k + 1 => by
   rw [← Nat.add_assoc, V, V_shift o n k, V, Nat.mul_add, Nat.pow_add]
   have : B ^ n * (o (n + k) * B ^ k) = o (n + k) * (B ^ n * B ^ k) := Nat.mul_left_comm _ _ _
   omega
def dg (B a i : Nat) : Nat := a / B ^ i % B
theorem dg_lt (hB : 0 < B) (a i : Nat) : dg B a i < B := Nat.mod_lt _ hB
theorem V_dg {a : Nat} : ∀ n, V B (dg B a) n = a % B ^ n
 | 0 => by rw [V, Nat.pow_zero, Nat.mod_one]
 | n + 1 => by rw [V, V_dg n, Nat.mod_pow_succ, dg, Nat.mul_comm]
theorem V_of {a n : Nat} (hB : 0 < B) (ha : V B o n = a) (h : ∀ j, j < n → o j < B) {j : Nat} (hj : j < n) : o j = dg B a j := by
 rw [← ha]; exact (V_dig hB n h j hj).symm
theorem V_cmp_lt {n : Nat} (ho : ∀ j, j < n → o j < B) (hp : ∀ j, j < n → p j < B) {i : Nat} (hi : i < n) (he : ∀ j, i < j → j < n → o j = p j) (hl : o i < p i) : V B o n < V B p n := by
 have key : ∀ d, i + 1 + d ≤ n → V B o (i + 1 + d) < V B p (i + 1 + d) := by
   intro d
   induction d with
   | zero =>
     intro h
     show V B o i + o i * B ^ i < V B p i + p i * B ^ i
     have h1 := V_lt (B := B) (o := o) i (fun j hj => ho j (by omega))
     have h2 : (o i + 1) * B ^ i ≤ p i * B ^ i := Nat.mul_le_mul_right _ hl
     rw [Nat.add_mul, Nat.one_mul] at h2
     omega
   | succ d ih =>
     intro h
     show V B o (i + 1 + d) + o (i + 1 + d) * _ < V B p (i + 1 + d) + p (i + 1 + d) * _
     rw [he (i + 1 + d) (by omega) (by omega)]
     exact Nat.add_lt_add_right (ih (by omega)) _
 have := key (n - (i + 1)) (by omega)
 rwa [show i + 1 + (n - (i + 1)) = n by omega] at this
end
end Dg
end
section
namespace Go.Proofs.Ytkhipnhdbaahcaa
open Go Eng
namespace Kk
def rot (x k : Nat) : Nat := (x * 2 ^ k % 18446744073709551616) ||| (x / 2 ^ (64 - k))
def nt (x : Nat) : Nat := 18446744073709551615 ^^^ x
def turn : List Nat := [0, 1, 62, 28, 27, 36, 44, 6, 55, 20, 3, 10, 43, 25, 39, 41, 45, 15, 21, 8, 18, 2, 61, 56, 14]
def rcs : List Nat := [1, 32898, 9223372036854808714, 9223372039002292224, 32907, 2147483649, 9223372039002292353, 9223372036854808585, 138, 136, 2147516425, 2147483658, 2147516555, 9223372036854775947, 9223372036854808713, 9223372036854808579, 9223372036854808578, 9223372036854775936, 32778, 9223372039002259466, 9223372039002292353, 9223372036854808704, 2147483649, 9223372039002292232]
def cc (a : Nat → Nat) (x : Nat) : Nat := a x ^^^ a (x + 5) ^^^ a (x + 10) ^^^ a (x + 15) ^^^ a (x + 20)
def rr (a : Nat → Nat) (x : Nat) : Nat := rot (cc a x) 1
def a1 (a : Nat → Nat) (q : Nat) : Nat := a q ^^^ (cc a ((q % 5 + 4) % 5) ^^^ rr a ((q % 5 + 1) % 5))
def src (p : Nat) : Nat := (3 * (p / 5) + p % 5) % 5 + 5 * (p % 5)
def bb (a : Nat → Nat) (p : Nat) : Nat := rot (a1 a (src p)) (turn.getD (src p) 0)
def ch (b : Nat → Nat) (p : Nat) : Nat := b p ^^^ (nt (b ((p % 5 + 1) % 5 + 5 * (p / 5))) &&& b ((p % 5 + 2) % 5 + 5 * (p / 5)))
def rnd (rc : Nat) (a : Nat → Nat) (p : Nat) : Nat := if p = 0 then ch (bb a) 0 ^^^ rc else ch (bb a) p
def st (a : Nat → Nat) : Nat → Nat → Nat
 | 0 => a
 | i + 1 => rnd (rcs.getD i 0) (st a i)
theorem xor_lt {x y : Nat} (hx : x < 18446744073709551616) (hy : y < 18446744073709551616) : x ^^^ y < 18446744073709551616 := by
 have := Nat.xor_lt_two_pow (n := 64) (x := x) (y := y) (by simpa using hx) (by simpa using hy)
 simpa using this
theorem or_lt {x y : Nat} (hx : x < 18446744073709551616) (hy : y < 18446744073709551616) : x ||| y < 18446744073709551616 := by
 have := Nat.or_lt_two_pow (n := 64) (x := x) (y := y) (by simpa using hx) (by simpa using hy)
 simpa using this
theorem and_lt {x y : Nat} (hx : x < 18446744073709551616) : x &&& y < 18446744073709551616 := Nat.lt_of_le_of_lt Nat.and_le_left hx
theorem nt_lt {x : Nat} (hx : x < 18446744073709551616) : nt x < 18446744073709551616 := xor_lt (by decide) hx
theorem rot_lt {x k : Nat} (hx : x < 18446744073709551616) : rot x k < 18446744073709551616 := or_lt (Nat.mod_lt _ (by decide)) (Nat.lt_of_le_of_lt (Nat.div_le_self _ _) hx)
theorem cc_lt {a : Nat → Nat} (h : ∀ p, p < 25 → a p < 18446744073709551616) (x : Nat) (hx : x < 5) : cc a x < 18446744073709551616 :=
 xor_lt (xor_lt (xor_lt (xor_lt (h _ (by omega)) (h _ (by omega))) (h _ (by omega))) (h _ (by omega))) (h _ (by omega))
theorem a1_lt {a : Nat → Nat} (h : ∀ p, p < 25 → a p < 18446744073709551616) (q : Nat) (hq : q < 25) : a1 a q < 18446744073709551616 :=
 xor_lt (h _ hq) (xor_lt (cc_lt h _ (Nat.mod_lt _ (by decide))) (rot_lt (cc_lt h _ (Nat.mod_lt _ (by decide)))))
theorem src_lt (p : Nat) : src p < 25 := by unfold src; omega
theorem bb_lt {a : Nat → Nat} (h : ∀ p, p < 25 → a p < 18446744073709551616) (p : Nat) : bb a p < 18446744073709551616 := rot_lt (a1_lt h _ (src_lt p))
theorem ch_lt {b : Nat → Nat} (h : ∀ p, b p < 18446744073709551616) (p : Nat) : ch b p < 18446744073709551616 := xor_lt (h _) (and_lt (nt_lt (h _)))
theorem rc_lt (i : Nat) (hi : i < 24) : rcs.getD i 0 < 18446744073709551616 := by
 have : ∀ i, i < 24 → rcs.getD i 0 < 18446744073709551616 := by decide
 exact this i hi
theorem rnd_lt {rc : Nat} (hr : rc < 18446744073709551616) {a : Nat → Nat} (h : ∀ p, p < 25 → a p < 18446744073709551616) (p : Nat) : rnd rc a p < 18446744073709551616 := by
 unfold rnd
 split
 . exact xor_lt (ch_lt (bb_lt h) _) hr
 . exact ch_lt (bb_lt h) _
theorem st_lt {a : Nat → Nat} (h : ∀ p, p < 25 → a p < 18446744073709551616) : ∀ i, i ≤ 24 → ∀ p, p < 25 → st a i p < 18446744073709551616
 | 0, _, p, hp => h p hp
 | i + 1, hi, p, _ => rnd_lt (rc_lt i (by omega)) (st_lt h i (by omega)) p
def pad (f : Nat → Nat) (n j : Nat) : Nat := if j < n then f j else if j = n then (if j = 135 then 129 else 1) else if j = 135 then 128 else 0
def lane (g : Nat → Nat) (i : Nat) : Nat := if i < 17 then ((((((((g (8 * i + 7)) * 256 + g (8 * i + 6)) * 256 + g (8 * i + 5)) * 256 + g (8 * i + 4)) * 256 + g (8 * i + 3)) * 256 + g (8 * i + 2)) * 256 + g (8 * i + 1)) * 256 + g (8 * i)) else 0
theorem lane_lt {g : Nat → Nat} (h : ∀ j, g j < 256) (i : Nat) : lane g i < 18446744073709551616 := by
 unfold lane
 split
 . have h0 := h (8 * i); have h1 := h (8 * i + 1); have h2 := h (8 * i + 2); have h3 := h (8 * i + 3)
   have h4 := h (8 * i + 4); have h5 := h (8 * i + 5); have h6 := h (8 * i + 6); have h7 := h (8 * i + 7)
   omega
 . decide
theorem pad_lt {f : Nat → Nat} (h : ∀ j, f j < 256) (n j : Nat) : pad f n j < 256 := by
 unfold pad
 have := h j
 repeat' split
 all_goals omega
def hash (f : Nat → Nat) (n j : Nat) : Nat := st (lane (pad f n)) 24 (j / 8) / 2 ^ (8 * (j % 8)) % 256
theorem u_xor (a b : Nat) (ha : a < 18446744073709551616) (hb : b < 18446744073709551616) : rbin .xor .u64 (Int.ofNat a) (Int.ofNat b) = Int.ofNat (a ^^^ b) := by
 show IntKind.u64.wrap (((BitVec.ofInt IntKind.u64.bits (Int.ofNat a) ^^^ BitVec.ofInt IntKind.u64.bits (Int.ofNat b)).toNat : Nat) : Int) = _
 have h : (BitVec.ofInt IntKind.u64.bits (Int.ofNat a) ^^^ BitVec.ofInt IntKind.u64.bits (Int.ofNat b)).toNat = a ^^^ b := by
   rw [BitVec.toNat_xor]
   show (BitVec.ofInt 64 (Int.ofNat a)).toNat ^^^ (BitVec.ofInt 64 (Int.ofNat b)).toNat = _
   rw [bv_nat, bv_nat, Nat.mod_eq_of_lt ha, Nat.mod_eq_of_lt hb]
 rw [h, wrap_u64]
 have := xor_lt ha hb
 simp only [Int.ofNat_eq_natCast]
 omega
theorem u_not (a : Nat) (ha : a < 18446744073709551616) : run1 .xor .u64 (Int.ofNat a) = Int.ofNat (nt a) := by
 show rbin .xor .u64 (IntKind.max .u64) (Int.ofNat a) = _
 exact u_xor 18446744073709551615 a (by decide) ha
theorem rot_bin (x k : Nat) (hx : x < 18446744073709551616) (hk : k < 64) : rbin .or .u64 (rbin .shl .u64 (Int.ofNat x) (Int.ofNat k)) (rbin .shr .u64 (Int.ofNat x) (Int.ofNat (64 - k))) = Int.ofNat (rot x k) := by
 rw [u_shl x k (by omega), u_shr x (64 - k) (by omega)]
 exact u_or _ _ (Nat.mod_lt _ (by decide)) (Nat.lt_of_le_of_lt (Nat.div_le_self _ _) hx)
end Kk
theorem sum4 {a0 b0 o0 k1 a1 b1 o1 k2 a2 b2 o2 k3 a3 b3 o3 k4 : Int} {a b o k : Nat} (sa : (a : Int) = a0 + 18446744073709551616 * (a1 + 18446744073709551616 * (a2 + 18446744073709551616 * (a3)))) (sb : (b : Int) = b0 + 18446744073709551616 * (b1 + 18446744073709551616 * (b2 + 18446744073709551616 * (b3)))) (h : o + 2 ^ 256 * k = a + b) (ho : o < 2 ^ 256)
   (e0 : o0 + 18446744073709551616 * k1 = a0 + b0 + 0) (e1 : o1 + 18446744073709551616 * k2 = a1 + b1 + k1) (e2 : o2 + 18446744073709551616 * k3 = a2 + b2 + k2) (e3 : o3 + 18446744073709551616 * k4 = a3 + b3 + k3) (r0 : 0 ≤ o0 ∧ o0 < 18446744073709551616) (r1 : 0 ≤ o1 ∧ o1 < 18446744073709551616) (r2 : 0 ≤ o2 ∧ o2 < 18446744073709551616) (r3 : 0 ≤ o3 ∧ o3 < 18446744073709551616) :
   (o : Int) = o0 + 18446744073709551616 * (o1 + 18446744073709551616 * (o2 + 18446744073709551616 * (o3))) ∧ (k : Int) = k4 := by
 have hh : (o : Int) + 115792089237316195423570985008687907853269984665640564039457584007913129639936 * (k : Int) = (a : Int) + (b : Int) := by omega
 have ho' : (o : Int) < 115792089237316195423570985008687907853269984665640564039457584007913129639936 := by omega
 have ho2 : (0 : Int) ≤ o := by omega
 clear h ho
 rw [sa, sb] at hh
 clear sa sb
 omega
end Go.Proofs.Ytkhipnhdbaahcaa
end
