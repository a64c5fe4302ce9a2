import Derived.Test.YtlmlganfjnokiaaD
set_option linter.unusedVariables false
set_option linter.unusedSimpArgs false
namespace Go.Proofs.Ytlmlganfjnokiaa
open Go Eng
set_option maxRecDepth 100000
set_option exponentiation.threshold 2000

/-- A ring's cells. -/
def ring4 (lim : Lim) (m inv fast one two : Nat) : List AVal :=
  [.i .i64 1, .s .u64 (lim m 0), .s .u64 (lim m 1), .s .u64 (lim m 2), .s .u64 (lim m 3), .s .u64 inv, .s .i64 fast, .s .u64 (lim one 0), .s .u64 (lim one 1), .s .u64 (lim one 2), .s .u64 (lim one 3),
   .s .u64 (lim two 0), .s .u64 (lim two 1), .s .u64 (lim two 2), .s .u64 (lim two 3)]
def ring6 (lim : Lim) (m inv fast one two : Nat) : List AVal :=
  [.i .i64 1, .s .u64 (lim m 0), .s .u64 (lim m 1), .s .u64 (lim m 2), .s .u64 (lim m 3), .s .u64 (lim m 4), .s .u64 (lim m 5), .s .u64 inv, .s .i64 fast,
   .s .u64 (lim one 0), .s .u64 (lim one 1), .s .u64 (lim one 2), .s .u64 (lim one 3), .s .u64 (lim one 4), .s .u64 (lim one 5),
   .s .u64 (lim two 0), .s .u64 (lim two 1), .s .u64 (lim two 2), .s .u64 (lim two 3), .s .u64 (lim two 4), .s .u64 (lim two 5)]
end Go.Proofs.Ytlmlganfjnokiaa
