/-
  No cell of these rows narrows 'for every input' (looked for: loops, veiled, ifaces, maps, wideKeys, modest, calm, conditions, laid).
  DERIVED. THE GIVEN ROWS OF THIS SEAT. 3 by the template 'for every input the law returns true; each argument reads behind the call as it read before'; 0 by the template 'total and deterministic' (their statements: YtkhipnhdbaahcaaTotals.lean).
  GIVEN WITH THE SEED: the statements are not yours to turn. If you find one false, say at which input.
  Laid BY PROGRAM, IN A SANDBOX (cutbox-rows.mjs): the forced cells as the released guide's own fill.sh prints them over the translation 9b08197e1d5421c9… (all of the seat's roots in one cut). By AI agents, Wed Nov 11 2026. No macro, syntax, notation, axiom, sorry.
-/
import Derived.Test.YtkhipnhdbaahcaaChecked
import GoSem.Claim
import GoSem.ClaimJoined
import GoSem.ClaimMapViews
import Derived.JoinedTies
import Derived.KernelRfl
namespace Go.Proofs.Ytkhipnhdbaahcaa
/- THE CELL 'sum', in the pinned program and in every row, IS THE sha256 OF THE DUMP (.gsa) THAT YtkhipnhdbaahcaaProg.lean LOADS. Nothing in Lean hashes anything: it is a label: what it is worth is what the hold of that sum in a sandbox is worth. -/
noncomputable def Try.pinned : Pinned := { name := "ytkhipnhdbaahcaa", sum := "9b08197e1d5421c9eb8da50595efcaa689e97559af30aa35bfb7eb55ed126f60", checked := Try.checked }
namespace Rows
def none {H : Type} : Left H := { results := [], args := [] }

/-- 'cairnlaw21.HeaderDearer': WHATEVER THE INPUT: true; the input reads as it did. -/
def headerDearerSpec : ChangeSpec := { name := "headerDearer", fn := fun _ => fun
  | [d1, d2] => { results := [.lit (.bool true)], args := [d1, d2] }
  | _ => none }
def headerDearerRow : OpenClaim := { program := "ytkhipnhdbaahcaa", sum := "9b08197e1d5421c9eb8da50595efcaa689e97559af30aa35bfb7eb55ed126f60", func := "cairn/cairnlaw21.HeaderDearer", spec := "headerDearer", inPlace := ["math/bits.Add64", "math/bits.Sub64"], named := ["math/bits.divideError", "math/bits.overflowError"], apart := false }
def HeaderDearerSaid : Prop := headerDearerRow.holds Try.pinned (OpenSpec.ofChange headerDearerSpec)

/-- ITS FALSE NEIGHBOUR: 'it returns false'. Refute it at one input. -/
def headerDearerWrong : ChangeSpec := { name := "headerDearer", fn := fun _ => fun
  | [d1, d2] => { results := [.lit (.bool false)], args := [d1, d2] }
  | _ => none }
def HeaderDearerWrongFalsely : Prop := headerDearerRow.holds Try.pinned (OpenSpec.ofChange headerDearerWrong)

/-- 'cairnlaw21.HeaderSlow': WHATEVER THE INPUT: true; the input reads as it did. -/
def headerSlowSpec : ChangeSpec := { name := "headerSlow", fn := fun _ => fun
  | [d] => { results := [.lit (.bool true)], args := [d] }
  | _ => none }
def headerSlowRow : OpenClaim := { program := "ytkhipnhdbaahcaa", sum := "9b08197e1d5421c9eb8da50595efcaa689e97559af30aa35bfb7eb55ed126f60", func := "cairn/cairnlaw21.HeaderSlow", spec := "headerSlow", inPlace := ["math/bits.Add64", "math/bits.Sub64"], named := ["math/bits.divideError", "math/bits.overflowError"], apart := false }
def HeaderSlowSaid : Prop := headerSlowRow.holds Try.pinned (OpenSpec.ofChange headerSlowSpec)

/-- ITS FALSE NEIGHBOUR: 'it returns false'. Refute it at one input. -/
def headerSlowWrong : ChangeSpec := { name := "headerSlow", fn := fun _ => fun
  | [d] => { results := [.lit (.bool false)], args := [d] }
  | _ => none }
def HeaderSlowWrongFalsely : Prop := headerSlowRow.holds Try.pinned (OpenSpec.ofChange headerSlowWrong)

/-- 'cairnlaw06.SecpProves': WHATEVER THE INPUT: true; the input reads as it did. -/
def secpProvesSpec : ChangeSpec := { name := "secpProves", fn := fun _ => fun
  | [d1, d2] => { results := [.lit (.bool true)], args := [d1, d2] }
  | _ => none }
def secpProvesRow : OpenClaim := { program := "ytkhipnhdbaahcaa", sum := "9b08197e1d5421c9eb8da50595efcaa689e97559af30aa35bfb7eb55ed126f60", func := "cairn/cairnlaw06.SecpProves", spec := "secpProves", inPlace := ["math/bits.Add64", "math/bits.Sub64"], unfollowed := true, recurses := true, named := ["math/bits.divideError", "math/bits.overflowError"], apart := false }
def SecpProvesSaid : Prop := secpProvesRow.holds Try.pinned (OpenSpec.ofChange secpProvesSpec)

/-- ITS FALSE NEIGHBOUR: 'it returns false'. Refute it at one input. -/
def secpProvesWrong : ChangeSpec := { name := "secpProves", fn := fun _ => fun
  | [d1, d2] => { results := [.lit (.bool false)], args := [d1, d2] }
  | _ => none }
def SecpProvesWrongFalsely : Prop := secpProvesRow.holds Try.pinned (OpenSpec.ofChange secpProvesWrong)

/- THE SECOND FORM. 'bulk': how many values and letters a reading holds, each counted each time it is reached (what is shared counts as often as it is met; a slice's spare places count too). A statement '..UptoSaid' is the law's where the arguments, and the package variables that the reading takes, are together of bulk at most 1048576: NARROWER than '..Said'. Prove '..Said' where nothing that the law and all that it calls make is longer than what came in: it says more and counts as full. Else prove '..UptoSaid'. A law counts once. -/
mutual
def uptoBulk {H : Type} : DataW H → Nat
  | .lit (.string bytes) => bytes.length + 1
  | .lit _ => 1
  | .nil => 1
  | .ptr d => uptoBulk d + 1
  | .slice elems spare => uptoBulkAll elems + uptoBulkAll spare + 1
  | .agg parts => uptoBulkAll parts + 1
  | .iface _ d => uptoBulk d + 1
  | .map entries => uptoBulkEntries entries + 1
  | .held _ => 1
def uptoBulkAll {H : Type} : List (DataW H) → Nat
  | [] => 0
  | d :: r => uptoBulk d + uptoBulkAll r
def uptoBulkEntries {H : Type} : List (Lit × DataW H) → Nat
  | [] => 0
  | x :: r => uptoBulkEntry x + uptoBulkEntries r
def uptoBulkEntry {H : Type} : Lit × DataW H → Nat
  | (.string bytes, d) => bytes.length + uptoBulk d + 1
  | (_, d) => uptoBulk d + 1
 end
def uptoSmall : (H : Type) → List (DataW H) → Bool := fun _ ds => decide (uptoBulkAll ds ≤ 1048576)
def OpenSpec.upto (s : _root_.Go.ChangeSpec) : _root_.Go.OpenSpec := { _root_.Go.OpenSpec.ofChange s with cond := some uptoSmall }

/-- 'cairnlaw21.HeaderDearer', WHERE WHAT IT READS IS OF BULK AT MOST 1048576: true; the input reads as it did. -/
def headerDearerUptoRow : OpenClaim := { program := "ytkhipnhdbaahcaa", sum := "9b08197e1d5421c9eb8da50595efcaa689e97559af30aa35bfb7eb55ed126f60", func := "cairn/cairnlaw21.HeaderDearer", spec := "headerDearer", inPlace := ["math/bits.Add64", "math/bits.Sub64"], named := ["math/bits.divideError", "math/bits.overflowError"], apart := false, narrowed := true }
def HeaderDearerUptoSaid : Prop := headerDearerUptoRow.holds Try.pinned (OpenSpec.upto headerDearerSpec)

/-- 'cairnlaw21.HeaderSlow', WHERE WHAT IT READS IS OF BULK AT MOST 1048576: true; the input reads as it did. -/
def headerSlowUptoRow : OpenClaim := { program := "ytkhipnhdbaahcaa", sum := "9b08197e1d5421c9eb8da50595efcaa689e97559af30aa35bfb7eb55ed126f60", func := "cairn/cairnlaw21.HeaderSlow", spec := "headerSlow", inPlace := ["math/bits.Add64", "math/bits.Sub64"], named := ["math/bits.divideError", "math/bits.overflowError"], apart := false, narrowed := true }
def HeaderSlowUptoSaid : Prop := headerSlowUptoRow.holds Try.pinned (OpenSpec.upto headerSlowSpec)

/-- 'cairnlaw06.SecpProves', WHERE WHAT IT READS IS OF BULK AT MOST 1048576: true; the input reads as it did. -/
def secpProvesUptoRow : OpenClaim := { program := "ytkhipnhdbaahcaa", sum := "9b08197e1d5421c9eb8da50595efcaa689e97559af30aa35bfb7eb55ed126f60", func := "cairn/cairnlaw06.SecpProves", spec := "secpProves", inPlace := ["math/bits.Add64", "math/bits.Sub64"], unfollowed := true, recurses := true, named := ["math/bits.divideError", "math/bits.overflowError"], apart := false, narrowed := true }
def SecpProvesUptoSaid : Prop := secpProvesUptoRow.holds Try.pinned (OpenSpec.upto secpProvesSpec)

end Rows
end Go.Proofs.Ytkhipnhdbaahcaa
