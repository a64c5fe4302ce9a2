/-
  No cell of these rows narrows 'for every input' (looked for: loops, veiled, ifaces, maps, wideKeys, modest, calm, conditions, laid).
  DERIVED. THE GIVEN ROWS OF THIS SEAT. 7 by the template 'for every input the law returns true; each argument reads behind the call as it read before'; 0 by the template 'total and deterministic' (their statements: YtkhipnhdbaahcaaGreatTotals.lean).
  GIVEN WITH THE SEED: the statements are not yours to turn. If you find one false, say at which input.
  Laid BY PROGRAM, IN A SANDBOX (cutbox-rows.mjs): the forced cells as the released guide's own fill.sh prints them over the translation 35425221f6fda60b… (all of the seat's roots in one cut). By AI agents, Wed Nov 11 2026. No macro, syntax, notation, axiom, sorry.
-/
import Derived.Test.YtkhipnhdbaahcaaGreatChecked
import GoSem.Claim
import GoSem.ClaimJoined
import GoSem.ClaimMapViews
import Derived.JoinedTies
import Derived.KernelRfl
namespace Go.Proofs.YtkhipnhdbaahcaaGreat
/- THE CELL 'sum', in the pinned program and in every row, IS THE sha256 OF THE DUMP (.gsa) THAT YtkhipnhdbaahcaaGreatProg.lean LOADS. Nothing in Lean hashes anything: it is a label: what it is worth is what the hold of that sum in a sandbox is worth. -/
noncomputable def Tryz.pinned : Pinned := { name := "ytkhipnhdbaahcaagreat", sum := "35425221f6fda60b70bc6599e0b16cd707f0021d0fb6439053b3a0f10765e07f", checked := Tryz.checked }
namespace Rows
def none {H : Type} : Left H := { results := [], args := [] }

/-- 'cairnlaw06.SecpLifts': WHATEVER THE INPUT: true; the input reads as it did. -/
def secpLiftsSpec : ChangeSpec := { name := "secpLifts", fn := fun _ => fun
  | [d1, d2] => { results := [.lit (.bool true)], args := [d1, d2] }
  | _ => none }
def secpLiftsRow : OpenClaim := { program := "ytkhipnhdbaahcaagreat", sum := "35425221f6fda60b70bc6599e0b16cd707f0021d0fb6439053b3a0f10765e07f", func := "cairn/cairnlaw06.SecpLifts", spec := "secpLifts", inPlace := ["math/bits.Add64", "math/bits.Sub64"], unfollowed := true, recurses := true, named := ["math/bits.divideError", "math/bits.overflowError"], apart := false }
def SecpLiftsSaid : Prop := secpLiftsRow.holds Tryz.pinned (OpenSpec.ofChange secpLiftsSpec)

/-- ITS FALSE NEIGHBOUR: 'it returns false'. Refute it at one input. -/
def secpLiftsWrong : ChangeSpec := { name := "secpLifts", fn := fun _ => fun
  | [d1, d2] => { results := [.lit (.bool false)], args := [d1, d2] }
  | _ => none }
def SecpLiftsWrongFalsely : Prop := secpLiftsRow.holds Tryz.pinned (OpenSpec.ofChange secpLiftsWrong)

/-- 'cairnlaw06.SecpPoints': WHATEVER THE INPUT: true; the input reads as it did. -/
def secpPointsSpec : ChangeSpec := { name := "secpPoints", fn := fun _ => fun
  | [d1, d2, d3] => { results := [.lit (.bool true)], args := [d1, d2, d3] }
  | _ => none }
def secpPointsRow : OpenClaim := { program := "ytkhipnhdbaahcaagreat", sum := "35425221f6fda60b70bc6599e0b16cd707f0021d0fb6439053b3a0f10765e07f", func := "cairn/cairnlaw06.SecpPoints", spec := "secpPoints", inPlace := ["math/bits.Add64", "math/bits.Sub64"], unfollowed := true, recurses := true, named := ["math/bits.divideError", "math/bits.overflowError"], apart := false }
def SecpPointsSaid : Prop := secpPointsRow.holds Tryz.pinned (OpenSpec.ofChange secpPointsSpec)

/-- ITS FALSE NEIGHBOUR: 'it returns false'. Refute it at one input. -/
def secpPointsWrong : ChangeSpec := { name := "secpPoints", fn := fun _ => fun
  | [d1, d2, d3] => { results := [.lit (.bool false)], args := [d1, d2, d3] }
  | _ => none }
def SecpPointsWrongFalsely : Prop := secpPointsRow.holds Tryz.pinned (OpenSpec.ofChange secpPointsWrong)

/-- 'cairnlaw06.SecpGroup': WHATEVER THE INPUT: true; the input reads as it did. -/
def secpGroupSpec : ChangeSpec := { name := "secpGroup", fn := fun _ => fun
  | [d1, d2, d3, d4, d5] => { results := [.lit (.bool true)], args := [d1, d2, d3, d4, d5] }
  | _ => none }
def secpGroupRow : OpenClaim := { program := "ytkhipnhdbaahcaagreat", sum := "35425221f6fda60b70bc6599e0b16cd707f0021d0fb6439053b3a0f10765e07f", func := "cairn/cairnlaw06.SecpGroup", spec := "secpGroup", inPlace := ["math/bits.Add64", "math/bits.Sub64"], unfollowed := true, recurses := true, named := ["math/bits.divideError", "math/bits.overflowError"], apart := false }
def SecpGroupSaid : Prop := secpGroupRow.holds Tryz.pinned (OpenSpec.ofChange secpGroupSpec)

/-- ITS FALSE NEIGHBOUR: 'it returns false'. Refute it at one input. -/
def secpGroupWrong : ChangeSpec := { name := "secpGroup", fn := fun _ => fun
  | [d1, d2, d3, d4, d5] => { results := [.lit (.bool false)], args := [d1, d2, d3, d4, d5] }
  | _ => none }
def SecpGroupWrongFalsely : Prop := secpGroupRow.holds Tryz.pinned (OpenSpec.ofChange secpGroupWrong)

/-- 'cairnlaw06.SecpKeys': WHATEVER THE INPUT: true; the input reads as it did. -/
def secpKeysSpec : ChangeSpec := { name := "secpKeys", fn := fun _ => fun
  | [d1, d2, d3, d4] => { results := [.lit (.bool true)], args := [d1, d2, d3, d4] }
  | _ => none }
def secpKeysRow : OpenClaim := { program := "ytkhipnhdbaahcaagreat", sum := "35425221f6fda60b70bc6599e0b16cd707f0021d0fb6439053b3a0f10765e07f", func := "cairn/cairnlaw06.SecpKeys", spec := "secpKeys", inPlace := ["math/bits.Add64", "math/bits.Sub64"], unfollowed := true, recurses := true, named := ["math/bits.divideError", "math/bits.overflowError"], apart := false }
def SecpKeysSaid : Prop := secpKeysRow.holds Tryz.pinned (OpenSpec.ofChange secpKeysSpec)

/-- ITS FALSE NEIGHBOUR: 'it returns false'. Refute it at one input. -/
def secpKeysWrong : ChangeSpec := { name := "secpKeys", fn := fun _ => fun
  | [d1, d2, d3, d4] => { results := [.lit (.bool false)], args := [d1, d2, d3, d4] }
  | _ => none }
def SecpKeysWrongFalsely : Prop := secpKeysRow.holds Tryz.pinned (OpenSpec.ofChange secpKeysWrong)

/-- 'cairnlaw06.SecpRecovers': WHATEVER THE INPUT: true; the input reads as it did. -/
def secpRecoversSpec : ChangeSpec := { name := "secpRecovers", fn := fun _ => fun
  | [d1, d2, d3] => { results := [.lit (.bool true)], args := [d1, d2, d3] }
  | _ => none }
def secpRecoversRow : OpenClaim := { program := "ytkhipnhdbaahcaagreat", sum := "35425221f6fda60b70bc6599e0b16cd707f0021d0fb6439053b3a0f10765e07f", func := "cairn/cairnlaw06.SecpRecovers", spec := "secpRecovers", inPlace := ["math/bits.Add64", "math/bits.Sub64"], unfollowed := true, recurses := true, named := ["math/bits.divideError", "math/bits.overflowError"], apart := false }
def SecpRecoversSaid : Prop := secpRecoversRow.holds Tryz.pinned (OpenSpec.ofChange secpRecoversSpec)

/-- ITS FALSE NEIGHBOUR: 'it returns false'. Refute it at one input. -/
def secpRecoversWrong : ChangeSpec := { name := "secpRecovers", fn := fun _ => fun
  | [d1, d2, d3] => { results := [.lit (.bool false)], args := [d1, d2, d3] }
  | _ => none }
def SecpRecoversWrongFalsely : Prop := secpRecoversRow.holds Tryz.pinned (OpenSpec.ofChange secpRecoversWrong)

/-- 'cairnlaw06.SecpSigns': WHATEVER THE INPUT: true; the input reads as it did. -/
def secpSignsSpec : ChangeSpec := { name := "secpSigns", fn := fun _ => fun
  | [d1, d2, d3] => { results := [.lit (.bool true)], args := [d1, d2, d3] }
  | _ => none }
def secpSignsRow : OpenClaim := { program := "ytkhipnhdbaahcaagreat", sum := "35425221f6fda60b70bc6599e0b16cd707f0021d0fb6439053b3a0f10765e07f", func := "cairn/cairnlaw06.SecpSigns", spec := "secpSigns", inPlace := ["math/bits.Add64", "math/bits.Sub64"], unfollowed := true, recurses := true, named := ["math/bits.divideError", "math/bits.overflowError"], apart := false }
def SecpSignsSaid : Prop := secpSignsRow.holds Tryz.pinned (OpenSpec.ofChange secpSignsSpec)

/-- ITS FALSE NEIGHBOUR: 'it returns false'. Refute it at one input. -/
def secpSignsWrong : ChangeSpec := { name := "secpSigns", fn := fun _ => fun
  | [d1, d2, d3] => { results := [.lit (.bool false)], args := [d1, d2, d3] }
  | _ => none }
def SecpSignsWrongFalsely : Prop := secpSignsRow.holds Tryz.pinned (OpenSpec.ofChange secpSignsWrong)

/-- 'cairnlaw06.SecpOwns': WHATEVER THE INPUT: true; the input reads as it did. -/
def secpOwnsSpec : ChangeSpec := { name := "secpOwns", fn := fun _ => fun
  | [d1, d2, d3, d4] => { results := [.lit (.bool true)], args := [d1, d2, d3, d4] }
  | _ => none }
def secpOwnsRow : OpenClaim := { program := "ytkhipnhdbaahcaagreat", sum := "35425221f6fda60b70bc6599e0b16cd707f0021d0fb6439053b3a0f10765e07f", func := "cairn/cairnlaw06.SecpOwns", spec := "secpOwns", inPlace := ["math/bits.Add64", "math/bits.Sub64"], unfollowed := true, recurses := true, named := ["math/bits.divideError", "math/bits.overflowError"], apart := false }
def SecpOwnsSaid : Prop := secpOwnsRow.holds Tryz.pinned (OpenSpec.ofChange secpOwnsSpec)

/-- ITS FALSE NEIGHBOUR: 'it returns false'. Refute it at one input. -/
def secpOwnsWrong : ChangeSpec := { name := "secpOwns", fn := fun _ => fun
  | [d1, d2, d3, d4] => { results := [.lit (.bool false)], args := [d1, d2, d3, d4] }
  | _ => none }
def SecpOwnsWrongFalsely : Prop := secpOwnsRow.holds Tryz.pinned (OpenSpec.ofChange secpOwnsWrong)

/- THE SECOND FORM. 'bulk': how many values and letters a reading holds, each counted each time it is reached (what is shared counts as often as it is met; a slice's spare places count too). A statement '..UptoSaid' is the law's where the arguments, and the package variables that the reading takes, are together of bulk at most 1048576: NARROWER than '..Said'. Prove '..Said' where nothing that the law and all that it calls make is longer than what came in: it says more and counts as full. Else prove '..UptoSaid'. A law counts once. -/
mutual
def uptoBulk {H : Type} : DataW H → Nat
  | .lit (.string bytes) => bytes.length + 1
  | .lit _ => 1
  | .nil => 1
  | .ptr d => uptoBulk d + 1
  | .slice elems spare => uptoBulkAll elems + uptoBulkAll spare + 1
  | .agg parts => uptoBulkAll parts + 1
  | .iface _ d => uptoBulk d + 1
  | .map entries => uptoBulkEntries entries + 1
  | .held _ => 1
def uptoBulkAll {H : Type} : List (DataW H) → Nat
  | [] => 0
  | d :: r => uptoBulk d + uptoBulkAll r
def uptoBulkEntries {H : Type} : List (Lit × DataW H) → Nat
  | [] => 0
  | x :: r => uptoBulkEntry x + uptoBulkEntries r
def uptoBulkEntry {H : Type} : Lit × DataW H → Nat
  | (.string bytes, d) => bytes.length + uptoBulk d + 1
  | (_, d) => uptoBulk d + 1
 end
def uptoSmall : (H : Type) → List (DataW H) → Bool := fun _ ds => decide (uptoBulkAll ds ≤ 1048576)
def OpenSpec.upto (s : _root_.Go.ChangeSpec) : _root_.Go.OpenSpec := { _root_.Go.OpenSpec.ofChange s with cond := some uptoSmall }

/-- 'cairnlaw06.SecpLifts', WHERE WHAT IT READS IS OF BULK AT MOST 1048576: true; the input reads as it did. -/
def secpLiftsUptoRow : OpenClaim := { program := "ytkhipnhdbaahcaagreat", sum := "35425221f6fda60b70bc6599e0b16cd707f0021d0fb6439053b3a0f10765e07f", func := "cairn/cairnlaw06.SecpLifts", spec := "secpLifts", inPlace := ["math/bits.Add64", "math/bits.Sub64"], unfollowed := true, recurses := true, named := ["math/bits.divideError", "math/bits.overflowError"], apart := false, narrowed := true }
def SecpLiftsUptoSaid : Prop := secpLiftsUptoRow.holds Tryz.pinned (OpenSpec.upto secpLiftsSpec)

/-- 'cairnlaw06.SecpPoints', WHERE WHAT IT READS IS OF BULK AT MOST 1048576: true; the input reads as it did. -/
def secpPointsUptoRow : OpenClaim := { program := "ytkhipnhdbaahcaagreat", sum := "35425221f6fda60b70bc6599e0b16cd707f0021d0fb6439053b3a0f10765e07f", func := "cairn/cairnlaw06.SecpPoints", spec := "secpPoints", inPlace := ["math/bits.Add64", "math/bits.Sub64"], unfollowed := true, recurses := true, named := ["math/bits.divideError", "math/bits.overflowError"], apart := false, narrowed := true }
def SecpPointsUptoSaid : Prop := secpPointsUptoRow.holds Tryz.pinned (OpenSpec.upto secpPointsSpec)

/-- 'cairnlaw06.SecpGroup', WHERE WHAT IT READS IS OF BULK AT MOST 1048576: true; the input reads as it did. -/
def secpGroupUptoRow : OpenClaim := { program := "ytkhipnhdbaahcaagreat", sum := "35425221f6fda60b70bc6599e0b16cd707f0021d0fb6439053b3a0f10765e07f", func := "cairn/cairnlaw06.SecpGroup", spec := "secpGroup", inPlace := ["math/bits.Add64", "math/bits.Sub64"], unfollowed := true, recurses := true, named := ["math/bits.divideError", "math/bits.overflowError"], apart := false, narrowed := true }
def SecpGroupUptoSaid : Prop := secpGroupUptoRow.holds Tryz.pinned (OpenSpec.upto secpGroupSpec)

/-- 'cairnlaw06.SecpKeys', WHERE WHAT IT READS IS OF BULK AT MOST 1048576: true; the input reads as it did. -/
def secpKeysUptoRow : OpenClaim := { program := "ytkhipnhdbaahcaagreat", sum := "35425221f6fda60b70bc6599e0b16cd707f0021d0fb6439053b3a0f10765e07f", func := "cairn/cairnlaw06.SecpKeys", spec := "secpKeys", inPlace := ["math/bits.Add64", "math/bits.Sub64"], unfollowed := true, recurses := true, named := ["math/bits.divideError", "math/bits.overflowError"], apart := false, narrowed := true }
def SecpKeysUptoSaid : Prop := secpKeysUptoRow.holds Tryz.pinned (OpenSpec.upto secpKeysSpec)

/-- 'cairnlaw06.SecpRecovers', WHERE WHAT IT READS IS OF BULK AT MOST 1048576: true; the input reads as it did. -/
def secpRecoversUptoRow : OpenClaim := { program := "ytkhipnhdbaahcaagreat", sum := "35425221f6fda60b70bc6599e0b16cd707f0021d0fb6439053b3a0f10765e07f", func := "cairn/cairnlaw06.SecpRecovers", spec := "secpRecovers", inPlace := ["math/bits.Add64", "math/bits.Sub64"], unfollowed := true, recurses := true, named := ["math/bits.divideError", "math/bits.overflowError"], apart := false, narrowed := true }
def SecpRecoversUptoSaid : Prop := secpRecoversUptoRow.holds Tryz.pinned (OpenSpec.upto secpRecoversSpec)

/-- 'cairnlaw06.SecpSigns', WHERE WHAT IT READS IS OF BULK AT MOST 1048576: true; the input reads as it did. -/
def secpSignsUptoRow : OpenClaim := { program := "ytkhipnhdbaahcaagreat", sum := "35425221f6fda60b70bc6599e0b16cd707f0021d0fb6439053b3a0f10765e07f", func := "cairn/cairnlaw06.SecpSigns", spec := "secpSigns", inPlace := ["math/bits.Add64", "math/bits.Sub64"], unfollowed := true, recurses := true, named := ["math/bits.divideError", "math/bits.overflowError"], apart := false, narrowed := true }
def SecpSignsUptoSaid : Prop := secpSignsUptoRow.holds Tryz.pinned (OpenSpec.upto secpSignsSpec)

/-- 'cairnlaw06.SecpOwns', WHERE WHAT IT READS IS OF BULK AT MOST 1048576: true; the input reads as it did. -/
def secpOwnsUptoRow : OpenClaim := { program := "ytkhipnhdbaahcaagreat", sum := "35425221f6fda60b70bc6599e0b16cd707f0021d0fb6439053b3a0f10765e07f", func := "cairn/cairnlaw06.SecpOwns", spec := "secpOwns", inPlace := ["math/bits.Add64", "math/bits.Sub64"], unfollowed := true, recurses := true, named := ["math/bits.divideError", "math/bits.overflowError"], apart := false, narrowed := true }
def SecpOwnsUptoSaid : Prop := secpOwnsUptoRow.holds Tryz.pinned (OpenSpec.upto secpOwnsSpec)

end Rows
end Go.Proofs.YtkhipnhdbaahcaaGreat
