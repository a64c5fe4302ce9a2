/-
  No cell of these rows narrows 'for every input' (looked for: loops, veiled, ifaces, maps, wideKeys, modest, calm, conditions, laid).
  DERIVED. THE GIVEN ROWS OF THIS SEAT. 9 by the template 'for every input the law returns true; each argument reads behind the call as it read before'; 0 by the template 'total and deterministic' (their statements: YtmholgclgamnnaaGreatTotals.lean).
  GIVEN WITH THE SEED: the statements are not yours to turn. If you find one false, say at which input.
  Laid BY PROGRAM, IN A SANDBOX (cutbox-rows.mjs): the forced cells as the released guide's own fill.sh prints them over the translation 5d772f24cf8dea91… (all of the seat's roots in one cut). By AI agents, Wed Nov 11 2026. No macro, syntax, notation, axiom, sorry.
-/
import Derived.Test.YtmholgclgamnnaaGreatChecked
import GoSem.Claim
import GoSem.ClaimJoined
import GoSem.ClaimMapViews
import Derived.JoinedTies
import Derived.KernelRfl
namespace Go.Proofs.YtmholgclgamnnaaGreat
/- THE CELL 'sum', in the pinned program and in every row, IS THE sha256 OF THE DUMP (.gsa) THAT YtmholgclgamnnaaGreatProg.lean LOADS. Nothing in Lean hashes anything: it is a label: what it is worth is what the hold of that sum in a sandbox is worth. -/
noncomputable def Tryz.pinned : Pinned := { name := "ytmholgclgamnnaagreat", sum := "5d772f24cf8dea91d6f52f471398a9d68ce541f7e93ad6f34a67df4061594708", checked := Tryz.checked }
namespace Rows
def none {H : Type} : Left H := { results := [], args := [] }

/-- 'cairnlaw07.CurveBls1': WHATEVER THE INPUT: true; the input reads as it did. -/
def curveBls1Spec : ChangeSpec := { name := "curveBls1", fn := fun _ => fun
  | [d1, d2, d3] => { results := [.lit (.bool true)], args := [d1, d2, d3] }
  | _ => none }
def curveBls1Row : OpenClaim := { program := "ytmholgclgamnnaagreat", sum := "5d772f24cf8dea91d6f52f471398a9d68ce541f7e93ad6f34a67df4061594708", func := "cairn/cairnlaw07.CurveBls1", spec := "curveBls1", inPlace := ["math/bits.Add64", "math/bits.Sub64"], unfollowed := true, recurses := true, apart := false }
def CurveBls1Said : Prop := curveBls1Row.holds Tryz.pinned (OpenSpec.ofChange curveBls1Spec)

/-- ITS FALSE NEIGHBOUR: 'it returns false'. Refute it at one input. -/
def curveBls1Wrong : ChangeSpec := { name := "curveBls1", fn := fun _ => fun
  | [d1, d2, d3] => { results := [.lit (.bool false)], args := [d1, d2, d3] }
  | _ => none }
def CurveBls1WrongFalsely : Prop := curveBls1Row.holds Tryz.pinned (OpenSpec.ofChange curveBls1Wrong)

/-- 'cairnlaw07.CurveBn1': WHATEVER THE INPUT: true; the input reads as it did. -/
def curveBn1Spec : ChangeSpec := { name := "curveBn1", fn := fun _ => fun
  | [d1, d2, d3] => { results := [.lit (.bool true)], args := [d1, d2, d3] }
  | _ => none }
def curveBn1Row : OpenClaim := { program := "ytmholgclgamnnaagreat", sum := "5d772f24cf8dea91d6f52f471398a9d68ce541f7e93ad6f34a67df4061594708", func := "cairn/cairnlaw07.CurveBn1", spec := "curveBn1", inPlace := ["math/bits.Add64", "math/bits.Sub64"], unfollowed := true, recurses := true, apart := false }
def CurveBn1Said : Prop := curveBn1Row.holds Tryz.pinned (OpenSpec.ofChange curveBn1Spec)

/-- ITS FALSE NEIGHBOUR: 'it returns false'. Refute it at one input. -/
def curveBn1Wrong : ChangeSpec := { name := "curveBn1", fn := fun _ => fun
  | [d1, d2, d3] => { results := [.lit (.bool false)], args := [d1, d2, d3] }
  | _ => none }
def CurveBn1WrongFalsely : Prop := curveBn1Row.holds Tryz.pinned (OpenSpec.ofChange curveBn1Wrong)

/-- 'cairnlaw07.CurveBls2': WHATEVER THE INPUT: true; the input reads as it did. -/
def curveBls2Spec : ChangeSpec := { name := "curveBls2", fn := fun _ => fun
  | [d1, d2, d3] => { results := [.lit (.bool true)], args := [d1, d2, d3] }
  | _ => none }
def curveBls2Row : OpenClaim := { program := "ytmholgclgamnnaagreat", sum := "5d772f24cf8dea91d6f52f471398a9d68ce541f7e93ad6f34a67df4061594708", func := "cairn/cairnlaw07.CurveBls2", spec := "curveBls2", inPlace := ["math/bits.Add64", "math/bits.Sub64"], unfollowed := true, recurses := true, apart := false }
def CurveBls2Said : Prop := curveBls2Row.holds Tryz.pinned (OpenSpec.ofChange curveBls2Spec)

/-- ITS FALSE NEIGHBOUR: 'it returns false'. Refute it at one input. -/
def curveBls2Wrong : ChangeSpec := { name := "curveBls2", fn := fun _ => fun
  | [d1, d2, d3] => { results := [.lit (.bool false)], args := [d1, d2, d3] }
  | _ => none }
def CurveBls2WrongFalsely : Prop := curveBls2Row.holds Tryz.pinned (OpenSpec.ofChange curveBls2Wrong)

/-- 'cairnlaw07.CurveBases': WHATEVER THE INPUT: true; the input reads as it did. -/
def curveBasesSpec : ChangeSpec := { name := "curveBases", fn := fun _ => fun
  | [] => { results := [.lit (.bool true)], args := [] }
  | _ => none }
def curveBasesRow : OpenClaim := { program := "ytmholgclgamnnaagreat", sum := "5d772f24cf8dea91d6f52f471398a9d68ce541f7e93ad6f34a67df4061594708", func := "cairn/cairnlaw07.CurveBases", spec := "curveBases", inPlace := ["math/bits.Add64", "math/bits.Sub64"], unfollowed := true, recurses := true, apart := false }
def CurveBasesSaid : Prop := curveBasesRow.holds Tryz.pinned (OpenSpec.ofChange curveBasesSpec)

/-- ITS FALSE NEIGHBOUR: 'it returns false'. Refute it at one input. -/
def curveBasesWrong : ChangeSpec := { name := "curveBases", fn := fun _ => fun
  | [] => { results := [.lit (.bool false)], args := [] }
  | _ => none }
def CurveBasesWrongFalsely : Prop := curveBasesRow.holds Tryz.pinned (OpenSpec.ofChange curveBasesWrong)

/-- 'cairnlaw07.CurveGroup': WHATEVER THE INPUT: true; the input reads as it did. -/
def curveGroupSpec : ChangeSpec := { name := "curveGroup", fn := fun _ => fun
  | [d1, d2, d3] => { results := [.lit (.bool true)], args := [d1, d2, d3] }
  | _ => none }
def curveGroupRow : OpenClaim := { program := "ytmholgclgamnnaagreat", sum := "5d772f24cf8dea91d6f52f471398a9d68ce541f7e93ad6f34a67df4061594708", func := "cairn/cairnlaw07.CurveGroup", spec := "curveGroup", inPlace := ["math/bits.Add64", "math/bits.Sub64"], unfollowed := true, recurses := true, apart := false }
def CurveGroupSaid : Prop := curveGroupRow.holds Tryz.pinned (OpenSpec.ofChange curveGroupSpec)

/-- ITS FALSE NEIGHBOUR: 'it returns false'. Refute it at one input. -/
def curveGroupWrong : ChangeSpec := { name := "curveGroup", fn := fun _ => fun
  | [d1, d2, d3] => { results := [.lit (.bool false)], args := [d1, d2, d3] }
  | _ => none }
def CurveGroupWrongFalsely : Prop := curveGroupRow.holds Tryz.pinned (OpenSpec.ofChange curveGroupWrong)

/-- 'cairnlaw07.CurveBn2': WHATEVER THE INPUT: true; the input reads as it did. -/
def curveBn2Spec : ChangeSpec := { name := "curveBn2", fn := fun _ => fun
  | [d1, d2, d3] => { results := [.lit (.bool true)], args := [d1, d2, d3] }
  | _ => none }
def curveBn2Row : OpenClaim := { program := "ytmholgclgamnnaagreat", sum := "5d772f24cf8dea91d6f52f471398a9d68ce541f7e93ad6f34a67df4061594708", func := "cairn/cairnlaw07.CurveBn2", spec := "curveBn2", inPlace := ["math/bits.Add64", "math/bits.Sub64"], unfollowed := true, recurses := true, apart := false }
def CurveBn2Said : Prop := curveBn2Row.holds Tryz.pinned (OpenSpec.ofChange curveBn2Spec)

/-- ITS FALSE NEIGHBOUR: 'it returns false'. Refute it at one input. -/
def curveBn2Wrong : ChangeSpec := { name := "curveBn2", fn := fun _ => fun
  | [d1, d2, d3] => { results := [.lit (.bool false)], args := [d1, d2, d3] }
  | _ => none }
def CurveBn2WrongFalsely : Prop := curveBn2Row.holds Tryz.pinned (OpenSpec.ofChange curveBn2Wrong)

/-- 'cairnlaw07.CurveNone': WHATEVER THE INPUT: true; the input reads as it did. -/
def curveNoneSpec : ChangeSpec := { name := "curveNone", fn := fun _ => fun
  | [d1, d2] => { results := [.lit (.bool true)], args := [d1, d2] }
  | _ => none }
def curveNoneRow : OpenClaim := { program := "ytmholgclgamnnaagreat", sum := "5d772f24cf8dea91d6f52f471398a9d68ce541f7e93ad6f34a67df4061594708", func := "cairn/cairnlaw07.CurveNone", spec := "curveNone", inPlace := ["math/bits.Add64", "math/bits.Sub64"], unfollowed := true, recurses := true, apart := false }
def CurveNoneSaid : Prop := curveNoneRow.holds Tryz.pinned (OpenSpec.ofChange curveNoneSpec)

/-- ITS FALSE NEIGHBOUR: 'it returns false'. Refute it at one input. -/
def curveNoneWrong : ChangeSpec := { name := "curveNone", fn := fun _ => fun
  | [d1, d2] => { results := [.lit (.bool false)], args := [d1, d2] }
  | _ => none }
def CurveNoneWrongFalsely : Prop := curveNoneRow.holds Tryz.pinned (OpenSpec.ofChange curveNoneWrong)

/-- 'cairnlaw07.CurveWrites': WHATEVER THE INPUT: true; the input reads as it did. -/
def curveWritesSpec : ChangeSpec := { name := "curveWrites", fn := fun _ => fun
  | [d] => { results := [.lit (.bool true)], args := [d] }
  | _ => none }
def curveWritesRow : OpenClaim := { program := "ytmholgclgamnnaagreat", sum := "5d772f24cf8dea91d6f52f471398a9d68ce541f7e93ad6f34a67df4061594708", func := "cairn/cairnlaw07.CurveWrites", spec := "curveWrites", inPlace := ["math/bits.Add64", "math/bits.Sub64"], unfollowed := true, recurses := true, apart := false }
def CurveWritesSaid : Prop := curveWritesRow.holds Tryz.pinned (OpenSpec.ofChange curveWritesSpec)

/-- ITS FALSE NEIGHBOUR: 'it returns false'. Refute it at one input. -/
def curveWritesWrong : ChangeSpec := { name := "curveWrites", fn := fun _ => fun
  | [d] => { results := [.lit (.bool false)], args := [d] }
  | _ => none }
def CurveWritesWrongFalsely : Prop := curveWritesRow.holds Tryz.pinned (OpenSpec.ofChange curveWritesWrong)

/-- 'cairnlaw07.CurveReads': WHATEVER THE INPUT: true; the input reads as it did. -/
def curveReadsSpec : ChangeSpec := { name := "curveReads", fn := fun _ => fun
  | [d1, d2, d3] => { results := [.lit (.bool true)], args := [d1, d2, d3] }
  | _ => none }
def curveReadsRow : OpenClaim := { program := "ytmholgclgamnnaagreat", sum := "5d772f24cf8dea91d6f52f471398a9d68ce541f7e93ad6f34a67df4061594708", func := "cairn/cairnlaw07.CurveReads", spec := "curveReads", inPlace := ["math/bits.Add64", "math/bits.Sub64"], unfollowed := true, recurses := true, apart := false }
def CurveReadsSaid : Prop := curveReadsRow.holds Tryz.pinned (OpenSpec.ofChange curveReadsSpec)

/-- ITS FALSE NEIGHBOUR: 'it returns false'. Refute it at one input. -/
def curveReadsWrong : ChangeSpec := { name := "curveReads", fn := fun _ => fun
  | [d1, d2, d3] => { results := [.lit (.bool false)], args := [d1, d2, d3] }
  | _ => none }
def CurveReadsWrongFalsely : Prop := curveReadsRow.holds Tryz.pinned (OpenSpec.ofChange curveReadsWrong)

/- THE SECOND FORM. 'bulk': how many values and letters a reading holds, each counted each time it is reached (what is shared counts as often as it is met; a slice's spare places count too). A statement '..UptoSaid' is the law's where the arguments, and the package variables that the reading takes, are together of bulk at most 1048576: NARROWER than '..Said'. Prove '..Said' where nothing that the law and all that it calls make is longer than what came in: it says more and counts as full. Else prove '..UptoSaid'. A law counts once. -/
mutual
def uptoBulk {H : Type} : DataW H → Nat
  | .lit (.string bytes) => bytes.length + 1
  | .lit _ => 1
  | .nil => 1
  | .ptr d => uptoBulk d + 1
  | .slice elems spare => uptoBulkAll elems + uptoBulkAll spare + 1
  | .agg parts => uptoBulkAll parts + 1
  | .iface _ d => uptoBulk d + 1
  | .map entries => uptoBulkEntries entries + 1
  | .held _ => 1
def uptoBulkAll {H : Type} : List (DataW H) → Nat
  | [] => 0
  | d :: r => uptoBulk d + uptoBulkAll r
def uptoBulkEntries {H : Type} : List (Lit × DataW H) → Nat
  | [] => 0
  | x :: r => uptoBulkEntry x + uptoBulkEntries r
def uptoBulkEntry {H : Type} : Lit × DataW H → Nat
  | (.string bytes, d) => bytes.length + uptoBulk d + 1
  | (_, d) => uptoBulk d + 1
 end
def uptoSmall : (H : Type) → List (DataW H) → Bool := fun _ ds => decide (uptoBulkAll ds ≤ 1048576)
def OpenSpec.upto (s : _root_.Go.ChangeSpec) : _root_.Go.OpenSpec := { _root_.Go.OpenSpec.ofChange s with cond := some uptoSmall }

/-- 'cairnlaw07.CurveBls1', WHERE WHAT IT READS IS OF BULK AT MOST 1048576: true; the input reads as it did. -/
def curveBls1UptoRow : OpenClaim := { program := "ytmholgclgamnnaagreat", sum := "5d772f24cf8dea91d6f52f471398a9d68ce541f7e93ad6f34a67df4061594708", func := "cairn/cairnlaw07.CurveBls1", spec := "curveBls1", inPlace := ["math/bits.Add64", "math/bits.Sub64"], unfollowed := true, recurses := true, apart := false, narrowed := true }
def CurveBls1UptoSaid : Prop := curveBls1UptoRow.holds Tryz.pinned (OpenSpec.upto curveBls1Spec)

/-- 'cairnlaw07.CurveBn1', WHERE WHAT IT READS IS OF BULK AT MOST 1048576: true; the input reads as it did. -/
def curveBn1UptoRow : OpenClaim := { program := "ytmholgclgamnnaagreat", sum := "5d772f24cf8dea91d6f52f471398a9d68ce541f7e93ad6f34a67df4061594708", func := "cairn/cairnlaw07.CurveBn1", spec := "curveBn1", inPlace := ["math/bits.Add64", "math/bits.Sub64"], unfollowed := true, recurses := true, apart := false, narrowed := true }
def CurveBn1UptoSaid : Prop := curveBn1UptoRow.holds Tryz.pinned (OpenSpec.upto curveBn1Spec)

/-- 'cairnlaw07.CurveBls2', WHERE WHAT IT READS IS OF BULK AT MOST 1048576: true; the input reads as it did. -/
def curveBls2UptoRow : OpenClaim := { program := "ytmholgclgamnnaagreat", sum := "5d772f24cf8dea91d6f52f471398a9d68ce541f7e93ad6f34a67df4061594708", func := "cairn/cairnlaw07.CurveBls2", spec := "curveBls2", inPlace := ["math/bits.Add64", "math/bits.Sub64"], unfollowed := true, recurses := true, apart := false, narrowed := true }
def CurveBls2UptoSaid : Prop := curveBls2UptoRow.holds Tryz.pinned (OpenSpec.upto curveBls2Spec)

/-- 'cairnlaw07.CurveBases', WHERE WHAT IT READS IS OF BULK AT MOST 1048576: true; the input reads as it did. -/
def curveBasesUptoRow : OpenClaim := { program := "ytmholgclgamnnaagreat", sum := "5d772f24cf8dea91d6f52f471398a9d68ce541f7e93ad6f34a67df4061594708", func := "cairn/cairnlaw07.CurveBases", spec := "curveBases", inPlace := ["math/bits.Add64", "math/bits.Sub64"], unfollowed := true, recurses := true, apart := false, narrowed := true }
def CurveBasesUptoSaid : Prop := curveBasesUptoRow.holds Tryz.pinned (OpenSpec.upto curveBasesSpec)

/-- 'cairnlaw07.CurveGroup', WHERE WHAT IT READS IS OF BULK AT MOST 1048576: true; the input reads as it did. -/
def curveGroupUptoRow : OpenClaim := { program := "ytmholgclgamnnaagreat", sum := "5d772f24cf8dea91d6f52f471398a9d68ce541f7e93ad6f34a67df4061594708", func := "cairn/cairnlaw07.CurveGroup", spec := "curveGroup", inPlace := ["math/bits.Add64", "math/bits.Sub64"], unfollowed := true, recurses := true, apart := false, narrowed := true }
def CurveGroupUptoSaid : Prop := curveGroupUptoRow.holds Tryz.pinned (OpenSpec.upto curveGroupSpec)

/-- 'cairnlaw07.CurveBn2', WHERE WHAT IT READS IS OF BULK AT MOST 1048576: true; the input reads as it did. -/
def curveBn2UptoRow : OpenClaim := { program := "ytmholgclgamnnaagreat", sum := "5d772f24cf8dea91d6f52f471398a9d68ce541f7e93ad6f34a67df4061594708", func := "cairn/cairnlaw07.CurveBn2", spec := "curveBn2", inPlace := ["math/bits.Add64", "math/bits.Sub64"], unfollowed := true, recurses := true, apart := false, narrowed := true }
def CurveBn2UptoSaid : Prop := curveBn2UptoRow.holds Tryz.pinned (OpenSpec.upto curveBn2Spec)

/-- 'cairnlaw07.CurveNone', WHERE WHAT IT READS IS OF BULK AT MOST 1048576: true; the input reads as it did. -/
def curveNoneUptoRow : OpenClaim := { program := "ytmholgclgamnnaagreat", sum := "5d772f24cf8dea91d6f52f471398a9d68ce541f7e93ad6f34a67df4061594708", func := "cairn/cairnlaw07.CurveNone", spec := "curveNone", inPlace := ["math/bits.Add64", "math/bits.Sub64"], unfollowed := true, recurses := true, apart := false, narrowed := true }
def CurveNoneUptoSaid : Prop := curveNoneUptoRow.holds Tryz.pinned (OpenSpec.upto curveNoneSpec)

/-- 'cairnlaw07.CurveWrites', WHERE WHAT IT READS IS OF BULK AT MOST 1048576: true; the input reads as it did. -/
def curveWritesUptoRow : OpenClaim := { program := "ytmholgclgamnnaagreat", sum := "5d772f24cf8dea91d6f52f471398a9d68ce541f7e93ad6f34a67df4061594708", func := "cairn/cairnlaw07.CurveWrites", spec := "curveWrites", inPlace := ["math/bits.Add64", "math/bits.Sub64"], unfollowed := true, recurses := true, apart := false, narrowed := true }
def CurveWritesUptoSaid : Prop := curveWritesUptoRow.holds Tryz.pinned (OpenSpec.upto curveWritesSpec)

/-- 'cairnlaw07.CurveReads', WHERE WHAT IT READS IS OF BULK AT MOST 1048576: true; the input reads as it did. -/
def curveReadsUptoRow : OpenClaim := { program := "ytmholgclgamnnaagreat", sum := "5d772f24cf8dea91d6f52f471398a9d68ce541f7e93ad6f34a67df4061594708", func := "cairn/cairnlaw07.CurveReads", spec := "curveReads", inPlace := ["math/bits.Add64", "math/bits.Sub64"], unfollowed := true, recurses := true, apart := false, narrowed := true }
def CurveReadsUptoSaid : Prop := curveReadsUptoRow.holds Tryz.pinned (OpenSpec.upto curveReadsSpec)

end Rows
end Go.Proofs.YtmholgclgamnnaaGreat
