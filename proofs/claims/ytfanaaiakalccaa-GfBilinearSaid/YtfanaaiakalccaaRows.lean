/-
  No cell of these rows narrows 'for every input' (looked for: loops, veiled, ifaces, maps, wideKeys, modest, calm, conditions, laid).
  DERIVED. THE GIVEN ROWS OF THIS SEAT. 7 by the template 'for every input the law returns true; each argument reads behind the call as it read before'; 0 by the template 'total and deterministic' (their statements: YtfanaaiakalccaaTotals.lean).
  GIVEN WITH THE SEED: the statements are not yours to turn. If you find one false, say at which input.
  Laid BY PROGRAM, IN A SANDBOX (cutbox-rows.mjs): the forced cells as the released guide's own fill.sh prints them over the translation c6a68a133290d8e5… (all of the seat's roots in one cut). By AI agents, Wed Nov 11 2026. No macro, syntax, notation, axiom, sorry.
-/
import Derived.Test.YtfanaaiakalccaaChecked
import GoSem.Claim
import GoSem.ClaimJoined
import GoSem.ClaimMapViews
import Derived.JoinedTies
import Derived.KernelRfl
namespace Go.Proofs.Ytfanaaiakalccaa
/- THE CELL 'sum', in the pinned program and in every row, IS THE sha256 OF THE DUMP (.gsa) THAT YtfanaaiakalccaaProg.lean LOADS. Nothing in Lean hashes anything: it is a label: what it is worth is what the hold of that sum in a sandbox is worth. -/
noncomputable def Try.pinned : Pinned := { name := "ytfanaaiakalccaa", sum := "c6a68a133290d8e520e96a9fc7f49ccaad543897597c0b4dbe649da8d01196d4", checked := Try.checked }
namespace Rows
def none {H : Type} : Left H := { results := [], args := [] }

/-- 'tesseralaw01.GfLaws': WHATEVER THE INPUT: true; the input reads as it did. -/
def gfLawsSpec : ChangeSpec := { name := "gfLaws", fn := fun _ => fun
  | [d1, d2, d3] => { results := [.lit (.bool true)], args := [d1, d2, d3] }
  | _ => none }
def gfLawsRow : OpenClaim := { program := "ytfanaaiakalccaa", sum := "c6a68a133290d8e520e96a9fc7f49ccaad543897597c0b4dbe649da8d01196d4", func := "tessera/tesseralaw01.GfLaws", spec := "gfLaws", apart := false }
def GfLawsSaid : Prop := gfLawsRow.holds Try.pinned (OpenSpec.ofChange gfLawsSpec)

/-- ITS FALSE NEIGHBOUR: 'it returns false'. Refute it at one input. -/
def gfLawsWrong : ChangeSpec := { name := "gfLaws", fn := fun _ => fun
  | [d1, d2, d3] => { results := [.lit (.bool false)], args := [d1, d2, d3] }
  | _ => none }
def GfLawsWrongFalsely : Prop := gfLawsRow.holds Try.pinned (OpenSpec.ofChange gfLawsWrong)

/-- 'tesseralaw01.GfPowers': WHATEVER THE INPUT: true; the input reads as it did. -/
def gfPowersSpec : ChangeSpec := { name := "gfPowers", fn := fun _ => fun
  | [d1, d2, d3] => { results := [.lit (.bool true)], args := [d1, d2, d3] }
  | _ => none }
def gfPowersRow : OpenClaim := { program := "ytfanaaiakalccaa", sum := "c6a68a133290d8e520e96a9fc7f49ccaad543897597c0b4dbe649da8d01196d4", func := "tessera/tesseralaw01.GfPowers", spec := "gfPowers", apart := false }
def GfPowersSaid : Prop := gfPowersRow.holds Try.pinned (OpenSpec.ofChange gfPowersSpec)

/-- ITS FALSE NEIGHBOUR: 'it returns false'. Refute it at one input. -/
def gfPowersWrong : ChangeSpec := { name := "gfPowers", fn := fun _ => fun
  | [d1, d2, d3] => { results := [.lit (.bool false)], args := [d1, d2, d3] }
  | _ => none }
def GfPowersWrongFalsely : Prop := gfPowersRow.holds Try.pinned (OpenSpec.ofChange gfPowersWrong)

/-- 'tesseralaw01.GfLogs': WHATEVER THE INPUT: true; the input reads as it did. -/
def gfLogsSpec : ChangeSpec := { name := "gfLogs", fn := fun _ => fun
  | [d1, d2] => { results := [.lit (.bool true)], args := [d1, d2] }
  | _ => none }
def gfLogsRow : OpenClaim := { program := "ytfanaaiakalccaa", sum := "c6a68a133290d8e520e96a9fc7f49ccaad543897597c0b4dbe649da8d01196d4", func := "tessera/tesseralaw01.GfLogs", spec := "gfLogs", apart := false }
def GfLogsSaid : Prop := gfLogsRow.holds Try.pinned (OpenSpec.ofChange gfLogsSpec)

/-- ITS FALSE NEIGHBOUR: 'it returns false'. Refute it at one input. -/
def gfLogsWrong : ChangeSpec := { name := "gfLogs", fn := fun _ => fun
  | [d1, d2] => { results := [.lit (.bool false)], args := [d1, d2] }
  | _ => none }
def GfLogsWrongFalsely : Prop := gfLogsRow.holds Try.pinned (OpenSpec.ofChange gfLogsWrong)

/-- 'tesseralaw01.GfBilinear': WHATEVER THE INPUT: true; the input reads as it did. -/
def gfBilinearSpec : ChangeSpec := { name := "gfBilinear", fn := fun _ => fun
  | [d] => { results := [.lit (.bool true)], args := [d] }
  | _ => none }
def gfBilinearRow : OpenClaim := { program := "ytfanaaiakalccaa", sum := "c6a68a133290d8e520e96a9fc7f49ccaad543897597c0b4dbe649da8d01196d4", func := "tessera/tesseralaw01.GfBilinear", spec := "gfBilinear", unfollowed := true, recurses := true, apart := false }
def GfBilinearSaid : Prop := gfBilinearRow.holds Try.pinned (OpenSpec.ofChange gfBilinearSpec)

/-- ITS FALSE NEIGHBOUR: 'it returns false'. Refute it at one input. -/
def gfBilinearWrong : ChangeSpec := { name := "gfBilinear", fn := fun _ => fun
  | [d] => { results := [.lit (.bool false)], args := [d] }
  | _ => none }
def GfBilinearWrongFalsely : Prop := gfBilinearRow.holds Try.pinned (OpenSpec.ofChange gfBilinearWrong)

/-- 'tesseralaw01.GfScales': WHATEVER THE INPUT: true; the input reads as it did. -/
def gfScalesSpec : ChangeSpec := { name := "gfScales", fn := fun _ => fun
  | [d1, d2] => { results := [.lit (.bool true)], args := [d1, d2] }
  | _ => none }
def gfScalesRow : OpenClaim := { program := "ytfanaaiakalccaa", sum := "c6a68a133290d8e520e96a9fc7f49ccaad543897597c0b4dbe649da8d01196d4", func := "tessera/tesseralaw01.GfScales", spec := "gfScales", unfollowed := true, recurses := true, apart := false }
def GfScalesSaid : Prop := gfScalesRow.holds Try.pinned (OpenSpec.ofChange gfScalesSpec)

/-- ITS FALSE NEIGHBOUR: 'it returns false'. Refute it at one input. -/
def gfScalesWrong : ChangeSpec := { name := "gfScales", fn := fun _ => fun
  | [d1, d2] => { results := [.lit (.bool false)], args := [d1, d2] }
  | _ => none }
def GfScalesWrongFalsely : Prop := gfScalesRow.holds Try.pinned (OpenSpec.ofChange gfScalesWrong)

/-- 'tesseralaw01.GfElements': WHATEVER THE INPUT: true; the input reads as it did. -/
def gfElementsSpec : ChangeSpec := { name := "gfElements", fn := fun _ => fun
  | [d1, d2, d3] => { results := [.lit (.bool true)], args := [d1, d2, d3] }
  | _ => none }
def gfElementsRow : OpenClaim := { program := "ytfanaaiakalccaa", sum := "c6a68a133290d8e520e96a9fc7f49ccaad543897597c0b4dbe649da8d01196d4", func := "tessera/tesseralaw01.GfElements", spec := "gfElements", apart := false }
def GfElementsSaid : Prop := gfElementsRow.holds Try.pinned (OpenSpec.ofChange gfElementsSpec)

/-- ITS FALSE NEIGHBOUR: 'it returns false'. Refute it at one input. -/
def gfElementsWrong : ChangeSpec := { name := "gfElements", fn := fun _ => fun
  | [d1, d2, d3] => { results := [.lit (.bool false)], args := [d1, d2, d3] }
  | _ => none }
def GfElementsWrongFalsely : Prop := gfElementsRow.holds Try.pinned (OpenSpec.ofChange gfElementsWrong)

/-- 'tesseralaw01.GfLists': WHATEVER THE INPUT: true; the input reads as it did. -/
def gfListsSpec : ChangeSpec := { name := "gfLists", fn := fun _ => fun
  | [d1, d2, d3] => { results := [.lit (.bool true)], args := [d1, d2, d3] }
  | _ => none }
def gfListsRow : OpenClaim := { program := "ytfanaaiakalccaa", sum := "c6a68a133290d8e520e96a9fc7f49ccaad543897597c0b4dbe649da8d01196d4", func := "tessera/tesseralaw01.GfLists", spec := "gfLists", unfollowed := true, recurses := true, apart := false }
def GfListsSaid : Prop := gfListsRow.holds Try.pinned (OpenSpec.ofChange gfListsSpec)

/-- ITS FALSE NEIGHBOUR: 'it returns false'. Refute it at one input. -/
def gfListsWrong : ChangeSpec := { name := "gfLists", fn := fun _ => fun
  | [d1, d2, d3] => { results := [.lit (.bool false)], args := [d1, d2, d3] }
  | _ => none }
def GfListsWrongFalsely : Prop := gfListsRow.holds Try.pinned (OpenSpec.ofChange gfListsWrong)

/- THE SECOND FORM. 'bulk': how many values and letters a reading holds, each counted each time it is reached (what is shared counts as often as it is met; a slice's spare places count too). A statement '..UptoSaid' is the law's where the arguments, and the package variables that the reading takes, are together of bulk at most 1048576: NARROWER than '..Said'. Prove '..Said' where nothing that the law and all that it calls make is longer than what came in: it says more and counts as full. Else prove '..UptoSaid'. A law counts once. -/
mutual
def uptoBulk {H : Type} : DataW H → Nat
  | .lit (.string bytes) => bytes.length + 1
  | .lit _ => 1
  | .nil => 1
  | .ptr d => uptoBulk d + 1
  | .slice elems spare => uptoBulkAll elems + uptoBulkAll spare + 1
  | .agg parts => uptoBulkAll parts + 1
  | .iface _ d => uptoBulk d + 1
  | .map entries => uptoBulkEntries entries + 1
  | .held _ => 1
def uptoBulkAll {H : Type} : List (DataW H) → Nat
  | [] => 0
  | d :: r => uptoBulk d + uptoBulkAll r
def uptoBulkEntries {H : Type} : List (Lit × DataW H) → Nat
  | [] => 0
  | x :: r => uptoBulkEntry x + uptoBulkEntries r
def uptoBulkEntry {H : Type} : Lit × DataW H → Nat
  | (.string bytes, d) => bytes.length + uptoBulk d + 1
  | (_, d) => uptoBulk d + 1
 end
def uptoSmall : (H : Type) → List (DataW H) → Bool := fun _ ds => decide (uptoBulkAll ds ≤ 1048576)
def OpenSpec.upto (s : _root_.Go.ChangeSpec) : _root_.Go.OpenSpec := { _root_.Go.OpenSpec.ofChange s with cond := some uptoSmall }

/-- 'tesseralaw01.GfLaws', WHERE WHAT IT READS IS OF BULK AT MOST 1048576: true; the input reads as it did. -/
def gfLawsUptoRow : OpenClaim := { program := "ytfanaaiakalccaa", sum := "c6a68a133290d8e520e96a9fc7f49ccaad543897597c0b4dbe649da8d01196d4", func := "tessera/tesseralaw01.GfLaws", spec := "gfLaws", apart := false, narrowed := true }
def GfLawsUptoSaid : Prop := gfLawsUptoRow.holds Try.pinned (OpenSpec.upto gfLawsSpec)

/-- 'tesseralaw01.GfPowers', WHERE WHAT IT READS IS OF BULK AT MOST 1048576: true; the input reads as it did. -/
def gfPowersUptoRow : OpenClaim := { program := "ytfanaaiakalccaa", sum := "c6a68a133290d8e520e96a9fc7f49ccaad543897597c0b4dbe649da8d01196d4", func := "tessera/tesseralaw01.GfPowers", spec := "gfPowers", apart := false, narrowed := true }
def GfPowersUptoSaid : Prop := gfPowersUptoRow.holds Try.pinned (OpenSpec.upto gfPowersSpec)

/-- 'tesseralaw01.GfLogs', WHERE WHAT IT READS IS OF BULK AT MOST 1048576: true; the input reads as it did. -/
def gfLogsUptoRow : OpenClaim := { program := "ytfanaaiakalccaa", sum := "c6a68a133290d8e520e96a9fc7f49ccaad543897597c0b4dbe649da8d01196d4", func := "tessera/tesseralaw01.GfLogs", spec := "gfLogs", apart := false, narrowed := true }
def GfLogsUptoSaid : Prop := gfLogsUptoRow.holds Try.pinned (OpenSpec.upto gfLogsSpec)

/-- 'tesseralaw01.GfBilinear', WHERE WHAT IT READS IS OF BULK AT MOST 1048576: true; the input reads as it did. -/
def gfBilinearUptoRow : OpenClaim := { program := "ytfanaaiakalccaa", sum := "c6a68a133290d8e520e96a9fc7f49ccaad543897597c0b4dbe649da8d01196d4", func := "tessera/tesseralaw01.GfBilinear", spec := "gfBilinear", unfollowed := true, recurses := true, apart := false, narrowed := true }
def GfBilinearUptoSaid : Prop := gfBilinearUptoRow.holds Try.pinned (OpenSpec.upto gfBilinearSpec)

/-- 'tesseralaw01.GfScales', WHERE WHAT IT READS IS OF BULK AT MOST 1048576: true; the input reads as it did. -/
def gfScalesUptoRow : OpenClaim := { program := "ytfanaaiakalccaa", sum := "c6a68a133290d8e520e96a9fc7f49ccaad543897597c0b4dbe649da8d01196d4", func := "tessera/tesseralaw01.GfScales", spec := "gfScales", unfollowed := true, recurses := true, apart := false, narrowed := true }
def GfScalesUptoSaid : Prop := gfScalesUptoRow.holds Try.pinned (OpenSpec.upto gfScalesSpec)

/-- 'tesseralaw01.GfElements', WHERE WHAT IT READS IS OF BULK AT MOST 1048576: true; the input reads as it did. -/
def gfElementsUptoRow : OpenClaim := { program := "ytfanaaiakalccaa", sum := "c6a68a133290d8e520e96a9fc7f49ccaad543897597c0b4dbe649da8d01196d4", func := "tessera/tesseralaw01.GfElements", spec := "gfElements", apart := false, narrowed := true }
def GfElementsUptoSaid : Prop := gfElementsUptoRow.holds Try.pinned (OpenSpec.upto gfElementsSpec)

/-- 'tesseralaw01.GfLists', WHERE WHAT IT READS IS OF BULK AT MOST 1048576: true; the input reads as it did. -/
def gfListsUptoRow : OpenClaim := { program := "ytfanaaiakalccaa", sum := "c6a68a133290d8e520e96a9fc7f49ccaad543897597c0b4dbe649da8d01196d4", func := "tessera/tesseralaw01.GfLists", spec := "gfLists", unfollowed := true, recurses := true, apart := false, narrowed := true }
def GfListsUptoSaid : Prop := gfListsUptoRow.holds Try.pinned (OpenSpec.upto gfListsSpec)

end Rows
end Go.Proofs.Ytfanaaiakalccaa
