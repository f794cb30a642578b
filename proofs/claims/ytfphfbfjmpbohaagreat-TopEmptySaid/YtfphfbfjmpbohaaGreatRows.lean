/-
  No cell of these rows narrows 'for every input' (looked for: loops, veiled, ifaces, maps, wideKeys, modest, calm, conditions, laid).
  DERIVED. THE GIVEN ROWS OF THIS SEAT. 3 by the template 'for every input the law returns true; each argument reads behind the call as it read before'; 0 by the template 'total and deterministic' (their statements: YtfphfbfjmpbohaaGreatTotals.lean).
  GIVEN WITH THE SEED: the statements are not yours to turn. If you find one false, say at which input.
  Laid BY PROGRAM, IN A SANDBOX (cutbox-rows.mjs): the forced cells as the released guide's own fill.sh prints them over the translation 0dd2b3b3b2f6e468… (all of the seat's roots in one cut). By AI agents, Wed Nov 11 2026. No macro, syntax, notation, axiom, sorry.
-/
import Derived.Test.YtfphfbfjmpbohaaGreatChecked
import GoSem.Claim
import GoSem.ClaimJoined
import GoSem.ClaimMapViews
import Derived.JoinedTies
import Derived.KernelRfl
namespace Go.Proofs.YtfphfbfjmpbohaaGreat
/- THE CELL 'sum', in the pinned program and in every row, IS THE sha256 OF THE DUMP (.gsa) THAT YtfphfbfjmpbohaaGreatProg.lean LOADS. Nothing in Lean hashes anything: it is a label: what it is worth is what the hold of that sum in a sandbox is worth. -/
noncomputable def Tryz.pinned : Pinned := { name := "ytfphfbfjmpbohaagreat", sum := "0dd2b3b3b2f6e4684f3fa295371fd522e1072baed84e6809d0fc7d4b01acca1f", checked := Tryz.checked }
namespace Rows
def none {H : Type} : Left H := { results := [], args := [] }

/-- 'templelaw24.BenchTrees': WHATEVER THE INPUT: true; the input reads as it did. -/
def benchTreesSpec : ChangeSpec := { name := "benchTrees", fn := fun _ => fun
  | [d1, d2] => { results := [.lit (.bool true)], args := [d1, d2] }
  | _ => none }
def benchTreesRow : OpenClaim := { program := "ytfphfbfjmpbohaagreat", sum := "0dd2b3b3b2f6e4684f3fa295371fd522e1072baed84e6809d0fc7d4b01acca1f", func := "temple/templelaw24.BenchTrees", spec := "benchTrees", inPlace := ["internal/bytealg.IndexByteString", "internal/abi.NoEscape"], unfollowed := true, recurses := true, plainKeys := false, apart := false }
def BenchTreesSaid : Prop := benchTreesRow.holds Tryz.pinned (OpenSpec.ofChange benchTreesSpec)

/-- ITS FALSE NEIGHBOUR: 'it returns false'. Refute it at one input. -/
def benchTreesWrong : ChangeSpec := { name := "benchTrees", fn := fun _ => fun
  | [d1, d2] => { results := [.lit (.bool false)], args := [d1, d2] }
  | _ => none }
def BenchTreesWrongFalsely : Prop := benchTreesRow.holds Tryz.pinned (OpenSpec.ofChange benchTreesWrong)

/-- 'templelaw24.BenchForms': WHATEVER THE INPUT: true; the input reads as it did. -/
def benchFormsSpec : ChangeSpec := { name := "benchForms", fn := fun _ => fun
  | [d1, d2] => { results := [.lit (.bool true)], args := [d1, d2] }
  | _ => none }
def benchFormsRow : OpenClaim := { program := "ytfphfbfjmpbohaagreat", sum := "0dd2b3b3b2f6e4684f3fa295371fd522e1072baed84e6809d0fc7d4b01acca1f", func := "temple/templelaw24.BenchForms", spec := "benchForms", inPlace := ["internal/bytealg.IndexByteString", "internal/abi.NoEscape"], unfollowed := true, recurses := true, plainKeys := false, apart := false }
def BenchFormsSaid : Prop := benchFormsRow.holds Tryz.pinned (OpenSpec.ofChange benchFormsSpec)

/-- ITS FALSE NEIGHBOUR: 'it returns false'. Refute it at one input. -/
def benchFormsWrong : ChangeSpec := { name := "benchForms", fn := fun _ => fun
  | [d1, d2] => { results := [.lit (.bool false)], args := [d1, d2] }
  | _ => none }
def BenchFormsWrongFalsely : Prop := benchFormsRow.holds Tryz.pinned (OpenSpec.ofChange benchFormsWrong)

/-- 'templetop.TopEmpty': WHATEVER THE INPUT: true; the input reads as it did. -/
def topEmptySpec : ChangeSpec := { name := "topEmpty", fn := fun _ => fun
  | [d1, d2] => { results := [.lit (.bool true)], args := [d1, d2] }
  | _ => none }
def topEmptyRow : OpenClaim := { program := "ytfphfbfjmpbohaagreat", sum := "0dd2b3b3b2f6e4684f3fa295371fd522e1072baed84e6809d0fc7d4b01acca1f", func := "temple/templetop.TopEmpty", spec := "topEmpty", inPlace := ["internal/bytealg.IndexByteString"], unfollowed := true, recurses := true, plainKeys := false, apart := false }
def TopEmptySaid : Prop := topEmptyRow.holds Tryz.pinned (OpenSpec.ofChange topEmptySpec)

/-- ITS FALSE NEIGHBOUR: 'it returns false'. Refute it at one input. -/
def topEmptyWrong : ChangeSpec := { name := "topEmpty", fn := fun _ => fun
  | [d1, d2] => { results := [.lit (.bool false)], args := [d1, d2] }
  | _ => none }
def TopEmptyWrongFalsely : Prop := topEmptyRow.holds Tryz.pinned (OpenSpec.ofChange topEmptyWrong)

/- THE SECOND FORM. 'bulk': how many values and letters a reading holds, each counted each time it is reached (what is shared counts as often as it is met; a slice's spare places count too). A statement '..UptoSaid' is the law's where the arguments, and the package variables that the reading takes, are together of bulk at most 1048576: NARROWER than '..Said'. Prove '..Said' where nothing that the law and all that it calls make is longer than what came in: it says more and counts as full. Else prove '..UptoSaid'. A law counts once. -/
mutual
def uptoBulk {H : Type} : DataW H → Nat
  | .lit (.string bytes) => bytes.length + 1
  | .lit _ => 1
  | .nil => 1
  | .ptr d => uptoBulk d + 1
  | .slice elems spare => uptoBulkAll elems + uptoBulkAll spare + 1
  | .agg parts => uptoBulkAll parts + 1
  | .iface _ d => uptoBulk d + 1
  | .map entries => uptoBulkEntries entries + 1
  | .held _ => 1
def uptoBulkAll {H : Type} : List (DataW H) → Nat
  | [] => 0
  | d :: r => uptoBulk d + uptoBulkAll r
def uptoBulkEntries {H : Type} : List (Lit × DataW H) → Nat
  | [] => 0
  | x :: r => uptoBulkEntry x + uptoBulkEntries r
def uptoBulkEntry {H : Type} : Lit × DataW H → Nat
  | (.string bytes, d) => bytes.length + uptoBulk d + 1
  | (_, d) => uptoBulk d + 1
 end
def uptoSmall : (H : Type) → List (DataW H) → Bool := fun _ ds => decide (uptoBulkAll ds ≤ 1048576)
def OpenSpec.upto (s : _root_.Go.ChangeSpec) : _root_.Go.OpenSpec := { _root_.Go.OpenSpec.ofChange s with cond := some uptoSmall }

/-- 'templelaw24.BenchTrees', WHERE WHAT IT READS IS OF BULK AT MOST 1048576: true; the input reads as it did. -/
def benchTreesUptoRow : OpenClaim := { program := "ytfphfbfjmpbohaagreat", sum := "0dd2b3b3b2f6e4684f3fa295371fd522e1072baed84e6809d0fc7d4b01acca1f", func := "temple/templelaw24.BenchTrees", spec := "benchTrees", inPlace := ["internal/bytealg.IndexByteString", "internal/abi.NoEscape"], unfollowed := true, recurses := true, plainKeys := false, apart := false, narrowed := true }
def BenchTreesUptoSaid : Prop := benchTreesUptoRow.holds Tryz.pinned (OpenSpec.upto benchTreesSpec)

/-- 'templelaw24.BenchForms', WHERE WHAT IT READS IS OF BULK AT MOST 1048576: true; the input reads as it did. -/
def benchFormsUptoRow : OpenClaim := { program := "ytfphfbfjmpbohaagreat", sum := "0dd2b3b3b2f6e4684f3fa295371fd522e1072baed84e6809d0fc7d4b01acca1f", func := "temple/templelaw24.BenchForms", spec := "benchForms", inPlace := ["internal/bytealg.IndexByteString", "internal/abi.NoEscape"], unfollowed := true, recurses := true, plainKeys := false, apart := false, narrowed := true }
def BenchFormsUptoSaid : Prop := benchFormsUptoRow.holds Tryz.pinned (OpenSpec.upto benchFormsSpec)

/-- 'templetop.TopEmpty', WHERE WHAT IT READS IS OF BULK AT MOST 1048576: true; the input reads as it did. -/
def topEmptyUptoRow : OpenClaim := { program := "ytfphfbfjmpbohaagreat", sum := "0dd2b3b3b2f6e4684f3fa295371fd522e1072baed84e6809d0fc7d4b01acca1f", func := "temple/templetop.TopEmpty", spec := "topEmpty", inPlace := ["internal/bytealg.IndexByteString"], unfollowed := true, recurses := true, plainKeys := false, apart := false, narrowed := true }
def TopEmptyUptoSaid : Prop := topEmptyUptoRow.holds Tryz.pinned (OpenSpec.upto topEmptySpec)

end Rows
end Go.Proofs.YtfphfbfjmpbohaaGreat
