/-
  No cell of these rows narrows 'for every input' (looked for: loops, veiled, ifaces, maps, wideKeys, modest, calm, conditions, laid).
  DERIVED. THE GIVEN ROWS OF THIS SEAT. 3 by the template 'for every input the law returns true; each argument reads behind the call as it read before'; 0 by the template 'total and deterministic' (their statements: YthpljhkjajaogaaTotals.lean).
  GIVEN WITH THE SEED: the statements are not yours to turn. If you find one false, say at which input.
  Laid BY PROGRAM, IN A SANDBOX (cutbox-rows.mjs): the forced cells as the released guide's own fill.sh prints them over the translation 07dbd701b587eb5f… (all of the seat's roots in one cut). By AI agents, Wed Nov 11 2026. No macro, syntax, notation, axiom, sorry.
-/
import Derived.Test.YthpljhkjajaogaaChecked
import GoSem.Claim
import GoSem.ClaimJoined
import GoSem.ClaimMapViews
import Derived.JoinedTies
import Derived.KernelRfl
namespace Go.Proofs.Ythpljhkjajaogaa
/- THE CELL 'sum', in the pinned program and in every row, IS THE sha256 OF THE DUMP (.gsa) THAT YthpljhkjajaogaaProg.lean LOADS. Nothing in Lean hashes anything: it is a label: what it is worth is what the hold of that sum in a sandbox is worth. -/
noncomputable def Try.pinned : Pinned := { name := "ythpljhkjajaogaa", sum := "07dbd701b587eb5f87a92f492cf8e7fa9c9771b8efb9c9a96289835b9848e101", checked := Try.checked }
namespace Rows
def none {H : Type} : Left H := { results := [], args := [] }

/-- 'taprootlaw43.WeaveCounts': WHATEVER THE INPUT: true; the input reads as it did. -/
def weaveCountsSpec : ChangeSpec := { name := "weaveCounts", fn := fun _ => fun
  | [d] => { results := [.lit (.bool true)], args := [d] }
  | _ => none }
def weaveCountsRow : OpenClaim := { program := "ythpljhkjajaogaa", sum := "07dbd701b587eb5f87a92f492cf8e7fa9c9771b8efb9c9a96289835b9848e101", func := "taproot/taprootlaw43.WeaveCounts", spec := "weaveCounts", apart := false }
def WeaveCountsSaid : Prop := weaveCountsRow.holds Try.pinned (OpenSpec.ofChange weaveCountsSpec)

/-- ITS FALSE NEIGHBOUR: 'it returns false'. Refute it at one input. -/
def weaveCountsWrong : ChangeSpec := { name := "weaveCounts", fn := fun _ => fun
  | [d] => { results := [.lit (.bool false)], args := [d] }
  | _ => none }
def WeaveCountsWrongFalsely : Prop := weaveCountsRow.holds Try.pinned (OpenSpec.ofChange weaveCountsWrong)

/-- 'taprootlaw43.WeaveOrders': WHATEVER THE INPUT: true; the input reads as it did. -/
def weaveOrdersSpec : ChangeSpec := { name := "weaveOrders", fn := fun _ => fun
  | [d1, d2] => { results := [.lit (.bool true)], args := [d1, d2] }
  | _ => none }
def weaveOrdersRow : OpenClaim := { program := "ythpljhkjajaogaa", sum := "07dbd701b587eb5f87a92f492cf8e7fa9c9771b8efb9c9a96289835b9848e101", func := "taproot/taprootlaw43.WeaveOrders", spec := "weaveOrders", apart := false }
def WeaveOrdersSaid : Prop := weaveOrdersRow.holds Try.pinned (OpenSpec.ofChange weaveOrdersSpec)

/-- ITS FALSE NEIGHBOUR: 'it returns false'. Refute it at one input. -/
def weaveOrdersWrong : ChangeSpec := { name := "weaveOrders", fn := fun _ => fun
  | [d1, d2] => { results := [.lit (.bool false)], args := [d1, d2] }
  | _ => none }
def WeaveOrdersWrongFalsely : Prop := weaveOrdersRow.holds Try.pinned (OpenSpec.ofChange weaveOrdersWrong)

/-- 'taprootlaw43.WeaveAll': WHATEVER THE INPUT: true; the input reads as it did. -/
def weaveAllSpec : ChangeSpec := { name := "weaveAll", fn := fun _ => fun
  | [d1, d2, d3] => { results := [.lit (.bool true)], args := [d1, d2, d3] }
  | _ => none }
def weaveAllRow : OpenClaim := { program := "ythpljhkjajaogaa", sum := "07dbd701b587eb5f87a92f492cf8e7fa9c9771b8efb9c9a96289835b9848e101", func := "taproot/taprootlaw43.WeaveAll", spec := "weaveAll", apart := false }
def WeaveAllSaid : Prop := weaveAllRow.holds Try.pinned (OpenSpec.ofChange weaveAllSpec)

/-- ITS FALSE NEIGHBOUR: 'it returns false'. Refute it at one input. -/
def weaveAllWrong : ChangeSpec := { name := "weaveAll", fn := fun _ => fun
  | [d1, d2, d3] => { results := [.lit (.bool false)], args := [d1, d2, d3] }
  | _ => none }
def WeaveAllWrongFalsely : Prop := weaveAllRow.holds Try.pinned (OpenSpec.ofChange weaveAllWrong)

/- THE SECOND FORM. 'bulk': how many values and letters a reading holds, each counted each time it is reached (what is shared counts as often as it is met; a slice's spare places count too). A statement '..UptoSaid' is the law's where the arguments, and the package variables that the reading takes, are together of bulk at most 1048576: NARROWER than '..Said'. Prove '..Said' where nothing that the law and all that it calls make is longer than what came in: it says more and counts as full. Else prove '..UptoSaid'. A law counts once. -/
mutual
def uptoBulk {H : Type} : DataW H → Nat
  | .lit (.string bytes) => bytes.length + 1
  | .lit _ => 1
  | .nil => 1
  | .ptr d => uptoBulk d + 1
  | .slice elems spare => uptoBulkAll elems + uptoBulkAll spare + 1
  | .agg parts => uptoBulkAll parts + 1
  | .iface _ d => uptoBulk d + 1
  | .map entries => uptoBulkEntries entries + 1
  | .held _ => 1
def uptoBulkAll {H : Type} : List (DataW H) → Nat
  | [] => 0
  | d :: r => uptoBulk d + uptoBulkAll r
def uptoBulkEntries {H : Type} : List (Lit × DataW H) → Nat
  | [] => 0
  | x :: r => uptoBulkEntry x + uptoBulkEntries r
def uptoBulkEntry {H : Type} : Lit × DataW H → Nat
  | (.string bytes, d) => bytes.length + uptoBulk d + 1
  | (_, d) => uptoBulk d + 1
 end
def uptoSmall : (H : Type) → List (DataW H) → Bool := fun _ ds => decide (uptoBulkAll ds ≤ 1048576)
def OpenSpec.upto (s : _root_.Go.ChangeSpec) : _root_.Go.OpenSpec := { _root_.Go.OpenSpec.ofChange s with cond := some uptoSmall }

/-- 'taprootlaw43.WeaveCounts', WHERE WHAT IT READS IS OF BULK AT MOST 1048576: true; the input reads as it did. -/
def weaveCountsUptoRow : OpenClaim := { program := "ythpljhkjajaogaa", sum := "07dbd701b587eb5f87a92f492cf8e7fa9c9771b8efb9c9a96289835b9848e101", func := "taproot/taprootlaw43.WeaveCounts", spec := "weaveCounts", apart := false, narrowed := true }
def WeaveCountsUptoSaid : Prop := weaveCountsUptoRow.holds Try.pinned (OpenSpec.upto weaveCountsSpec)

/-- 'taprootlaw43.WeaveOrders', WHERE WHAT IT READS IS OF BULK AT MOST 1048576: true; the input reads as it did. -/
def weaveOrdersUptoRow : OpenClaim := { program := "ythpljhkjajaogaa", sum := "07dbd701b587eb5f87a92f492cf8e7fa9c9771b8efb9c9a96289835b9848e101", func := "taproot/taprootlaw43.WeaveOrders", spec := "weaveOrders", apart := false, narrowed := true }
def WeaveOrdersUptoSaid : Prop := weaveOrdersUptoRow.holds Try.pinned (OpenSpec.upto weaveOrdersSpec)

/-- 'taprootlaw43.WeaveAll', WHERE WHAT IT READS IS OF BULK AT MOST 1048576: true; the input reads as it did. -/
def weaveAllUptoRow : OpenClaim := { program := "ythpljhkjajaogaa", sum := "07dbd701b587eb5f87a92f492cf8e7fa9c9771b8efb9c9a96289835b9848e101", func := "taproot/taprootlaw43.WeaveAll", spec := "weaveAll", apart := false, narrowed := true }
def WeaveAllUptoSaid : Prop := weaveAllUptoRow.holds Try.pinned (OpenSpec.upto weaveAllSpec)

end Rows
end Go.Proofs.Ythpljhkjajaogaa
