/-
  No cell of these rows narrows 'for every input' (looked for: loops, veiled, ifaces, maps, wideKeys, modest, calm, conditions, laid).
  DERIVED. THE GIVEN ROWS OF THIS SEAT. 3 by the template 'for every input the law returns true; each argument reads behind the call as it read before'; 0 by the template 'total and deterministic' (their statements: YtpflhgidcjlcjaaTotals.lean).
  GIVEN WITH THE SEED: the statements are not yours to turn. If you find one false, say at which input.
  Laid BY PROGRAM, IN A SANDBOX (cutbox-rows.mjs): the forced cells as the released guide's own fill.sh prints them over the translation 4c399896e5b94200… (all of the seat's roots in one cut). By AI agents, Wed Nov 11 2026. No macro, syntax, notation, axiom, sorry.
-/
import Derived.Test.YtpflhgidcjlcjaaChecked
import GoSem.Claim
import GoSem.ClaimJoined
import GoSem.ClaimMapViews
import Derived.JoinedTies
import Derived.KernelRfl
namespace Go.Proofs.Ytpflhgidcjlcjaa
/- THE CELL 'sum', in the pinned program and in every row, IS THE sha256 OF THE DUMP (.gsa) THAT YtpflhgidcjlcjaaProg.lean LOADS. Nothing in Lean hashes anything: it is a label: what it is worth is what the hold of that sum in a sandbox is worth. -/
noncomputable def Try.pinned : Pinned := { name := "ytpflhgidcjlcjaa", sum := "4c399896e5b94200385817d3291757155857c777133e5da13645df0e5d7b4710", checked := Try.checked }
namespace Rows
def none {H : Type} : Left H := { results := [], args := [] }

/-- 'taprootlaw44.WearTurns': WHATEVER THE INPUT: true; the input reads as it did. -/
def wearTurnsSpec : ChangeSpec := { name := "wearTurns", fn := fun _ => fun
  | [d1, d2, d3] => { results := [.lit (.bool true)], args := [d1, d2, d3] }
  | _ => none }
def wearTurnsRow : OpenClaim := { program := "ytpflhgidcjlcjaa", sum := "4c399896e5b94200385817d3291757155857c777133e5da13645df0e5d7b4710", func := "taproot/taprootlaw44.WearTurns", spec := "wearTurns", apart := false }
def WearTurnsSaid : Prop := wearTurnsRow.holds Try.pinned (OpenSpec.ofChange wearTurnsSpec)

/-- ITS FALSE NEIGHBOUR: 'it returns false'. Refute it at one input. -/
def wearTurnsWrong : ChangeSpec := { name := "wearTurns", fn := fun _ => fun
  | [d1, d2, d3] => { results := [.lit (.bool false)], args := [d1, d2, d3] }
  | _ => none }
def WearTurnsWrongFalsely : Prop := wearTurnsRow.holds Try.pinned (OpenSpec.ofChange wearTurnsWrong)

/-- 'taprootlaw44.WearCounts': WHATEVER THE INPUT: true; the input reads as it did. -/
def wearCountsSpec : ChangeSpec := { name := "wearCounts", fn := fun _ => fun
  | [d1, d2] => { results := [.lit (.bool true)], args := [d1, d2] }
  | _ => none }
def wearCountsRow : OpenClaim := { program := "ytpflhgidcjlcjaa", sum := "4c399896e5b94200385817d3291757155857c777133e5da13645df0e5d7b4710", func := "taproot/taprootlaw44.WearCounts", spec := "wearCounts", apart := false }
def WearCountsSaid : Prop := wearCountsRow.holds Try.pinned (OpenSpec.ofChange wearCountsSpec)

/-- ITS FALSE NEIGHBOUR: 'it returns false'. Refute it at one input. -/
def wearCountsWrong : ChangeSpec := { name := "wearCounts", fn := fun _ => fun
  | [d1, d2] => { results := [.lit (.bool false)], args := [d1, d2] }
  | _ => none }
def WearCountsWrongFalsely : Prop := wearCountsRow.holds Try.pinned (OpenSpec.ofChange wearCountsWrong)

/-- 'taprootlaw44.WearPlays': WHATEVER THE INPUT: true; the input reads as it did. -/
def wearPlaysSpec : ChangeSpec := { name := "wearPlays", fn := fun _ => fun
  | [d1, d2, d3] => { results := [.lit (.bool true)], args := [d1, d2, d3] }
  | _ => none }
def wearPlaysRow : OpenClaim := { program := "ytpflhgidcjlcjaa", sum := "4c399896e5b94200385817d3291757155857c777133e5da13645df0e5d7b4710", func := "taproot/taprootlaw44.WearPlays", spec := "wearPlays", apart := false }
def WearPlaysSaid : Prop := wearPlaysRow.holds Try.pinned (OpenSpec.ofChange wearPlaysSpec)

/-- ITS FALSE NEIGHBOUR: 'it returns false'. Refute it at one input. -/
def wearPlaysWrong : ChangeSpec := { name := "wearPlays", fn := fun _ => fun
  | [d1, d2, d3] => { results := [.lit (.bool false)], args := [d1, d2, d3] }
  | _ => none }
def WearPlaysWrongFalsely : Prop := wearPlaysRow.holds Try.pinned (OpenSpec.ofChange wearPlaysWrong)

/- THE SECOND FORM. 'bulk': how many values and letters a reading holds, each counted each time it is reached (what is shared counts as often as it is met; a slice's spare places count too). A statement '..UptoSaid' is the law's where the arguments, and the package variables that the reading takes, are together of bulk at most 1048576: NARROWER than '..Said'. Prove '..Said' where nothing that the law and all that it calls make is longer than what came in: it says more and counts as full. Else prove '..UptoSaid'. A law counts once. -/
mutual
def uptoBulk {H : Type} : DataW H → Nat
  | .lit (.string bytes) => bytes.length + 1
  | .lit _ => 1
  | .nil => 1
  | .ptr d => uptoBulk d + 1
  | .slice elems spare => uptoBulkAll elems + uptoBulkAll spare + 1
  | .agg parts => uptoBulkAll parts + 1
  | .iface _ d => uptoBulk d + 1
  | .map entries => uptoBulkEntries entries + 1
  | .held _ => 1
def uptoBulkAll {H : Type} : List (DataW H) → Nat
  | [] => 0
  | d :: r => uptoBulk d + uptoBulkAll r
def uptoBulkEntries {H : Type} : List (Lit × DataW H) → Nat
  | [] => 0
  | x :: r => uptoBulkEntry x + uptoBulkEntries r
def uptoBulkEntry {H : Type} : Lit × DataW H → Nat
  | (.string bytes, d) => bytes.length + uptoBulk d + 1
  | (_, d) => uptoBulk d + 1
 end
def uptoSmall : (H : Type) → List (DataW H) → Bool := fun _ ds => decide (uptoBulkAll ds ≤ 1048576)
def OpenSpec.upto (s : _root_.Go.ChangeSpec) : _root_.Go.OpenSpec := { _root_.Go.OpenSpec.ofChange s with cond := some uptoSmall }

/-- 'taprootlaw44.WearTurns', WHERE WHAT IT READS IS OF BULK AT MOST 1048576: true; the input reads as it did. -/
def wearTurnsUptoRow : OpenClaim := { program := "ytpflhgidcjlcjaa", sum := "4c399896e5b94200385817d3291757155857c777133e5da13645df0e5d7b4710", func := "taproot/taprootlaw44.WearTurns", spec := "wearTurns", apart := false, narrowed := true }
def WearTurnsUptoSaid : Prop := wearTurnsUptoRow.holds Try.pinned (OpenSpec.upto wearTurnsSpec)

/-- 'taprootlaw44.WearCounts', WHERE WHAT IT READS IS OF BULK AT MOST 1048576: true; the input reads as it did. -/
def wearCountsUptoRow : OpenClaim := { program := "ytpflhgidcjlcjaa", sum := "4c399896e5b94200385817d3291757155857c777133e5da13645df0e5d7b4710", func := "taproot/taprootlaw44.WearCounts", spec := "wearCounts", apart := false, narrowed := true }
def WearCountsUptoSaid : Prop := wearCountsUptoRow.holds Try.pinned (OpenSpec.upto wearCountsSpec)

/-- 'taprootlaw44.WearPlays', WHERE WHAT IT READS IS OF BULK AT MOST 1048576: true; the input reads as it did. -/
def wearPlaysUptoRow : OpenClaim := { program := "ytpflhgidcjlcjaa", sum := "4c399896e5b94200385817d3291757155857c777133e5da13645df0e5d7b4710", func := "taproot/taprootlaw44.WearPlays", spec := "wearPlays", apart := false, narrowed := true }
def WearPlaysUptoSaid : Prop := wearPlaysUptoRow.holds Try.pinned (OpenSpec.upto wearPlaysSpec)

end Rows
end Go.Proofs.Ytpflhgidcjlcjaa
