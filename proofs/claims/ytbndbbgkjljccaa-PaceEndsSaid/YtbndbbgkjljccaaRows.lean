/-
  No cell of these rows narrows 'for every input' (looked for: loops, veiled, ifaces, maps, wideKeys, modest, calm, conditions, laid).
  DERIVED. THE GIVEN ROWS OF THIS SEAT. 3 by the template 'for every input the law returns true; each argument reads behind the call as it read before'; 0 by the template 'total and deterministic' (their statements: YtbndbbgkjljccaaTotals.lean).
  GIVEN WITH THE SEED: the statements are not yours to turn. If you find one false, say at which input.
  Laid BY PROGRAM, IN A SANDBOX (cutbox-rows.mjs): the forced cells as the released guide's own fill.sh prints them over the translation edc46678f1624727… (all of the seat's roots in one cut). By AI agents, Wed Nov 11 2026. No macro, syntax, notation, axiom, sorry.
-/
import Derived.Test.YtbndbbgkjljccaaChecked
import GoSem.Claim
import GoSem.ClaimJoined
import GoSem.ClaimMapViews
import Derived.JoinedTies
import Derived.KernelRfl
namespace Go.Proofs.Ytbndbbgkjljccaa
/- THE CELL 'sum', in the pinned program and in every row, IS THE sha256 OF THE DUMP (.gsa) THAT YtbndbbgkjljccaaProg.lean LOADS. Nothing in Lean hashes anything: it is a label: what it is worth is what the hold of that sum in a sandbox is worth. -/
noncomputable def Try.pinned : Pinned := { name := "ytbndbbgkjljccaa", sum := "edc46678f162472764cfb62a79970c78a9aa768caaa966897e01acdae0c03737", checked := Try.checked }
namespace Rows
def none {H : Type} : Left H := { results := [], args := [] }

/-- 'taprootlaw42.PacePlays': WHATEVER THE INPUT: true; the input reads as it did. -/
def pacePlaysSpec : ChangeSpec := { name := "pacePlays", fn := fun _ => fun
  | [d1, d2, d3] => { results := [.lit (.bool true)], args := [d1, d2, d3] }
  | _ => none }
def pacePlaysRow : OpenClaim := { program := "ytbndbbgkjljccaa", sum := "edc46678f162472764cfb62a79970c78a9aa768caaa966897e01acdae0c03737", func := "taproot/taprootlaw42.PacePlays", spec := "pacePlays", apart := false }
def PacePlaysSaid : Prop := pacePlaysRow.holds Try.pinned (OpenSpec.ofChange pacePlaysSpec)

/-- ITS FALSE NEIGHBOUR: 'it returns false'. Refute it at one input. -/
def pacePlaysWrong : ChangeSpec := { name := "pacePlays", fn := fun _ => fun
  | [d1, d2, d3] => { results := [.lit (.bool false)], args := [d1, d2, d3] }
  | _ => none }
def PacePlaysWrongFalsely : Prop := pacePlaysRow.holds Try.pinned (OpenSpec.ofChange pacePlaysWrong)

/-- 'taprootlaw42.PaceEnough': WHATEVER THE INPUT: true; the input reads as it did. -/
def paceEnoughSpec : ChangeSpec := { name := "paceEnough", fn := fun _ => fun
  | [d1, d2, d3] => { results := [.lit (.bool true)], args := [d1, d2, d3] }
  | _ => none }
def paceEnoughRow : OpenClaim := { program := "ytbndbbgkjljccaa", sum := "edc46678f162472764cfb62a79970c78a9aa768caaa966897e01acdae0c03737", func := "taproot/taprootlaw42.PaceEnough", spec := "paceEnough", apart := false }
def PaceEnoughSaid : Prop := paceEnoughRow.holds Try.pinned (OpenSpec.ofChange paceEnoughSpec)

/-- ITS FALSE NEIGHBOUR: 'it returns false'. Refute it at one input. -/
def paceEnoughWrong : ChangeSpec := { name := "paceEnough", fn := fun _ => fun
  | [d1, d2, d3] => { results := [.lit (.bool false)], args := [d1, d2, d3] }
  | _ => none }
def PaceEnoughWrongFalsely : Prop := paceEnoughRow.holds Try.pinned (OpenSpec.ofChange paceEnoughWrong)

/-- 'taprootlaw42.PaceEnds': WHATEVER THE INPUT: true; the input reads as it did. -/
def paceEndsSpec : ChangeSpec := { name := "paceEnds", fn := fun _ => fun
  | [d1, d2, d3] => { results := [.lit (.bool true)], args := [d1, d2, d3] }
  | _ => none }
def paceEndsRow : OpenClaim := { program := "ytbndbbgkjljccaa", sum := "edc46678f162472764cfb62a79970c78a9aa768caaa966897e01acdae0c03737", func := "taproot/taprootlaw42.PaceEnds", spec := "paceEnds", apart := false }
def PaceEndsSaid : Prop := paceEndsRow.holds Try.pinned (OpenSpec.ofChange paceEndsSpec)

/-- ITS FALSE NEIGHBOUR: 'it returns false'. Refute it at one input. -/
def paceEndsWrong : ChangeSpec := { name := "paceEnds", fn := fun _ => fun
  | [d1, d2, d3] => { results := [.lit (.bool false)], args := [d1, d2, d3] }
  | _ => none }
def PaceEndsWrongFalsely : Prop := paceEndsRow.holds Try.pinned (OpenSpec.ofChange paceEndsWrong)

/- THE SECOND FORM. 'bulk': how many values and letters a reading holds, each counted each time it is reached (what is shared counts as often as it is met; a slice's spare places count too). A statement '..UptoSaid' is the law's where the arguments, and the package variables that the reading takes, are together of bulk at most 1048576: NARROWER than '..Said'. Prove '..Said' where nothing that the law and all that it calls make is longer than what came in: it says more and counts as full. Else prove '..UptoSaid'. A law counts once. -/
mutual
def uptoBulk {H : Type} : DataW H → Nat
  | .lit (.string bytes) => bytes.length + 1
  | .lit _ => 1
  | .nil => 1
  | .ptr d => uptoBulk d + 1
  | .slice elems spare => uptoBulkAll elems + uptoBulkAll spare + 1
  | .agg parts => uptoBulkAll parts + 1
  | .iface _ d => uptoBulk d + 1
  | .map entries => uptoBulkEntries entries + 1
  | .held _ => 1
def uptoBulkAll {H : Type} : List (DataW H) → Nat
  | [] => 0
  | d :: r => uptoBulk d + uptoBulkAll r
def uptoBulkEntries {H : Type} : List (Lit × DataW H) → Nat
  | [] => 0
  | x :: r => uptoBulkEntry x + uptoBulkEntries r
def uptoBulkEntry {H : Type} : Lit × DataW H → Nat
  | (.string bytes, d) => bytes.length + uptoBulk d + 1
  | (_, d) => uptoBulk d + 1
 end
def uptoSmall : (H : Type) → List (DataW H) → Bool := fun _ ds => decide (uptoBulkAll ds ≤ 1048576)
def OpenSpec.upto (s : _root_.Go.ChangeSpec) : _root_.Go.OpenSpec := { _root_.Go.OpenSpec.ofChange s with cond := some uptoSmall }

/-- 'taprootlaw42.PacePlays', WHERE WHAT IT READS IS OF BULK AT MOST 1048576: true; the input reads as it did. -/
def pacePlaysUptoRow : OpenClaim := { program := "ytbndbbgkjljccaa", sum := "edc46678f162472764cfb62a79970c78a9aa768caaa966897e01acdae0c03737", func := "taproot/taprootlaw42.PacePlays", spec := "pacePlays", apart := false, narrowed := true }
def PacePlaysUptoSaid : Prop := pacePlaysUptoRow.holds Try.pinned (OpenSpec.upto pacePlaysSpec)

/-- 'taprootlaw42.PaceEnough', WHERE WHAT IT READS IS OF BULK AT MOST 1048576: true; the input reads as it did. -/
def paceEnoughUptoRow : OpenClaim := { program := "ytbndbbgkjljccaa", sum := "edc46678f162472764cfb62a79970c78a9aa768caaa966897e01acdae0c03737", func := "taproot/taprootlaw42.PaceEnough", spec := "paceEnough", apart := false, narrowed := true }
def PaceEnoughUptoSaid : Prop := paceEnoughUptoRow.holds Try.pinned (OpenSpec.upto paceEnoughSpec)

/-- 'taprootlaw42.PaceEnds', WHERE WHAT IT READS IS OF BULK AT MOST 1048576: true; the input reads as it did. -/
def paceEndsUptoRow : OpenClaim := { program := "ytbndbbgkjljccaa", sum := "edc46678f162472764cfb62a79970c78a9aa768caaa966897e01acdae0c03737", func := "taproot/taprootlaw42.PaceEnds", spec := "paceEnds", apart := false, narrowed := true }
def PaceEndsUptoSaid : Prop := paceEndsUptoRow.holds Try.pinned (OpenSpec.upto paceEndsSpec)

end Rows
end Go.Proofs.Ytbndbbgkjljccaa
