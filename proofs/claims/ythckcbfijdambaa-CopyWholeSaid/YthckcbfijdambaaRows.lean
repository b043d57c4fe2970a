/-
  No cell of these rows narrows 'for every input' (looked for: loops, veiled, ifaces, maps, wideKeys, modest, calm, conditions, laid).
  DERIVED. THE GIVEN ROWS OF THIS SEAT. 8 by the template 'for every input the law returns true; each argument reads behind the call as it read before'; 0 by the template 'total and deterministic' (their statements: YthckcbfijdambaaTotals.lean).
  GIVEN WITH THE SEED: the statements are not yours to turn. If you find one false, say at which input.
  Laid BY PROGRAM, IN A SANDBOX (cutbox-rows.mjs): the forced cells as the released guide's own fill.sh prints them over the translation 6b4662b8f05711e2… (all of the seat's roots in one cut). By AI agents, Wed Nov 11 2026. No macro, syntax, notation, axiom, sorry.
-/
import Derived.Test.YthckcbfijdambaaChecked
import GoSem.Claim
import GoSem.ClaimJoined
import GoSem.ClaimMapViews
import Derived.JoinedTies
import Derived.KernelRfl
namespace Go.Proofs.Ythckcbfijdambaa
/- THE CELL 'sum', in the pinned program and in every row, IS THE sha256 OF THE DUMP (.gsa) THAT YthckcbfijdambaaProg.lean LOADS. Nothing in Lean hashes anything: it is a label: what it is worth is what the hold of that sum in a sandbox is worth. -/
noncomputable def Try.pinned : Pinned := { name := "ythckcbfijdambaa", sum := "6b4662b8f05711e20a7413e90383fa4b386eb5f9ce57a9e06b4fc679247b4a53", checked := Try.checked }
namespace Rows
def none {H : Type} : Left H := { results := [], args := [] }

/-- 'duodecimolaw04.CopyDivides': WHATEVER THE INPUT: true; the input reads as it did. -/
def copyDividesSpec : ChangeSpec := { name := "copyDivides", fn := fun _ => fun
  | [d1, d2, d3] => { results := [.lit (.bool true)], args := [d1, d2, d3] }
  | _ => none }
def copyDividesRow : OpenClaim := { program := "ythckcbfijdambaa", sum := "6b4662b8f05711e20a7413e90383fa4b386eb5f9ce57a9e06b4fc679247b4a53", func := "duodecimo/duodecimolaw04.CopyDivides", spec := "copyDivides", unfollowed := true, recurses := true, plainKeys := false, apart := false }
def CopyDividesSaid : Prop := copyDividesRow.holds Try.pinned (OpenSpec.ofChange copyDividesSpec)

/-- ITS FALSE NEIGHBOUR: 'it returns false'. Refute it at one input. -/
def copyDividesWrong : ChangeSpec := { name := "copyDivides", fn := fun _ => fun
  | [d1, d2, d3] => { results := [.lit (.bool false)], args := [d1, d2, d3] }
  | _ => none }
def CopyDividesWrongFalsely : Prop := copyDividesRow.holds Try.pinned (OpenSpec.ofChange copyDividesWrong)

/-- 'duodecimolaw04.CopyKnown': WHATEVER THE INPUT: true; the input reads as it did. -/
def copyKnownSpec : ChangeSpec := { name := "copyKnown", fn := fun _ => fun
  | [] => { results := [.lit (.bool true)], args := [] }
  | _ => none }
def copyKnownRow : OpenClaim := { program := "ythckcbfijdambaa", sum := "6b4662b8f05711e20a7413e90383fa4b386eb5f9ce57a9e06b4fc679247b4a53", func := "duodecimo/duodecimolaw04.CopyKnown", spec := "copyKnown", unfollowed := true, recurses := true, plainKeys := false, apart := false }
def CopyKnownSaid : Prop := copyKnownRow.holds Try.pinned (OpenSpec.ofChange copyKnownSpec)

/-- ITS FALSE NEIGHBOUR: 'it returns false'. Refute it at one input. -/
def copyKnownWrong : ChangeSpec := { name := "copyKnown", fn := fun _ => fun
  | [] => { results := [.lit (.bool false)], args := [] }
  | _ => none }
def CopyKnownWrongFalsely : Prop := copyKnownRow.holds Try.pinned (OpenSpec.ofChange copyKnownWrong)

/-- 'duodecimolaw04.CopyWhole': WHATEVER THE INPUT: true; the input reads as it did. -/
def copyWholeSpec : ChangeSpec := { name := "copyWhole", fn := fun _ => fun
  | [d1, d2] => { results := [.lit (.bool true)], args := [d1, d2] }
  | _ => none }
def copyWholeRow : OpenClaim := { program := "ythckcbfijdambaa", sum := "6b4662b8f05711e20a7413e90383fa4b386eb5f9ce57a9e06b4fc679247b4a53", func := "duodecimo/duodecimolaw04.CopyWhole", spec := "copyWhole", unfollowed := true, recurses := true, plainKeys := false, apart := false }
def CopyWholeSaid : Prop := copyWholeRow.holds Try.pinned (OpenSpec.ofChange copyWholeSpec)

/-- ITS FALSE NEIGHBOUR: 'it returns false'. Refute it at one input. -/
def copyWholeWrong : ChangeSpec := { name := "copyWhole", fn := fun _ => fun
  | [d1, d2] => { results := [.lit (.bool false)], args := [d1, d2] }
  | _ => none }
def CopyWholeWrongFalsely : Prop := copyWholeRow.holds Try.pinned (OpenSpec.ofChange copyWholeWrong)

/-- 'duodecimolaw04.CopyMore': WHATEVER THE INPUT: true; the input reads as it did. -/
def copyMoreSpec : ChangeSpec := { name := "copyMore", fn := fun _ => fun
  | [d1, d2] => { results := [.lit (.bool true)], args := [d1, d2] }
  | _ => none }
def copyMoreRow : OpenClaim := { program := "ythckcbfijdambaa", sum := "6b4662b8f05711e20a7413e90383fa4b386eb5f9ce57a9e06b4fc679247b4a53", func := "duodecimo/duodecimolaw04.CopyMore", spec := "copyMore", unfollowed := true, recurses := true, plainKeys := false, apart := false }
def CopyMoreSaid : Prop := copyMoreRow.holds Try.pinned (OpenSpec.ofChange copyMoreSpec)

/-- ITS FALSE NEIGHBOUR: 'it returns false'. Refute it at one input. -/
def copyMoreWrong : ChangeSpec := { name := "copyMore", fn := fun _ => fun
  | [d1, d2] => { results := [.lit (.bool false)], args := [d1, d2] }
  | _ => none }
def CopyMoreWrongFalsely : Prop := copyMoreRow.holds Try.pinned (OpenSpec.ofChange copyMoreWrong)

/-- 'duodecimolaw04.CopyBound': WHATEVER THE INPUT: true; the input reads as it did. -/
def copyBoundSpec : ChangeSpec := { name := "copyBound", fn := fun _ => fun
  | [d] => { results := [.lit (.bool true)], args := [d] }
  | _ => none }
def copyBoundRow : OpenClaim := { program := "ythckcbfijdambaa", sum := "6b4662b8f05711e20a7413e90383fa4b386eb5f9ce57a9e06b4fc679247b4a53", func := "duodecimo/duodecimolaw04.CopyBound", spec := "copyBound", unfollowed := true, recurses := true, plainKeys := false, apart := false }
def CopyBoundSaid : Prop := copyBoundRow.holds Try.pinned (OpenSpec.ofChange copyBoundSpec)

/-- ITS FALSE NEIGHBOUR: 'it returns false'. Refute it at one input. -/
def copyBoundWrong : ChangeSpec := { name := "copyBound", fn := fun _ => fun
  | [d] => { results := [.lit (.bool false)], args := [d] }
  | _ => none }
def CopyBoundWrongFalsely : Prop := copyBoundRow.holds Try.pinned (OpenSpec.ofChange copyBoundWrong)

/-- 'duodecimolaw04.CopyDoubt': WHATEVER THE INPUT: true; the input reads as it did. -/
def copyDoubtSpec : ChangeSpec := { name := "copyDoubt", fn := fun _ => fun
  | [d1, d2] => { results := [.lit (.bool true)], args := [d1, d2] }
  | _ => none }
def copyDoubtRow : OpenClaim := { program := "ythckcbfijdambaa", sum := "6b4662b8f05711e20a7413e90383fa4b386eb5f9ce57a9e06b4fc679247b4a53", func := "duodecimo/duodecimolaw04.CopyDoubt", spec := "copyDoubt", unfollowed := true, recurses := true, plainKeys := false, apart := false }
def CopyDoubtSaid : Prop := copyDoubtRow.holds Try.pinned (OpenSpec.ofChange copyDoubtSpec)

/-- ITS FALSE NEIGHBOUR: 'it returns false'. Refute it at one input. -/
def copyDoubtWrong : ChangeSpec := { name := "copyDoubt", fn := fun _ => fun
  | [d1, d2] => { results := [.lit (.bool false)], args := [d1, d2] }
  | _ => none }
def CopyDoubtWrongFalsely : Prop := copyDoubtRow.holds Try.pinned (OpenSpec.ofChange copyDoubtWrong)

/-- 'duodecimolaw04.CopyAsked': WHATEVER THE INPUT: true; the input reads as it did. -/
def copyAskedSpec : ChangeSpec := { name := "copyAsked", fn := fun _ => fun
  | [d1, d2] => { results := [.lit (.bool true)], args := [d1, d2] }
  | _ => none }
def copyAskedRow : OpenClaim := { program := "ythckcbfijdambaa", sum := "6b4662b8f05711e20a7413e90383fa4b386eb5f9ce57a9e06b4fc679247b4a53", func := "duodecimo/duodecimolaw04.CopyAsked", spec := "copyAsked", unfollowed := true, recurses := true, plainKeys := false, apart := false }
def CopyAskedSaid : Prop := copyAskedRow.holds Try.pinned (OpenSpec.ofChange copyAskedSpec)

/-- ITS FALSE NEIGHBOUR: 'it returns false'. Refute it at one input. -/
def copyAskedWrong : ChangeSpec := { name := "copyAsked", fn := fun _ => fun
  | [d1, d2] => { results := [.lit (.bool false)], args := [d1, d2] }
  | _ => none }
def CopyAskedWrongFalsely : Prop := copyAskedRow.holds Try.pinned (OpenSpec.ofChange copyAskedWrong)

/-- 'duodecimolaw04.CopyDivided': WHATEVER THE INPUT: true; the input reads as it did. -/
def copyDividedSpec : ChangeSpec := { name := "copyDivided", fn := fun _ => fun
  | [d1, d2, d3] => { results := [.lit (.bool true)], args := [d1, d2, d3] }
  | _ => none }
def copyDividedRow : OpenClaim := { program := "ythckcbfijdambaa", sum := "6b4662b8f05711e20a7413e90383fa4b386eb5f9ce57a9e06b4fc679247b4a53", func := "duodecimo/duodecimolaw04.CopyDivided", spec := "copyDivided", unfollowed := true, recurses := true, plainKeys := false, apart := false }
def CopyDividedSaid : Prop := copyDividedRow.holds Try.pinned (OpenSpec.ofChange copyDividedSpec)

/-- ITS FALSE NEIGHBOUR: 'it returns false'. Refute it at one input. -/
def copyDividedWrong : ChangeSpec := { name := "copyDivided", fn := fun _ => fun
  | [d1, d2, d3] => { results := [.lit (.bool false)], args := [d1, d2, d3] }
  | _ => none }
def CopyDividedWrongFalsely : Prop := copyDividedRow.holds Try.pinned (OpenSpec.ofChange copyDividedWrong)

/- THE SECOND FORM. 'bulk': how many values and letters a reading holds, each counted each time it is reached (what is shared counts as often as it is met; a slice's spare places count too). A statement '..UptoSaid' is the law's where the arguments, and the package variables that the reading takes, are together of bulk at most 1048576: NARROWER than '..Said'. Prove '..Said' where nothing that the law and all that it calls make is longer than what came in: it says more and counts as full. Else prove '..UptoSaid'. A law counts once. -/
mutual
def uptoBulk {H : Type} : DataW H → Nat
  | .lit (.string bytes) => bytes.length + 1
  | .lit _ => 1
  | .nil => 1
  | .ptr d => uptoBulk d + 1
  | .slice elems spare => uptoBulkAll elems + uptoBulkAll spare + 1
  | .agg parts => uptoBulkAll parts + 1
  | .iface _ d => uptoBulk d + 1
  | .map entries => uptoBulkEntries entries + 1
  | .held _ => 1
def uptoBulkAll {H : Type} : List (DataW H) → Nat
  | [] => 0
  | d :: r => uptoBulk d + uptoBulkAll r
def uptoBulkEntries {H : Type} : List (Lit × DataW H) → Nat
  | [] => 0
  | x :: r => uptoBulkEntry x + uptoBulkEntries r
def uptoBulkEntry {H : Type} : Lit × DataW H → Nat
  | (.string bytes, d) => bytes.length + uptoBulk d + 1
  | (_, d) => uptoBulk d + 1
 end
def uptoSmall : (H : Type) → List (DataW H) → Bool := fun _ ds => decide (uptoBulkAll ds ≤ 1048576)
def OpenSpec.upto (s : _root_.Go.ChangeSpec) : _root_.Go.OpenSpec := { _root_.Go.OpenSpec.ofChange s with cond := some uptoSmall }

/-- 'duodecimolaw04.CopyDivides', WHERE WHAT IT READS IS OF BULK AT MOST 1048576: true; the input reads as it did. -/
def copyDividesUptoRow : OpenClaim := { program := "ythckcbfijdambaa", sum := "6b4662b8f05711e20a7413e90383fa4b386eb5f9ce57a9e06b4fc679247b4a53", func := "duodecimo/duodecimolaw04.CopyDivides", spec := "copyDivides", unfollowed := true, recurses := true, plainKeys := false, apart := false, narrowed := true }
def CopyDividesUptoSaid : Prop := copyDividesUptoRow.holds Try.pinned (OpenSpec.upto copyDividesSpec)

/-- 'duodecimolaw04.CopyKnown', WHERE WHAT IT READS IS OF BULK AT MOST 1048576: true; the input reads as it did. -/
def copyKnownUptoRow : OpenClaim := { program := "ythckcbfijdambaa", sum := "6b4662b8f05711e20a7413e90383fa4b386eb5f9ce57a9e06b4fc679247b4a53", func := "duodecimo/duodecimolaw04.CopyKnown", spec := "copyKnown", unfollowed := true, recurses := true, plainKeys := false, apart := false, narrowed := true }
def CopyKnownUptoSaid : Prop := copyKnownUptoRow.holds Try.pinned (OpenSpec.upto copyKnownSpec)

/-- 'duodecimolaw04.CopyWhole', WHERE WHAT IT READS IS OF BULK AT MOST 1048576: true; the input reads as it did. -/
def copyWholeUptoRow : OpenClaim := { program := "ythckcbfijdambaa", sum := "6b4662b8f05711e20a7413e90383fa4b386eb5f9ce57a9e06b4fc679247b4a53", func := "duodecimo/duodecimolaw04.CopyWhole", spec := "copyWhole", unfollowed := true, recurses := true, plainKeys := false, apart := false, narrowed := true }
def CopyWholeUptoSaid : Prop := copyWholeUptoRow.holds Try.pinned (OpenSpec.upto copyWholeSpec)

/-- 'duodecimolaw04.CopyMore', WHERE WHAT IT READS IS OF BULK AT MOST 1048576: true; the input reads as it did. -/
def copyMoreUptoRow : OpenClaim := { program := "ythckcbfijdambaa", sum := "6b4662b8f05711e20a7413e90383fa4b386eb5f9ce57a9e06b4fc679247b4a53", func := "duodecimo/duodecimolaw04.CopyMore", spec := "copyMore", unfollowed := true, recurses := true, plainKeys := false, apart := false, narrowed := true }
def CopyMoreUptoSaid : Prop := copyMoreUptoRow.holds Try.pinned (OpenSpec.upto copyMoreSpec)

/-- 'duodecimolaw04.CopyBound', WHERE WHAT IT READS IS OF BULK AT MOST 1048576: true; the input reads as it did. -/
def copyBoundUptoRow : OpenClaim := { program := "ythckcbfijdambaa", sum := "6b4662b8f05711e20a7413e90383fa4b386eb5f9ce57a9e06b4fc679247b4a53", func := "duodecimo/duodecimolaw04.CopyBound", spec := "copyBound", unfollowed := true, recurses := true, plainKeys := false, apart := false, narrowed := true }
def CopyBoundUptoSaid : Prop := copyBoundUptoRow.holds Try.pinned (OpenSpec.upto copyBoundSpec)

/-- 'duodecimolaw04.CopyDoubt', WHERE WHAT IT READS IS OF BULK AT MOST 1048576: true; the input reads as it did. -/
def copyDoubtUptoRow : OpenClaim := { program := "ythckcbfijdambaa", sum := "6b4662b8f05711e20a7413e90383fa4b386eb5f9ce57a9e06b4fc679247b4a53", func := "duodecimo/duodecimolaw04.CopyDoubt", spec := "copyDoubt", unfollowed := true, recurses := true, plainKeys := false, apart := false, narrowed := true }
def CopyDoubtUptoSaid : Prop := copyDoubtUptoRow.holds Try.pinned (OpenSpec.upto copyDoubtSpec)

/-- 'duodecimolaw04.CopyAsked', WHERE WHAT IT READS IS OF BULK AT MOST 1048576: true; the input reads as it did. -/
def copyAskedUptoRow : OpenClaim := { program := "ythckcbfijdambaa", sum := "6b4662b8f05711e20a7413e90383fa4b386eb5f9ce57a9e06b4fc679247b4a53", func := "duodecimo/duodecimolaw04.CopyAsked", spec := "copyAsked", unfollowed := true, recurses := true, plainKeys := false, apart := false, narrowed := true }
def CopyAskedUptoSaid : Prop := copyAskedUptoRow.holds Try.pinned (OpenSpec.upto copyAskedSpec)

/-- 'duodecimolaw04.CopyDivided', WHERE WHAT IT READS IS OF BULK AT MOST 1048576: true; the input reads as it did. -/
def copyDividedUptoRow : OpenClaim := { program := "ythckcbfijdambaa", sum := "6b4662b8f05711e20a7413e90383fa4b386eb5f9ce57a9e06b4fc679247b4a53", func := "duodecimo/duodecimolaw04.CopyDivided", spec := "copyDivided", unfollowed := true, recurses := true, plainKeys := false, apart := false, narrowed := true }
def CopyDividedUptoSaid : Prop := copyDividedUptoRow.holds Try.pinned (OpenSpec.upto copyDividedSpec)

end Rows
end Go.Proofs.Ythckcbfijdambaa
