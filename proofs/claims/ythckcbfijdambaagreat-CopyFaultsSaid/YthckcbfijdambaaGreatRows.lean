/-
  No cell of these rows narrows 'for every input' (looked for: loops, veiled, ifaces, maps, wideKeys, modest, calm, conditions, laid).
  DERIVED. THE GIVEN ROWS OF THIS SEAT. 4 by the template 'for every input the law returns true; each argument reads behind the call as it read before'; 0 by the template 'total and deterministic' (their statements: YthckcbfijdambaaGreatTotals.lean).
  GIVEN WITH THE SEED: the statements are not yours to turn. If you find one false, say at which input.
  Laid BY PROGRAM, IN A SANDBOX (cutbox-rows.mjs): the forced cells as the released guide's own fill.sh prints them over the translation 4adf8d9f07d645ad… (all of the seat's roots in one cut). By AI agents, Wed Nov 11 2026. No macro, syntax, notation, axiom, sorry.
-/
import Derived.Test.YthckcbfijdambaaGreatChecked
import GoSem.Claim
import GoSem.ClaimJoined
import GoSem.ClaimMapViews
import Derived.JoinedTies
import Derived.KernelRfl
namespace Go.Proofs.YthckcbfijdambaaGreat
/- THE CELL 'sum', in the pinned program and in every row, IS THE sha256 OF THE DUMP (.gsa) THAT YthckcbfijdambaaGreatProg.lean LOADS. Nothing in Lean hashes anything: it is a label: what it is worth is what the hold of that sum in a sandbox is worth. -/
noncomputable def Tryz.pinned : Pinned := { name := "ythckcbfijdambaagreat", sum := "4adf8d9f07d645ad6707c72a2f41d9f4d4a1e8c5198bdfecf80bc37d91173cd1", checked := Tryz.checked }
namespace Rows
def none {H : Type} : Left H := { results := [], args := [] }

/-- 'duodecimolaw04.CopyLost': WHATEVER THE INPUT: true; the input reads as it did. -/
def copyLostSpec : ChangeSpec := { name := "copyLost", fn := fun _ => fun
  | [d] => { results := [.lit (.bool true)], args := [d] }
  | _ => none }
def copyLostRow : OpenClaim := { program := "ythckcbfijdambaagreat", sum := "4adf8d9f07d645ad6707c72a2f41d9f4d4a1e8c5198bdfecf80bc37d91173cd1", func := "duodecimo/duodecimolaw04.CopyLost", spec := "copyLost", unfollowed := true, recurses := true, plainKeys := false, apart := false }
def CopyLostSaid : Prop := copyLostRow.holds Tryz.pinned (OpenSpec.ofChange copyLostSpec)

/-- ITS FALSE NEIGHBOUR: 'it returns false'. Refute it at one input. -/
def copyLostWrong : ChangeSpec := { name := "copyLost", fn := fun _ => fun
  | [d] => { results := [.lit (.bool false)], args := [d] }
  | _ => none }
def CopyLostWrongFalsely : Prop := copyLostRow.holds Tryz.pinned (OpenSpec.ofChange copyLostWrong)

/-- 'duodecimolaw04.CopyTrue': WHATEVER THE INPUT: true; the input reads as it did. -/
def copyTrueSpec : ChangeSpec := { name := "copyTrue", fn := fun _ => fun
  | [d1, d2] => { results := [.lit (.bool true)], args := [d1, d2] }
  | _ => none }
def copyTrueRow : OpenClaim := { program := "ythckcbfijdambaagreat", sum := "4adf8d9f07d645ad6707c72a2f41d9f4d4a1e8c5198bdfecf80bc37d91173cd1", func := "duodecimo/duodecimolaw04.CopyTrue", spec := "copyTrue", unfollowed := true, recurses := true, plainKeys := false, apart := false }
def CopyTrueSaid : Prop := copyTrueRow.holds Tryz.pinned (OpenSpec.ofChange copyTrueSpec)

/-- ITS FALSE NEIGHBOUR: 'it returns false'. Refute it at one input. -/
def copyTrueWrong : ChangeSpec := { name := "copyTrue", fn := fun _ => fun
  | [d1, d2] => { results := [.lit (.bool false)], args := [d1, d2] }
  | _ => none }
def CopyTrueWrongFalsely : Prop := copyTrueRow.holds Tryz.pinned (OpenSpec.ofChange copyTrueWrong)

/-- 'duodecimolaw04.CopyFewest': WHATEVER THE INPUT: true; the input reads as it did. -/
def copyFewestSpec : ChangeSpec := { name := "copyFewest", fn := fun _ => fun
  | [d1, d2, d3] => { results := [.lit (.bool true)], args := [d1, d2, d3] }
  | _ => none }
def copyFewestRow : OpenClaim := { program := "ythckcbfijdambaagreat", sum := "4adf8d9f07d645ad6707c72a2f41d9f4d4a1e8c5198bdfecf80bc37d91173cd1", func := "duodecimo/duodecimolaw04.CopyFewest", spec := "copyFewest", unfollowed := true, recurses := true, plainKeys := false, apart := false }
def CopyFewestSaid : Prop := copyFewestRow.holds Tryz.pinned (OpenSpec.ofChange copyFewestSpec)

/-- ITS FALSE NEIGHBOUR: 'it returns false'. Refute it at one input. -/
def copyFewestWrong : ChangeSpec := { name := "copyFewest", fn := fun _ => fun
  | [d1, d2, d3] => { results := [.lit (.bool false)], args := [d1, d2, d3] }
  | _ => none }
def CopyFewestWrongFalsely : Prop := copyFewestRow.holds Tryz.pinned (OpenSpec.ofChange copyFewestWrong)

/-- 'duodecimolaw04.CopyFaults': WHATEVER THE INPUT: true; the input reads as it did. -/
def copyFaultsSpec : ChangeSpec := { name := "copyFaults", fn := fun _ => fun
  | [d] => { results := [.lit (.bool true)], args := [d] }
  | _ => none }
def copyFaultsRow : OpenClaim := { program := "ythckcbfijdambaagreat", sum := "4adf8d9f07d645ad6707c72a2f41d9f4d4a1e8c5198bdfecf80bc37d91173cd1", func := "duodecimo/duodecimolaw04.CopyFaults", spec := "copyFaults", unfollowed := true, recurses := true, plainKeys := false, apart := false }
def CopyFaultsSaid : Prop := copyFaultsRow.holds Tryz.pinned (OpenSpec.ofChange copyFaultsSpec)

/-- ITS FALSE NEIGHBOUR: 'it returns false'. Refute it at one input. -/
def copyFaultsWrong : ChangeSpec := { name := "copyFaults", fn := fun _ => fun
  | [d] => { results := [.lit (.bool false)], args := [d] }
  | _ => none }
def CopyFaultsWrongFalsely : Prop := copyFaultsRow.holds Tryz.pinned (OpenSpec.ofChange copyFaultsWrong)

/- THE SECOND FORM. 'bulk': how many values and letters a reading holds, each counted each time it is reached (what is shared counts as often as it is met; a slice's spare places count too). A statement '..UptoSaid' is the law's where the arguments, and the package variables that the reading takes, are together of bulk at most 1048576: NARROWER than '..Said'. Prove '..Said' where nothing that the law and all that it calls make is longer than what came in: it says more and counts as full. Else prove '..UptoSaid'. A law counts once. -/
mutual
def uptoBulk {H : Type} : DataW H → Nat
  | .lit (.string bytes) => bytes.length + 1
  | .lit _ => 1
  | .nil => 1
  | .ptr d => uptoBulk d + 1
  | .slice elems spare => uptoBulkAll elems + uptoBulkAll spare + 1
  | .agg parts => uptoBulkAll parts + 1
  | .iface _ d => uptoBulk d + 1
  | .map entries => uptoBulkEntries entries + 1
  | .held _ => 1
def uptoBulkAll {H : Type} : List (DataW H) → Nat
  | [] => 0
  | d :: r => uptoBulk d + uptoBulkAll r
def uptoBulkEntries {H : Type} : List (Lit × DataW H) → Nat
  | [] => 0
  | x :: r => uptoBulkEntry x + uptoBulkEntries r
def uptoBulkEntry {H : Type} : Lit × DataW H → Nat
  | (.string bytes, d) => bytes.length + uptoBulk d + 1
  | (_, d) => uptoBulk d + 1
 end
def uptoSmall : (H : Type) → List (DataW H) → Bool := fun _ ds => decide (uptoBulkAll ds ≤ 1048576)
def OpenSpec.upto (s : _root_.Go.ChangeSpec) : _root_.Go.OpenSpec := { _root_.Go.OpenSpec.ofChange s with cond := some uptoSmall }

/-- 'duodecimolaw04.CopyLost', WHERE WHAT IT READS IS OF BULK AT MOST 1048576: true; the input reads as it did. -/
def copyLostUptoRow : OpenClaim := { program := "ythckcbfijdambaagreat", sum := "4adf8d9f07d645ad6707c72a2f41d9f4d4a1e8c5198bdfecf80bc37d91173cd1", func := "duodecimo/duodecimolaw04.CopyLost", spec := "copyLost", unfollowed := true, recurses := true, plainKeys := false, apart := false, narrowed := true }
def CopyLostUptoSaid : Prop := copyLostUptoRow.holds Tryz.pinned (OpenSpec.upto copyLostSpec)

/-- 'duodecimolaw04.CopyTrue', WHERE WHAT IT READS IS OF BULK AT MOST 1048576: true; the input reads as it did. -/
def copyTrueUptoRow : OpenClaim := { program := "ythckcbfijdambaagreat", sum := "4adf8d9f07d645ad6707c72a2f41d9f4d4a1e8c5198bdfecf80bc37d91173cd1", func := "duodecimo/duodecimolaw04.CopyTrue", spec := "copyTrue", unfollowed := true, recurses := true, plainKeys := false, apart := false, narrowed := true }
def CopyTrueUptoSaid : Prop := copyTrueUptoRow.holds Tryz.pinned (OpenSpec.upto copyTrueSpec)

/-- 'duodecimolaw04.CopyFewest', WHERE WHAT IT READS IS OF BULK AT MOST 1048576: true; the input reads as it did. -/
def copyFewestUptoRow : OpenClaim := { program := "ythckcbfijdambaagreat", sum := "4adf8d9f07d645ad6707c72a2f41d9f4d4a1e8c5198bdfecf80bc37d91173cd1", func := "duodecimo/duodecimolaw04.CopyFewest", spec := "copyFewest", unfollowed := true, recurses := true, plainKeys := false, apart := false, narrowed := true }
def CopyFewestUptoSaid : Prop := copyFewestUptoRow.holds Tryz.pinned (OpenSpec.upto copyFewestSpec)

/-- 'duodecimolaw04.CopyFaults', WHERE WHAT IT READS IS OF BULK AT MOST 1048576: true; the input reads as it did. -/
def copyFaultsUptoRow : OpenClaim := { program := "ythckcbfijdambaagreat", sum := "4adf8d9f07d645ad6707c72a2f41d9f4d4a1e8c5198bdfecf80bc37d91173cd1", func := "duodecimo/duodecimolaw04.CopyFaults", spec := "copyFaults", unfollowed := true, recurses := true, plainKeys := false, apart := false, narrowed := true }
def CopyFaultsUptoSaid : Prop := copyFaultsUptoRow.holds Tryz.pinned (OpenSpec.upto copyFaultsSpec)

end Rows
end Go.Proofs.YthckcbfijdambaaGreat
