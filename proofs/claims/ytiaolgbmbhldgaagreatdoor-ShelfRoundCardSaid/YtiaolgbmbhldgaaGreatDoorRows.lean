/-
  NARROWER THAN 'FOR EVERY INPUT', by the rows' own cells (each row's printed sentence says how): ShelfMarks: laid · ShelfPuts: laid · ShelfMoves: laid · ShelfWalks: laid · ShelfKnown: laid · ShelfRound: laid · ShelfOrder: laid · ShelfAstray: laid · ShelfPut: laid · ShelfArranged: laid · ShelfWider: laid · ShelfWay: laid · ShelfSpare: laid.
  DERIVED. THE GIVEN ROWS OF THIS SEAT. 13 by the template 'for every input the law returns true; each argument reads behind the call as it read before'; 0 by the template 'total and deterministic' (their statements: YtiaolgbmbhldgaaGreatDoorTotals.lean).
  GIVEN WITH THE SEED: the statements are not yours to turn. If you find one false, say at which input.
  Laid BY PROGRAM, IN A SANDBOX (cutbox-rows.mjs): the forced cells as the released guide's own fill.sh prints them over the translation 33f8b9b8d9bc6106… (all of the seat's roots in one cut). By AI agents, Wed Nov 11 2026. No macro, syntax, notation, axiom, sorry.
-/
import Derived.Test.YtiaolgbmbhldgaaGreatDoorChecked
import GoSem.Claim
import GoSem.ClaimJoined
import GoSem.ClaimMapViews
import Derived.JoinedTies
import Derived.KernelRfl
namespace Go.Proofs.YtiaolgbmbhldgaaGreatDoor
/- THE CELL 'sum', in the pinned program and in every row, IS THE sha256 OF THE DUMP (.gsa) THAT YtiaolgbmbhldgaaGreatDoorProg.lean LOADS. Nothing in Lean hashes anything: it is a label: what it is worth is what the hold of that sum in a sandbox is worth. -/
noncomputable def Tryz.pinned : Pinned := { name := "ytiaolgbmbhldgaagreatdoor", sum := "33f8b9b8d9bc6106ca00bc3e9b4cf9ba141ed565a5ebf0311a858f335eb0dc77", checked := Tryz.checked }
namespace Rows
def none {H : Type} : Left H := { results := [], args := [] }

/- WHAT THE LISTED PACKAGE-LEVEL VARIABLES READ AS WHEN THE CALL BEGINS. Each datum BY PROGRAM (the guide's laid-datum.mjs) off the statement by which the dump's own 'gosem.cut.vars' lays the variable. In a bare row this is a premise. The card (YtiaolgbmbhldgaaGreatDoorCards.lean) ties it to the program's text. -/
def laid_math_bits_deBruijn32tab {H : Type} : DataW H := .agg [.lit (.int .u8 0), .lit (.int .u8 1), .lit (.int .u8 28), .lit (.int .u8 2), .lit (.int .u8 29), .lit (.int .u8 14), .lit (.int .u8 24), .lit (.int .u8 3), .lit (.int .u8 30), .lit (.int .u8 22), .lit (.int .u8 20), .lit (.int .u8 15), .lit (.int .u8 25), .lit (.int .u8 17), .lit (.int .u8 4), .lit (.int .u8 8), .lit (.int .u8 31), .lit (.int .u8 27), .lit (.int .u8 13), .lit (.int .u8 23), .lit (.int .u8 21), .lit (.int .u8 19), .lit (.int .u8 16), .lit (.int .u8 7), .lit (.int .u8 26), .lit (.int .u8 12), .lit (.int .u8 18), .lit (.int .u8 6), .lit (.int .u8 11), .lit (.int .u8 5), .lit (.int .u8 10), .lit (.int .u8 9)]
def laid_math_bits_deBruijn64tab {H : Type} : DataW H := .agg [.lit (.int .u8 0), .lit (.int .u8 1), .lit (.int .u8 56), .lit (.int .u8 2), .lit (.int .u8 57), .lit (.int .u8 49), .lit (.int .u8 28), .lit (.int .u8 3), .lit (.int .u8 61), .lit (.int .u8 58), .lit (.int .u8 42), .lit (.int .u8 50), .lit (.int .u8 38), .lit (.int .u8 29), .lit (.int .u8 17), .lit (.int .u8 4), .lit (.int .u8 62), .lit (.int .u8 47), .lit (.int .u8 59), .lit (.int .u8 36), .lit (.int .u8 45), .lit (.int .u8 43), .lit (.int .u8 51), .lit (.int .u8 22), .lit (.int .u8 53), .lit (.int .u8 39), .lit (.int .u8 33), .lit (.int .u8 30), .lit (.int .u8 24), .lit (.int .u8 18), .lit (.int .u8 12), .lit (.int .u8 5), .lit (.int .u8 63), .lit (.int .u8 55), .lit (.int .u8 48), .lit (.int .u8 27), .lit (.int .u8 60), .lit (.int .u8 41), .lit (.int .u8 37), .lit (.int .u8 16), .lit (.int .u8 46), .lit (.int .u8 35), .lit (.int .u8 44), .lit (.int .u8 21), .lit (.int .u8 52), .lit (.int .u8 32), .lit (.int .u8 23), .lit (.int .u8 11), .lit (.int .u8 54), .lit (.int .u8 26), .lit (.int .u8 40), .lit (.int .u8 15), .lit (.int .u8 34), .lit (.int .u8 20), .lit (.int .u8 31), .lit (.int .u8 10), .lit (.int .u8 25), .lit (.int .u8 14), .lit (.int .u8 19), .lit (.int .u8 9), .lit (.int .u8 13), .lit (.int .u8 8), .lit (.int .u8 7), .lit (.int .u8 6)]
def laid_internal_strconv_uint64pow10 {H : Type} : DataW H := .agg [.lit (.int .u64 1), .lit (.int .u64 10), .lit (.int .u64 100), .lit (.int .u64 1000), .lit (.int .u64 10000), .lit (.int .u64 100000), .lit (.int .u64 1000000), .lit (.int .u64 10000000), .lit (.int .u64 100000000), .lit (.int .u64 1000000000), .lit (.int .u64 10000000000), .lit (.int .u64 100000000000), .lit (.int .u64 1000000000000), .lit (.int .u64 10000000000000), .lit (.int .u64 100000000000000), .lit (.int .u64 1000000000000000), .lit (.int .u64 10000000000000000), .lit (.int .u64 100000000000000000), .lit (.int .u64 1000000000000000000), .lit (.int .u64 10000000000000000000)]
def laid_strconv_ErrRange {H : Type} : DataW H := .iface "*errors.errorString" (.ptr (.agg [.lit (.string [118, 97, 108, 117, 101, 32, 111, 117, 116, 32, 111, 102, 32, 114, 97, 110, 103, 101])]))
def laid_strconv_ErrSyntax {H : Type} : DataW H := .iface "*errors.errorString" (.ptr (.agg [.lit (.string [105, 110, 118, 97, 108, 105, 100, 32, 115, 121, 110, 116, 97, 120])]))

/-- 'duodecimolaw09.ShelfMarks': WHATEVER THE INPUT: true; the input reads as it did. -/
def shelfMarksSpec : ChangeSpec := { name := "shelfMarks", fn := fun _ => fun
  | [d1, d2, d3] => { results := [.lit (.bool true)], args := [d1, d2, d3] }
  | _ => none }
def shelfMarksRow : OpenClaim := { program := "ytiaolgbmbhldgaagreatdoor", sum := "33f8b9b8d9bc6106ca00bc3e9b4cf9ba141ed565a5ebf0311a858f335eb0dc77", func := "duodecimo/duodecimolaw09.ShelfMarks", spec := "shelfMarks", inPlace := ["internal/bytealg.abigen_runtime_cmpstring"], unfollowed := true, recurses := true, named := ["internal/strconv.uint64pow10", "math/bits.deBruijn32tab", "math/bits.deBruijn64tab", "strconv.ErrSyntax", "strconv.ErrRange"], plainKeys := false, apart := false, laid := [("math/bits.deBruijn32tab", laid_math_bits_deBruijn32tab), ("math/bits.deBruijn64tab", laid_math_bits_deBruijn64tab), ("internal/strconv.uint64pow10", laid_internal_strconv_uint64pow10), ("strconv.ErrRange", laid_strconv_ErrRange), ("strconv.ErrSyntax", laid_strconv_ErrSyntax)] }
def ShelfMarksSaid : Prop := shelfMarksRow.holds Tryz.pinned (OpenSpec.ofChange shelfMarksSpec)

/-- ITS FALSE NEIGHBOUR: 'it returns false'. Refute it at one input. -/
def shelfMarksWrong : ChangeSpec := { name := "shelfMarks", fn := fun _ => fun
  | [d1, d2, d3] => { results := [.lit (.bool false)], args := [d1, d2, d3] }
  | _ => none }
def ShelfMarksWrongFalsely : Prop := shelfMarksRow.holds Tryz.pinned (OpenSpec.ofChange shelfMarksWrong)

/-- 'duodecimolaw09.ShelfPuts': WHATEVER THE INPUT: true; the input reads as it did. -/
def shelfPutsSpec : ChangeSpec := { name := "shelfPuts", fn := fun _ => fun
  | [d1, d2] => { results := [.lit (.bool true)], args := [d1, d2] }
  | _ => none }
def shelfPutsRow : OpenClaim := { program := "ytiaolgbmbhldgaagreatdoor", sum := "33f8b9b8d9bc6106ca00bc3e9b4cf9ba141ed565a5ebf0311a858f335eb0dc77", func := "duodecimo/duodecimolaw09.ShelfPuts", spec := "shelfPuts", inPlace := ["internal/bytealg.abigen_runtime_cmpstring"], unfollowed := true, recurses := true, named := ["strconv.ErrSyntax", "strconv.ErrRange", "internal/strconv.uint64pow10", "math/bits.deBruijn32tab", "math/bits.deBruijn64tab"], plainKeys := false, apart := false, laid := [("math/bits.deBruijn32tab", laid_math_bits_deBruijn32tab), ("math/bits.deBruijn64tab", laid_math_bits_deBruijn64tab), ("internal/strconv.uint64pow10", laid_internal_strconv_uint64pow10), ("strconv.ErrRange", laid_strconv_ErrRange), ("strconv.ErrSyntax", laid_strconv_ErrSyntax)] }
def ShelfPutsSaid : Prop := shelfPutsRow.holds Tryz.pinned (OpenSpec.ofChange shelfPutsSpec)

/-- ITS FALSE NEIGHBOUR: 'it returns false'. Refute it at one input. -/
def shelfPutsWrong : ChangeSpec := { name := "shelfPuts", fn := fun _ => fun
  | [d1, d2] => { results := [.lit (.bool false)], args := [d1, d2] }
  | _ => none }
def ShelfPutsWrongFalsely : Prop := shelfPutsRow.holds Tryz.pinned (OpenSpec.ofChange shelfPutsWrong)

/-- 'duodecimolaw09.ShelfMoves': WHATEVER THE INPUT: true; the input reads as it did. -/
def shelfMovesSpec : ChangeSpec := { name := "shelfMoves", fn := fun _ => fun
  | [d1, d2] => { results := [.lit (.bool true)], args := [d1, d2] }
  | _ => none }
def shelfMovesRow : OpenClaim := { program := "ytiaolgbmbhldgaagreatdoor", sum := "33f8b9b8d9bc6106ca00bc3e9b4cf9ba141ed565a5ebf0311a858f335eb0dc77", func := "duodecimo/duodecimolaw09.ShelfMoves", spec := "shelfMoves", inPlace := ["internal/bytealg.abigen_runtime_cmpstring"], unfollowed := true, recurses := true, named := ["strconv.ErrSyntax", "strconv.ErrRange", "internal/strconv.uint64pow10", "math/bits.deBruijn32tab", "math/bits.deBruijn64tab"], plainKeys := false, apart := false, laid := [("math/bits.deBruijn32tab", laid_math_bits_deBruijn32tab), ("math/bits.deBruijn64tab", laid_math_bits_deBruijn64tab), ("internal/strconv.uint64pow10", laid_internal_strconv_uint64pow10), ("strconv.ErrRange", laid_strconv_ErrRange), ("strconv.ErrSyntax", laid_strconv_ErrSyntax)] }
def ShelfMovesSaid : Prop := shelfMovesRow.holds Tryz.pinned (OpenSpec.ofChange shelfMovesSpec)

/-- ITS FALSE NEIGHBOUR: 'it returns false'. Refute it at one input. -/
def shelfMovesWrong : ChangeSpec := { name := "shelfMoves", fn := fun _ => fun
  | [d1, d2] => { results := [.lit (.bool false)], args := [d1, d2] }
  | _ => none }
def ShelfMovesWrongFalsely : Prop := shelfMovesRow.holds Tryz.pinned (OpenSpec.ofChange shelfMovesWrong)

/-- 'duodecimolaw09.ShelfWalks': WHATEVER THE INPUT: true; the input reads as it did. -/
def shelfWalksSpec : ChangeSpec := { name := "shelfWalks", fn := fun _ => fun
  | [d1, d2, d3] => { results := [.lit (.bool true)], args := [d1, d2, d3] }
  | _ => none }
def shelfWalksRow : OpenClaim := { program := "ytiaolgbmbhldgaagreatdoor", sum := "33f8b9b8d9bc6106ca00bc3e9b4cf9ba141ed565a5ebf0311a858f335eb0dc77", func := "duodecimo/duodecimolaw09.ShelfWalks", spec := "shelfWalks", inPlace := ["internal/bytealg.abigen_runtime_cmpstring"], unfollowed := true, recurses := true, named := ["strconv.ErrSyntax", "strconv.ErrRange", "internal/strconv.uint64pow10", "math/bits.deBruijn32tab", "math/bits.deBruijn64tab"], plainKeys := false, apart := false, laid := [("math/bits.deBruijn32tab", laid_math_bits_deBruijn32tab), ("math/bits.deBruijn64tab", laid_math_bits_deBruijn64tab), ("internal/strconv.uint64pow10", laid_internal_strconv_uint64pow10), ("strconv.ErrRange", laid_strconv_ErrRange), ("strconv.ErrSyntax", laid_strconv_ErrSyntax)] }
def ShelfWalksSaid : Prop := shelfWalksRow.holds Tryz.pinned (OpenSpec.ofChange shelfWalksSpec)

/-- ITS FALSE NEIGHBOUR: 'it returns false'. Refute it at one input. -/
def shelfWalksWrong : ChangeSpec := { name := "shelfWalks", fn := fun _ => fun
  | [d1, d2, d3] => { results := [.lit (.bool false)], args := [d1, d2, d3] }
  | _ => none }
def ShelfWalksWrongFalsely : Prop := shelfWalksRow.holds Tryz.pinned (OpenSpec.ofChange shelfWalksWrong)

/-- 'duodecimolaw09.ShelfKnown': WHATEVER THE INPUT: true; the input reads as it did. -/
def shelfKnownSpec : ChangeSpec := { name := "shelfKnown", fn := fun _ => fun
  | [] => { results := [.lit (.bool true)], args := [] }
  | _ => none }
def shelfKnownRow : OpenClaim := { program := "ytiaolgbmbhldgaagreatdoor", sum := "33f8b9b8d9bc6106ca00bc3e9b4cf9ba141ed565a5ebf0311a858f335eb0dc77", func := "duodecimo/duodecimolaw09.ShelfKnown", spec := "shelfKnown", inPlace := ["internal/bytealg.abigen_runtime_cmpstring"], unfollowed := true, recurses := true, named := ["strconv.ErrSyntax", "strconv.ErrRange", "internal/strconv.uint64pow10", "math/bits.deBruijn32tab", "math/bits.deBruijn64tab"], plainKeys := false, apart := false, laid := [("math/bits.deBruijn32tab", laid_math_bits_deBruijn32tab), ("math/bits.deBruijn64tab", laid_math_bits_deBruijn64tab), ("internal/strconv.uint64pow10", laid_internal_strconv_uint64pow10), ("strconv.ErrRange", laid_strconv_ErrRange), ("strconv.ErrSyntax", laid_strconv_ErrSyntax)] }
def ShelfKnownSaid : Prop := shelfKnownRow.holds Tryz.pinned (OpenSpec.ofChange shelfKnownSpec)

/-- ITS FALSE NEIGHBOUR: 'it returns false'. Refute it at one input. -/
def shelfKnownWrong : ChangeSpec := { name := "shelfKnown", fn := fun _ => fun
  | [] => { results := [.lit (.bool false)], args := [] }
  | _ => none }
def ShelfKnownWrongFalsely : Prop := shelfKnownRow.holds Tryz.pinned (OpenSpec.ofChange shelfKnownWrong)

/-- 'duodecimolaw09.ShelfRound': WHATEVER THE INPUT: true; the input reads as it did. -/
def shelfRoundSpec : ChangeSpec := { name := "shelfRound", fn := fun _ => fun
  | [d1, d2, d3] => { results := [.lit (.bool true)], args := [d1, d2, d3] }
  | _ => none }
def shelfRoundRow : OpenClaim := { program := "ytiaolgbmbhldgaagreatdoor", sum := "33f8b9b8d9bc6106ca00bc3e9b4cf9ba141ed565a5ebf0311a858f335eb0dc77", func := "duodecimo/duodecimolaw09.ShelfRound", spec := "shelfRound", inPlace := ["internal/bytealg.abigen_runtime_cmpstring"], unfollowed := true, recurses := true, named := ["internal/strconv.uint64pow10", "math/bits.deBruijn32tab", "math/bits.deBruijn64tab", "strconv.ErrSyntax", "strconv.ErrRange"], plainKeys := false, apart := false, laid := [("math/bits.deBruijn32tab", laid_math_bits_deBruijn32tab), ("math/bits.deBruijn64tab", laid_math_bits_deBruijn64tab), ("internal/strconv.uint64pow10", laid_internal_strconv_uint64pow10), ("strconv.ErrRange", laid_strconv_ErrRange), ("strconv.ErrSyntax", laid_strconv_ErrSyntax)] }
def ShelfRoundSaid : Prop := shelfRoundRow.holds Tryz.pinned (OpenSpec.ofChange shelfRoundSpec)

/-- ITS FALSE NEIGHBOUR: 'it returns false'. Refute it at one input. -/
def shelfRoundWrong : ChangeSpec := { name := "shelfRound", fn := fun _ => fun
  | [d1, d2, d3] => { results := [.lit (.bool false)], args := [d1, d2, d3] }
  | _ => none }
def ShelfRoundWrongFalsely : Prop := shelfRoundRow.holds Tryz.pinned (OpenSpec.ofChange shelfRoundWrong)

/-- 'duodecimolaw09.ShelfOrder': WHATEVER THE INPUT: true; the input reads as it did. -/
def shelfOrderSpec : ChangeSpec := { name := "shelfOrder", fn := fun _ => fun
  | [d1, d2] => { results := [.lit (.bool true)], args := [d1, d2] }
  | _ => none }
def shelfOrderRow : OpenClaim := { program := "ytiaolgbmbhldgaagreatdoor", sum := "33f8b9b8d9bc6106ca00bc3e9b4cf9ba141ed565a5ebf0311a858f335eb0dc77", func := "duodecimo/duodecimolaw09.ShelfOrder", spec := "shelfOrder", inPlace := ["internal/bytealg.abigen_runtime_cmpstring"], unfollowed := true, recurses := true, named := ["strconv.ErrSyntax", "strconv.ErrRange", "internal/strconv.uint64pow10", "math/bits.deBruijn32tab", "math/bits.deBruijn64tab"], plainKeys := false, apart := false, laid := [("math/bits.deBruijn32tab", laid_math_bits_deBruijn32tab), ("math/bits.deBruijn64tab", laid_math_bits_deBruijn64tab), ("internal/strconv.uint64pow10", laid_internal_strconv_uint64pow10), ("strconv.ErrRange", laid_strconv_ErrRange), ("strconv.ErrSyntax", laid_strconv_ErrSyntax)] }
def ShelfOrderSaid : Prop := shelfOrderRow.holds Tryz.pinned (OpenSpec.ofChange shelfOrderSpec)

/-- ITS FALSE NEIGHBOUR: 'it returns false'. Refute it at one input. -/
def shelfOrderWrong : ChangeSpec := { name := "shelfOrder", fn := fun _ => fun
  | [d1, d2] => { results := [.lit (.bool false)], args := [d1, d2] }
  | _ => none }
def ShelfOrderWrongFalsely : Prop := shelfOrderRow.holds Tryz.pinned (OpenSpec.ofChange shelfOrderWrong)

/-- 'duodecimolaw09.ShelfAstray': WHATEVER THE INPUT: true; the input reads as it did. -/
def shelfAstraySpec : ChangeSpec := { name := "shelfAstray", fn := fun _ => fun
  | [d1, d2] => { results := [.lit (.bool true)], args := [d1, d2] }
  | _ => none }
def shelfAstrayRow : OpenClaim := { program := "ytiaolgbmbhldgaagreatdoor", sum := "33f8b9b8d9bc6106ca00bc3e9b4cf9ba141ed565a5ebf0311a858f335eb0dc77", func := "duodecimo/duodecimolaw09.ShelfAstray", spec := "shelfAstray", inPlace := ["internal/bytealg.abigen_runtime_cmpstring"], unfollowed := true, recurses := true, named := ["strconv.ErrSyntax", "strconv.ErrRange", "internal/strconv.uint64pow10", "math/bits.deBruijn32tab", "math/bits.deBruijn64tab"], plainKeys := false, apart := false, laid := [("math/bits.deBruijn32tab", laid_math_bits_deBruijn32tab), ("math/bits.deBruijn64tab", laid_math_bits_deBruijn64tab), ("internal/strconv.uint64pow10", laid_internal_strconv_uint64pow10), ("strconv.ErrRange", laid_strconv_ErrRange), ("strconv.ErrSyntax", laid_strconv_ErrSyntax)] }
def ShelfAstraySaid : Prop := shelfAstrayRow.holds Tryz.pinned (OpenSpec.ofChange shelfAstraySpec)

/-- ITS FALSE NEIGHBOUR: 'it returns false'. Refute it at one input. -/
def shelfAstrayWrong : ChangeSpec := { name := "shelfAstray", fn := fun _ => fun
  | [d1, d2] => { results := [.lit (.bool false)], args := [d1, d2] }
  | _ => none }
def ShelfAstrayWrongFalsely : Prop := shelfAstrayRow.holds Tryz.pinned (OpenSpec.ofChange shelfAstrayWrong)

/-- 'duodecimolaw09.ShelfPut': WHATEVER THE INPUT: true; the input reads as it did. -/
def shelfPutSpec : ChangeSpec := { name := "shelfPut", fn := fun _ => fun
  | [d1, d2, d3] => { results := [.lit (.bool true)], args := [d1, d2, d3] }
  | _ => none }
def shelfPutRow : OpenClaim := { program := "ytiaolgbmbhldgaagreatdoor", sum := "33f8b9b8d9bc6106ca00bc3e9b4cf9ba141ed565a5ebf0311a858f335eb0dc77", func := "duodecimo/duodecimolaw09.ShelfPut", spec := "shelfPut", inPlace := ["internal/bytealg.abigen_runtime_cmpstring"], unfollowed := true, recurses := true, named := ["strconv.ErrSyntax", "strconv.ErrRange", "internal/strconv.uint64pow10", "math/bits.deBruijn32tab", "math/bits.deBruijn64tab"], plainKeys := false, apart := false, laid := [("math/bits.deBruijn32tab", laid_math_bits_deBruijn32tab), ("math/bits.deBruijn64tab", laid_math_bits_deBruijn64tab), ("internal/strconv.uint64pow10", laid_internal_strconv_uint64pow10), ("strconv.ErrRange", laid_strconv_ErrRange), ("strconv.ErrSyntax", laid_strconv_ErrSyntax)] }
def ShelfPutSaid : Prop := shelfPutRow.holds Tryz.pinned (OpenSpec.ofChange shelfPutSpec)

/-- ITS FALSE NEIGHBOUR: 'it returns false'. Refute it at one input. -/
def shelfPutWrong : ChangeSpec := { name := "shelfPut", fn := fun _ => fun
  | [d1, d2, d3] => { results := [.lit (.bool false)], args := [d1, d2, d3] }
  | _ => none }
def ShelfPutWrongFalsely : Prop := shelfPutRow.holds Tryz.pinned (OpenSpec.ofChange shelfPutWrong)

/-- 'duodecimolaw09.ShelfArranged': WHATEVER THE INPUT: true; the input reads as it did. -/
def shelfArrangedSpec : ChangeSpec := { name := "shelfArranged", fn := fun _ => fun
  | [d1, d2, d3] => { results := [.lit (.bool true)], args := [d1, d2, d3] }
  | _ => none }
def shelfArrangedRow : OpenClaim := { program := "ytiaolgbmbhldgaagreatdoor", sum := "33f8b9b8d9bc6106ca00bc3e9b4cf9ba141ed565a5ebf0311a858f335eb0dc77", func := "duodecimo/duodecimolaw09.ShelfArranged", spec := "shelfArranged", inPlace := ["internal/bytealg.abigen_runtime_cmpstring"], unfollowed := true, recurses := true, named := ["strconv.ErrSyntax", "strconv.ErrRange", "internal/strconv.uint64pow10", "math/bits.deBruijn32tab", "math/bits.deBruijn64tab"], plainKeys := false, apart := false, laid := [("math/bits.deBruijn32tab", laid_math_bits_deBruijn32tab), ("math/bits.deBruijn64tab", laid_math_bits_deBruijn64tab), ("internal/strconv.uint64pow10", laid_internal_strconv_uint64pow10), ("strconv.ErrRange", laid_strconv_ErrRange), ("strconv.ErrSyntax", laid_strconv_ErrSyntax)] }
def ShelfArrangedSaid : Prop := shelfArrangedRow.holds Tryz.pinned (OpenSpec.ofChange shelfArrangedSpec)

/-- ITS FALSE NEIGHBOUR: 'it returns false'. Refute it at one input. -/
def shelfArrangedWrong : ChangeSpec := { name := "shelfArranged", fn := fun _ => fun
  | [d1, d2, d3] => { results := [.lit (.bool false)], args := [d1, d2, d3] }
  | _ => none }
def ShelfArrangedWrongFalsely : Prop := shelfArrangedRow.holds Tryz.pinned (OpenSpec.ofChange shelfArrangedWrong)

/-- 'duodecimolaw09.ShelfWider': WHATEVER THE INPUT: true; the input reads as it did. -/
def shelfWiderSpec : ChangeSpec := { name := "shelfWider", fn := fun _ => fun
  | [d1, d2, d3] => { results := [.lit (.bool true)], args := [d1, d2, d3] }
  | _ => none }
def shelfWiderRow : OpenClaim := { program := "ytiaolgbmbhldgaagreatdoor", sum := "33f8b9b8d9bc6106ca00bc3e9b4cf9ba141ed565a5ebf0311a858f335eb0dc77", func := "duodecimo/duodecimolaw09.ShelfWider", spec := "shelfWider", inPlace := ["internal/bytealg.abigen_runtime_cmpstring"], unfollowed := true, recurses := true, named := ["strconv.ErrSyntax", "strconv.ErrRange", "internal/strconv.uint64pow10", "math/bits.deBruijn32tab", "math/bits.deBruijn64tab"], plainKeys := false, apart := false, laid := [("math/bits.deBruijn32tab", laid_math_bits_deBruijn32tab), ("math/bits.deBruijn64tab", laid_math_bits_deBruijn64tab), ("internal/strconv.uint64pow10", laid_internal_strconv_uint64pow10), ("strconv.ErrRange", laid_strconv_ErrRange), ("strconv.ErrSyntax", laid_strconv_ErrSyntax)] }
def ShelfWiderSaid : Prop := shelfWiderRow.holds Tryz.pinned (OpenSpec.ofChange shelfWiderSpec)

/-- ITS FALSE NEIGHBOUR: 'it returns false'. Refute it at one input. -/
def shelfWiderWrong : ChangeSpec := { name := "shelfWider", fn := fun _ => fun
  | [d1, d2, d3] => { results := [.lit (.bool false)], args := [d1, d2, d3] }
  | _ => none }
def ShelfWiderWrongFalsely : Prop := shelfWiderRow.holds Tryz.pinned (OpenSpec.ofChange shelfWiderWrong)

/-- 'duodecimolaw09.ShelfWay': WHATEVER THE INPUT: true; the input reads as it did. -/
def shelfWaySpec : ChangeSpec := { name := "shelfWay", fn := fun _ => fun
  | [d1, d2, d3] => { results := [.lit (.bool true)], args := [d1, d2, d3] }
  | _ => none }
def shelfWayRow : OpenClaim := { program := "ytiaolgbmbhldgaagreatdoor", sum := "33f8b9b8d9bc6106ca00bc3e9b4cf9ba141ed565a5ebf0311a858f335eb0dc77", func := "duodecimo/duodecimolaw09.ShelfWay", spec := "shelfWay", inPlace := ["internal/bytealg.abigen_runtime_cmpstring"], unfollowed := true, recurses := true, named := ["strconv.ErrSyntax", "strconv.ErrRange", "internal/strconv.uint64pow10", "math/bits.deBruijn32tab", "math/bits.deBruijn64tab"], plainKeys := false, apart := false, laid := [("math/bits.deBruijn32tab", laid_math_bits_deBruijn32tab), ("math/bits.deBruijn64tab", laid_math_bits_deBruijn64tab), ("internal/strconv.uint64pow10", laid_internal_strconv_uint64pow10), ("strconv.ErrRange", laid_strconv_ErrRange), ("strconv.ErrSyntax", laid_strconv_ErrSyntax)] }
def ShelfWaySaid : Prop := shelfWayRow.holds Tryz.pinned (OpenSpec.ofChange shelfWaySpec)

/-- ITS FALSE NEIGHBOUR: 'it returns false'. Refute it at one input. -/
def shelfWayWrong : ChangeSpec := { name := "shelfWay", fn := fun _ => fun
  | [d1, d2, d3] => { results := [.lit (.bool false)], args := [d1, d2, d3] }
  | _ => none }
def ShelfWayWrongFalsely : Prop := shelfWayRow.holds Tryz.pinned (OpenSpec.ofChange shelfWayWrong)

/-- 'duodecimolaw09.ShelfSpare': WHATEVER THE INPUT: true; the input reads as it did. -/
def shelfSpareSpec : ChangeSpec := { name := "shelfSpare", fn := fun _ => fun
  | [d] => { results := [.lit (.bool true)], args := [d] }
  | _ => none }
def shelfSpareRow : OpenClaim := { program := "ytiaolgbmbhldgaagreatdoor", sum := "33f8b9b8d9bc6106ca00bc3e9b4cf9ba141ed565a5ebf0311a858f335eb0dc77", func := "duodecimo/duodecimolaw09.ShelfSpare", spec := "shelfSpare", inPlace := ["internal/bytealg.abigen_runtime_cmpstring"], unfollowed := true, recurses := true, named := ["strconv.ErrSyntax", "strconv.ErrRange", "internal/strconv.uint64pow10", "math/bits.deBruijn32tab", "math/bits.deBruijn64tab"], plainKeys := false, apart := false, laid := [("math/bits.deBruijn32tab", laid_math_bits_deBruijn32tab), ("math/bits.deBruijn64tab", laid_math_bits_deBruijn64tab), ("internal/strconv.uint64pow10", laid_internal_strconv_uint64pow10), ("strconv.ErrRange", laid_strconv_ErrRange), ("strconv.ErrSyntax", laid_strconv_ErrSyntax)] }
def ShelfSpareSaid : Prop := shelfSpareRow.holds Tryz.pinned (OpenSpec.ofChange shelfSpareSpec)

/-- ITS FALSE NEIGHBOUR: 'it returns false'. Refute it at one input. -/
def shelfSpareWrong : ChangeSpec := { name := "shelfSpare", fn := fun _ => fun
  | [d] => { results := [.lit (.bool false)], args := [d] }
  | _ => none }
def ShelfSpareWrongFalsely : Prop := shelfSpareRow.holds Tryz.pinned (OpenSpec.ofChange shelfSpareWrong)

/- THE SECOND FORM. 'bulk': how many values and letters a reading holds, each counted each time it is reached (what is shared counts as often as it is met; a slice's spare places count too). A statement '..UptoSaid' is the law's where the arguments, and the package variables that the reading takes, are together of bulk at most 1048576: NARROWER than '..Said'. Prove '..Said' where nothing that the law and all that it calls make is longer than what came in: it says more and counts as full. Else prove '..UptoSaid'. A law counts once. -/
mutual
def uptoBulk {H : Type} : DataW H → Nat
  | .lit (.string bytes) => bytes.length + 1
  | .lit _ => 1
  | .nil => 1
  | .ptr d => uptoBulk d + 1
  | .slice elems spare => uptoBulkAll elems + uptoBulkAll spare + 1
  | .agg parts => uptoBulkAll parts + 1
  | .iface _ d => uptoBulk d + 1
  | .map entries => uptoBulkEntries entries + 1
  | .held _ => 1
def uptoBulkAll {H : Type} : List (DataW H) → Nat
  | [] => 0
  | d :: r => uptoBulk d + uptoBulkAll r
def uptoBulkEntries {H : Type} : List (Lit × DataW H) → Nat
  | [] => 0
  | x :: r => uptoBulkEntry x + uptoBulkEntries r
def uptoBulkEntry {H : Type} : Lit × DataW H → Nat
  | (.string bytes, d) => bytes.length + uptoBulk d + 1
  | (_, d) => uptoBulk d + 1
 end
def uptoSmall : (H : Type) → List (DataW H) → Bool := fun _ ds => decide (uptoBulkAll ds ≤ 1048576)
def OpenSpec.upto (s : _root_.Go.ChangeSpec) : _root_.Go.OpenSpec := { _root_.Go.OpenSpec.ofChange s with cond := some uptoSmall }

/-- 'duodecimolaw09.ShelfMarks', WHERE WHAT IT READS IS OF BULK AT MOST 1048576: true; the input reads as it did. -/
def shelfMarksUptoRow : OpenClaim := { program := "ytiaolgbmbhldgaagreatdoor", sum := "33f8b9b8d9bc6106ca00bc3e9b4cf9ba141ed565a5ebf0311a858f335eb0dc77", func := "duodecimo/duodecimolaw09.ShelfMarks", spec := "shelfMarks", inPlace := ["internal/bytealg.abigen_runtime_cmpstring"], unfollowed := true, recurses := true, named := ["internal/strconv.uint64pow10", "math/bits.deBruijn32tab", "math/bits.deBruijn64tab", "strconv.ErrSyntax", "strconv.ErrRange"], plainKeys := false, apart := false, laid := [("math/bits.deBruijn32tab", laid_math_bits_deBruijn32tab), ("math/bits.deBruijn64tab", laid_math_bits_deBruijn64tab), ("internal/strconv.uint64pow10", laid_internal_strconv_uint64pow10), ("strconv.ErrRange", laid_strconv_ErrRange), ("strconv.ErrSyntax", laid_strconv_ErrSyntax)], narrowed := true }
def ShelfMarksUptoSaid : Prop := shelfMarksUptoRow.holds Tryz.pinned (OpenSpec.upto shelfMarksSpec)

/-- 'duodecimolaw09.ShelfPuts', WHERE WHAT IT READS IS OF BULK AT MOST 1048576: true; the input reads as it did. -/
def shelfPutsUptoRow : OpenClaim := { program := "ytiaolgbmbhldgaagreatdoor", sum := "33f8b9b8d9bc6106ca00bc3e9b4cf9ba141ed565a5ebf0311a858f335eb0dc77", func := "duodecimo/duodecimolaw09.ShelfPuts", spec := "shelfPuts", inPlace := ["internal/bytealg.abigen_runtime_cmpstring"], unfollowed := true, recurses := true, named := ["strconv.ErrSyntax", "strconv.ErrRange", "internal/strconv.uint64pow10", "math/bits.deBruijn32tab", "math/bits.deBruijn64tab"], plainKeys := false, apart := false, laid := [("math/bits.deBruijn32tab", laid_math_bits_deBruijn32tab), ("math/bits.deBruijn64tab", laid_math_bits_deBruijn64tab), ("internal/strconv.uint64pow10", laid_internal_strconv_uint64pow10), ("strconv.ErrRange", laid_strconv_ErrRange), ("strconv.ErrSyntax", laid_strconv_ErrSyntax)], narrowed := true }
def ShelfPutsUptoSaid : Prop := shelfPutsUptoRow.holds Tryz.pinned (OpenSpec.upto shelfPutsSpec)

/-- 'duodecimolaw09.ShelfMoves', WHERE WHAT IT READS IS OF BULK AT MOST 1048576: true; the input reads as it did. -/
def shelfMovesUptoRow : OpenClaim := { program := "ytiaolgbmbhldgaagreatdoor", sum := "33f8b9b8d9bc6106ca00bc3e9b4cf9ba141ed565a5ebf0311a858f335eb0dc77", func := "duodecimo/duodecimolaw09.ShelfMoves", spec := "shelfMoves", inPlace := ["internal/bytealg.abigen_runtime_cmpstring"], unfollowed := true, recurses := true, named := ["strconv.ErrSyntax", "strconv.ErrRange", "internal/strconv.uint64pow10", "math/bits.deBruijn32tab", "math/bits.deBruijn64tab"], plainKeys := false, apart := false, laid := [("math/bits.deBruijn32tab", laid_math_bits_deBruijn32tab), ("math/bits.deBruijn64tab", laid_math_bits_deBruijn64tab), ("internal/strconv.uint64pow10", laid_internal_strconv_uint64pow10), ("strconv.ErrRange", laid_strconv_ErrRange), ("strconv.ErrSyntax", laid_strconv_ErrSyntax)], narrowed := true }
def ShelfMovesUptoSaid : Prop := shelfMovesUptoRow.holds Tryz.pinned (OpenSpec.upto shelfMovesSpec)

/-- 'duodecimolaw09.ShelfWalks', WHERE WHAT IT READS IS OF BULK AT MOST 1048576: true; the input reads as it did. -/
def shelfWalksUptoRow : OpenClaim := { program := "ytiaolgbmbhldgaagreatdoor", sum := "33f8b9b8d9bc6106ca00bc3e9b4cf9ba141ed565a5ebf0311a858f335eb0dc77", func := "duodecimo/duodecimolaw09.ShelfWalks", spec := "shelfWalks", inPlace := ["internal/bytealg.abigen_runtime_cmpstring"], unfollowed := true, recurses := true, named := ["strconv.ErrSyntax", "strconv.ErrRange", "internal/strconv.uint64pow10", "math/bits.deBruijn32tab", "math/bits.deBruijn64tab"], plainKeys := false, apart := false, laid := [("math/bits.deBruijn32tab", laid_math_bits_deBruijn32tab), ("math/bits.deBruijn64tab", laid_math_bits_deBruijn64tab), ("internal/strconv.uint64pow10", laid_internal_strconv_uint64pow10), ("strconv.ErrRange", laid_strconv_ErrRange), ("strconv.ErrSyntax", laid_strconv_ErrSyntax)], narrowed := true }
def ShelfWalksUptoSaid : Prop := shelfWalksUptoRow.holds Tryz.pinned (OpenSpec.upto shelfWalksSpec)

/-- 'duodecimolaw09.ShelfKnown', WHERE WHAT IT READS IS OF BULK AT MOST 1048576: true; the input reads as it did. -/
def shelfKnownUptoRow : OpenClaim := { program := "ytiaolgbmbhldgaagreatdoor", sum := "33f8b9b8d9bc6106ca00bc3e9b4cf9ba141ed565a5ebf0311a858f335eb0dc77", func := "duodecimo/duodecimolaw09.ShelfKnown", spec := "shelfKnown", inPlace := ["internal/bytealg.abigen_runtime_cmpstring"], unfollowed := true, recurses := true, named := ["strconv.ErrSyntax", "strconv.ErrRange", "internal/strconv.uint64pow10", "math/bits.deBruijn32tab", "math/bits.deBruijn64tab"], plainKeys := false, apart := false, laid := [("math/bits.deBruijn32tab", laid_math_bits_deBruijn32tab), ("math/bits.deBruijn64tab", laid_math_bits_deBruijn64tab), ("internal/strconv.uint64pow10", laid_internal_strconv_uint64pow10), ("strconv.ErrRange", laid_strconv_ErrRange), ("strconv.ErrSyntax", laid_strconv_ErrSyntax)], narrowed := true }
def ShelfKnownUptoSaid : Prop := shelfKnownUptoRow.holds Tryz.pinned (OpenSpec.upto shelfKnownSpec)

/-- 'duodecimolaw09.ShelfRound', WHERE WHAT IT READS IS OF BULK AT MOST 1048576: true; the input reads as it did. -/
def shelfRoundUptoRow : OpenClaim := { program := "ytiaolgbmbhldgaagreatdoor", sum := "33f8b9b8d9bc6106ca00bc3e9b4cf9ba141ed565a5ebf0311a858f335eb0dc77", func := "duodecimo/duodecimolaw09.ShelfRound", spec := "shelfRound", inPlace := ["internal/bytealg.abigen_runtime_cmpstring"], unfollowed := true, recurses := true, named := ["internal/strconv.uint64pow10", "math/bits.deBruijn32tab", "math/bits.deBruijn64tab", "strconv.ErrSyntax", "strconv.ErrRange"], plainKeys := false, apart := false, laid := [("math/bits.deBruijn32tab", laid_math_bits_deBruijn32tab), ("math/bits.deBruijn64tab", laid_math_bits_deBruijn64tab), ("internal/strconv.uint64pow10", laid_internal_strconv_uint64pow10), ("strconv.ErrRange", laid_strconv_ErrRange), ("strconv.ErrSyntax", laid_strconv_ErrSyntax)], narrowed := true }
def ShelfRoundUptoSaid : Prop := shelfRoundUptoRow.holds Tryz.pinned (OpenSpec.upto shelfRoundSpec)

/-- 'duodecimolaw09.ShelfOrder', WHERE WHAT IT READS IS OF BULK AT MOST 1048576: true; the input reads as it did. -/
def shelfOrderUptoRow : OpenClaim := { program := "ytiaolgbmbhldgaagreatdoor", sum := "33f8b9b8d9bc6106ca00bc3e9b4cf9ba141ed565a5ebf0311a858f335eb0dc77", func := "duodecimo/duodecimolaw09.ShelfOrder", spec := "shelfOrder", inPlace := ["internal/bytealg.abigen_runtime_cmpstring"], unfollowed := true, recurses := true, named := ["strconv.ErrSyntax", "strconv.ErrRange", "internal/strconv.uint64pow10", "math/bits.deBruijn32tab", "math/bits.deBruijn64tab"], plainKeys := false, apart := false, laid := [("math/bits.deBruijn32tab", laid_math_bits_deBruijn32tab), ("math/bits.deBruijn64tab", laid_math_bits_deBruijn64tab), ("internal/strconv.uint64pow10", laid_internal_strconv_uint64pow10), ("strconv.ErrRange", laid_strconv_ErrRange), ("strconv.ErrSyntax", laid_strconv_ErrSyntax)], narrowed := true }
def ShelfOrderUptoSaid : Prop := shelfOrderUptoRow.holds Tryz.pinned (OpenSpec.upto shelfOrderSpec)

/-- 'duodecimolaw09.ShelfAstray', WHERE WHAT IT READS IS OF BULK AT MOST 1048576: true; the input reads as it did. -/
def shelfAstrayUptoRow : OpenClaim := { program := "ytiaolgbmbhldgaagreatdoor", sum := "33f8b9b8d9bc6106ca00bc3e9b4cf9ba141ed565a5ebf0311a858f335eb0dc77", func := "duodecimo/duodecimolaw09.ShelfAstray", spec := "shelfAstray", inPlace := ["internal/bytealg.abigen_runtime_cmpstring"], unfollowed := true, recurses := true, named := ["strconv.ErrSyntax", "strconv.ErrRange", "internal/strconv.uint64pow10", "math/bits.deBruijn32tab", "math/bits.deBruijn64tab"], plainKeys := false, apart := false, laid := [("math/bits.deBruijn32tab", laid_math_bits_deBruijn32tab), ("math/bits.deBruijn64tab", laid_math_bits_deBruijn64tab), ("internal/strconv.uint64pow10", laid_internal_strconv_uint64pow10), ("strconv.ErrRange", laid_strconv_ErrRange), ("strconv.ErrSyntax", laid_strconv_ErrSyntax)], narrowed := true }
def ShelfAstrayUptoSaid : Prop := shelfAstrayUptoRow.holds Tryz.pinned (OpenSpec.upto shelfAstraySpec)

/-- 'duodecimolaw09.ShelfPut', WHERE WHAT IT READS IS OF BULK AT MOST 1048576: true; the input reads as it did. -/
def shelfPutUptoRow : OpenClaim := { program := "ytiaolgbmbhldgaagreatdoor", sum := "33f8b9b8d9bc6106ca00bc3e9b4cf9ba141ed565a5ebf0311a858f335eb0dc77", func := "duodecimo/duodecimolaw09.ShelfPut", spec := "shelfPut", inPlace := ["internal/bytealg.abigen_runtime_cmpstring"], unfollowed := true, recurses := true, named := ["strconv.ErrSyntax", "strconv.ErrRange", "internal/strconv.uint64pow10", "math/bits.deBruijn32tab", "math/bits.deBruijn64tab"], plainKeys := false, apart := false, laid := [("math/bits.deBruijn32tab", laid_math_bits_deBruijn32tab), ("math/bits.deBruijn64tab", laid_math_bits_deBruijn64tab), ("internal/strconv.uint64pow10", laid_internal_strconv_uint64pow10), ("strconv.ErrRange", laid_strconv_ErrRange), ("strconv.ErrSyntax", laid_strconv_ErrSyntax)], narrowed := true }
def ShelfPutUptoSaid : Prop := shelfPutUptoRow.holds Tryz.pinned (OpenSpec.upto shelfPutSpec)

/-- 'duodecimolaw09.ShelfArranged', WHERE WHAT IT READS IS OF BULK AT MOST 1048576: true; the input reads as it did. -/
def shelfArrangedUptoRow : OpenClaim := { program := "ytiaolgbmbhldgaagreatdoor", sum := "33f8b9b8d9bc6106ca00bc3e9b4cf9ba141ed565a5ebf0311a858f335eb0dc77", func := "duodecimo/duodecimolaw09.ShelfArranged", spec := "shelfArranged", inPlace := ["internal/bytealg.abigen_runtime_cmpstring"], unfollowed := true, recurses := true, named := ["strconv.ErrSyntax", "strconv.ErrRange", "internal/strconv.uint64pow10", "math/bits.deBruijn32tab", "math/bits.deBruijn64tab"], plainKeys := false, apart := false, laid := [("math/bits.deBruijn32tab", laid_math_bits_deBruijn32tab), ("math/bits.deBruijn64tab", laid_math_bits_deBruijn64tab), ("internal/strconv.uint64pow10", laid_internal_strconv_uint64pow10), ("strconv.ErrRange", laid_strconv_ErrRange), ("strconv.ErrSyntax", laid_strconv_ErrSyntax)], narrowed := true }
def ShelfArrangedUptoSaid : Prop := shelfArrangedUptoRow.holds Tryz.pinned (OpenSpec.upto shelfArrangedSpec)

/-- 'duodecimolaw09.ShelfWider', WHERE WHAT IT READS IS OF BULK AT MOST 1048576: true; the input reads as it did. -/
def shelfWiderUptoRow : OpenClaim := { program := "ytiaolgbmbhldgaagreatdoor", sum := "33f8b9b8d9bc6106ca00bc3e9b4cf9ba141ed565a5ebf0311a858f335eb0dc77", func := "duodecimo/duodecimolaw09.ShelfWider", spec := "shelfWider", inPlace := ["internal/bytealg.abigen_runtime_cmpstring"], unfollowed := true, recurses := true, named := ["strconv.ErrSyntax", "strconv.ErrRange", "internal/strconv.uint64pow10", "math/bits.deBruijn32tab", "math/bits.deBruijn64tab"], plainKeys := false, apart := false, laid := [("math/bits.deBruijn32tab", laid_math_bits_deBruijn32tab), ("math/bits.deBruijn64tab", laid_math_bits_deBruijn64tab), ("internal/strconv.uint64pow10", laid_internal_strconv_uint64pow10), ("strconv.ErrRange", laid_strconv_ErrRange), ("strconv.ErrSyntax", laid_strconv_ErrSyntax)], narrowed := true }
def ShelfWiderUptoSaid : Prop := shelfWiderUptoRow.holds Tryz.pinned (OpenSpec.upto shelfWiderSpec)

/-- 'duodecimolaw09.ShelfWay', WHERE WHAT IT READS IS OF BULK AT MOST 1048576: true; the input reads as it did. -/
def shelfWayUptoRow : OpenClaim := { program := "ytiaolgbmbhldgaagreatdoor", sum := "33f8b9b8d9bc6106ca00bc3e9b4cf9ba141ed565a5ebf0311a858f335eb0dc77", func := "duodecimo/duodecimolaw09.ShelfWay", spec := "shelfWay", inPlace := ["internal/bytealg.abigen_runtime_cmpstring"], unfollowed := true, recurses := true, named := ["strconv.ErrSyntax", "strconv.ErrRange", "internal/strconv.uint64pow10", "math/bits.deBruijn32tab", "math/bits.deBruijn64tab"], plainKeys := false, apart := false, laid := [("math/bits.deBruijn32tab", laid_math_bits_deBruijn32tab), ("math/bits.deBruijn64tab", laid_math_bits_deBruijn64tab), ("internal/strconv.uint64pow10", laid_internal_strconv_uint64pow10), ("strconv.ErrRange", laid_strconv_ErrRange), ("strconv.ErrSyntax", laid_strconv_ErrSyntax)], narrowed := true }
def ShelfWayUptoSaid : Prop := shelfWayUptoRow.holds Tryz.pinned (OpenSpec.upto shelfWaySpec)

/-- 'duodecimolaw09.ShelfSpare', WHERE WHAT IT READS IS OF BULK AT MOST 1048576: true; the input reads as it did. -/
def shelfSpareUptoRow : OpenClaim := { program := "ytiaolgbmbhldgaagreatdoor", sum := "33f8b9b8d9bc6106ca00bc3e9b4cf9ba141ed565a5ebf0311a858f335eb0dc77", func := "duodecimo/duodecimolaw09.ShelfSpare", spec := "shelfSpare", inPlace := ["internal/bytealg.abigen_runtime_cmpstring"], unfollowed := true, recurses := true, named := ["strconv.ErrSyntax", "strconv.ErrRange", "internal/strconv.uint64pow10", "math/bits.deBruijn32tab", "math/bits.deBruijn64tab"], plainKeys := false, apart := false, laid := [("math/bits.deBruijn32tab", laid_math_bits_deBruijn32tab), ("math/bits.deBruijn64tab", laid_math_bits_deBruijn64tab), ("internal/strconv.uint64pow10", laid_internal_strconv_uint64pow10), ("strconv.ErrRange", laid_strconv_ErrRange), ("strconv.ErrSyntax", laid_strconv_ErrSyntax)], narrowed := true }
def ShelfSpareUptoSaid : Prop := shelfSpareUptoRow.holds Tryz.pinned (OpenSpec.upto shelfSpareSpec)

end Rows
end Go.Proofs.YtiaolgbmbhldgaaGreatDoor
