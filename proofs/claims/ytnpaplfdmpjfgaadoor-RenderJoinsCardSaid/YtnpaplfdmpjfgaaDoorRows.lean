/-
  NARROWER THAN 'FOR EVERY INPUT', by the rows' own cells (each row's printed sentence says how): DocChecks: loops, laid · DocFlats: loops, laid · DocTidies: loops, laid · DocKeeps: loops, laid · DocJoins: loops, laid · DocPunctuates: loops, laid · RenderRenders: loops, laid · RenderWidest: laid · RenderJoins: loops, laid · RenderNests: loops, laid · RenderFlats: loops, laid · RenderOnes: loops, laid · RenderTidies: loops, laid.
  DERIVED. THE GIVEN ROWS OF THIS SEAT. 13 by the template 'for every input the law returns true; each argument reads behind the call as it read before'; 0 by the template 'total and deterministic' (their statements: YtnpaplfdmpjfgaaDoorTotals.lean).
  GIVEN WITH THE SEED: the statements are not yours to turn. If you find one false, say at which input.
  Laid BY PROGRAM, IN A SANDBOX (cutbox-rows.mjs): the forced cells as the released guide's own fill.sh prints them over the translation d95bc741535cf1c4… (all of the seat's roots in one cut). By AI agents, Wed Nov 11 2026. No macro, syntax, notation, axiom, sorry.
-/
import Derived.Test.YtnpaplfdmpjfgaaDoorChecked
import GoSem.PinnedTables
import GoSem.Claim
import GoSem.ClaimJoined
import GoSem.ClaimMapViews
import Derived.JoinedTies
import Derived.KernelRfl
namespace Go.Proofs.YtnpaplfdmpjfgaaDoor
/- THE CELL 'sum', in the pinned program and in every row, IS THE sha256 OF THE DUMP (.gsa) THAT YtnpaplfdmpjfgaaDoorProg.lean LOADS. Nothing in Lean hashes anything: it is a label: what it is worth is what the hold of that sum in a sandbox is worth. -/
noncomputable def Tryd.pinned : Pinned := { name := "ytnpaplfdmpjfgaadoor", sum := "d95bc741535cf1c4d588ec1c47efa2e7d79863833816057680bd9ccb09129a00", checked := Tryd.checked }
namespace Rows
def none {H : Type} : Left H := { results := [], args := [] }

/- WHAT THE LISTED PACKAGE-LEVEL VARIABLES READ AS WHEN THE CALL BEGINS. Each datum BY PROGRAM (the guide's laid-datum.mjs) off the statement by which the dump's own 'gosem.cut.vars' lays the variable. In a bare row this is a premise. The card (YtnpaplfdmpjfgaaDoorCards.lean) ties it to the program's text. -/
def laid_unicode_utf8_acceptRanges {H : Type} : DataW H := .agg [.agg [.lit (.int .u8 128), .lit (.int .u8 191)], .agg [.lit (.int .u8 160), .lit (.int .u8 191)], .agg [.lit (.int .u8 128), .lit (.int .u8 159)], .agg [.lit (.int .u8 144), .lit (.int .u8 191)], .agg [.lit (.int .u8 128), .lit (.int .u8 143)], .agg [.lit (.int .u8 0), .lit (.int .u8 0)], .agg [.lit (.int .u8 0), .lit (.int .u8 0)], .agg [.lit (.int .u8 0), .lit (.int .u8 0)], .agg [.lit (.int .u8 0), .lit (.int .u8 0)], .agg [.lit (.int .u8 0), .lit (.int .u8 0)], .agg [.lit (.int .u8 0), .lit (.int .u8 0)], .agg [.lit (.int .u8 0), .lit (.int .u8 0)], .agg [.lit (.int .u8 0), .lit (.int .u8 0)], .agg [.lit (.int .u8 0), .lit (.int .u8 0)], .agg [.lit (.int .u8 0), .lit (.int .u8 0)], .agg [.lit (.int .u8 0), .lit (.int .u8 0)]]
/-- One of Go's own tables, pinned by name: the form's constant. -/
def laid_unicode_utf8_first : DataW Unit := Go.Pinned.utf8First

/-- 'offsidelaw18.DocChecks': WHATEVER THE INPUT: true; the input reads as it did. -/
def docChecksSpec : ChangeSpec := { name := "docChecks", fn := fun _ => fun
  | [d] => { results := [.lit (.bool true)], args := [d] }
  | _ => none }
def docChecksRow : OpenClaim := { program := "ytnpaplfdmpjfgaadoor", sum := "d95bc741535cf1c4d588ec1c47efa2e7d79863833816057680bd9ccb09129a00", func := "offside/offsidelaw18.DocChecks", spec := "docChecks", inPlace := ["internal/abi.NoEscape", "internal/bytealg.MakeNoZero"], unfollowed := true, recurses := true, named := ["unicode/utf8.first", "unicode/utf8.acceptRanges"], loops := true, apart := false, laid := [("unicode/utf8.acceptRanges", laid_unicode_utf8_acceptRanges), ("unicode/utf8.first", laid_unicode_utf8_first)] }
def DocChecksSaid : Prop := docChecksRow.holds Tryd.pinned (OpenSpec.ofChange docChecksSpec)

/-- ITS FALSE NEIGHBOUR: 'it returns false'. Refute it at one input. -/
def docChecksWrong : ChangeSpec := { name := "docChecks", fn := fun _ => fun
  | [d] => { results := [.lit (.bool false)], args := [d] }
  | _ => none }
def DocChecksWrongFalsely : Prop := docChecksRow.holds Tryd.pinned (OpenSpec.ofChange docChecksWrong)

/-- 'offsidelaw18.DocFlats': WHATEVER THE INPUT: true; the input reads as it did. -/
def docFlatsSpec : ChangeSpec := { name := "docFlats", fn := fun _ => fun
  | [d] => { results := [.lit (.bool true)], args := [d] }
  | _ => none }
def docFlatsRow : OpenClaim := { program := "ytnpaplfdmpjfgaadoor", sum := "d95bc741535cf1c4d588ec1c47efa2e7d79863833816057680bd9ccb09129a00", func := "offside/offsidelaw18.DocFlats", spec := "docFlats", inPlace := ["internal/abi.NoEscape", "internal/bytealg.MakeNoZero"], unfollowed := true, recurses := true, named := ["unicode/utf8.first", "unicode/utf8.acceptRanges"], loops := true, apart := false, laid := [("unicode/utf8.acceptRanges", laid_unicode_utf8_acceptRanges), ("unicode/utf8.first", laid_unicode_utf8_first)] }
def DocFlatsSaid : Prop := docFlatsRow.holds Tryd.pinned (OpenSpec.ofChange docFlatsSpec)

/-- ITS FALSE NEIGHBOUR: 'it returns false'. Refute it at one input. -/
def docFlatsWrong : ChangeSpec := { name := "docFlats", fn := fun _ => fun
  | [d] => { results := [.lit (.bool false)], args := [d] }
  | _ => none }
def DocFlatsWrongFalsely : Prop := docFlatsRow.holds Tryd.pinned (OpenSpec.ofChange docFlatsWrong)

/-- 'offsidelaw18.DocTidies': WHATEVER THE INPUT: true; the input reads as it did. -/
def docTidiesSpec : ChangeSpec := { name := "docTidies", fn := fun _ => fun
  | [d] => { results := [.lit (.bool true)], args := [d] }
  | _ => none }
def docTidiesRow : OpenClaim := { program := "ytnpaplfdmpjfgaadoor", sum := "d95bc741535cf1c4d588ec1c47efa2e7d79863833816057680bd9ccb09129a00", func := "offside/offsidelaw18.DocTidies", spec := "docTidies", inPlace := ["internal/abi.NoEscape", "internal/bytealg.MakeNoZero"], unfollowed := true, recurses := true, named := ["unicode/utf8.first", "unicode/utf8.acceptRanges"], loops := true, apart := false, laid := [("unicode/utf8.acceptRanges", laid_unicode_utf8_acceptRanges), ("unicode/utf8.first", laid_unicode_utf8_first)] }
def DocTidiesSaid : Prop := docTidiesRow.holds Tryd.pinned (OpenSpec.ofChange docTidiesSpec)

/-- ITS FALSE NEIGHBOUR: 'it returns false'. Refute it at one input. -/
def docTidiesWrong : ChangeSpec := { name := "docTidies", fn := fun _ => fun
  | [d] => { results := [.lit (.bool false)], args := [d] }
  | _ => none }
def DocTidiesWrongFalsely : Prop := docTidiesRow.holds Tryd.pinned (OpenSpec.ofChange docTidiesWrong)

/-- 'offsidelaw18.DocKeeps': WHATEVER THE INPUT: true; the input reads as it did. -/
def docKeepsSpec : ChangeSpec := { name := "docKeeps", fn := fun _ => fun
  | [d] => { results := [.lit (.bool true)], args := [d] }
  | _ => none }
def docKeepsRow : OpenClaim := { program := "ytnpaplfdmpjfgaadoor", sum := "d95bc741535cf1c4d588ec1c47efa2e7d79863833816057680bd9ccb09129a00", func := "offside/offsidelaw18.DocKeeps", spec := "docKeeps", inPlace := ["internal/abi.NoEscape", "internal/bytealg.MakeNoZero"], unfollowed := true, recurses := true, named := ["unicode/utf8.first", "unicode/utf8.acceptRanges"], loops := true, apart := false, laid := [("unicode/utf8.acceptRanges", laid_unicode_utf8_acceptRanges), ("unicode/utf8.first", laid_unicode_utf8_first)] }
def DocKeepsSaid : Prop := docKeepsRow.holds Tryd.pinned (OpenSpec.ofChange docKeepsSpec)

/-- ITS FALSE NEIGHBOUR: 'it returns false'. Refute it at one input. -/
def docKeepsWrong : ChangeSpec := { name := "docKeeps", fn := fun _ => fun
  | [d] => { results := [.lit (.bool false)], args := [d] }
  | _ => none }
def DocKeepsWrongFalsely : Prop := docKeepsRow.holds Tryd.pinned (OpenSpec.ofChange docKeepsWrong)

/-- 'offsidelaw18.DocJoins': WHATEVER THE INPUT: true; the input reads as it did. -/
def docJoinsSpec : ChangeSpec := { name := "docJoins", fn := fun _ => fun
  | [d1, d2, d3] => { results := [.lit (.bool true)], args := [d1, d2, d3] }
  | _ => none }
def docJoinsRow : OpenClaim := { program := "ytnpaplfdmpjfgaadoor", sum := "d95bc741535cf1c4d588ec1c47efa2e7d79863833816057680bd9ccb09129a00", func := "offside/offsidelaw18.DocJoins", spec := "docJoins", inPlace := ["internal/abi.NoEscape", "internal/bytealg.MakeNoZero"], unfollowed := true, recurses := true, named := ["unicode/utf8.first", "unicode/utf8.acceptRanges"], loops := true, apart := false, laid := [("unicode/utf8.acceptRanges", laid_unicode_utf8_acceptRanges), ("unicode/utf8.first", laid_unicode_utf8_first)] }
def DocJoinsSaid : Prop := docJoinsRow.holds Tryd.pinned (OpenSpec.ofChange docJoinsSpec)

/-- ITS FALSE NEIGHBOUR: 'it returns false'. Refute it at one input. -/
def docJoinsWrong : ChangeSpec := { name := "docJoins", fn := fun _ => fun
  | [d1, d2, d3] => { results := [.lit (.bool false)], args := [d1, d2, d3] }
  | _ => none }
def DocJoinsWrongFalsely : Prop := docJoinsRow.holds Tryd.pinned (OpenSpec.ofChange docJoinsWrong)

/-- 'offsidelaw18.DocPunctuates': WHATEVER THE INPUT: true; the input reads as it did. -/
def docPunctuatesSpec : ChangeSpec := { name := "docPunctuates", fn := fun _ => fun
  | [d1, d2] => { results := [.lit (.bool true)], args := [d1, d2] }
  | _ => none }
def docPunctuatesRow : OpenClaim := { program := "ytnpaplfdmpjfgaadoor", sum := "d95bc741535cf1c4d588ec1c47efa2e7d79863833816057680bd9ccb09129a00", func := "offside/offsidelaw18.DocPunctuates", spec := "docPunctuates", inPlace := ["internal/abi.NoEscape", "internal/bytealg.MakeNoZero"], unfollowed := true, recurses := true, named := ["unicode/utf8.first", "unicode/utf8.acceptRanges"], loops := true, apart := false, laid := [("unicode/utf8.acceptRanges", laid_unicode_utf8_acceptRanges), ("unicode/utf8.first", laid_unicode_utf8_first)] }
def DocPunctuatesSaid : Prop := docPunctuatesRow.holds Tryd.pinned (OpenSpec.ofChange docPunctuatesSpec)

/-- ITS FALSE NEIGHBOUR: 'it returns false'. Refute it at one input. -/
def docPunctuatesWrong : ChangeSpec := { name := "docPunctuates", fn := fun _ => fun
  | [d1, d2] => { results := [.lit (.bool false)], args := [d1, d2] }
  | _ => none }
def DocPunctuatesWrongFalsely : Prop := docPunctuatesRow.holds Tryd.pinned (OpenSpec.ofChange docPunctuatesWrong)

/-- 'offsidelaw19.RenderRenders': WHATEVER THE INPUT: true; the input reads as it did. -/
def renderRendersSpec : ChangeSpec := { name := "renderRenders", fn := fun _ => fun
  | [d1, d2] => { results := [.lit (.bool true)], args := [d1, d2] }
  | _ => none }
def renderRendersRow : OpenClaim := { program := "ytnpaplfdmpjfgaadoor", sum := "d95bc741535cf1c4d588ec1c47efa2e7d79863833816057680bd9ccb09129a00", func := "offside/offsidelaw19.RenderRenders", spec := "renderRenders", inPlace := ["internal/abi.NoEscape", "internal/bytealg.MakeNoZero", "internal/bytealg.CountString", "internal/bytealg.IndexByteString", "internal/bytealg.IndexString"], unfollowed := true, recurses := true, named := ["unicode/utf8.first", "unicode/utf8.acceptRanges", "internal/bytealg.MaxLen"], loops := true, apart := false, laid := [("unicode/utf8.acceptRanges", laid_unicode_utf8_acceptRanges), ("unicode/utf8.first", laid_unicode_utf8_first)] }
def RenderRendersSaid : Prop := renderRendersRow.holds Tryd.pinned (OpenSpec.ofChange renderRendersSpec)

/-- ITS FALSE NEIGHBOUR: 'it returns false'. Refute it at one input. -/
def renderRendersWrong : ChangeSpec := { name := "renderRenders", fn := fun _ => fun
  | [d1, d2] => { results := [.lit (.bool false)], args := [d1, d2] }
  | _ => none }
def RenderRendersWrongFalsely : Prop := renderRendersRow.holds Tryd.pinned (OpenSpec.ofChange renderRendersWrong)

/-- 'offsidelaw19.RenderWidest': WHATEVER THE INPUT: true; the input reads as it did. -/
def renderWidestSpec : ChangeSpec := { name := "renderWidest", fn := fun _ => fun
  | [d] => { results := [.lit (.bool true)], args := [d] }
  | _ => none }
def renderWidestRow : OpenClaim := { program := "ytnpaplfdmpjfgaadoor", sum := "d95bc741535cf1c4d588ec1c47efa2e7d79863833816057680bd9ccb09129a00", func := "offside/offsidelaw19.RenderWidest", spec := "renderWidest", inPlace := ["internal/abi.NoEscape", "internal/bytealg.MakeNoZero", "internal/bytealg.CountString", "internal/bytealg.IndexByteString", "internal/bytealg.IndexString"], unfollowed := true, recurses := true, named := ["unicode/utf8.first", "unicode/utf8.acceptRanges", "internal/bytealg.MaxLen"], apart := false, laid := [("unicode/utf8.acceptRanges", laid_unicode_utf8_acceptRanges), ("unicode/utf8.first", laid_unicode_utf8_first)] }
def RenderWidestSaid : Prop := renderWidestRow.holds Tryd.pinned (OpenSpec.ofChange renderWidestSpec)

/-- ITS FALSE NEIGHBOUR: 'it returns false'. Refute it at one input. -/
def renderWidestWrong : ChangeSpec := { name := "renderWidest", fn := fun _ => fun
  | [d] => { results := [.lit (.bool false)], args := [d] }
  | _ => none }
def RenderWidestWrongFalsely : Prop := renderWidestRow.holds Tryd.pinned (OpenSpec.ofChange renderWidestWrong)

/-- 'offsidelaw19.RenderJoins': WHATEVER THE INPUT: true; the input reads as it did. -/
def renderJoinsSpec : ChangeSpec := { name := "renderJoins", fn := fun _ => fun
  | [d1, d2, d3, d4] => { results := [.lit (.bool true)], args := [d1, d2, d3, d4] }
  | _ => none }
def renderJoinsRow : OpenClaim := { program := "ytnpaplfdmpjfgaadoor", sum := "d95bc741535cf1c4d588ec1c47efa2e7d79863833816057680bd9ccb09129a00", func := "offside/offsidelaw19.RenderJoins", spec := "renderJoins", inPlace := ["internal/abi.NoEscape", "internal/bytealg.MakeNoZero", "internal/bytealg.CountString", "internal/bytealg.IndexByteString", "internal/bytealg.IndexString"], unfollowed := true, recurses := true, named := ["unicode/utf8.first", "unicode/utf8.acceptRanges", "internal/bytealg.MaxLen"], loops := true, apart := false, laid := [("unicode/utf8.acceptRanges", laid_unicode_utf8_acceptRanges), ("unicode/utf8.first", laid_unicode_utf8_first)] }
def RenderJoinsSaid : Prop := renderJoinsRow.holds Tryd.pinned (OpenSpec.ofChange renderJoinsSpec)

/-- ITS FALSE NEIGHBOUR: 'it returns false'. Refute it at one input. -/
def renderJoinsWrong : ChangeSpec := { name := "renderJoins", fn := fun _ => fun
  | [d1, d2, d3, d4] => { results := [.lit (.bool false)], args := [d1, d2, d3, d4] }
  | _ => none }
def RenderJoinsWrongFalsely : Prop := renderJoinsRow.holds Tryd.pinned (OpenSpec.ofChange renderJoinsWrong)

/-- 'offsidelaw19.RenderNests': WHATEVER THE INPUT: true; the input reads as it did. -/
def renderNestsSpec : ChangeSpec := { name := "renderNests", fn := fun _ => fun
  | [d1, d2, d3, d4, d5, d6] => { results := [.lit (.bool true)], args := [d1, d2, d3, d4, d5, d6] }
  | _ => none }
def renderNestsRow : OpenClaim := { program := "ytnpaplfdmpjfgaadoor", sum := "d95bc741535cf1c4d588ec1c47efa2e7d79863833816057680bd9ccb09129a00", func := "offside/offsidelaw19.RenderNests", spec := "renderNests", inPlace := ["internal/abi.NoEscape", "internal/bytealg.MakeNoZero", "internal/bytealg.CountString", "internal/bytealg.IndexByteString", "internal/bytealg.IndexString"], unfollowed := true, recurses := true, named := ["unicode/utf8.first", "unicode/utf8.acceptRanges", "internal/bytealg.MaxLen"], loops := true, apart := false, laid := [("unicode/utf8.acceptRanges", laid_unicode_utf8_acceptRanges), ("unicode/utf8.first", laid_unicode_utf8_first)] }
def RenderNestsSaid : Prop := renderNestsRow.holds Tryd.pinned (OpenSpec.ofChange renderNestsSpec)

/-- ITS FALSE NEIGHBOUR: 'it returns false'. Refute it at one input. -/
def renderNestsWrong : ChangeSpec := { name := "renderNests", fn := fun _ => fun
  | [d1, d2, d3, d4, d5, d6] => { results := [.lit (.bool false)], args := [d1, d2, d3, d4, d5, d6] }
  | _ => none }
def RenderNestsWrongFalsely : Prop := renderNestsRow.holds Tryd.pinned (OpenSpec.ofChange renderNestsWrong)

/-- 'offsidelaw19.RenderFlats': WHATEVER THE INPUT: true; the input reads as it did. -/
def renderFlatsSpec : ChangeSpec := { name := "renderFlats", fn := fun _ => fun
  | [d1, d2, d3] => { results := [.lit (.bool true)], args := [d1, d2, d3] }
  | _ => none }
def renderFlatsRow : OpenClaim := { program := "ytnpaplfdmpjfgaadoor", sum := "d95bc741535cf1c4d588ec1c47efa2e7d79863833816057680bd9ccb09129a00", func := "offside/offsidelaw19.RenderFlats", spec := "renderFlats", inPlace := ["internal/abi.NoEscape", "internal/bytealg.MakeNoZero", "internal/bytealg.CountString", "internal/bytealg.IndexByteString", "internal/bytealg.IndexString"], unfollowed := true, recurses := true, named := ["unicode/utf8.first", "unicode/utf8.acceptRanges", "internal/bytealg.MaxLen"], loops := true, apart := false, laid := [("unicode/utf8.acceptRanges", laid_unicode_utf8_acceptRanges), ("unicode/utf8.first", laid_unicode_utf8_first)] }
def RenderFlatsSaid : Prop := renderFlatsRow.holds Tryd.pinned (OpenSpec.ofChange renderFlatsSpec)

/-- ITS FALSE NEIGHBOUR: 'it returns false'. Refute it at one input. -/
def renderFlatsWrong : ChangeSpec := { name := "renderFlats", fn := fun _ => fun
  | [d1, d2, d3] => { results := [.lit (.bool false)], args := [d1, d2, d3] }
  | _ => none }
def RenderFlatsWrongFalsely : Prop := renderFlatsRow.holds Tryd.pinned (OpenSpec.ofChange renderFlatsWrong)

/-- 'offsidelaw19.RenderOnes': WHATEVER THE INPUT: true; the input reads as it did. -/
def renderOnesSpec : ChangeSpec := { name := "renderOnes", fn := fun _ => fun
  | [d1, d2, d3] => { results := [.lit (.bool true)], args := [d1, d2, d3] }
  | _ => none }
def renderOnesRow : OpenClaim := { program := "ytnpaplfdmpjfgaadoor", sum := "d95bc741535cf1c4d588ec1c47efa2e7d79863833816057680bd9ccb09129a00", func := "offside/offsidelaw19.RenderOnes", spec := "renderOnes", inPlace := ["internal/abi.NoEscape", "internal/bytealg.MakeNoZero", "internal/bytealg.CountString", "internal/bytealg.IndexByteString", "internal/bytealg.IndexString"], unfollowed := true, recurses := true, named := ["unicode/utf8.first", "unicode/utf8.acceptRanges", "internal/bytealg.MaxLen"], loops := true, apart := false, laid := [("unicode/utf8.acceptRanges", laid_unicode_utf8_acceptRanges), ("unicode/utf8.first", laid_unicode_utf8_first)] }
def RenderOnesSaid : Prop := renderOnesRow.holds Tryd.pinned (OpenSpec.ofChange renderOnesSpec)

/-- ITS FALSE NEIGHBOUR: 'it returns false'. Refute it at one input. -/
def renderOnesWrong : ChangeSpec := { name := "renderOnes", fn := fun _ => fun
  | [d1, d2, d3] => { results := [.lit (.bool false)], args := [d1, d2, d3] }
  | _ => none }
def RenderOnesWrongFalsely : Prop := renderOnesRow.holds Tryd.pinned (OpenSpec.ofChange renderOnesWrong)

/-- 'offsidelaw19.RenderTidies': WHATEVER THE INPUT: true; the input reads as it did. -/
def renderTidiesSpec : ChangeSpec := { name := "renderTidies", fn := fun _ => fun
  | [d1, d2] => { results := [.lit (.bool true)], args := [d1, d2] }
  | _ => none }
def renderTidiesRow : OpenClaim := { program := "ytnpaplfdmpjfgaadoor", sum := "d95bc741535cf1c4d588ec1c47efa2e7d79863833816057680bd9ccb09129a00", func := "offside/offsidelaw19.RenderTidies", spec := "renderTidies", inPlace := ["internal/abi.NoEscape", "internal/bytealg.MakeNoZero", "internal/bytealg.CountString", "internal/bytealg.IndexByteString", "internal/bytealg.IndexString"], unfollowed := true, recurses := true, named := ["unicode/utf8.first", "unicode/utf8.acceptRanges", "internal/bytealg.MaxLen"], loops := true, apart := false, laid := [("unicode/utf8.acceptRanges", laid_unicode_utf8_acceptRanges), ("unicode/utf8.first", laid_unicode_utf8_first)] }
def RenderTidiesSaid : Prop := renderTidiesRow.holds Tryd.pinned (OpenSpec.ofChange renderTidiesSpec)

/-- ITS FALSE NEIGHBOUR: 'it returns false'. Refute it at one input. -/
def renderTidiesWrong : ChangeSpec := { name := "renderTidies", fn := fun _ => fun
  | [d1, d2] => { results := [.lit (.bool false)], args := [d1, d2] }
  | _ => none }
def RenderTidiesWrongFalsely : Prop := renderTidiesRow.holds Tryd.pinned (OpenSpec.ofChange renderTidiesWrong)

/- THE SECOND FORM. 'bulk': how many values and letters a reading holds, each counted each time it is reached (what is shared counts as often as it is met; a slice's spare places count too). A statement '..UptoSaid' is the law's where the arguments, and the package variables that the reading takes, are together of bulk at most 1048576: NARROWER than '..Said'. Prove '..Said' where nothing that the law and all that it calls make is longer than what came in: it says more and counts as full. Else prove '..UptoSaid'. A law counts once. -/
mutual
def uptoBulk {H : Type} : DataW H → Nat
  | .lit (.string bytes) => bytes.length + 1
  | .lit _ => 1
  | .nil => 1
  | .ptr d => uptoBulk d + 1
  | .slice elems spare => uptoBulkAll elems + uptoBulkAll spare + 1
  | .agg parts => uptoBulkAll parts + 1
  | .iface _ d => uptoBulk d + 1
  | .map entries => uptoBulkEntries entries + 1
  | .held _ => 1
def uptoBulkAll {H : Type} : List (DataW H) → Nat
  | [] => 0
  | d :: r => uptoBulk d + uptoBulkAll r
def uptoBulkEntries {H : Type} : List (Lit × DataW H) → Nat
  | [] => 0
  | x :: r => uptoBulkEntry x + uptoBulkEntries r
def uptoBulkEntry {H : Type} : Lit × DataW H → Nat
  | (.string bytes, d) => bytes.length + uptoBulk d + 1
  | (_, d) => uptoBulk d + 1
 end
def uptoSmall : (H : Type) → List (DataW H) → Bool := fun _ ds => decide (uptoBulkAll ds ≤ 1048576)
def OpenSpec.upto (s : _root_.Go.ChangeSpec) : _root_.Go.OpenSpec := { _root_.Go.OpenSpec.ofChange s with cond := some uptoSmall }

/-- 'offsidelaw18.DocChecks', WHERE WHAT IT READS IS OF BULK AT MOST 1048576: true; the input reads as it did. -/
def docChecksUptoRow : OpenClaim := { program := "ytnpaplfdmpjfgaadoor", sum := "d95bc741535cf1c4d588ec1c47efa2e7d79863833816057680bd9ccb09129a00", func := "offside/offsidelaw18.DocChecks", spec := "docChecks", inPlace := ["internal/abi.NoEscape", "internal/bytealg.MakeNoZero"], unfollowed := true, recurses := true, named := ["unicode/utf8.first", "unicode/utf8.acceptRanges"], loops := true, apart := false, laid := [("unicode/utf8.acceptRanges", laid_unicode_utf8_acceptRanges), ("unicode/utf8.first", laid_unicode_utf8_first)], narrowed := true }
def DocChecksUptoSaid : Prop := docChecksUptoRow.holds Tryd.pinned (OpenSpec.upto docChecksSpec)

/-- 'offsidelaw18.DocFlats', WHERE WHAT IT READS IS OF BULK AT MOST 1048576: true; the input reads as it did. -/
def docFlatsUptoRow : OpenClaim := { program := "ytnpaplfdmpjfgaadoor", sum := "d95bc741535cf1c4d588ec1c47efa2e7d79863833816057680bd9ccb09129a00", func := "offside/offsidelaw18.DocFlats", spec := "docFlats", inPlace := ["internal/abi.NoEscape", "internal/bytealg.MakeNoZero"], unfollowed := true, recurses := true, named := ["unicode/utf8.first", "unicode/utf8.acceptRanges"], loops := true, apart := false, laid := [("unicode/utf8.acceptRanges", laid_unicode_utf8_acceptRanges), ("unicode/utf8.first", laid_unicode_utf8_first)], narrowed := true }
def DocFlatsUptoSaid : Prop := docFlatsUptoRow.holds Tryd.pinned (OpenSpec.upto docFlatsSpec)

/-- 'offsidelaw18.DocTidies', WHERE WHAT IT READS IS OF BULK AT MOST 1048576: true; the input reads as it did. -/
def docTidiesUptoRow : OpenClaim := { program := "ytnpaplfdmpjfgaadoor", sum := "d95bc741535cf1c4d588ec1c47efa2e7d79863833816057680bd9ccb09129a00", func := "offside/offsidelaw18.DocTidies", spec := "docTidies", inPlace := ["internal/abi.NoEscape", "internal/bytealg.MakeNoZero"], unfollowed := true, recurses := true, named := ["unicode/utf8.first", "unicode/utf8.acceptRanges"], loops := true, apart := false, laid := [("unicode/utf8.acceptRanges", laid_unicode_utf8_acceptRanges), ("unicode/utf8.first", laid_unicode_utf8_first)], narrowed := true }
def DocTidiesUptoSaid : Prop := docTidiesUptoRow.holds Tryd.pinned (OpenSpec.upto docTidiesSpec)

/-- 'offsidelaw18.DocKeeps', WHERE WHAT IT READS IS OF BULK AT MOST 1048576: true; the input reads as it did. -/
def docKeepsUptoRow : OpenClaim := { program := "ytnpaplfdmpjfgaadoor", sum := "d95bc741535cf1c4d588ec1c47efa2e7d79863833816057680bd9ccb09129a00", func := "offside/offsidelaw18.DocKeeps", spec := "docKeeps", inPlace := ["internal/abi.NoEscape", "internal/bytealg.MakeNoZero"], unfollowed := true, recurses := true, named := ["unicode/utf8.first", "unicode/utf8.acceptRanges"], loops := true, apart := false, laid := [("unicode/utf8.acceptRanges", laid_unicode_utf8_acceptRanges), ("unicode/utf8.first", laid_unicode_utf8_first)], narrowed := true }
def DocKeepsUptoSaid : Prop := docKeepsUptoRow.holds Tryd.pinned (OpenSpec.upto docKeepsSpec)

/-- 'offsidelaw18.DocJoins', WHERE WHAT IT READS IS OF BULK AT MOST 1048576: true; the input reads as it did. -/
def docJoinsUptoRow : OpenClaim := { program := "ytnpaplfdmpjfgaadoor", sum := "d95bc741535cf1c4d588ec1c47efa2e7d79863833816057680bd9ccb09129a00", func := "offside/offsidelaw18.DocJoins", spec := "docJoins", inPlace := ["internal/abi.NoEscape", "internal/bytealg.MakeNoZero"], unfollowed := true, recurses := true, named := ["unicode/utf8.first", "unicode/utf8.acceptRanges"], loops := true, apart := false, laid := [("unicode/utf8.acceptRanges", laid_unicode_utf8_acceptRanges), ("unicode/utf8.first", laid_unicode_utf8_first)], narrowed := true }
def DocJoinsUptoSaid : Prop := docJoinsUptoRow.holds Tryd.pinned (OpenSpec.upto docJoinsSpec)

/-- 'offsidelaw18.DocPunctuates', WHERE WHAT IT READS IS OF BULK AT MOST 1048576: true; the input reads as it did. -/
def docPunctuatesUptoRow : OpenClaim := { program := "ytnpaplfdmpjfgaadoor", sum := "d95bc741535cf1c4d588ec1c47efa2e7d79863833816057680bd9ccb09129a00", func := "offside/offsidelaw18.DocPunctuates", spec := "docPunctuates", inPlace := ["internal/abi.NoEscape", "internal/bytealg.MakeNoZero"], unfollowed := true, recurses := true, named := ["unicode/utf8.first", "unicode/utf8.acceptRanges"], loops := true, apart := false, laid := [("unicode/utf8.acceptRanges", laid_unicode_utf8_acceptRanges), ("unicode/utf8.first", laid_unicode_utf8_first)], narrowed := true }
def DocPunctuatesUptoSaid : Prop := docPunctuatesUptoRow.holds Tryd.pinned (OpenSpec.upto docPunctuatesSpec)

/-- 'offsidelaw19.RenderRenders', WHERE WHAT IT READS IS OF BULK AT MOST 1048576: true; the input reads as it did. -/
def renderRendersUptoRow : OpenClaim := { program := "ytnpaplfdmpjfgaadoor", sum := "d95bc741535cf1c4d588ec1c47efa2e7d79863833816057680bd9ccb09129a00", func := "offside/offsidelaw19.RenderRenders", spec := "renderRenders", inPlace := ["internal/abi.NoEscape", "internal/bytealg.MakeNoZero", "internal/bytealg.CountString", "internal/bytealg.IndexByteString", "internal/bytealg.IndexString"], unfollowed := true, recurses := true, named := ["unicode/utf8.first", "unicode/utf8.acceptRanges", "internal/bytealg.MaxLen"], loops := true, apart := false, laid := [("unicode/utf8.acceptRanges", laid_unicode_utf8_acceptRanges), ("unicode/utf8.first", laid_unicode_utf8_first)], narrowed := true }
def RenderRendersUptoSaid : Prop := renderRendersUptoRow.holds Tryd.pinned (OpenSpec.upto renderRendersSpec)

/-- 'offsidelaw19.RenderWidest', WHERE WHAT IT READS IS OF BULK AT MOST 1048576: true; the input reads as it did. -/
def renderWidestUptoRow : OpenClaim := { program := "ytnpaplfdmpjfgaadoor", sum := "d95bc741535cf1c4d588ec1c47efa2e7d79863833816057680bd9ccb09129a00", func := "offside/offsidelaw19.RenderWidest", spec := "renderWidest", inPlace := ["internal/abi.NoEscape", "internal/bytealg.MakeNoZero", "internal/bytealg.CountString", "internal/bytealg.IndexByteString", "internal/bytealg.IndexString"], unfollowed := true, recurses := true, named := ["unicode/utf8.first", "unicode/utf8.acceptRanges", "internal/bytealg.MaxLen"], apart := false, laid := [("unicode/utf8.acceptRanges", laid_unicode_utf8_acceptRanges), ("unicode/utf8.first", laid_unicode_utf8_first)], narrowed := true }
def RenderWidestUptoSaid : Prop := renderWidestUptoRow.holds Tryd.pinned (OpenSpec.upto renderWidestSpec)

/-- 'offsidelaw19.RenderJoins', WHERE WHAT IT READS IS OF BULK AT MOST 1048576: true; the input reads as it did. -/
def renderJoinsUptoRow : OpenClaim := { program := "ytnpaplfdmpjfgaadoor", sum := "d95bc741535cf1c4d588ec1c47efa2e7d79863833816057680bd9ccb09129a00", func := "offside/offsidelaw19.RenderJoins", spec := "renderJoins", inPlace := ["internal/abi.NoEscape", "internal/bytealg.MakeNoZero", "internal/bytealg.CountString", "internal/bytealg.IndexByteString", "internal/bytealg.IndexString"], unfollowed := true, recurses := true, named := ["unicode/utf8.first", "unicode/utf8.acceptRanges", "internal/bytealg.MaxLen"], loops := true, apart := false, laid := [("unicode/utf8.acceptRanges", laid_unicode_utf8_acceptRanges), ("unicode/utf8.first", laid_unicode_utf8_first)], narrowed := true }
def RenderJoinsUptoSaid : Prop := renderJoinsUptoRow.holds Tryd.pinned (OpenSpec.upto renderJoinsSpec)

/-- 'offsidelaw19.RenderNests', WHERE WHAT IT READS IS OF BULK AT MOST 1048576: true; the input reads as it did. -/
def renderNestsUptoRow : OpenClaim := { program := "ytnpaplfdmpjfgaadoor", sum := "d95bc741535cf1c4d588ec1c47efa2e7d79863833816057680bd9ccb09129a00", func := "offside/offsidelaw19.RenderNests", spec := "renderNests", inPlace := ["internal/abi.NoEscape", "internal/bytealg.MakeNoZero", "internal/bytealg.CountString", "internal/bytealg.IndexByteString", "internal/bytealg.IndexString"], unfollowed := true, recurses := true, named := ["unicode/utf8.first", "unicode/utf8.acceptRanges", "internal/bytealg.MaxLen"], loops := true, apart := false, laid := [("unicode/utf8.acceptRanges", laid_unicode_utf8_acceptRanges), ("unicode/utf8.first", laid_unicode_utf8_first)], narrowed := true }
def RenderNestsUptoSaid : Prop := renderNestsUptoRow.holds Tryd.pinned (OpenSpec.upto renderNestsSpec)

/-- 'offsidelaw19.RenderFlats', WHERE WHAT IT READS IS OF BULK AT MOST 1048576: true; the input reads as it did. -/
def renderFlatsUptoRow : OpenClaim := { program := "ytnpaplfdmpjfgaadoor", sum := "d95bc741535cf1c4d588ec1c47efa2e7d79863833816057680bd9ccb09129a00", func := "offside/offsidelaw19.RenderFlats", spec := "renderFlats", inPlace := ["internal/abi.NoEscape", "internal/bytealg.MakeNoZero", "internal/bytealg.CountString", "internal/bytealg.IndexByteString", "internal/bytealg.IndexString"], unfollowed := true, recurses := true, named := ["unicode/utf8.first", "unicode/utf8.acceptRanges", "internal/bytealg.MaxLen"], loops := true, apart := false, laid := [("unicode/utf8.acceptRanges", laid_unicode_utf8_acceptRanges), ("unicode/utf8.first", laid_unicode_utf8_first)], narrowed := true }
def RenderFlatsUptoSaid : Prop := renderFlatsUptoRow.holds Tryd.pinned (OpenSpec.upto renderFlatsSpec)

/-- 'offsidelaw19.RenderOnes', WHERE WHAT IT READS IS OF BULK AT MOST 1048576: true; the input reads as it did. -/
def renderOnesUptoRow : OpenClaim := { program := "ytnpaplfdmpjfgaadoor", sum := "d95bc741535cf1c4d588ec1c47efa2e7d79863833816057680bd9ccb09129a00", func := "offside/offsidelaw19.RenderOnes", spec := "renderOnes", inPlace := ["internal/abi.NoEscape", "internal/bytealg.MakeNoZero", "internal/bytealg.CountString", "internal/bytealg.IndexByteString", "internal/bytealg.IndexString"], unfollowed := true, recurses := true, named := ["unicode/utf8.first", "unicode/utf8.acceptRanges", "internal/bytealg.MaxLen"], loops := true, apart := false, laid := [("unicode/utf8.acceptRanges", laid_unicode_utf8_acceptRanges), ("unicode/utf8.first", laid_unicode_utf8_first)], narrowed := true }
def RenderOnesUptoSaid : Prop := renderOnesUptoRow.holds Tryd.pinned (OpenSpec.upto renderOnesSpec)

/-- 'offsidelaw19.RenderTidies', WHERE WHAT IT READS IS OF BULK AT MOST 1048576: true; the input reads as it did. -/
def renderTidiesUptoRow : OpenClaim := { program := "ytnpaplfdmpjfgaadoor", sum := "d95bc741535cf1c4d588ec1c47efa2e7d79863833816057680bd9ccb09129a00", func := "offside/offsidelaw19.RenderTidies", spec := "renderTidies", inPlace := ["internal/abi.NoEscape", "internal/bytealg.MakeNoZero", "internal/bytealg.CountString", "internal/bytealg.IndexByteString", "internal/bytealg.IndexString"], unfollowed := true, recurses := true, named := ["unicode/utf8.first", "unicode/utf8.acceptRanges", "internal/bytealg.MaxLen"], loops := true, apart := false, laid := [("unicode/utf8.acceptRanges", laid_unicode_utf8_acceptRanges), ("unicode/utf8.first", laid_unicode_utf8_first)], narrowed := true }
def RenderTidiesUptoSaid : Prop := renderTidiesUptoRow.holds Tryd.pinned (OpenSpec.upto renderTidiesSpec)

end Rows
end Go.Proofs.YtnpaplfdmpjfgaaDoor
