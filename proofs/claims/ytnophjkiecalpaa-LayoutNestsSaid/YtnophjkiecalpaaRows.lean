/-
  No cell of these rows narrows 'for every input' (looked for: loops, veiled, ifaces, maps, wideKeys, modest, calm, conditions, laid).
  DERIVED. THE GIVEN ROWS OF THIS SEAT. 12 by the template 'for every input the law returns true; each argument reads behind the call as it read before'; 0 by the template 'total and deterministic' (their statements: YtnophjkiecalpaaTotals.lean).
  GIVEN WITH THE SEED: the statements are not yours to turn. If you find one false, say at which input.
  Laid BY PROGRAM, IN A SANDBOX (cutbox-rows.mjs): the forced cells as the released guide's own fill.sh prints them over the translation 683de0ad2e6277fb… (all of the seat's roots in one cut). By AI agents, Wed Nov 11 2026. No macro, syntax, notation, axiom, sorry.
-/
import Derived.Test.YtnophjkiecalpaaChecked
import GoSem.Claim
import GoSem.ClaimJoined
import GoSem.ClaimMapViews
import Derived.JoinedTies
import Derived.KernelRfl
namespace Go.Proofs.Ytnophjkiecalpaa
/- THE CELL 'sum', in the pinned program and in every row, IS THE sha256 OF THE DUMP (.gsa) THAT YtnophjkiecalpaaProg.lean LOADS. Nothing in Lean hashes anything: it is a label: what it is worth is what the hold of that sum in a sandbox is worth. -/
noncomputable def Try.pinned : Pinned := { name := "ytnophjkiecalpaa", sum := "683de0ad2e6277fb92f8bc1245c638322c26305a0fae5be4b4b9a792acda301d", checked := Try.checked }
namespace Rows
def none {H : Type} : Left H := { results := [], args := [] }

/-- 'offsidelaw08.MarkOpens': WHATEVER THE INPUT: true; the input reads as it did. -/
def markOpensSpec : ChangeSpec := { name := "markOpens", fn := fun _ => fun
  | [d] => { results := [.lit (.bool true)], args := [d] }
  | _ => none }
def markOpensRow : OpenClaim := { program := "ytnophjkiecalpaa", sum := "683de0ad2e6277fb92f8bc1245c638322c26305a0fae5be4b4b9a792acda301d", func := "offside/offsidelaw08.MarkOpens", spec := "markOpens", unfollowed := true, recurses := true, apart := false }
def MarkOpensSaid : Prop := markOpensRow.holds Try.pinned (OpenSpec.ofChange markOpensSpec)

/-- ITS FALSE NEIGHBOUR: 'it returns false'. Refute it at one input. -/
def markOpensWrong : ChangeSpec := { name := "markOpens", fn := fun _ => fun
  | [d] => { results := [.lit (.bool false)], args := [d] }
  | _ => none }
def MarkOpensWrongFalsely : Prop := markOpensRow.holds Try.pinned (OpenSpec.ofChange markOpensWrong)

/-- 'offsidelaw08.MarkMarks': WHATEVER THE INPUT: true; the input reads as it did. -/
def markMarksSpec : ChangeSpec := { name := "markMarks", fn := fun _ => fun
  | [d] => { results := [.lit (.bool true)], args := [d] }
  | _ => none }
def markMarksRow : OpenClaim := { program := "ytnophjkiecalpaa", sum := "683de0ad2e6277fb92f8bc1245c638322c26305a0fae5be4b4b9a792acda301d", func := "offside/offsidelaw08.MarkMarks", spec := "markMarks", unfollowed := true, recurses := true, apart := false }
def MarkMarksSaid : Prop := markMarksRow.holds Try.pinned (OpenSpec.ofChange markMarksSpec)

/-- ITS FALSE NEIGHBOUR: 'it returns false'. Refute it at one input. -/
def markMarksWrong : ChangeSpec := { name := "markMarks", fn := fun _ => fun
  | [d] => { results := [.lit (.bool false)], args := [d] }
  | _ => none }
def MarkMarksWrongFalsely : Prop := markMarksRow.holds Try.pinned (OpenSpec.ofChange markMarksWrong)

/-- 'offsidelaw08.MarkBares': WHATEVER THE INPUT: true; the input reads as it did. -/
def markBaresSpec : ChangeSpec := { name := "markBares", fn := fun _ => fun
  | [d] => { results := [.lit (.bool true)], args := [d] }
  | _ => none }
def markBaresRow : OpenClaim := { program := "ytnophjkiecalpaa", sum := "683de0ad2e6277fb92f8bc1245c638322c26305a0fae5be4b4b9a792acda301d", func := "offside/offsidelaw08.MarkBares", spec := "markBares", unfollowed := true, recurses := true, apart := false }
def MarkBaresSaid : Prop := markBaresRow.holds Try.pinned (OpenSpec.ofChange markBaresSpec)

/-- ITS FALSE NEIGHBOUR: 'it returns false'. Refute it at one input. -/
def markBaresWrong : ChangeSpec := { name := "markBares", fn := fun _ => fun
  | [d] => { results := [.lit (.bool false)], args := [d] }
  | _ => none }
def MarkBaresWrongFalsely : Prop := markBaresRow.holds Try.pinned (OpenSpec.ofChange markBaresWrong)

/-- 'offsidelaw08.MarkBack': WHATEVER THE INPUT: true; the input reads as it did. -/
def markBackSpec : ChangeSpec := { name := "markBack", fn := fun _ => fun
  | [d] => { results := [.lit (.bool true)], args := [d] }
  | _ => none }
def markBackRow : OpenClaim := { program := "ytnophjkiecalpaa", sum := "683de0ad2e6277fb92f8bc1245c638322c26305a0fae5be4b4b9a792acda301d", func := "offside/offsidelaw08.MarkBack", spec := "markBack", unfollowed := true, recurses := true, apart := false }
def MarkBackSaid : Prop := markBackRow.holds Try.pinned (OpenSpec.ofChange markBackSpec)

/-- ITS FALSE NEIGHBOUR: 'it returns false'. Refute it at one input. -/
def markBackWrong : ChangeSpec := { name := "markBack", fn := fun _ => fun
  | [d] => { results := [.lit (.bool false)], args := [d] }
  | _ => none }
def MarkBackWrongFalsely : Prop := markBackRow.holds Try.pinned (OpenSpec.ofChange markBackWrong)

/-- 'offsidelaw08.MarkOnce': WHATEVER THE INPUT: true; the input reads as it did. -/
def markOnceSpec : ChangeSpec := { name := "markOnce", fn := fun _ => fun
  | [d] => { results := [.lit (.bool true)], args := [d] }
  | _ => none }
def markOnceRow : OpenClaim := { program := "ytnophjkiecalpaa", sum := "683de0ad2e6277fb92f8bc1245c638322c26305a0fae5be4b4b9a792acda301d", func := "offside/offsidelaw08.MarkOnce", spec := "markOnce", unfollowed := true, recurses := true, apart := false }
def MarkOnceSaid : Prop := markOnceRow.holds Try.pinned (OpenSpec.ofChange markOnceSpec)

/-- ITS FALSE NEIGHBOUR: 'it returns false'. Refute it at one input. -/
def markOnceWrong : ChangeSpec := { name := "markOnce", fn := fun _ => fun
  | [d] => { results := [.lit (.bool false)], args := [d] }
  | _ => none }
def MarkOnceWrongFalsely : Prop := markOnceRow.holds Try.pinned (OpenSpec.ofChange markOnceWrong)

/-- 'offsidelaw08.MarkNone': WHATEVER THE INPUT: true; the input reads as it did. -/
def markNoneSpec : ChangeSpec := { name := "markNone", fn := fun _ => fun
  | [d1, d2, d3] => { results := [.lit (.bool true)], args := [d1, d2, d3] }
  | _ => none }
def markNoneRow : OpenClaim := { program := "ytnophjkiecalpaa", sum := "683de0ad2e6277fb92f8bc1245c638322c26305a0fae5be4b4b9a792acda301d", func := "offside/offsidelaw08.MarkNone", spec := "markNone", unfollowed := true, recurses := true, apart := false }
def MarkNoneSaid : Prop := markNoneRow.holds Try.pinned (OpenSpec.ofChange markNoneSpec)

/-- ITS FALSE NEIGHBOUR: 'it returns false'. Refute it at one input. -/
def markNoneWrong : ChangeSpec := { name := "markNone", fn := fun _ => fun
  | [d1, d2, d3] => { results := [.lit (.bool false)], args := [d1, d2, d3] }
  | _ => none }
def MarkNoneWrongFalsely : Prop := markNoneRow.holds Try.pinned (OpenSpec.ofChange markNoneWrong)

/-- 'offsidelaw09.LayoutNexts': WHATEVER THE INPUT: true; the input reads as it did. -/
def layoutNextsSpec : ChangeSpec := { name := "layoutNexts", fn := fun _ => fun
  | [d] => { results := [.lit (.bool true)], args := [d] }
  | _ => none }
def layoutNextsRow : OpenClaim := { program := "ytnophjkiecalpaa", sum := "683de0ad2e6277fb92f8bc1245c638322c26305a0fae5be4b4b9a792acda301d", func := "offside/offsidelaw09.LayoutNexts", spec := "layoutNexts", unfollowed := true, recurses := true, apart := false }
def LayoutNextsSaid : Prop := layoutNextsRow.holds Try.pinned (OpenSpec.ofChange layoutNextsSpec)

/-- ITS FALSE NEIGHBOUR: 'it returns false'. Refute it at one input. -/
def layoutNextsWrong : ChangeSpec := { name := "layoutNexts", fn := fun _ => fun
  | [d] => { results := [.lit (.bool false)], args := [d] }
  | _ => none }
def LayoutNextsWrongFalsely : Prop := layoutNextsRow.holds Try.pinned (OpenSpec.ofChange layoutNextsWrong)

/-- 'offsidelaw09.LayoutAlls': WHATEVER THE INPUT: true; the input reads as it did. -/
def layoutAllsSpec : ChangeSpec := { name := "layoutAlls", fn := fun _ => fun
  | [d] => { results := [.lit (.bool true)], args := [d] }
  | _ => none }
def layoutAllsRow : OpenClaim := { program := "ytnophjkiecalpaa", sum := "683de0ad2e6277fb92f8bc1245c638322c26305a0fae5be4b4b9a792acda301d", func := "offside/offsidelaw09.LayoutAlls", spec := "layoutAlls", unfollowed := true, recurses := true, apart := false }
def LayoutAllsSaid : Prop := layoutAllsRow.holds Try.pinned (OpenSpec.ofChange layoutAllsSpec)

/-- ITS FALSE NEIGHBOUR: 'it returns false'. Refute it at one input. -/
def layoutAllsWrong : ChangeSpec := { name := "layoutAlls", fn := fun _ => fun
  | [d] => { results := [.lit (.bool false)], args := [d] }
  | _ => none }
def LayoutAllsWrongFalsely : Prop := layoutAllsRow.holds Try.pinned (OpenSpec.ofChange layoutAllsWrong)

/-- 'offsidelaw09.LayoutKeeps': WHATEVER THE INPUT: true; the input reads as it did. -/
def layoutKeepsSpec : ChangeSpec := { name := "layoutKeeps", fn := fun _ => fun
  | [d] => { results := [.lit (.bool true)], args := [d] }
  | _ => none }
def layoutKeepsRow : OpenClaim := { program := "ytnophjkiecalpaa", sum := "683de0ad2e6277fb92f8bc1245c638322c26305a0fae5be4b4b9a792acda301d", func := "offside/offsidelaw09.LayoutKeeps", spec := "layoutKeeps", unfollowed := true, recurses := true, apart := false }
def LayoutKeepsSaid : Prop := layoutKeepsRow.holds Try.pinned (OpenSpec.ofChange layoutKeepsSpec)

/-- ITS FALSE NEIGHBOUR: 'it returns false'. Refute it at one input. -/
def layoutKeepsWrong : ChangeSpec := { name := "layoutKeeps", fn := fun _ => fun
  | [d] => { results := [.lit (.bool false)], args := [d] }
  | _ => none }
def LayoutKeepsWrongFalsely : Prop := layoutKeepsRow.holds Try.pinned (OpenSpec.ofChange layoutKeepsWrong)

/-- 'offsidelaw09.LayoutNests': WHATEVER THE INPUT: true; the input reads as it did. -/
def layoutNestsSpec : ChangeSpec := { name := "layoutNests", fn := fun _ => fun
  | [d] => { results := [.lit (.bool true)], args := [d] }
  | _ => none }
def layoutNestsRow : OpenClaim := { program := "ytnophjkiecalpaa", sum := "683de0ad2e6277fb92f8bc1245c638322c26305a0fae5be4b4b9a792acda301d", func := "offside/offsidelaw09.LayoutNests", spec := "layoutNests", unfollowed := true, recurses := true, apart := false }
def LayoutNestsSaid : Prop := layoutNestsRow.holds Try.pinned (OpenSpec.ofChange layoutNestsSpec)

/-- ITS FALSE NEIGHBOUR: 'it returns false'. Refute it at one input. -/
def layoutNestsWrong : ChangeSpec := { name := "layoutNests", fn := fun _ => fun
  | [d] => { results := [.lit (.bool false)], args := [d] }
  | _ => none }
def LayoutNestsWrongFalsely : Prop := layoutNestsRow.holds Try.pinned (OpenSpec.ofChange layoutNestsWrong)

/-- 'offsidelaw09.LayoutCloses': WHATEVER THE INPUT: true; the input reads as it did. -/
def layoutClosesSpec : ChangeSpec := { name := "layoutCloses", fn := fun _ => fun
  | [d] => { results := [.lit (.bool true)], args := [d] }
  | _ => none }
def layoutClosesRow : OpenClaim := { program := "ytnophjkiecalpaa", sum := "683de0ad2e6277fb92f8bc1245c638322c26305a0fae5be4b4b9a792acda301d", func := "offside/offsidelaw09.LayoutCloses", spec := "layoutCloses", unfollowed := true, recurses := true, apart := false }
def LayoutClosesSaid : Prop := layoutClosesRow.holds Try.pinned (OpenSpec.ofChange layoutClosesSpec)

/-- ITS FALSE NEIGHBOUR: 'it returns false'. Refute it at one input. -/
def layoutClosesWrong : ChangeSpec := { name := "layoutCloses", fn := fun _ => fun
  | [d] => { results := [.lit (.bool false)], args := [d] }
  | _ => none }
def LayoutClosesWrongFalsely : Prop := layoutClosesRow.holds Try.pinned (OpenSpec.ofChange layoutClosesWrong)

/-- 'offsidelaw09.LayoutGoes': WHATEVER THE INPUT: true; the input reads as it did. -/
def layoutGoesSpec : ChangeSpec := { name := "layoutGoes", fn := fun _ => fun
  | [d] => { results := [.lit (.bool true)], args := [d] }
  | _ => none }
def layoutGoesRow : OpenClaim := { program := "ytnophjkiecalpaa", sum := "683de0ad2e6277fb92f8bc1245c638322c26305a0fae5be4b4b9a792acda301d", func := "offside/offsidelaw09.LayoutGoes", spec := "layoutGoes", unfollowed := true, recurses := true, apart := false }
def LayoutGoesSaid : Prop := layoutGoesRow.holds Try.pinned (OpenSpec.ofChange layoutGoesSpec)

/-- ITS FALSE NEIGHBOUR: 'it returns false'. Refute it at one input. -/
def layoutGoesWrong : ChangeSpec := { name := "layoutGoes", fn := fun _ => fun
  | [d] => { results := [.lit (.bool false)], args := [d] }
  | _ => none }
def LayoutGoesWrongFalsely : Prop := layoutGoesRow.holds Try.pinned (OpenSpec.ofChange layoutGoesWrong)

/- THE SECOND FORM. 'bulk': how many values and letters a reading holds, each counted each time it is reached (what is shared counts as often as it is met; a slice's spare places count too). A statement '..UptoSaid' is the law's where the arguments, and the package variables that the reading takes, are together of bulk at most 1048576: NARROWER than '..Said'. Prove '..Said' where nothing that the law and all that it calls make is longer than what came in: it says more and counts as full. Else prove '..UptoSaid'. A law counts once. -/
mutual
def uptoBulk {H : Type} : DataW H → Nat
  | .lit (.string bytes) => bytes.length + 1
  | .lit _ => 1
  | .nil => 1
  | .ptr d => uptoBulk d + 1
  | .slice elems spare => uptoBulkAll elems + uptoBulkAll spare + 1
  | .agg parts => uptoBulkAll parts + 1
  | .iface _ d => uptoBulk d + 1
  | .map entries => uptoBulkEntries entries + 1
  | .held _ => 1
def uptoBulkAll {H : Type} : List (DataW H) → Nat
  | [] => 0
  | d :: r => uptoBulk d + uptoBulkAll r
def uptoBulkEntries {H : Type} : List (Lit × DataW H) → Nat
  | [] => 0
  | x :: r => uptoBulkEntry x + uptoBulkEntries r
def uptoBulkEntry {H : Type} : Lit × DataW H → Nat
  | (.string bytes, d) => bytes.length + uptoBulk d + 1
  | (_, d) => uptoBulk d + 1
 end
def uptoSmall : (H : Type) → List (DataW H) → Bool := fun _ ds => decide (uptoBulkAll ds ≤ 1048576)
def OpenSpec.upto (s : _root_.Go.ChangeSpec) : _root_.Go.OpenSpec := { _root_.Go.OpenSpec.ofChange s with cond := some uptoSmall }

/-- 'offsidelaw08.MarkOpens', WHERE WHAT IT READS IS OF BULK AT MOST 1048576: true; the input reads as it did. -/
def markOpensUptoRow : OpenClaim := { program := "ytnophjkiecalpaa", sum := "683de0ad2e6277fb92f8bc1245c638322c26305a0fae5be4b4b9a792acda301d", func := "offside/offsidelaw08.MarkOpens", spec := "markOpens", unfollowed := true, recurses := true, apart := false, narrowed := true }
def MarkOpensUptoSaid : Prop := markOpensUptoRow.holds Try.pinned (OpenSpec.upto markOpensSpec)

/-- 'offsidelaw08.MarkMarks', WHERE WHAT IT READS IS OF BULK AT MOST 1048576: true; the input reads as it did. -/
def markMarksUptoRow : OpenClaim := { program := "ytnophjkiecalpaa", sum := "683de0ad2e6277fb92f8bc1245c638322c26305a0fae5be4b4b9a792acda301d", func := "offside/offsidelaw08.MarkMarks", spec := "markMarks", unfollowed := true, recurses := true, apart := false, narrowed := true }
def MarkMarksUptoSaid : Prop := markMarksUptoRow.holds Try.pinned (OpenSpec.upto markMarksSpec)

/-- 'offsidelaw08.MarkBares', WHERE WHAT IT READS IS OF BULK AT MOST 1048576: true; the input reads as it did. -/
def markBaresUptoRow : OpenClaim := { program := "ytnophjkiecalpaa", sum := "683de0ad2e6277fb92f8bc1245c638322c26305a0fae5be4b4b9a792acda301d", func := "offside/offsidelaw08.MarkBares", spec := "markBares", unfollowed := true, recurses := true, apart := false, narrowed := true }
def MarkBaresUptoSaid : Prop := markBaresUptoRow.holds Try.pinned (OpenSpec.upto markBaresSpec)

/-- 'offsidelaw08.MarkBack', WHERE WHAT IT READS IS OF BULK AT MOST 1048576: true; the input reads as it did. -/
def markBackUptoRow : OpenClaim := { program := "ytnophjkiecalpaa", sum := "683de0ad2e6277fb92f8bc1245c638322c26305a0fae5be4b4b9a792acda301d", func := "offside/offsidelaw08.MarkBack", spec := "markBack", unfollowed := true, recurses := true, apart := false, narrowed := true }
def MarkBackUptoSaid : Prop := markBackUptoRow.holds Try.pinned (OpenSpec.upto markBackSpec)

/-- 'offsidelaw08.MarkOnce', WHERE WHAT IT READS IS OF BULK AT MOST 1048576: true; the input reads as it did. -/
def markOnceUptoRow : OpenClaim := { program := "ytnophjkiecalpaa", sum := "683de0ad2e6277fb92f8bc1245c638322c26305a0fae5be4b4b9a792acda301d", func := "offside/offsidelaw08.MarkOnce", spec := "markOnce", unfollowed := true, recurses := true, apart := false, narrowed := true }
def MarkOnceUptoSaid : Prop := markOnceUptoRow.holds Try.pinned (OpenSpec.upto markOnceSpec)

/-- 'offsidelaw08.MarkNone', WHERE WHAT IT READS IS OF BULK AT MOST 1048576: true; the input reads as it did. -/
def markNoneUptoRow : OpenClaim := { program := "ytnophjkiecalpaa", sum := "683de0ad2e6277fb92f8bc1245c638322c26305a0fae5be4b4b9a792acda301d", func := "offside/offsidelaw08.MarkNone", spec := "markNone", unfollowed := true, recurses := true, apart := false, narrowed := true }
def MarkNoneUptoSaid : Prop := markNoneUptoRow.holds Try.pinned (OpenSpec.upto markNoneSpec)

/-- 'offsidelaw09.LayoutNexts', WHERE WHAT IT READS IS OF BULK AT MOST 1048576: true; the input reads as it did. -/
def layoutNextsUptoRow : OpenClaim := { program := "ytnophjkiecalpaa", sum := "683de0ad2e6277fb92f8bc1245c638322c26305a0fae5be4b4b9a792acda301d", func := "offside/offsidelaw09.LayoutNexts", spec := "layoutNexts", unfollowed := true, recurses := true, apart := false, narrowed := true }
def LayoutNextsUptoSaid : Prop := layoutNextsUptoRow.holds Try.pinned (OpenSpec.upto layoutNextsSpec)

/-- 'offsidelaw09.LayoutAlls', WHERE WHAT IT READS IS OF BULK AT MOST 1048576: true; the input reads as it did. -/
def layoutAllsUptoRow : OpenClaim := { program := "ytnophjkiecalpaa", sum := "683de0ad2e6277fb92f8bc1245c638322c26305a0fae5be4b4b9a792acda301d", func := "offside/offsidelaw09.LayoutAlls", spec := "layoutAlls", unfollowed := true, recurses := true, apart := false, narrowed := true }
def LayoutAllsUptoSaid : Prop := layoutAllsUptoRow.holds Try.pinned (OpenSpec.upto layoutAllsSpec)

/-- 'offsidelaw09.LayoutKeeps', WHERE WHAT IT READS IS OF BULK AT MOST 1048576: true; the input reads as it did. -/
def layoutKeepsUptoRow : OpenClaim := { program := "ytnophjkiecalpaa", sum := "683de0ad2e6277fb92f8bc1245c638322c26305a0fae5be4b4b9a792acda301d", func := "offside/offsidelaw09.LayoutKeeps", spec := "layoutKeeps", unfollowed := true, recurses := true, apart := false, narrowed := true }
def LayoutKeepsUptoSaid : Prop := layoutKeepsUptoRow.holds Try.pinned (OpenSpec.upto layoutKeepsSpec)

/-- 'offsidelaw09.LayoutNests', WHERE WHAT IT READS IS OF BULK AT MOST 1048576: true; the input reads as it did. -/
def layoutNestsUptoRow : OpenClaim := { program := "ytnophjkiecalpaa", sum := "683de0ad2e6277fb92f8bc1245c638322c26305a0fae5be4b4b9a792acda301d", func := "offside/offsidelaw09.LayoutNests", spec := "layoutNests", unfollowed := true, recurses := true, apart := false, narrowed := true }
def LayoutNestsUptoSaid : Prop := layoutNestsUptoRow.holds Try.pinned (OpenSpec.upto layoutNestsSpec)

/-- 'offsidelaw09.LayoutCloses', WHERE WHAT IT READS IS OF BULK AT MOST 1048576: true; the input reads as it did. -/
def layoutClosesUptoRow : OpenClaim := { program := "ytnophjkiecalpaa", sum := "683de0ad2e6277fb92f8bc1245c638322c26305a0fae5be4b4b9a792acda301d", func := "offside/offsidelaw09.LayoutCloses", spec := "layoutCloses", unfollowed := true, recurses := true, apart := false, narrowed := true }
def LayoutClosesUptoSaid : Prop := layoutClosesUptoRow.holds Try.pinned (OpenSpec.upto layoutClosesSpec)

/-- 'offsidelaw09.LayoutGoes', WHERE WHAT IT READS IS OF BULK AT MOST 1048576: true; the input reads as it did. -/
def layoutGoesUptoRow : OpenClaim := { program := "ytnophjkiecalpaa", sum := "683de0ad2e6277fb92f8bc1245c638322c26305a0fae5be4b4b9a792acda301d", func := "offside/offsidelaw09.LayoutGoes", spec := "layoutGoes", unfollowed := true, recurses := true, apart := false, narrowed := true }
def LayoutGoesUptoSaid : Prop := layoutGoesUptoRow.holds Try.pinned (OpenSpec.upto layoutGoesSpec)

end Rows
end Go.Proofs.Ytnophjkiecalpaa
