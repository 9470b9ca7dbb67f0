/- What the layout tells, in plain Lean: the next token of a state, all of them, and their laws. -/
import Derived.Test.YtnophjkiecalpaaLayBase
namespace Go.Proofs.Ytnophjkiecalpaa

/-- What is told at the end. -/
def endF (l : List Tok) (zs : List Int) (k : Nat) (wait : Int) : Tok × LSt × Int :=
  if zs.length == 0 then (⟨21, .empty, 0, 0⟩, ⟨l, k, zs, wait⟩, 0)
  else if decide (0 < topOf zs) then (⟨20, .empty, 0, 0⟩, ⟨l, k, zs.dropLast, wait⟩, 0)
  else (tk0, ⟨l, k, zs, wait⟩, 90)

/-- What is told at token k, if that is no mark that tells nothing. -/
def oneF (l : List Tok) (zs : List Int) (k : Nat) (wait : Int) : Tok × LSt × Int :=
  let t := tk l k
  if t.kind == 15 && t.text.toList == [125] then
    (if zs.length == 0 || decide (0 < topOf zs) then (tk0, ⟨l, k, zs, wait⟩, 90) else (t, ⟨l, (k + 1 : Nat), zs.dropLast, wait⟩, 0))
  else if t.kind == 15 && t.text.toList == [123] then (t, ⟨l, (k + 1 : Nat), zs ++ [0], wait⟩, 0)
  else (t, ⟨l, (k + 1 : Nat), zs, wait⟩, 0)

/-- What is told from token k on; f: as many tokens as are left. -/
def nextF (l : List Tok) (zs : List Int) : Nat → Nat → Int → Tok × LSt × Int
  | 0, k, wait => endF l zs k wait
  | f + 1, k, wait =>
    let t := tk l k
    if t.kind == 16 && wait == 0 then
      (if decide (topOf zs < t.col) then (markTok 18 t, ⟨l, (k + 1 : Nat), zs ++ [t.col], wait⟩, 0) else (markTok 18 t, ⟨l, k, zs, 1⟩, 0))
    else if t.kind == 16 && wait == 1 then (markTok 20 t, ⟨l, k, zs, 2⟩, 0)
    else if t.kind == 16 || t.kind == 17 then
      (if decide (0 < topOf zs) && decide (t.col < topOf zs) then (markTok 20 t, ⟨l, k, zs.dropLast, wait⟩, 0)
       else if decide (0 < topOf zs) && (t.col == topOf zs) then (markTok 19 t, ⟨l, (k + 1 : Nat), zs, 0⟩, 0)
       else nextF l zs f (k + 1) 0)
    else oneF l zs k wait

def st0 : LSt := ⟨[], 0, [], 0⟩
/-- The next token of a state, the state behind it, and what is wrong. -/
def nextS (s : LSt) : Tok × LSt × Int := if s.may then nextF s.toks s.opens (s.toks.length - s.pos.toNat) s.pos.toNat s.wait else (tk0, st0, 1)
/-- A state without its innermost block. -/
def closeS (s : LSt) : LSt × Bool := if s.may && !(s.wait == 1) && !(topOf s.opens == 0) then (⟨s.toks, s.pos, s.opens.dropLast, s.wait⟩, true) else (st0, false)
end Go.Proofs.Ytnophjkiecalpaa
