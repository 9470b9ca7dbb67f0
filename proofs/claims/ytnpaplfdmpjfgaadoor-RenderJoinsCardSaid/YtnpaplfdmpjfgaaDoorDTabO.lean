/- The tables that the program holds, as the row's list gives them; a law's argument opened to a string, or to a shape (two texts in one, for the claims that have many). -/
import Derived.Test.YtnpaplfdmpjfgaaDoorDOpen
import Derived.Test.YtnpaplfdmpjfgaaDoorShelf
import Derived.Lib.LaidU8
import Derived.PinnedBridge
import Derived.Lay
import Derived.LaidMore
import Derived.MakeChecks
import Derived.ChangeMaps5
namespace Go.Proofs.YtnpaplfdmpjfgaaDoor
open Go.ChangeShapes Go.WideShapes Go.ChangeAt Go.RowKit Go.Deep

def laidList : List (String × DataW Unit) := [("unicode/utf8.acceptRanges", Rows.laid_unicode_utf8_acceptRanges), ("unicode/utf8.first", Rows.laid_unicode_utf8_first)]
theorem accept_eq : (Rows.laid_unicode_utf8_acceptRanges : DataW Unit) = Lib.acceptData := by kernel_rfl
theorem first_eq : Rows.laid_unicode_utf8_first = Lib.firstData := Pinned.utf8First_eq
theorem u8extra : U8Extra Tryd.prog Tryd.lays260_ren := ⟨by kernel_rfl, by kernel_rfl, by kernel_rfl, by kernel_rfl, by kernel_rfl, by kernel_rfl, by kernel_rfl⟩
theorem noHandle : (laidList.all fun x => x.2.handleName?.isNone) = true := by kernel_rfl
/-- What the rows' list gives. -/
theorem tabs {W : World} (h : laidMetH Tryd.prog laidList W) : Lib.Utf8Tabs 1 2 W := by
  rw [MakeChecks.laidMetH_plain _ _ _ noHandle] at h
  have h1 := Lib.laidMet.reads h (n := "unicode/utf8.first") (d := Rows.laid_unicode_utf8_first) (by simp [laidList])
  have h2 := Lib.laidMet.reads h (n := "unicode/utf8.acceptRanges") (d := Rows.laid_unicode_utf8_acceptRanges) (by simp [laidList])
  rw [first_eq] at h1
  rw [accept_eq] at h2
  exact utf8Tabs_of_reads Tryd.lays260 u8extra h1 h2
end Go.Proofs.YtnpaplfdmpjfgaaDoor
namespace Go.Proofs.YtnpaplfdmpjfgaaDoor
open Go.ChangeShapes Go.WideShapes Go.ChangeAt Go.RowKit Go.Deep

section
variable {H : Type} {enc : TypeId × Value → H} {W : World}
set_option maxRecDepth 100000 in
/-- An argument that is a string. -/
theorem open_str {r : Reach} {b0 : Nat} {v : Value} {d : DataW H} {p : List MemPlace} (hval : Value.okWide Tryd.prog W r b0 9 v) (h : DataW.Trod enc Tryd.prog W 0 (fun _ => true) true 9 v d p) :
    ∃ s : ByteArray, v = .string s ∧ s.size ≤ Rows.uptoBulk d := by
  obtain ⟨s, rfl, rfl, _, _⟩ := Go.ChangeMaps.open_string Tryd.underlying9 hval h
  refine ⟨s, rfl, ?_⟩
  simp only [Rows.uptoBulk]
  rw [show s.data.toList.length = s.size from Array.length_toList]
  omega
set_option maxRecDepth 100000 in
/-- An argument that is a shape. -/
theorem open_shape {v : Value} {d : DataW H} {p : List MemPlace} (hv : ∃ cs, v = .agg cs) (h : DataW.Trod enc Tryd.prog W 0 (fun _ => true) true 41 v d p) :
    ∃ a b c : Int, v = .agg #[.int .i64 a, .int .i64 b, .int .i64 c] := by
  obtain ⟨cs, rfl⟩ := hv
  obtain ⟨fuel, hf⟩ := h
  obtain ⟨ys, m, rfl, hx, hcl, hyl, hf⟩ := DataW.trod_struct Tryd.underlying41 hf
  have cells41 : Tryd.prog.cellsOf 41 = 3 := by kernel_rfl
  rw [cells41] at hcl
  simp only [Value.cells] at hcl hf
  obtain ⟨l, hl⟩ : ∃ l, cs.toList = l := ⟨_, rfl⟩
  rw [hl] at hf hcl
  match l, hcl with
  | [v0, v1, v2], _ =>
  have hyl : ys.length = 3 := hyl
  match ys, hyl with
  | [y0, y1, y2], _ =>
  have t0 : DataW.trod enc Tryd.prog W 0 (fun _ => true) true m 3 (([v0, v1, v2].drop 0).take (Tryd.prog.cellsOf 3)) = some y0 := hf 0 _ rfl
  have t1 : DataW.trod enc Tryd.prog W 0 (fun _ => true) true m 3 (([v0, v1, v2].drop 1).take (Tryd.prog.cellsOf 3)) = some y1 := hf 1 _ rfl
  have t2 : DataW.trod enc Tryd.prog W 0 (fun _ => true) true m 3 (([v0, v1, v2].drop 2).take (Tryd.prog.cellsOf 3)) = some y2 := hf 2 _ rfl
  rw [cells3] at t0 t1 t2
  simp only [List.drop_zero, List.drop_succ_cons, List.take_succ_cons, List.take_zero] at t0 t1 t2
  obtain ⟨k0, e0, _, _⟩ := DataW.trod_int Tryd.underlying3 t0
  obtain ⟨k1, e1, _, _⟩ := DataW.trod_int Tryd.underlying3 t1
  obtain ⟨k2, e2, _, _⟩ := DataW.trod_int Tryd.underlying3 t2
  simp only [List.cons.injEq, and_true] at e0 e1 e2
  subst e0 e1 e2
  exact ⟨k0, k1, k2, by rw [show cs = #[.int .i64 k0, .int .i64 k1, .int .i64 k2] from Array.toList_inj.1 hl]⟩
end
end Go.Proofs.YtnpaplfdmpjfgaaDoor
