/- Where a token ends; whether one begins its line. -/
import Derived.Test.YtnophjkiecalpaaMarkA
namespace Go.Proofs.Ytnophjkiecalpaa
open Go.RowKit

/-- The line in which a token ends. -/
def endLine (t : Tok) : Int := IntKind.i64.wrap (IntKind.i64.wrap (t.line + (lineCount t.text : Int)) - 1)
/-- Does b begin its line, behind a? -/
def fresh (a b : Tok) : Bool := b.line != a.line && (IntKind.i64.wrap (b.line - a.line) != IntKind.i64.wrap ((lineCount a.text : Int) - 1))

set_option maxHeartbeats 800000 in
theorem ends_any (t : Tok) (w : World) (hs : t.text.size ≤ 1099511627776) :
    Calls Try.prog 49 #[.agg #[.int .i64 t.kind, .string t.text, .int .i64 t.line, .int .i64 t.col]] w fun e w' => e = .returned (.int .i64 (endLine t)) ∧ Below w.heap.size w w' := by
  go_enter Try.func49, Try.ntmps49
  go_wp2
  go_region_held3 (fun w' : World => w'.cell? ⟨w.heap.size, 2, none⟩ = some (.int .i64 t.line) ∧ w'.cell? ⟨w.heap.size, 1, none⟩ = some (.string t.text) ∧ Below (w.alloc (.cells #[.int .i64 t.kind, .string t.text, .int .i64 t.line, .int .i64 t.col] 23)).heap.size (w.alloc (.cells #[.int .i64 t.kind, .string t.text, .int .i64 t.line, .int .i64 t.col] 23)) w')
    (first | (exact ⟨by simp, by simp, (Below.refl _ _).drew⟩) | (exact held2 (by assumption) hb (by simp) (by simp)) | assumption)
    (first | (go_at_call 56; refine (lines_any t.text _ hs).mono ?_; rintro e w1 ⟨A, c, rfl, hb⟩))
  go_wp2
  go_ret
  rename_i hH
  exact ⟨rfl, ((Below.refl _ _).alloc (Nat.le_refl _) _).trans (hH.2.2.mono (by simp))⟩

set_option maxHeartbeats 800000 in
theorem fresh_any (a b : Tok) (w : World) (hs : a.text.size ≤ 1099511627776) :
    Calls Try.prog 34 #[.agg #[.int .i64 a.kind, .string a.text, .int .i64 a.line, .int .i64 a.col], .agg #[.int .i64 b.kind, .string b.text, .int .i64 b.line, .int .i64 b.col]] w fun e w' => e = .returned (.bool (fresh a b)) ∧ Below w.heap.size w w' := by
  have hlc := lineCount_pos a.text
  have hlc2 := lineCount_le a.text
  by_cases hl : b.line = a.line
  · have hf : fresh a b = false := by simp [fresh, hl]
    have hlb : (b.line != a.line) = false := by simp [hl]
    have HF := Lib.hid hf
    clear hf hl
    go_enter Try.func34, Try.ntmps34
    go_wp2
    go_quiet (fail)
    go_wp2
    go_ret
    exact ⟨ret_bool HF.out.symm, below_drewN (((Below.refl _ _).alloc (Nat.le_refl _) _).alloc (by simp) _) _⟩
  · have hlb : (b.line != a.line) = true := by simp [hl]
    have hf : fresh a b = (IntKind.i64.wrap (b.line - a.line) != IntKind.i64.wrap ((lineCount a.text : Int) - 1)) := by simp [fresh, hlb]
    have HF := Lib.hid hf
    clear hf hl
    go_enter Try.func34, Try.ntmps34
    go_wp2
    obtain ⟨w0, hw0⟩ : ∃ w0, (w.alloc (.cells #[.int .i64 a.kind, .string a.text, .int .i64 a.line, .int .i64 a.col] 23)).alloc (.cells #[.int .i64 b.kind, .string b.text, .int .i64 b.line, .int .i64 b.col] 23) = w0 := ⟨_, rfl⟩
    have hB0 : Below w.heap.size w w0 := by rw [← hw0]; exact ((Below.refl _ _).alloc (Nat.le_refl _) _).alloc (by simp) _
    have c1 : w0.cell? ⟨w.heap.size, 1, none⟩ = some (.string a.text) := by rw [← hw0]; simp
    have c2 : w0.cell? ⟨w.heap.size, 2, none⟩ = some (.int .i64 a.line) := by rw [← hw0]; simp
    have c3 : w0.cell? ⟨w.heap.size + 1, 2, none⟩ = some (.int .i64 b.line) := by rw [← hw0]; simp
    have hz : w.heap.size + 1 < w0.heap.size := by rw [← hw0]; simp
    rw [hw0]
    clear hw0
    go_region_held3 (fun w' : World => w'.cell? ⟨w.heap.size, 1, none⟩ = some (.string a.text) ∧ w'.cell? ⟨w.heap.size, 2, none⟩ = some (.int .i64 a.line) ∧ w'.cell? ⟨w.heap.size + 1, 2, none⟩ = some (.int .i64 b.line) ∧ Below w0.heap.size w0 w')
      (first | (exact ⟨c1, c2, c3, (Below.refl _ _).drew⟩) | (exact held3 (by assumption) hb (by dsimp only; omega) (by dsimp only; omega) (by dsimp only; omega)) | assumption)
      (first | (go_at_call 50; refine (refLines_any a.text _ hs).mono ?_; rintro e w1 ⟨A, c, rfl, hb⟩))
    go_wp2
    go_ret
    rename_i hH
    exact ⟨ret_bool HF.out.symm, hB0.trans (hH.2.2.2.mono (by omega))⟩

end Go.Proofs.Ytnophjkiecalpaa
