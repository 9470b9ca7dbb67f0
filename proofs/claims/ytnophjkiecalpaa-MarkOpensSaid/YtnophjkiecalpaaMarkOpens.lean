/- The statement MarkOpensSaid is proved: for every token, MarkOpens answers true and leaves its argument as it was. Conditions: none. -/
import Derived.Test.YtnophjkiecalpaaAwake8
import Derived.Test.YtnophjkiecalpaaOpen
namespace Go.Proofs.Ytnophjkiecalpaa
open Go.ChangeShapes Go.WideShapes Go.ChangeAt Go.RowKit Go.Deep Go.Joins

set_option maxHeartbeats 1000000 in
theorem markOpens_any (t : Tok) (w : World) :
    Calls Try.prog 3 #[.agg #[.int .i64 t.kind, .string t.text, .int .i64 t.line, .int .i64 t.col]] w fun e w' => e = .returned (.bool true) ∧ Below w.heap.size w w' := by
  go_enter Try.func3, Try.ntmps3
  go_wp2
  obtain ⟨w0, hw0⟩ : ∃ w0, w.alloc (.cells #[.int .i64 t.kind, .string t.text, .int .i64 t.line, .int .i64 t.col] 23) = w0 := ⟨_, rfl⟩
  have hB0 : Below w.heap.size w w0 := by rw [← hw0]; exact (Below.refl _ _).alloc (Nat.le_refl _) _
  have c0 : w0.cell? ⟨w.heap.size, 0, none⟩ = some (.int .i64 t.kind) := by rw [← hw0]; simp
  have c1 : w0.cell? ⟨w.heap.size, 1, none⟩ = some (.string t.text) := by rw [← hw0]; simp
  have c2 : w0.cell? ⟨w.heap.size, 2, none⟩ = some (.int .i64 t.line) := by rw [← hw0]; simp
  have c3 : w0.cell? ⟨w.heap.size, 3, none⟩ = some (.int .i64 t.col) := by rw [← hw0]; simp
  have hz : w.heap.size < w0.heap.size := by rw [← hw0]; simp
  rw [hw0]
  clear hw0
  go_region_held3 (fun w' : World => w'.cell? ⟨w.heap.size, 0, none⟩ = some (.int .i64 t.kind) ∧ w'.cell? ⟨w.heap.size, 1, none⟩ = some (.string t.text) ∧ w'.cell? ⟨w.heap.size, 2, none⟩ = some (.int .i64 t.line) ∧ w'.cell? ⟨w.heap.size, 3, none⟩ = some (.int .i64 t.col) ∧ Below w0.heap.size w0 w')
    (first | (exact ⟨c0, c1, c2, c3, (Below.refl _ _).drew⟩) | (exact held4 (by assumption) hb (by dsimp only; omega) (by dsimp only; omega) (by dsimp only; omega) (by dsimp only; omega)) | assumption)
    (first | (go_at_call 15; refine (awake8_any _).mono ?_; rintro e w1 ⟨rfl, hb⟩) | (go_at_call 16; refine (mOpens_any t _).mono ?_; rintro e w1 ⟨rfl, hb⟩) | (go_at_call 17; refine (rOpens_any t _).mono ?_; rintro e w1 ⟨rfl, hb⟩))
  go_wp2
  go_ret
  rename_i hH
  exact ⟨by simp, hB0.trans (hH.2.2.2.2.mono (by omega))⟩

set_option maxRecDepth 100000 in
theorem markOpens_lifted (os : Os) (started : os.Started) (H : Type) (enc : TypeId × Value → H) :
    ReturnsInHanded {} Try.checked os 3 .any (Rows.markOpensSpec.pre6 enc Try.prog Try.f3 Rows.markOpensRow.domain false) (Rows.markOpensSpec.post enc Try.prog Try.f3 false true false false) := by
  refine returnsInHanded_of_change (C := Try.checked) own started (by kernel_rfl) Try.func3
    (ChangeSpec.witness6 (enc := enc) (C := Try.checked) false ⟨#[], #[.agg #[.int .i64 0, .string .empty, .int .i64 0, .int .i64 0]], []⟩ 8 (by kernel_rfl) (by kernel_rfl) (by kernel_rfl) (by kernel_rfl)) ?_
  intro W base args ds gs before hval0 hW hcnd _
  have hval : ∀ (j : Nat) t v, Try.f3.params[j]? = some t → args[j]? = some v → Value.okWide Try.prog W .any base t v := hval0
  have hW' := hW
  obtain ⟨p, q, hA0, hV, rfl, hfz, hnd⟩ := hW
  have hA : DataW.TrodAll enc Try.prog W 0 (fun _ => true) true Try.f3.params.toList args.toList ds p := hA0
  have hA1 := hA
  rw [Try.params3] at hA hval
  obtain ⟨v0, d0, rfl, rfl, h0⟩ := trodAll_one hA
  obtain ⟨rfl, rfl⟩ := trodVars_none hV
  obtain ⟨x0, x1, x2, x3, y0, y1, y2, y3, n, rfl, rfl, rfl, t0, t1, t2, t3⟩ := open_agg4 Try.underlying23 (by kernel_rfl) (by kernel_rfl) (hval 0 23 v0 rfl rfl) h0
  obtain ⟨k0, e0, _, _⟩ := DataW.trod_int Try.underlying3 t0
  obtain ⟨k1, e1, _, _⟩ := DataW.trod_string Try.underlying9 t1
  obtain ⟨k2, e2, _, _⟩ := DataW.trod_int Try.underlying3 t2
  obtain ⟨k3, e3, _, _⟩ := DataW.trod_int Try.underlying3 t3
  simp only [List.cons.injEq, and_true] at e0 e1 e2 e3
  subst e0 e1 e2 e3
  refine (markOpens_any ⟨k0, k1, k2, k3⟩ W).mono fun e W' ⟨he, hb⟩ => ?_
  subst he
  exact ⟨_, rfl, law_post hW' hA1 (by simp) (by kernel_rfl) rfl rfl (by rw [Try.params3]; intro t ht; simp at ht; subst ht; exact ⟨by kernel_rfl, of_decide_eq_true (by kernel_rfl)⟩) hb⟩

theorem markOpens_holds : Rows.MarkOpensSaid :=
  OpenClaim.holds_of_wide 3 Try.f3 rfl rfl rfl rfl rfl rfl rfl ⟨rfl, rfl, rfl, rfl, rfl⟩ rfl rfl rfl rfl rfl (by kernel_rfl) Try.func3 (by kernel_rfl)
    (of_decide_eq_true (by kernel_rfl)) (by unfold Func.isWrapper; first | (rw [if_pos (by decide +kernel)]; kernel_rfl) | (rw [if_neg (by decide +kernel)]; exact ⟨rfl, rfl⟩))
    (fun os started H enc _ => markOpens_lifted os started H enc)
end Go.Proofs.Ytnophjkiecalpaa
