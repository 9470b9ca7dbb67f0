/- The statement MarkNoneUptoSaid is proved: for every slice of strings and every two numbers of the bulk that the statement names, MarkNone answers true and leaves its arguments as they were. Conditions: none beyond the statement's own. -/
import Derived.Test.YtnophjkiecalpaaLaw8
import Derived.Test.YtnophjkiecalpaaOpen
namespace Go.Proofs.Ytnophjkiecalpaa
open Go.ChangeShapes Go.WideShapes Go.ChangeAt Go.RowKit Go.Deep Go.Joins

section
variable {H : Type} {enc : TypeId × Value → H} {W : World}
/-- An argument of strings. -/
theorem open_strs {v : Value} {d : DataW H} {p : List MemPlace} (hv2 : ∃ A n c, v = .slice A n c) (h : DataW.Trod enc Try.prog W 0 (fun _ => true) true 30 v d p) :
    ∃ (A : Option Addr) (ss : List ByteArray) (c : Nat), v = .slice A ss.length c ∧ Strs W.heap.size W A ss ∧ ss.length ≤ Rows.uptoBulk d ∧ (∀ s ∈ ss, s.size ≤ Rows.uptoBulk d) := by
  obtain ⟨A, n, c, rfl⟩ := hv2
  obtain ⟨fuel, hf⟩ := h
  rcases open_strings Try.underlying30 Try.underlying9 (by kernel_rfl) hf with ⟨h1, h2⟩ | ⟨a, len, cap, ss, h1, hb, hl, hm, hz, hx, hcell, hsz⟩
  · simp [Value.cells] at h1
    obtain ⟨rfl, rfl, rfl⟩ := h1
    exact ⟨none, [], 0, rfl, fun k t hk => by simp at hk, by simp, by simp⟩
  · simp [Value.cells] at h1
    obtain ⟨rfl, rfl, rfl⟩ := h1
    simp only [Prod.mk.injEq] at hx
    obtain ⟨rfl, rfl⟩ := hx
    have hz' : n ≤ ss.length := by simp only [if_true] at hz; omega
    have hlen : (ss.take n).length = n := by rw [List.length_take]; omega
    have hb2 : ((ss.take n).map fun s => s.size + 1).sum ≤ Rows.uptoBulkAll (H := H) (strs (ss.take n)) := by
      unfold strs
      exact bulk_map (H := H) (fun s : ByteArray => .lit (.string s.data.toList)) (fun s : ByteArray => s.size + 1) _ fun s _ => by
        simp only [Rows.uptoBulk]
        rw [show s.data.toList.length = s.size from Array.length_toList]
        exact Nat.le_refl _
    refine ⟨some a, ss.take n, c, by rw [hlen], fun k s hk => ?_, ?_, ?_⟩
    · have hkn : k < n := by have := (List.getElem?_eq_some_iff.1 hk).1; omega
      have hc := hcell k (by omega)
      have hs : ss.getD k ByteArray.empty = s := by
        rw [List.getElem?_take_of_lt hkn] at hk
        simp [List.getD, hk]
      rw [hs] at hc
      have hsp : a.spot = none := by simpa [Addr.add] using World.cell?_spot (hcell 0 (by omega))
      obtain ⟨b, o, spot⟩ := a
      have hspot : spot = none := hsp
      subst hspot
      rw [add_plain] at hc
      exact ⟨b, o, rfl, cell_block hc, hc⟩
    · have := sum_ge_mul (fun s : ByteArray => s.size + 1) 1 (ss.take n) (fun s _ => by omega)
      simp only [Rows.uptoBulk]
      omega
    · intro s hs
      have := le_sum (fun s : ByteArray => s.size + 1) _ s hs
      simp only [Rows.uptoBulk]
      omega
end

set_option maxRecDepth 100000 in
theorem markNone_lifted (os : Os) (started : os.Started) (H : Type) (enc : TypeId × Value → H) (F : Stop.Interp) :
    ReturnsInHanded {} Try.checked os 8 .any ((Rows.OpenSpec.upto Rows.markNoneSpec).pre6 enc Try.prog Try.f8 Rows.markNoneUptoRow.domain false) (((Rows.OpenSpec.upto Rows.markNoneSpec).at F).post enc Try.prog Try.f8 false true false false) := by
  refine returnsInHanded_of_cond (C := Try.checked) (s := Rows.OpenSpec.upto Rows.markNoneSpec) (k := Rows.uptoSmall) rfl own started (by kernel_rfl) Try.func8
    (OpenSpec.witness (enc := enc) (C := Try.checked) (s := Rows.OpenSpec.upto Rows.markNoneSpec) (k := Rows.uptoSmall) rfl false ⟨#[], #[.slice none 0 0, .int .i64 0, .int .i64 0], []⟩ 8 (by kernel_rfl) (by kernel_rfl) (by kernel_rfl)
      (x := ([.nil, .lit (.int .i64 0), .lit (.int .i64 0)], [], [])) (by kernel_rfl) rfl (by kernel_rfl)) ?_
  intro W base args ds gs before hval0 hW _ hk _
  have hval : ∀ (j : Nat) t v, Try.f8.params[j]? = some t → args[j]? = some v → Value.okWide Try.prog W .any base t v := hval0
  have hW' := hW
  obtain ⟨p, q, hA0, hV, rfl, hfz, hnd⟩ := hW
  have hA : DataW.TrodAll enc Try.prog W 0 (fun _ => true) true Try.f8.params.toList args.toList ds p := hA0
  have hA1 := hA
  rw [Try.params8] at hA hval
  obtain ⟨v0, v1, v2, d0, d1, d2, p0, p1, p2, rfl, rfl, rfl, h0, h1, h2⟩ := trodAll_three hA
  obtain ⟨rfl, rfl⟩ := trodVars_none hV
  obtain ⟨A, ss, c, rfl, hT, hbl, hbt⟩ := open_strs (okWide_slice Try.underlying30 (hval 0 30 v0 rfl rfl)) h0
  obtain ⟨n1, rfl, rfl, _, w1⟩ := open_int Try.underlying3 (hval 1 3 v1 rfl rfl) h1
  obtain ⟨n2, rfl, rfl, _, w2⟩ := open_int Try.underlying3 (hval 2 3 v2 rfl rfl) h2
  have hbulk : Rows.uptoBulkAll [d0, .lit (.int .i64 n1), .lit (.int .i64 n2)] ≤ 1048576 := of_decide_eq_true hk
  simp only [Rows.uptoBulkAll] at hbulk
  refine (markNone_any A ss c n1 n2 W (by omega) (fun s hs => by have := hbt s hs; omega) w1 hT).mono fun e W' ⟨he, hb⟩ => ?_
  subst he
  exact ⟨_, rfl, law_post hW' hA1 (by simp) (by kernel_rfl) rfl rfl (by rw [Try.params8]; intro t ht; simp at ht; rcases ht with rfl | rfl <;> exact ⟨by kernel_rfl, of_decide_eq_true (by kernel_rfl)⟩) hb⟩

theorem markNone_holds : Rows.MarkNoneUptoSaid :=
  OpenClaim.holds_of_cond 8 Try.f8 rfl rfl rfl rfl rfl rfl rfl ⟨rfl, rfl, rfl, rfl, rfl⟩ rfl rfl rfl rfl rfl (by kernel_rfl) Try.func8 (by kernel_rfl)
    (of_decide_eq_true (by kernel_rfl)) (by unfold Func.isWrapper; first | (rw [if_pos (by decide +kernel)]; kernel_rfl) | (rw [if_neg (by decide +kernel)]; exact ⟨rfl, rfl⟩))
    (fun os started H enc _ F => markNone_lifted os started H enc F)
end Go.Proofs.Ytnophjkiecalpaa
