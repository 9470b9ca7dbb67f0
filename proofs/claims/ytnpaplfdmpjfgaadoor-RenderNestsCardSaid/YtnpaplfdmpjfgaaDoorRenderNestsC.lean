/- The statement RenderNestsCardSaid is proved: for every input RenderNests answers true and leaves its arguments as they were. Conditions: none beyond the statement's own. -/
import Derived.Test.YtnpaplfdmpjfgaaDoorDRNest
import Derived.Test.YtnpaplfdmpjfgaaDoorDTabO
namespace Go.Proofs.YtnpaplfdmpjfgaaDoor
open Go.ChangeShapes Go.WideShapes Go.ChangeAt Go.RowKit Go.Deep

set_option maxRecDepth 100000 in
theorem renderNests_lifted (os : Os) (started : os.Started) (H : Type) (enc : TypeId × Value → H) (F : Stop.Interp) :
    ReturnsInHanded {} Tryd.checked os 12 .any ((OpenSpec.ofChange Rows.renderNestsSpec).preRow enc Tryd.prog Tryd.f12 Rows.renderNestsRow.domain false Rows.renderNestsRow.laid) (((OpenSpec.ofChange Rows.renderNestsSpec).at F).post enc Tryd.prog Tryd.f12 false true false false) := by
  have hx : ∃ places, DataW.whole enc Tryd.prog ((World.laidAll Tryd.prog os laidList).forCall (fun _ _ => 0) ⟨#[], #[.agg #[.int .i64 0, .string ⟨#[]⟩, .int .i64 0, .slice none 0 0], .agg #[.int .i64 0, .string ⟨#[]⟩, .int .i64 0, .slice none 0 0], .int .i8 0, .int .i8 0, .string ⟨#[]⟩, .agg #[.int .i64 0, .int .i64 0, .int .i64 0]], []⟩).memory Tryd.f12.params.toList Rows.renderNestsSpec.vars false (#[.agg #[.int .i64 0, .string ⟨#[]⟩, .int .i64 0, .slice none 0 0], .agg #[.int .i64 0, .string ⟨#[]⟩, .int .i64 0, .slice none 0 0], .int .i8 0, .int .i8 0, .string ⟨#[]⟩, .agg #[.int .i64 0, .int .i64 0, .int .i64 0]] : Array Value).toList 8 = some ([.agg [.lit (.int .i64 0), .lit (.string []), .lit (.int .i64 0), .nil], .agg [.lit (.int .i64 0), .lit (.string []), .lit (.int .i64 0), .nil], .lit (.int .i8 0), .lit (.int .i8 0), .lit (.string []), .agg [.lit (.int .i64 0), .lit (.int .i64 0), .lit (.int .i64 0)]], [], places) := ⟨[], by kernel_rfl⟩
  obtain ⟨places, hx⟩ := hx
  refine returnsInHanded_of_row (C := Tryd.checked) (s := OpenSpec.ofChange Rows.renderNestsSpec) own started (by kernel_rfl) Tryd.func12
    (witness_row_at (enc := enc) (C := Tryd.checked) false (World.laidAll Tryd.prog os laidList) #[.agg #[.int .i64 0, .string ⟨#[]⟩, .int .i64 0, .slice none 0 0], .agg #[.int .i64 0, .string ⟨#[]⟩, .int .i64 0, .slice none 0 0], .int .i8 0, .int .i8 0, .string ⟨#[]⟩, .agg #[.int .i64 0, .int .i64 0, .int .i64 0]] (World.laidAll_os _ _ _) (by kernel_rfl) (by kernel_rfl) (by kernel_rfl)
      (OpenSpec.preRow_of_cond 8 hx (by kernel_rfl) (fun k hk => by cases hk) (by kernel_rfl) (laidMet_laidAll _ (by kernel_rfl) (by kernel_rfl)))) ?_
  intro W base args ds gs before hval0 hW _ _ hz hL hSh _
  have hval : ∀ (j : Nat) t v, Tryd.f12.params[j]? = some t → args[j]? = some v → Value.okWide Tryd.prog W .any base t v := hval0
  have hT : Lib.Utf8Tabs 1 2 W := tabs hL
  have hMx : MaxI W := maxI_of hSh
  have hW' := hW
  obtain ⟨p, q, hA0, hV, rfl, hfz, hnd⟩ := hW
  have hA : DataW.TrodAll enc Tryd.prog W 0 (fun _ => true) true Tryd.f12.params.toList args.toList ds p := hA0
  have hA1 := hA
  rw [Tryd.params12] at hA hval
  obtain ⟨v0, vs0, d0, ds0, p0, q0, e0, f0, g0, h0, r0⟩ := trodAll_cons hA
  obtain ⟨v1, vs1, d1, ds1, p1, q1, e1, f1, g1, h1, r1⟩ := trodAll_cons r0
  obtain ⟨v2, vs2, d2, ds2, p2, q2, e2, f2, g2, h2, r2⟩ := trodAll_cons r1
  obtain ⟨v3, vs3, d3, ds3, p3, q3, e3, f3, g3, h3, r3⟩ := trodAll_cons r2
  obtain ⟨v4, vs4, d4, ds4, p4, q4, e4, f4, g4, h4, r4⟩ := trodAll_cons r3
  obtain ⟨v5, vs5, d5, ds5, p5, q5, e5, f5, g5, h5, r5⟩ := trodAll_cons r4
  obtain ⟨a6, b6, c6⟩ := trodAll_nil r5
  subst a6 b6 c6
  subst e5 f5 g5
  subst e4 f4 g4
  subst e3 f3 g3
  subst e2 f2 g2
  subst e1 f1 g1
  subst f0
  obtain rfl : args = #[v0, v1, v2, v3, v4, v5] := by cases args; simp_all
  obtain ⟨rfl, rfl⟩ := trodVars_none hV
  obtain ⟨x0, A0, c0, rfl, hc0, hn0, hk0, hw0⟩ := open_doc_ok (let ⟨cs, h, _⟩ := okWide_struct Tryd.underlying24 (hval 0 24 v0 rfl rfl); ⟨cs, h⟩) h0 (sized_at hz (j := 0) (by rw [Tryd.params12]; rfl) rfl)
  obtain ⟨x1, A1, c1, rfl, hc1, hn1, hk1, hw1⟩ := open_doc_ok (let ⟨cs, h, _⟩ := okWide_struct Tryd.underlying24 (hval 1 24 v1 rfl rfl); ⟨cs, h⟩) h1 (sized_at hz (j := 1) (by rw [Tryd.params12]; rfl) rfl)
  obtain ⟨n2, rfl, rfl, _, w2⟩ := open_int Tryd.underlying50 (hval 2 50 v2 rfl rfl) h2
  obtain ⟨n3, rfl, rfl, _, w3⟩ := open_int Tryd.underlying50 (hval 3 50 v3 rfl rfl) h3
  obtain ⟨s4, rfl, hm4⟩ := open_str (hval 4 9 v4 rfl rfl) h4
  obtain ⟨sw5, sr5, sm5, rfl⟩ := open_shape (let ⟨cs, h, _⟩ := okWide_struct Tryd.underlying41 (hval 5 41 v5 rfl rfl); ⟨cs, h⟩) h5
  have r2 : -128 ≤ n2 ∧ n2 ≤ 127 := by simp only [Lit.wf, Bool.and_eq_true, decide_eq_true_eq] at w2; exact ⟨w2.1, w2.2⟩
  have r3 : -128 ≤ n3 ∧ n3 ≤ 127 := by simp only [Lit.wf, Bool.and_eq_true, decide_eq_true_eq] at w3; exact ⟨w3.1, w3.2⟩
  refine (renderNests_any x0 x1 A0 A1 c0 c1 n2 n3 s4 sw5 sr5 sm5 W hT hMx r2.1 r2.2 r3.1 r3.2 hw0 hn0 hc0 hk0 hw1 hn1 hc1 hk1).mono fun e W' ⟨he, hb⟩ => ?_
  subst he
  exact ⟨_, rfl, law_post hW' hA1 (by simp) (by kernel_rfl) rfl rfl (by rw [Tryd.params12]; intro t ht; simp at ht; rcases ht with rfl | rfl | rfl | rfl <;> exact ⟨by kernel_rfl, of_decide_eq_true (by kernel_rfl)⟩) hb⟩
theorem renderNests_said : Rows.RenderNestsSaid :=
  OpenClaim.holds_of_cond 12 Tryd.f12 rfl rfl rfl rfl rfl rfl rfl ⟨rfl, rfl, rfl, rfl, rfl⟩ rfl rfl rfl rfl rfl (by kernel_rfl) Tryd.func12 (by kernel_rfl)
    (of_decide_eq_true (by kernel_rfl)) (by unfold Func.isWrapper; first | (rw [if_pos (by decide +kernel)]; kernel_rfl) | (rw [if_neg (by decide +kernel)]; exact ⟨rfl, rfl⟩))
    (fun os started H enc _ F => by rw [OpenClaim.pre_eq_preRow]; exact renderNests_lifted os started H enc F)
theorem renderNests_plain (f : FuncId) (fn : Func) (hf : Tryd.pinned.checked.prog.funcNamed Rows.renderNestsRow.func = some f) (hfn : Tryd.pinned.checked.prog.funcs[f]? = some fn) :
    false = Tryd.pinned.checked.prog.looks [] ∧ ∀ (j : Nat) t, fn.params[j]? = some t → Tryd.pinned.checked.prog.wantsStandIn t = false := by
  obtain rfl : f = 12 := Option.some.inj ((show Tryd.prog.funcNamed Rows.renderNestsRow.func = some 12 by kernel_rfl).symm.trans hf) |>.symm
  obtain rfl : fn = Tryd.f12 := (Option.some.inj (Tryd.func12.symm.trans hfn)).symm
  refine ⟨by kernel_rfl, fun j t ht => ?_⟩
  rw [Tryd.params12] at ht
  have hm := Array.mem_of_getElem? ht
  simp at hm
  rcases hm with rfl | rfl | rfl | rfl
  · exact (show Tryd.prog.wantsStandIn 24 = false by kernel_rfl)
  · exact (show Tryd.prog.wantsStandIn 50 = false by kernel_rfl)
  · exact (show Tryd.prog.wantsStandIn 9 = false by kernel_rfl)
  · exact (show Tryd.prog.wantsStandIn 41 = false by kernel_rfl)
/-- THE CARD. -/
theorem renderNests_holds : Rows.RenderNestsCardSaid :=
  Claim7.holds_tied_plain_at .later [] _ _ _ _ renderNests_said (fun _ h => by cases h) (by kernel_rfl) (fun _ h => by cases h) renderNests_row_tie rfl ⟨rfl, rfl⟩ (by kernel_rfl) rfl renderNests_plain (by kernel_rfl)
end Go.Proofs.YtnpaplfdmpjfgaaDoor
