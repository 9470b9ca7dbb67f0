/- The statement RenderJoinsCardSaid is proved: for every input RenderJoins answers true and leaves its arguments as they were. Conditions: none beyond the statement's own. -/
import Derived.Test.YtnpaplfdmpjfgaaDoorDRJoin
import Derived.Test.YtnpaplfdmpjfgaaDoorDTabO
namespace Go.Proofs.YtnpaplfdmpjfgaaDoor
open Go.ChangeShapes Go.WideShapes Go.ChangeAt Go.RowKit Go.Deep

set_option maxRecDepth 100000 in
theorem renderJoins_lifted (os : Os) (started : os.Started) (H : Type) (enc : TypeId × Value → H) (F : Stop.Interp) :
    ReturnsInHanded {} Tryd.checked os 11 .any ((OpenSpec.ofChange Rows.renderJoinsSpec).preRow enc Tryd.prog Tryd.f11 Rows.renderJoinsRow.domain false Rows.renderJoinsRow.laid) (((OpenSpec.ofChange Rows.renderJoinsSpec).at F).post enc Tryd.prog Tryd.f11 false true false false) := by
  have hx : ∃ places, DataW.whole enc Tryd.prog ((World.laidAll Tryd.prog os laidList).forCall (fun _ _ => 0) ⟨#[], #[.agg #[.int .i64 0, .string ⟨#[]⟩, .int .i64 0, .slice none 0 0], .agg #[.int .i64 0, .string ⟨#[]⟩, .int .i64 0, .slice none 0 0], .agg #[.int .i64 0, .string ⟨#[]⟩, .int .i64 0, .slice none 0 0], .agg #[.int .i64 0, .int .i64 0, .int .i64 0]], []⟩).memory Tryd.f11.params.toList Rows.renderJoinsSpec.vars false (#[.agg #[.int .i64 0, .string ⟨#[]⟩, .int .i64 0, .slice none 0 0], .agg #[.int .i64 0, .string ⟨#[]⟩, .int .i64 0, .slice none 0 0], .agg #[.int .i64 0, .string ⟨#[]⟩, .int .i64 0, .slice none 0 0], .agg #[.int .i64 0, .int .i64 0, .int .i64 0]] : Array Value).toList 8 = some ([.agg [.lit (.int .i64 0), .lit (.string []), .lit (.int .i64 0), .nil], .agg [.lit (.int .i64 0), .lit (.string []), .lit (.int .i64 0), .nil], .agg [.lit (.int .i64 0), .lit (.string []), .lit (.int .i64 0), .nil], .agg [.lit (.int .i64 0), .lit (.int .i64 0), .lit (.int .i64 0)]], [], places) := ⟨[], by kernel_rfl⟩
  obtain ⟨places, hx⟩ := hx
  refine returnsInHanded_of_row (C := Tryd.checked) (s := OpenSpec.ofChange Rows.renderJoinsSpec) own started (by kernel_rfl) Tryd.func11
    (witness_row_at (enc := enc) (C := Tryd.checked) false (World.laidAll Tryd.prog os laidList) #[.agg #[.int .i64 0, .string ⟨#[]⟩, .int .i64 0, .slice none 0 0], .agg #[.int .i64 0, .string ⟨#[]⟩, .int .i64 0, .slice none 0 0], .agg #[.int .i64 0, .string ⟨#[]⟩, .int .i64 0, .slice none 0 0], .agg #[.int .i64 0, .int .i64 0, .int .i64 0]] (World.laidAll_os _ _ _) (by kernel_rfl) (by kernel_rfl) (by kernel_rfl)
      (OpenSpec.preRow_of_cond 8 hx (by kernel_rfl) (fun k hk => by cases hk) (by kernel_rfl) (laidMet_laidAll _ (by kernel_rfl) (by kernel_rfl)))) ?_
  intro W base args ds gs before hval0 hW _ _ hz hL hSh _
  have hval : ∀ (j : Nat) t v, Tryd.f11.params[j]? = some t → args[j]? = some v → Value.okWide Tryd.prog W .any base t v := hval0
  have hT : Lib.Utf8Tabs 1 2 W := tabs hL
  have hMx : MaxI W := maxI_of hSh
  have hW' := hW
  obtain ⟨p, q, hA0, hV, rfl, hfz, hnd⟩ := hW
  have hA : DataW.TrodAll enc Tryd.prog W 0 (fun _ => true) true Tryd.f11.params.toList args.toList ds p := hA0
  have hA1 := hA
  rw [Tryd.params11] at hA hval
  obtain ⟨v0, vs0, d0, ds0, p0, q0, e0, f0, g0, h0, r0⟩ := trodAll_cons hA
  obtain ⟨v1, vs1, d1, ds1, p1, q1, e1, f1, g1, h1, r1⟩ := trodAll_cons r0
  obtain ⟨v2, vs2, d2, ds2, p2, q2, e2, f2, g2, h2, r2⟩ := trodAll_cons r1
  obtain ⟨v3, vs3, d3, ds3, p3, q3, e3, f3, g3, h3, r3⟩ := trodAll_cons r2
  obtain ⟨a4, b4, c4⟩ := trodAll_nil r3
  subst a4 b4 c4
  subst e3 f3 g3
  subst e2 f2 g2
  subst e1 f1 g1
  subst f0
  obtain rfl : args = #[v0, v1, v2, v3] := by cases args; simp_all
  obtain ⟨rfl, rfl⟩ := trodVars_none hV
  obtain ⟨x0, A0, c0, rfl, hc0, hn0, hk0, hw0⟩ := open_doc_ok (let ⟨cs, h, _⟩ := okWide_struct Tryd.underlying24 (hval 0 24 v0 rfl rfl); ⟨cs, h⟩) h0 (sized_at hz (j := 0) (by rw [Tryd.params11]; rfl) rfl)
  obtain ⟨x1, A1, c1, rfl, hc1, hn1, hk1, hw1⟩ := open_doc_ok (let ⟨cs, h, _⟩ := okWide_struct Tryd.underlying24 (hval 1 24 v1 rfl rfl); ⟨cs, h⟩) h1 (sized_at hz (j := 1) (by rw [Tryd.params11]; rfl) rfl)
  obtain ⟨x2, A2, c2, rfl, hc2, hn2, hk2, hw2⟩ := open_doc_ok (let ⟨cs, h, _⟩ := okWide_struct Tryd.underlying24 (hval 2 24 v2 rfl rfl); ⟨cs, h⟩) h2 (sized_at hz (j := 2) (by rw [Tryd.params11]; rfl) rfl)
  obtain ⟨sw3, sr3, sm3, rfl⟩ := open_shape (let ⟨cs, h, _⟩ := okWide_struct Tryd.underlying41 (hval 3 41 v3 rfl rfl); ⟨cs, h⟩) h3
  refine (renderJoins_any x0 x1 x2 A0 A1 A2 c0 c1 c2 sw3 sr3 sm3 W hT hMx hw0 hn0 hc0 hk0 hw1 hn1 hc1 hk1 hw2 hn2 hc2 hk2).mono fun e W' ⟨he, hb⟩ => ?_
  subst he
  exact ⟨_, rfl, law_post hW' hA1 (by simp) (by kernel_rfl) rfl rfl (by rw [Tryd.params11]; intro t ht; simp at ht; rcases ht with rfl | rfl <;> exact ⟨by kernel_rfl, of_decide_eq_true (by kernel_rfl)⟩) hb⟩
theorem renderJoins_said : Rows.RenderJoinsSaid :=
  OpenClaim.holds_of_cond 11 Tryd.f11 rfl rfl rfl rfl rfl rfl rfl ⟨rfl, rfl, rfl, rfl, rfl⟩ rfl rfl rfl rfl rfl (by kernel_rfl) Tryd.func11 (by kernel_rfl)
    (of_decide_eq_true (by kernel_rfl)) (by unfold Func.isWrapper; first | (rw [if_pos (by decide +kernel)]; kernel_rfl) | (rw [if_neg (by decide +kernel)]; exact ⟨rfl, rfl⟩))
    (fun os started H enc _ F => by rw [OpenClaim.pre_eq_preRow]; exact renderJoins_lifted os started H enc F)
theorem renderJoins_plain (f : FuncId) (fn : Func) (hf : Tryd.pinned.checked.prog.funcNamed Rows.renderJoinsRow.func = some f) (hfn : Tryd.pinned.checked.prog.funcs[f]? = some fn) :
    false = Tryd.pinned.checked.prog.looks [] ∧ ∀ (j : Nat) t, fn.params[j]? = some t → Tryd.pinned.checked.prog.wantsStandIn t = false := by
  obtain rfl : f = 11 := Option.some.inj ((show Tryd.prog.funcNamed Rows.renderJoinsRow.func = some 11 by kernel_rfl).symm.trans hf) |>.symm
  obtain rfl : fn = Tryd.f11 := (Option.some.inj (Tryd.func11.symm.trans hfn)).symm
  refine ⟨by kernel_rfl, fun j t ht => ?_⟩
  rw [Tryd.params11] at ht
  have hm := Array.mem_of_getElem? ht
  simp at hm
  rcases hm with rfl | rfl
  · exact (show Tryd.prog.wantsStandIn 24 = false by kernel_rfl)
  · exact (show Tryd.prog.wantsStandIn 41 = false by kernel_rfl)
/-- THE CARD. -/
theorem renderJoins_holds : Rows.RenderJoinsCardSaid :=
  Claim7.holds_tied_plain_at .later [] _ _ _ _ renderJoins_said (fun _ h => by cases h) (by kernel_rfl) (fun _ h => by cases h) renderJoins_row_tie rfl ⟨rfl, rfl⟩ (by kernel_rfl) rfl renderJoins_plain (by kernel_rfl)
end Go.Proofs.YtnpaplfdmpjfgaaDoor
