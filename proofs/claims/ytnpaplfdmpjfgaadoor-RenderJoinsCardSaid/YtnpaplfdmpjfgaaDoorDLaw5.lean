/- Tidy of the reference; the law DocTidies, walked. -/
import Derived.Test.YtnpaplfdmpjfgaaDoorDTidyR
import Derived.Test.YtnpaplfdmpjfgaaDoorDLaw18
namespace Go.Proofs.YtnpaplfdmpjfgaaDoor
open Go.RowKit

theorem rtidy_says (m : Nat) : ∀ d : Doc, d.wt ≤ m → d.wt ≤ 16777216 → d.form = true → TidySays 53 d := by
  induction m with
  | zero => intro d h; have := wt_pos d; omega
  | succ m ih =>
    intro d hm hw hf
    have ih' : ∀ k ∈ d.kids, TidySays 53 k := fun k hk => ih k (by have := kid_lt hk; omega) (by have := kid_lt hk; omega) ((form_at.1 hf).kids k hk)
    cases hv : d.void with
    | true => exact rtidy_void d hw hv
    | false =>
      cases k1 : (d.kind == 1) with
      | true => exact rtidy_str d hw hf hv k1
      | false => exact rtidy_there d hw hf hv k1 ih'

set_option maxRecDepth 100000 in
set_option maxHeartbeats 4000000 in
theorem rtidy_any (d : Doc) (A : Option Addr) (c : Nat) (w : World) (hB : d.wt ≤ 16777216) (hT : Lib.Utf8Tabs 1 2 w) (hnil : A = none → c = 0) (hK : KidsAt w.heap.size w d.kids A) :
    Calls Tryd.prog 27 #[.agg #[.int .i64 d.kind, .string d.text, .int .i64 d.n, .slice A d.kids.length c]] w (TidyOut d w) := by
  obtain ⟨hbx, hb0, hs0⟩ := box_new w (.int .i64 d.kind) (.string d.text) (.int .i64 d.n) (.slice A d.kids.length c)
  obtain ⟨W0, hW0⟩ : ∃ W0, w.alloc (.cells #[.int .i64 d.kind, .string d.text, .int .i64 d.n, .slice A d.kids.length c] 24) = W0 := ⟨_, rfl⟩
  rw [hW0] at hbx hb0 hs0
  obtain ⟨hby, hb1, hs1⟩ := box_new W0 (.int .i64 0) (.string ⟨#[]⟩) (.int .i64 0) (.slice none 0 0)
  obtain ⟨W, hW⟩ : ∃ W, W0.alloc (.cells #[.int .i64 0, .string ⟨#[]⟩, .int .i64 0, .slice none 0 0] 24) = W := ⟨_, rfl⟩
  rw [hW] at hby hb1 hs1
  rw [hs0] at hby
  have HKW := Lib.hid (kidsAt_on (kidsAt_on hK hb0) hb1)
  have HC := Lib.hid (rcheck_d d A c W hB (Utf8Tabs_below (Utf8Tabs_below hT hb0) hb1) HKW.out)
  have hx := hbx.below hb1 (by omega)
  obtain ⟨x0, x1, x2, x3, _, _, _, _⟩ := id hx
  have HNIL := Lib.hid hnil
  clear hT hK hnil
  cases hc0 : (checkN d == 0) with
  | false =>
    have hT := Lib.hid (show d.tidyV = emptyD by simp [Doc.tidyV, hc0])
    have hc1 : (checkN d != 0) = true := by simp [bne, hc0]
    go_enter Tryd.func27, Tryd.ntmps27
    go_wp2_with fail
    refine HC.out.mono ?_
    rintro e w3 ⟨rfl, hb2⟩
    have hy1 := hby.below hb2 (by omega)
    have HB := Lib.hid ((hb0.trans (hb1.mono (by omega))).trans (hb2.mono (by omega)))
    have hsz := hb2.size
    have HY := Lib.hid hy1
    obtain ⟨y0, y1, y2, y3, f0, f1, f2, f3⟩ := hy1
    clear hbx hby hb0 hb1 hb2 hW hW0 x0 x1 x2 x3 HC HKW hx
    go_wp2
    obtain ⟨hz, hg⟩ := HY.out.set (.int .i64 0) (.string ⟨#[]⟩) (.int .i64 0) (.slice none 0 0)
    have hb := gb_below HB.out hg (by omega) (by omega)
    have hgs := hg.size
    have HG := Lib.hid hg
    generalize ((((w3.setCell ⟨w.heap.size + 1, 0, none⟩ (.int .i64 0)).setCell ⟨w.heap.size + 1, 1, none⟩ (.string ⟨#[]⟩)).setCell ⟨w.heap.size + 1, 2, none⟩ (.int .i64 0)).setCell ⟨w.heap.size + 1, 3, none⟩ (.slice none 0 0)) = W6 at hz hb HG hgs ⊢
    obtain ⟨z0, z1, z2, z3, _, _, _, _⟩ := hz
    refine bodyPost_ret (v := .agg #[.int .i64 0, .string ⟨#[]⟩, .int .i64 0, .slice none 0 0]) (by simp [results, Tryd.results27, go_sem, z0, z1, z2, z3]) rfl ?_
    exact ⟨none, 0, by rw [hT.out]; rfl, by rw [hT.out]; exact ⟨Nat.le_refl _, fun _ => rfl, trivial⟩, hb⟩
  | true =>
    have hT := Lib.hid (show d.tidyV = d.tidy by simp [Doc.tidyV, hc0])
    have hc1 : (checkN d != 0) = false := by simp [bne, hc0]
    have hf := check_form (by simpa using hc0)
    go_enter Tryd.func27, Tryd.ntmps27
    go_wp2_with fail
    refine HC.out.mono ?_
    rintro e w2 ⟨rfl, hb2⟩
    have HY1 := Lib.hid (hby.below hb2 (by omega))
    have HB1 := Lib.hid ((hb0.trans (hb1.mono (by omega))).trans (hb2.mono (by omega)))
    have hsz := hb2.size
    have HC2 := Lib.hid (rtidy_says d.wt d (Nat.le_refl _) hB hf A c w2 HNIL.out (kidsAt_on HKW.out hb2))
    obtain ⟨v0, v1, v2, v3, _, _, _, _⟩ := hx.below hb2 (by omega)
    clear hbx hby hb0 hb1 hb2 hW hW0 x0 x1 x2 x3 HC HKW hx hf
    go_wp2_with fail
    refine HC2.out.mono ?_
    rintro e w3 ⟨A2, c2, rfl, hin, hb3⟩
    have hsz3 := hb3.size
    have hy1 := HY1.out.below hb3 (by omega)
    have HB := Lib.hid (HB1.out.trans (hb3.mono (by omega)))
    have HY := Lib.hid hy1
    have HIN := Lib.hid hin
    obtain ⟨y0, y1, y2, y3, f0, f1, f2, f3⟩ := hy1
    clear hin hb3 HB1 HY1 HC2
    go_wp2
    obtain ⟨hz, hg⟩ := HY.out.set (.int .i64 d.tidy.kind) (.string d.tidy.text) (.int .i64 d.tidy.n) (.slice A2 d.tidy.kids.length c2)
    have hb := gb_below HB.out hg (by omega) (by omega)
    have hgs := hg.size
    have HG := Lib.hid hg
    generalize ((((w3.setCell ⟨w.heap.size + 1, 0, none⟩ (.int .i64 d.tidy.kind)).setCell ⟨w.heap.size + 1, 1, none⟩ (.string d.tidy.text)).setCell ⟨w.heap.size + 1, 2, none⟩ (.int .i64 d.tidy.n)).setCell ⟨w.heap.size + 1, 3, none⟩ (.slice A2 d.tidy.kids.length c2)) = W6 at hz hb HG hgs ⊢
    obtain ⟨z0, z1, z2, z3, _, _, _, _⟩ := hz
    refine bodyPost_ret (v := .agg #[.int .i64 d.tidy.kind, .string d.tidy.text, .int .i64 d.tidy.n, .slice A2 d.tidy.kids.length c2]) (by simp [results, Tryd.results27, go_sem, z0, z1, z2, z3]) rfl ?_
    exact ⟨A2, c2, by rw [hT.out], by rw [hT.out]; exact HIN.out.later (fun b hb => ⟨by have := hb.1; omega, by have := hb.2; omega⟩) (fun b o hb => HG.out.cell_far ⟨b, o, none⟩ hb.2 (fun e => by have := hb.1; simp only [Option.some.injEq] at e; omega)), hb⟩


theorem kin_now {w' : World} {d : Doc} {A : Option Addr} {c n : Nat} (h : DV.In (fun b => n ≤ b ∧ b < w'.heap.size) w' ⟨d, A, c⟩) : KidsAt w'.heap.size w' d.kids A := h.in_.at_ fun _ hb => hb.2
theorem kin_later {w' w'' : World} {d : Doc} {A : Option Addr} {c n : Nat} (h : DV.In (fun b => n ≤ b ∧ b < w'.heap.size) w' ⟨d, A, c⟩) (hb : Below w'.heap.size w' w'') : KidsAt w''.heap.size w'' d.kids A := kidsAt_on (h.in_.at_ fun _ hb => hb.2) hb

set_option maxRecDepth 100000 in
set_option maxHeartbeats 8000000 in
theorem docTidies_any (d : Doc) (A : Option Addr) (c : Nat) (w : World) (hB : d.wt ≤ 16777216) (hT : Lib.Utf8Tabs 1 2 w) (hnil : A = none → c = 0) (hK : KidsAt w.heap.size w d.kids A) :
    Calls Tryd.prog 5 #[.agg #[.int .i64 d.kind, .string d.text, .int .i64 d.n, .slice A d.kids.length c]] w fun e w' => e = .returned (.bool true) ∧ Below w.heap.size w w' := by
  obtain ⟨hbx, hb0, hs0⟩ := box_new w (.int .i64 d.kind) (.string d.text) (.int .i64 d.n) (.slice A d.kids.length c)
  obtain ⟨W, hW⟩ : ∃ W, w.alloc (.cells #[.int .i64 d.kind, .string d.text, .int .i64 d.n, .slice A d.kids.length c] 24) = W := ⟨_, rfl⟩
  rw [hW] at hbx hb0 hs0
  have HT := Lib.hid (Utf8Tabs_below hT hb0)
  have HK := Lib.hid (kidsAt_on hK hb0)
  have HB := Lib.hid hb0
  have HNIL := Lib.hid hnil
  have hs' : w.heap.size < W.heap.size := by omega
  have hwt := tidyV_wt d
  obtain ⟨x0, x1, x2, x3, _, _, _, _⟩ := hbx
  clear hT hK hb0 hs0 hnil
  go_enter Tryd.func5, Tryd.ntmps5
  go_upto_region 1 with (fail)
  clear hW
  go_region_held3 (fun w' : World => w'.cell? ⟨w.heap.size, 0, none⟩ = some (.int .i64 d.kind) ∧ w'.cell? ⟨w.heap.size, 1, none⟩ = some (.string d.text) ∧ w'.cell? ⟨w.heap.size, 2, none⟩ = some (.int .i64 d.n) ∧ w'.cell? ⟨w.heap.size, 3, none⟩ = some (.slice A d.kids.length c) ∧ Below W.heap.size W w')
    (first | (exact ⟨x0, x1, x2, x3, (Below.refl _ _).drew⟩) | (exact held4 (by assumption) hbf (by dsimp only; omega) (by dsimp only; omega) (by dsimp only; omega) (by dsimp only; omega)) | assumption)
    (first | (go_at_call 16; refine (awake_any _ (Utf8Tabs_below HT.out (keep4 (by assumption)))).mono ?_; rintro e w2 ⟨rfl, hbf⟩) | (go_at_call 26; refine (ptidy_any d A c _ hB (Utf8Tabs_below HT.out (keep4 (by assumption))) HNIL.out (kidsAt_on HK.out (keep4 (by assumption)))).mono ?_; rintro e w2 ⟨A1, c1, rfl, hin1, hbf⟩) | (go_at_call 27; refine (rtidy_any d A c _ hB (Utf8Tabs_below HT.out (keep4 (by assumption))) HNIL.out (kidsAt_on HK.out (keep4 (by assumption)))).mono ?_; rintro e w2 ⟨A2, c2, rfl, hin2, hbf⟩) | (go_at_call 25; refine (same_any d.tidyV.wt d.tidyV A1 A2 c1 c2 _ (Nat.le_refl _) (by omega) (by first | exact kin_now hin1 | exact kin_later hin1 (by assumption)) (by first | exact kin_now hin2 | exact kin_later hin2 (by assumption))).mono ?_; rintro e w2 ⟨rfl, hbf⟩))
  all_goals (rename_i hH; have hq := keep4 hH; go_wp2_with fail; go_ret; exact ⟨rfl, HB.out.trans (hq.mono (by omega))⟩)
end Go.Proofs.YtnpaplfdmpjfgaaDoor
