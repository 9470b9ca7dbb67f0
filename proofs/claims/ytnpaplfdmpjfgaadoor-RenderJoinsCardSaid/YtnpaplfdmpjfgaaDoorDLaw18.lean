/- The laws DocChecks and DocFlats, walked. -/
import Derived.Test.YtnpaplfdmpjfgaaDoorDAwake
namespace Go.Proofs.YtnpaplfdmpjfgaaDoor
open Go.RowKit

theorem keep4 {a b c d : Prop} {W wx : World} (h : a ∧ b ∧ c ∧ d ∧ Below W.heap.size W wx) : Below W.heap.size W wx := h.2.2.2.2

set_option maxRecDepth 100000 in
set_option maxHeartbeats 4000000 in
theorem docChecks_any (d : Doc) (A : Option Addr) (c : Nat) (w : World) (hB : d.wt ≤ 16777216) (hT : Lib.Utf8Tabs 1 2 w) (hK : KidsAt w.heap.size w d.kids A) :
    Calls Tryd.prog 3 #[.agg #[.int .i64 d.kind, .string d.text, .int .i64 d.n, .slice A d.kids.length c]] w fun e w' => e = .returned (.bool true) ∧ Below w.heap.size w w' := by
  obtain ⟨hbx, hb0, hs0⟩ := box_new w (.int .i64 d.kind) (.string d.text) (.int .i64 d.n) (.slice A d.kids.length c)
  obtain ⟨W, hW⟩ : ∃ W, w.alloc (.cells #[.int .i64 d.kind, .string d.text, .int .i64 d.n, .slice A d.kids.length c] 24) = W := ⟨_, rfl⟩
  rw [hW] at hbx hb0 hs0
  have HT := Lib.hid (Utf8Tabs_below hT hb0)
  have HK := Lib.hid (kidsAt_on hK hb0)
  have HB := Lib.hid hb0
  have hs' : w.heap.size < W.heap.size := by omega
  obtain ⟨x0, x1, x2, x3, _, _, _, _⟩ := hbx
  clear hT hK hb0 hs0
  go_enter Tryd.func3, Tryd.ntmps3
  go_upto_region 1 with (fail)
  clear hW
  go_region_held3 (fun w' : World => w'.cell? ⟨w.heap.size, 0, none⟩ = some (.int .i64 d.kind) ∧ w'.cell? ⟨w.heap.size, 1, none⟩ = some (.string d.text) ∧ w'.cell? ⟨w.heap.size, 2, none⟩ = some (.int .i64 d.n) ∧ w'.cell? ⟨w.heap.size, 3, none⟩ = some (.slice A d.kids.length c) ∧ Below W.heap.size W w')
    (first | (exact ⟨x0, x1, x2, x3, (Below.refl _ _).drew⟩) | (exact held4 (by assumption) hbf (by dsimp only; omega) (by dsimp only; omega) (by dsimp only; omega) (by dsimp only; omega)) | assumption)
    (first | (go_at_call 16; refine (awake_any _ (Utf8Tabs_below HT.out (keep4 (by assumption)))).mono ?_; rintro e w2 ⟨rfl, hbf⟩) | (go_at_call 17; refine (pcheck_any d A c _ hB (Utf8Tabs_below HT.out (keep4 (by assumption))) (kidsAt_on HK.out (keep4 (by assumption)))).mono ?_; rintro e w2 ⟨rfl, hbf⟩) | (go_at_call 18; refine (rcheck_d d A c _ hB (Utf8Tabs_below HT.out (keep4 (by assumption))) (kidsAt_on HK.out (keep4 (by assumption)))).mono ?_; rintro e w2 ⟨rfl, hbf⟩))
  all_goals (rename_i hH; have hq := keep4 hH; go_wp2_with fail; go_ret; exact ⟨rfl, HB.out.trans (hq.mono (by omega))⟩)

set_option maxRecDepth 100000 in
set_option maxHeartbeats 8000000 in
theorem docFlats_any (d : Doc) (A : Option Addr) (c : Nat) (w : World) (hB : d.wt ≤ 16777216) (hT : Lib.Utf8Tabs 1 2 w) (hK : KidsAt w.heap.size w d.kids A) :
    Calls Tryd.prog 4 #[.agg #[.int .i64 d.kind, .string d.text, .int .i64 d.n, .slice A d.kids.length c]] w fun e w' => e = .returned (.bool true) ∧ Below w.heap.size w w' := by
  obtain ⟨hbx, hb0, hs0⟩ := box_new w (.int .i64 d.kind) (.string d.text) (.int .i64 d.n) (.slice A d.kids.length c)
  obtain ⟨W, hW⟩ : ∃ W, w.alloc (.cells #[.int .i64 d.kind, .string d.text, .int .i64 d.n, .slice A d.kids.length c] 24) = W := ⟨_, rfl⟩
  rw [hW] at hbx hb0 hs0
  have HT := Lib.hid (Utf8Tabs_below hT hb0)
  have HK := Lib.hid (kidsAt_on hK hb0)
  have HB := Lib.hid hb0
  have HX := Lib.hid hbx
  have hs' : w.heap.size < W.heap.size := by omega
  obtain ⟨s, b, hfv⟩ : ∃ s b, flatV d.flat = .tuple #[.string s, .bool b] := by cases d.flat <;> exact ⟨_, _, rfl⟩
  have hf1 := flat_any d.wt d A c W (Nat.le_refl _) hB HK.out
  unfold FlatSaid at hf1
  rw [hfv] at hf1
  have HF1 := Lib.hid hf1
  have HFV := Lib.hid hfv
  obtain ⟨x0, x1, x2, x3, _, _, _, _⟩ := hbx
  clear hT hK hb0 hs0 hf1 hfv
  go_enter Tryd.func4, Tryd.ntmps4
  go_wp2_with fail
  refine HF1.out.mono ?_
  rintro e w1 ⟨rfl, hb1⟩
  clear hW x0 x1 x2 x3 HF1
  have hf2 := rflat_any d.wt d A c w1 (Nat.le_refl _) hB (kidsAt_on HK.out hb1)
  unfold FlatSaid at hf2
  rw [HFV.out] at hf2
  have HF2 := Lib.hid hf2
  have H1 := Lib.hid hb1
  have hsz1 := hb1.size
  obtain ⟨x0, x1, x2, x3, _, _, _, _⟩ := HX.out.below hb1 hs'
  clear hf2 hb1
  go_wp2_with fail
  refine HF2.out.mono ?_
  rintro e w2 ⟨rfl, hb2⟩
  clear x0 x1 x2 x3 HF2
  have H2 := Lib.hid (H1.out.trans (hb2.mono H1.out.size))
  have hsz2 := hb2.size
  obtain ⟨x0, x1, x2, x3, _, _, _, _⟩ := HX.out.below H2.out hs'
  have HT2 := Lib.hid (Utf8Tabs_below HT.out H2.out)
  have HK2 := Lib.hid (kidsAt_on HK.out H2.out)
  clear hb2 H1 HX HT HK
  go_upto_region 3 with (fail)
  go_region_held3 (fun w' : World => w'.cell? ⟨w.heap.size, 0, none⟩ = some (.int .i64 d.kind) ∧ w'.cell? ⟨w.heap.size, 1, none⟩ = some (.string d.text) ∧ w'.cell? ⟨w.heap.size, 2, none⟩ = some (.int .i64 d.n) ∧ w'.cell? ⟨w.heap.size, 3, none⟩ = some (.slice A d.kids.length c) ∧ Below w2.heap.size w2 w')
    (first | (exact ⟨x0, x1, x2, x3, (Below.refl _ _).drew⟩) | (exact held4 (by assumption) hbf (by dsimp only; omega) (by dsimp only; omega) (by dsimp only; omega) (by dsimp only; omega)) | assumption)
    (first | (go_at_call 16; refine (awake_any _ (Utf8Tabs_below HT2.out (keep4 (by assumption)))).mono ?_; rintro e w2 ⟨rfl, hbf⟩) | (go_at_call 21; refine (void_any d A c _ hB (kidsAt_on HK2.out (keep4 (by assumption)))).mono ?_; rintro e w2 ⟨rfl, hbf⟩) | (go_at_call 22; refine (rvoid_any d.wt d A c _ (Nat.le_refl _) hB (kidsAt_on HK2.out (keep4 (by assumption)))).mono ?_; rintro e w2 ⟨rfl, hbf⟩) | (go_at_call 23; refine (lead_any d.wt d A c _ (Nat.le_refl _) hB (kidsAt_on HK2.out (keep4 (by assumption)))).mono ?_; rintro e w2 ⟨rfl, hbf⟩) | (go_at_call 24; refine (rlead_any d.wt d A c _ (Nat.le_refl _) hB (kidsAt_on HK2.out (keep4 (by assumption)))).mono ?_; rintro e w2 ⟨rfl, hbf⟩))
  all_goals (rename_i hH; have hq := keep4 hH; go_wp2_with fail; go_ret; exact ⟨rfl, HB.out.trans ((H2.out.trans (hq.mono H2.out.size)).mono (by omega))⟩)
end Go.Proofs.YtnpaplfdmpjfgaaDoor
