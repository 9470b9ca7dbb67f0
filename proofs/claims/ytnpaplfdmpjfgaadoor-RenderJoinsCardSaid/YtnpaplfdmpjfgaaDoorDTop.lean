/- Tidy of the program; documents that the laws make. -/
import Derived.Test.YtnpaplfdmpjfgaaDoorDCheck
namespace Go.Proofs.YtnpaplfdmpjfgaaDoor
open Go.RowKit

/-- What Tidy hands back. -/
def Doc.tidyV (d : Doc) : Doc := if checkN d == 0 then d.tidy else emptyD
theorem tidyV_wt (d : Doc) : d.tidyV.wt ≤ d.wt := by
  unfold Doc.tidyV
  split
  · exact tidy_wt d
  · have := wt_pos d; simp only [emptyD, Doc.wt, wts, noB_size]; omega
def TidyOut (d : Doc) (w : World) (e : Ending) (w' : World) : Prop := ∃ A c, e = .returned (.agg #[.int .i64 d.tidyV.kind, .string d.tidyV.text, .int .i64 d.tidyV.n, .slice A d.tidyV.kids.length c]) ∧ (⟨d.tidyV, A, c⟩ : DV).In (fun b => w.heap.size ≤ b ∧ b < w'.heap.size) w' ∧ Below w.heap.size w w'

set_option maxRecDepth 100000 in
set_option maxHeartbeats 4000000 in
theorem ptidy_any (d : Doc) (A : Option Addr) (c : Nat) (w : World) (hB : d.wt ≤ 16777216) (hT : Lib.Utf8Tabs 1 2 w) (hnil : A = none → c = 0) (hK : KidsAt w.heap.size w d.kids A) :
    Calls Tryd.prog 26 #[.agg #[.int .i64 d.kind, .string d.text, .int .i64 d.n, .slice A d.kids.length c]] w (TidyOut d w) := by
  obtain ⟨hbx, hb0, hs0⟩ := box_new w (.int .i64 d.kind) (.string d.text) (.int .i64 d.n) (.slice A d.kids.length c)
  obtain ⟨W0, hW0⟩ : ∃ W0, w.alloc (.cells #[.int .i64 d.kind, .string d.text, .int .i64 d.n, .slice A d.kids.length c] 24) = W0 := ⟨_, rfl⟩
  rw [hW0] at hbx hb0 hs0
  obtain ⟨hby, hb1, hs1⟩ := box_new W0 (.int .i64 0) (.string ⟨#[]⟩) (.int .i64 0) (.slice none 0 0)
  obtain ⟨W, hW⟩ : ∃ W, W0.alloc (.cells #[.int .i64 0, .string ⟨#[]⟩, .int .i64 0, .slice none 0 0] 24) = W := ⟨_, rfl⟩
  rw [hW] at hby hb1 hs1
  rw [hs0] at hby
  have HKW := Lib.hid (kidsAt_on (kidsAt_on hK hb0) hb1)
  have HC := Lib.hid (pcheck_any d A c W hB (Utf8Tabs_below (Utf8Tabs_below hT hb0) hb1) HKW.out)
  have hx := hbx.below hb1 (by omega)
  obtain ⟨x0, x1, x2, x3, _, _, _, _⟩ := id hx
  have HNIL := Lib.hid hnil
  clear hT hK hnil
  cases hc0 : (checkN d == 0) with
  | false =>
    have hT := Lib.hid (show d.tidyV = emptyD by simp [Doc.tidyV, hc0])
    have hc1 : (checkN d != 0) = true := by simp [bne, hc0]
    go_enter Tryd.func26, Tryd.ntmps26
    go_wp2_with fail
    refine HC.out.mono ?_
    rintro e w3 ⟨rfl, hb2⟩
    have hy1 := hby.below hb2 (by omega)
    have HB := Lib.hid ((hb0.trans (hb1.mono (by omega))).trans (hb2.mono (by omega)))
    have hsz := hb2.size
    have HY := Lib.hid hy1
    obtain ⟨y0, y1, y2, y3, f0, f1, f2, f3⟩ := hy1
    clear hbx hby hb0 hb1 hb2 hW hW0 x0 x1 x2 x3 HC HKW hx
    go_wp2
    obtain ⟨hz, hg⟩ := HY.out.set (.int .i64 0) (.string ⟨#[]⟩) (.int .i64 0) (.slice none 0 0)
    have hb := gb_below HB.out hg (by omega) (by omega)
    have hgs := hg.size
    have HG := Lib.hid hg
    generalize ((((w3.setCell ⟨w.heap.size + 1, 0, none⟩ (.int .i64 0)).setCell ⟨w.heap.size + 1, 1, none⟩ (.string ⟨#[]⟩)).setCell ⟨w.heap.size + 1, 2, none⟩ (.int .i64 0)).setCell ⟨w.heap.size + 1, 3, none⟩ (.slice none 0 0)) = W6 at hz hb HG hgs ⊢
    obtain ⟨z0, z1, z2, z3, _, _, _, _⟩ := hz
    refine bodyPost_ret (v := .agg #[.int .i64 0, .string ⟨#[]⟩, .int .i64 0, .slice none 0 0]) (by simp [results, Tryd.results26, go_sem, z0, z1, z2, z3]) rfl ?_
    exact ⟨none, 0, by rw [hT.out]; rfl, by rw [hT.out]; exact ⟨Nat.le_refl _, fun _ => rfl, trivial⟩, hb⟩
  | true =>
    have hT := Lib.hid (show d.tidyV = d.tidy by simp [Doc.tidyV, hc0])
    have hc1 : (checkN d != 0) = false := by simp [bne, hc0]
    have hf := check_form (by simpa using hc0)
    go_enter Tryd.func26, Tryd.ntmps26
    go_wp2_with fail
    refine HC.out.mono ?_
    rintro e w2 ⟨rfl, hb2⟩
    have HY1 := Lib.hid (hby.below hb2 (by omega))
    have HB1 := Lib.hid ((hb0.trans (hb1.mono (by omega))).trans (hb2.mono (by omega)))
    have hsz := hb2.size
    have HC2 := Lib.hid (tidy_says d.wt d (Nat.le_refl _) hB hf A c w2 HNIL.out (kidsAt_on HKW.out hb2))
    obtain ⟨v0, v1, v2, v3, _, _, _, _⟩ := hx.below hb2 (by omega)
    clear hbx hby hb0 hb1 hb2 hW hW0 x0 x1 x2 x3 HC HKW hx hf
    go_wp2_with fail
    refine HC2.out.mono ?_
    rintro e w3 ⟨A2, c2, rfl, hin, hb3⟩
    have hsz3 := hb3.size
    have hy1 := HY1.out.below hb3 (by omega)
    have HB := Lib.hid (HB1.out.trans (hb3.mono (by omega)))
    have HY := Lib.hid hy1
    have HIN := Lib.hid hin
    obtain ⟨y0, y1, y2, y3, f0, f1, f2, f3⟩ := hy1
    clear hin hb3 HB1 HY1 HC2
    go_wp2
    obtain ⟨hz, hg⟩ := HY.out.set (.int .i64 d.tidy.kind) (.string d.tidy.text) (.int .i64 d.tidy.n) (.slice A2 d.tidy.kids.length c2)
    have hb := gb_below HB.out hg (by omega) (by omega)
    have hgs := hg.size
    have HG := Lib.hid hg
    generalize ((((w3.setCell ⟨w.heap.size + 1, 0, none⟩ (.int .i64 d.tidy.kind)).setCell ⟨w.heap.size + 1, 1, none⟩ (.string d.tidy.text)).setCell ⟨w.heap.size + 1, 2, none⟩ (.int .i64 d.tidy.n)).setCell ⟨w.heap.size + 1, 3, none⟩ (.slice A2 d.tidy.kids.length c2)) = W6 at hz hb HG hgs ⊢
    obtain ⟨z0, z1, z2, z3, _, _, _, _⟩ := hz
    refine bodyPost_ret (v := .agg #[.int .i64 d.tidy.kind, .string d.tidy.text, .int .i64 d.tidy.n, .slice A2 d.tidy.kids.length c2]) (by simp [results, Tryd.results26, go_sem, z0, z1, z2, z3]) rfl ?_
    exact ⟨A2, c2, by rw [hT.out], by rw [hT.out]; exact HIN.out.later (fun b hb => ⟨by have := hb.1; omega, by have := hb.2; omega⟩) (fun b o hb => HG.out.cell_far ⟨b, o, none⟩ hb.2 (fun e => by have := hb.1; simp only [Option.some.injEq] at e; omega)), hb⟩

set_option maxHeartbeats 2000000 in
theorem of_any (k : Int) (A : Option Addr) (n c : Nat) (w : World) : Calls Tryd.prog 28 #[.int .i64 k, .slice A n c] w fun e w' => e = .returned (.agg #[.int .i64 k, .string ⟨#[]⟩, .int .i64 0, .slice A n c]) ∧ Below w.heap.size w w' := by
  obtain ⟨hby, hb1, hs1⟩ := box_new w (.int .i64 0) (.string ⟨#[]⟩) (.int .i64 0) (.slice none 0 0)
  obtain ⟨W, hW⟩ : ∃ W, w.alloc (.cells #[.int .i64 0, .string ⟨#[]⟩, .int .i64 0, .slice none 0 0] 24) = W := ⟨_, rfl⟩
  rw [hW] at hby hb1 hs1
  have HY := Lib.hid hby
  have HB := Lib.hid hb1
  obtain ⟨y0, y1, y2, y3, f0, f1, f2, f3⟩ := hby
  go_enter Tryd.func28, Tryd.ntmps28
  go_wp2
  obtain ⟨hz, hg⟩ := HY.out.set (.int .i64 k) (.string ⟨#[]⟩) (.int .i64 0) (.slice A n c)
  have hb := gb_below HB.out hg (by omega) (by omega)
  have hgs := hg.size
  have HG := Lib.hid hg
  generalize ((((W.setCell ⟨w.heap.size, 0, none⟩ (.int .i64 k)).setCell ⟨w.heap.size, 1, none⟩ (.string ⟨#[]⟩)).setCell ⟨w.heap.size, 2, none⟩ (.int .i64 0)).setCell ⟨w.heap.size, 3, none⟩ (.slice A n c)) = W6 at hz hb HG hgs ⊢
  obtain ⟨z0, z1, z2, z3, _, _, _, _⟩ := hz
  refine bodyPost_ret (v := .agg #[.int .i64 k, .string ⟨#[]⟩, .int .i64 0, .slice A n c]) (by simp [results, Tryd.results28, go_sem, z0, z1, z2, z3]) rfl ?_
  exact ⟨rfl, hb⟩

set_option maxHeartbeats 2000000 in
theorem str_any (t : ByteArray) (w : World) : Calls Tryd.prog 43 #[.string t] w fun e w' => e = .returned (.agg #[.int .i64 1, .string t, .int .i64 0, .slice none 0 0]) ∧ Below w.heap.size w w' := by
  obtain ⟨hby, hb1, hs1⟩ := box_new w (.int .i64 0) (.string ⟨#[]⟩) (.int .i64 0) (.slice none 0 0)
  obtain ⟨W, hW⟩ : ∃ W, w.alloc (.cells #[.int .i64 0, .string ⟨#[]⟩, .int .i64 0, .slice none 0 0] 24) = W := ⟨_, rfl⟩
  rw [hW] at hby hb1 hs1
  have HY := Lib.hid hby
  have HB := Lib.hid hb1
  obtain ⟨y0, y1, y2, y3, f0, f1, f2, f3⟩ := hby
  go_enter Tryd.func43, Tryd.ntmps43
  go_wp2
  obtain ⟨hz, hg⟩ := HY.out.set (.int .i64 1) (.string t) (.int .i64 0) (.slice none 0 0)
  have hb := gb_below HB.out hg (by omega) (by omega)
  have hgs := hg.size
  have HG := Lib.hid hg
  generalize ((((W.setCell ⟨w.heap.size, 0, none⟩ (.int .i64 1)).setCell ⟨w.heap.size, 1, none⟩ (.string t)).setCell ⟨w.heap.size, 2, none⟩ (.int .i64 0)).setCell ⟨w.heap.size, 3, none⟩ (.slice none 0 0)) = W6 at hz hb HG hgs ⊢
  obtain ⟨z0, z1, z2, z3, _, _, _, _⟩ := hz
  refine bodyPost_ret (v := .agg #[.int .i64 1, .string t, .int .i64 0, .slice none 0 0]) (by simp [results, Tryd.results43, go_sem, z0, z1, z2, z3]) rfl ?_
  exact ⟨rfl, hb⟩

end Go.Proofs.YtnpaplfdmpjfgaaDoor
