/- The law RenderTidies, walked. -/
import Derived.Test.YtnpaplfdmpjfgaaDoorDLayT
import Derived.Test.YtnpaplfdmpjfgaaDoorDAwake19
import Derived.Test.YtnpaplfdmpjfgaaDoorDLaw5
namespace Go.Proofs.YtnpaplfdmpjfgaaDoor
open Go.RowKit

theorem render_tidy {d : Doc} (h : checkN d = 0) (wd rb md : Int) : renderV d wd rb md = renderV d.tidyV wd rb md := by
  have ht : d.tidyV = d.tidy := by simp [Doc.tidyV, h]
  rw [ht]
  unfold renderV
  rw [h, tidy_check h]
  simp only [lay_tidy (check_parts h).2]
theorem held7x {x k y1 y2 y3 y4 z1 z2 z3 : _} {w0 w' w'' : World} (h : w'.cell? ⟨x, 0, none⟩ = y1 ∧ w'.cell? ⟨x, 1, none⟩ = y2 ∧ w'.cell? ⟨x, 2, none⟩ = y3 ∧ w'.cell? ⟨x, 3, none⟩ = y4 ∧ w'.cell? ⟨k, 0, none⟩ = z1 ∧ w'.cell? ⟨k, 1, none⟩ = z2 ∧ w'.cell? ⟨k, 2, none⟩ = z3 ∧ Below w0.heap.size w0 w') (hb : Below w'.heap.size w' w'') (hx : x < w0.heap.size) (hk : k < w0.heap.size) :
    w''.cell? ⟨x, 0, none⟩ = y1 ∧ w''.cell? ⟨x, 1, none⟩ = y2 ∧ w''.cell? ⟨x, 2, none⟩ = y3 ∧ w''.cell? ⟨x, 3, none⟩ = y4 ∧ w''.cell? ⟨k, 0, none⟩ = z1 ∧ w''.cell? ⟨k, 1, none⟩ = z2 ∧ w''.cell? ⟨k, 2, none⟩ = z3 ∧ Below w0.heap.size w0 w'' := by
  obtain ⟨a0, a1, a2, a3, b0, b1, b2, hq⟩ := h
  have hs := hq.size
  exact ⟨(hb.cell (p := ⟨x, 0, none⟩) (by dsimp only; omega)).trans a0, (hb.cell (p := ⟨x, 1, none⟩) (by dsimp only; omega)).trans a1, (hb.cell (p := ⟨x, 2, none⟩) (by dsimp only; omega)).trans a2, (hb.cell (p := ⟨x, 3, none⟩) (by dsimp only; omega)).trans a3, (hb.cell (p := ⟨k, 0, none⟩) (by dsimp only; omega)).trans b0, (hb.cell (p := ⟨k, 1, none⟩) (by dsimp only; omega)).trans b1, (hb.cell (p := ⟨k, 2, none⟩) (by dsimp only; omega)).trans b2, hq.trans (hb.mono hs)⟩
theorem keep7 {p1 p2 p3 p4 p5 p6 p7 p8 : Prop} (h : p1 ∧ p2 ∧ p3 ∧ p4 ∧ p5 ∧ p6 ∧ p7 ∧ p8) : p8 := h.2.2.2.2.2.2.2

set_option maxRecDepth 100000 in
set_option maxHeartbeats 16000000 in
theorem renderTidies_any (d : Doc) (A : Option Addr) (cc : Nat) (wd rb md : Int) (w : World) (hO : d.Ok) (hT : Lib.Utf8Tabs 1 2 w) (hm : MaxI w) (hnil : A = none → cc = 0) (hcap : d.kids.length ≤ cc) (hK : KidsAt w.heap.size w d.kids A) :
    Calls Tryd.prog 15 #[.agg #[.int .i64 d.kind, .string d.text, .int .i64 d.n, .slice A d.kids.length cc], .agg #[.int .i64 wd, .int .i64 rb, .int .i64 md]] w fun e w' => e = .returned (.bool true) ∧ Below w.heap.size w w' := by
  obtain ⟨hbx, hb0, hs0⟩ := box_new w (.int .i64 d.kind) (.string d.text) (.int .i64 d.n) (.slice A d.kids.length cc)
  obtain ⟨W1, hW1⟩ : ∃ W, w.alloc (.cells #[.int .i64 d.kind, .string d.text, .int .i64 d.n, .slice A d.kids.length cc] 24) = W := ⟨_, rfl⟩
  rw [hW1] at hbx hb0 hs0
  have hb2 := (Below.refl W1.heap.size W1).alloc (Nat.le_refl _) (.cells #[.int .i64 wd, .int .i64 rb, .int .i64 md] 41)
  have t0 : (W1.alloc (.cells #[.int .i64 wd, .int .i64 rb, .int .i64 md] 41)).cell? ⟨W1.heap.size, 0, none⟩ = some (.int .i64 wd) := by simp
  have t1 : (W1.alloc (.cells #[.int .i64 wd, .int .i64 rb, .int .i64 md] 41)).cell? ⟨W1.heap.size, 1, none⟩ = some (.int .i64 rb) := by simp
  have t2 : (W1.alloc (.cells #[.int .i64 wd, .int .i64 rb, .int .i64 md] 41)).cell? ⟨W1.heap.size, 2, none⟩ = some (.int .i64 md) := by simp
  obtain ⟨W, hW⟩ : ∃ W2, W1.alloc (.cells #[.int .i64 wd, .int .i64 rb, .int .i64 md] 41) = W2 := ⟨_, rfl⟩
  have hs2 : W.heap.size = W1.heap.size + 1 := by rw [← hW]; simp
  rw [hW] at hb2 t0 t1 t2
  have hbw := hb0.trans (hb2.mono (by omega))
  have HT := Lib.hid (Utf8Tabs_below hT hbw)
  have HK := Lib.hid (kidsAt_on hK hbw)
  have HB := Lib.hid hbw
  have HX := Lib.hid (hbx.below hb2 (by omega))
  have HNIL := Lib.hid hnil
  have HTT := Lib.hid (And.intro t0 (And.intro t1 t2))
  have hs' : w.heap.size < W.heap.size := by omega
  have hs'' : W1.heap.size < W.heap.size := by omega
  have HC := Lib.hid (awake19_any W HT.out (hm.below hbw))
  have hwt := tidyV_wt d
  clear hT hm hK hb0 hb2 hbw hs0 hs2 hbx hnil t0 t1 t2
  go_enter Tryd.func15, Tryd.ntmps15
  go_wp2_with fail
  clear hW hW1
  refine HC.out.mono ?_
  rintro e w1 ⟨rfl, hb1⟩
  have HB1 := Lib.hid hb1
  obtain ⟨x0, x1, x2, x3, _, _, _, _⟩ := HX.out.below hb1 hs'
  have HC1 := Lib.hid (much_ok d A cc 400 w1 hO (kidsAt_on HK.out hb1))
  clear hb1 HC
  go_wp2_with fail
  refine HC1.out.mono ?_
  rintro e w2 ⟨rfl, hb2⟩
  have HB2 := Lib.hid (HB1.out.trans (hb2.mono HB1.out.size))
  clear hb2 HC1 x0 x1 x2 x3
  by_cases hmu : 400 < d.cnt 0
  · have g1 : decide (400 < d.cnt 0) = true := decide_eq_true hmu
    go_wp2
    go_ret
    exact ⟨rfl, HB.out.trans (HB2.out.mono (Nat.le_of_lt hs'))⟩
  · have g1 : decide (400 < d.cnt 0) = false := decide_eq_false hmu
    have hB : d.wt ≤ 4194304 := by have := small_wt (by decide) hmu; omega
    obtain ⟨y0, y1, y2, y3, _, _, _, _⟩ := HX.out.below HB2.out hs'
    have HC3 := Lib.hid (pcheck_any d A cc w2 (by omega) (Utf8Tabs_below HT.out HB2.out) (kidsAt_on HK.out HB2.out))
    clear hmu
    go_wp2_with fail
    refine HC3.out.mono ?_
    rintro e w3 ⟨rfl, hb3⟩
    have HB3 := Lib.hid (HB2.out.trans (hb3.mono HB2.out.size))
    have HBE := Lib.hid (HB.out.trans (HB3.out.mono (Nat.le_of_lt hs')))
    clear hb3 HC3 y0 y1 y2 y3
    cases hc0 : (checkN d == 0) with
    | false =>
      have hc1 : (checkN d != 0) = true := by simp [bne, hc0]
      go_wp2
      go_ret
      exact ⟨rfl, HBE.out⟩
    | true =>
      have hc1 : (checkN d != 0) = false := by simp [bne, hc0]
      have hck : checkN d = 0 := by simpa using hc0
      have HR := Lib.hid (render_tidy hck wd rb md)
      have h3 := HB3.out.size
      have hx3 : w.heap.size < w3.heap.size := by omega
      have hk3 : W1.heap.size < w3.heap.size := by omega
      have HT3 := Lib.hid (Utf8Tabs_below HT.out HB3.out)
      have HK3 := Lib.hid (kidsAt_on HK.out HB3.out)
      obtain ⟨t0, t1, t2⟩ := HTT.out
      have u0 := (HB3.out.cell (p := ⟨W1.heap.size, 0, none⟩) hs'').trans t0
      have u1 := (HB3.out.cell (p := ⟨W1.heap.size, 1, none⟩) hs'').trans t1
      have u2 := (HB3.out.cell (p := ⟨W1.heap.size, 2, none⟩) hs'').trans t2
      obtain ⟨x0, x1, x2, x3, _, _, _, _⟩ := HX.out.below HB3.out hs'
      clear hck t0 t1 t2
      go_upto_region 4 with (fail)
      go_region_held3 (fun w' : World => w'.cell? ⟨w.heap.size, 0, none⟩ = some (.int .i64 d.kind) ∧ w'.cell? ⟨w.heap.size, 1, none⟩ = some (.string d.text) ∧ w'.cell? ⟨w.heap.size, 2, none⟩ = some (.int .i64 d.n) ∧ w'.cell? ⟨w.heap.size, 3, none⟩ = some (.slice A d.kids.length cc) ∧ w'.cell? ⟨W1.heap.size, 0, none⟩ = some (.int .i64 wd) ∧ w'.cell? ⟨W1.heap.size, 1, none⟩ = some (.int .i64 rb) ∧ w'.cell? ⟨W1.heap.size, 2, none⟩ = some (.int .i64 md) ∧ Below w3.heap.size w3 w')
        (first | (exact ⟨x0, x1, x2, x3, u0, u1, u2, (Below.refl _ _).drew⟩) | (exact held7x (by assumption) hbf hx3 hk3) | assumption)
        (first | (go_at_call 26; refine (ptidy_any d A cc _ (by omega) (Utf8Tabs_below HT3.out (keep7 (by assumption))) HNIL.out (kidsAt_on HK3.out (keep7 (by assumption)))).mono ?_; rintro e w2 ⟨A1, c1, rfl, hin1, hbf⟩) | (go_at_call 39; refine (same19_any d d.tidyV A A1 cc c1 wd rb md _ (by omega) (by omega) (Utf8Tabs_below HT3.out (keep7 (by assumption))) HNIL.out hin1.nil hcap hin1.cap (kidsAt_on HK3.out (keep7 (by assumption))) (by first | exact kin_now hin1 | exact kin_later hin1 (by assumption)) HR.out).mono ?_; rintro e w2 ⟨rfl, hbf⟩))
      all_goals (rename_i hH; have hq := keep7 hH; go_wp2_with fail; go_ret; exact ⟨rfl, HB.out.trans ((HB3.out.trans (hq.mono h3)).mono (Nat.le_of_lt hs'))⟩)
end Go.Proofs.YtnpaplfdmpjfgaaDoor
