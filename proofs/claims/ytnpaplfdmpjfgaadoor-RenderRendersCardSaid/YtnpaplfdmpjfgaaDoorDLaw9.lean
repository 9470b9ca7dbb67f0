/- Render of the reference. -/
import Derived.Test.YtnpaplfdmpjfgaaDoorDRefN
import Derived.Test.YtnpaplfdmpjfgaaDoorDRend
import Derived.Lib.BufferRead
import Derived.Test.YtnpaplfdmpjfgaaDoorDAwake19
/-! Render of the reference. -/
namespace Go.Proofs.YtnpaplfdmpjfgaaDoor
open Go.RowKit

theorem own_conv {w : World} {B : Nat} {V : Value} {bs : List UInt8} (h : w.ownsRow B 5 1 V bs.length (Lib.byteCells bs)) : (convert 63 9 V).run Tryd.prog w = .ok (.string ⟨bs.toArray⟩) w := by
  rcases h.2 with ⟨rfl, hn⟩ | ⟨g, cap, cur, rfl, hbg, hg, hnc, hcm, hcs, htake⟩
  · have hbs : bs = [] := List.eq_nil_of_length_eq_zero hn
    subst hbs
    exact Lib.run_convert_nil_bytes w 63 9 5 0 Tryd.underlying63 Tryd.underlying5 Tryd.underlying9
  · refine run_convert_bytes_back w 63 9 5 ⟨g, 0, none⟩ cap bs Tryd.underlying63 Tryd.underlying5 Tryd.underlying9 fun j hj => ?_
    exact h.cells (g := g) rfl j (.int .u8 (bs[j].toNat : Int)) (by simp [Lib.byteCells, hj])

set_option maxRecDepth 100000 in
set_option maxHeartbeats 8000000 in
theorem rrender_any (d : Doc) (A : Option Addr) (cc : Nat) (wd rb md : Int) (w : World) (hB : d.wt ≤ 4194304) (hT : Lib.Utf8Tabs 1 2 w) (hnil : A = none → cc = 0) (hcap : d.kids.length ≤ cc) (hK : KidsAt w.heap.size w d.kids A) :
    Calls Tryd.prog 35 #[.agg #[.int .i64 d.kind, .string d.text, .int .i64 d.n, .slice A d.kids.length cc], .int .i64 wd, .int .i64 rb, .int .i64 md] w (RendSaid d wd rb md w) := by
  obtain ⟨hbx, hb0, hs0⟩ := box_new w (.int .i64 d.kind) (.string d.text) (.int .i64 d.n) (.slice A d.kids.length cc)
  obtain ⟨W, hW⟩ : ∃ W, w.alloc (.cells #[.int .i64 d.kind, .string d.text, .int .i64 d.n, .slice A d.kids.length cc] 24) = W := ⟨_, rfl⟩
  rw [hW] at hbx hb0 hs0
  have hKW := kidsAt_on hK hb0
  have HC := Lib.hid (rcheck_d d A cc W (by omega) (Utf8Tabs_below hT hb0) hKW)
  have HKW := Lib.hid hKW
  have HB := Lib.hid hb0
  have HX := Lib.hid hbx
  have HNIL := Lib.hid hnil
  have hsW : w.heap.size < W.heap.size := by omega
  obtain ⟨z0, z1, z2, z3, _, _, _, _⟩ := hbx
  clear hT hK hKW hb0 hs0 hnil
  by_cases b0 : wd < 1
  · have e0 : decide (wd < 1) = true := decide_eq_true b0
    have HR := Lib.hid (show renderV d wd rb md = (noB, 1) by unfold renderV badArg; rw [e0]; simp)
    clear b0
    go_enter Tryd.func35, Tryd.ntmps35
    go_wp2
    go_ret2
    exact ⟨by rw [HR.out]; rfl, HB.out⟩
  · have e0 : decide (wd < 1) = false := decide_eq_false b0
    by_cases b1 : 10000 < wd
    · have e1 : decide (10000 < wd) = true := decide_eq_true b1
      have HR := Lib.hid (show renderV d wd rb md = (noB, 1) by unfold renderV badArg; rw [e0, e1]; simp)
      clear b0 b1
      go_enter Tryd.func35, Tryd.ntmps35
      go_wp2
      go_ret2
      exact ⟨by rw [HR.out]; rfl, HB.out⟩
    · have e1 : decide (10000 < wd) = false := decide_eq_false b1
      by_cases b2 : rb < 1
      · have e2 : decide (rb < 1) = true := decide_eq_true b2
        have HR := Lib.hid (show renderV d wd rb md = (noB, 1) by unfold renderV badArg; rw [e0, e1, e2]; simp)
        clear b0 b1 b2
        go_enter Tryd.func35, Tryd.ntmps35
        go_wp2
        go_ret2
        exact ⟨by rw [HR.out]; rfl, HB.out⟩
      · have e2 : decide (rb < 1) = false := decide_eq_false b2
        by_cases b3 : 1000 < rb
        · have e3 : decide (1000 < rb) = true := decide_eq_true b3
          have HR := Lib.hid (show renderV d wd rb md = (noB, 1) by unfold renderV badArg; rw [e0, e1, e2, e3]; simp)
          clear b0 b1 b2 b3
          go_enter Tryd.func35, Tryd.ntmps35
          go_wp2
          go_ret2
          exact ⟨by rw [HR.out]; rfl, HB.out⟩
        · have e3 : decide (1000 < rb) = false := decide_eq_false b3
          by_cases b4 : md < 0
          · have e4 : decide (md < 0) = true := decide_eq_true b4
            have HR := Lib.hid (show renderV d wd rb md = (noB, 1) by unfold renderV badArg; rw [e0, e1, e2, e3, e4]; simp)
            clear b0 b1 b2 b3 b4
            go_enter Tryd.func35, Tryd.ntmps35
            go_wp2
            go_ret2
            exact ⟨by rw [HR.out]; rfl, HB.out⟩
          · have e4 : decide (md < 0) = false := decide_eq_false b4
            by_cases b5 : 2 < md
            · have e5 : decide (2 < md) = true := decide_eq_true b5
              have HR := Lib.hid (show renderV d wd rb md = (noB, 1) by unfold renderV badArg; rw [e0, e1, e2, e3, e4, e5]; simp)
              clear b0 b1 b2 b3 b4 b5
              go_enter Tryd.func35, Tryd.ntmps35
              go_wp2
              go_ret2
              exact ⟨by rw [HR.out]; rfl, HB.out⟩
            · have e5 : decide (2 < md) = false := decide_eq_false b5
              have HBA := Lib.hid (show badArg wd rb md = false by unfold badArg; rw [e0, e1, e2, e3, e4, e5]; rfl)
              have hmul : wd * rb ≤ 10000000 := by
                have h1 : wd * rb ≤ 10000 * rb := Int.mul_le_mul_of_nonneg_right (by omega) (by omega)
                omega
              have hmul0 : 0 ≤ wd * rb := Int.mul_nonneg (by omega) (by omega)
              cases hc0 : (checkN d == 0) with
              | false =>
                have hc1 : (checkN d != 0) = true := by simp [bne, hc0]
                have HR := Lib.hid (show renderV d wd rb md = (noB, checkN d) by unfold renderV; rw [HBA.out, hc1]; rfl)
                go_enter Tryd.func35, Tryd.ntmps35
                go_wp2_with fail
                refine HC.out.mono ?_
                rintro e w2 ⟨rfl, hb2⟩
                have HB2 := Lib.hid (HB.out.trans (hb2.mono (by omega)))
                clear hb2
                go_wp2
                go_ret2
                exact ⟨by rw [HR.out]; rfl, HB2.out⟩
              | true =>
                have hc1 : (checkN d != 0) = false := by simp [bne, hc0]
                have hck : checkN d = 0 := by simpa using hc0
                have hf := check_form hck
                have HR := Lib.hid (show renderV d wd rb md = laidV (d.lay ⟨wd, wd * rb / 1000, md⟩ pen0 0 true) by unfold renderV; rw [HBA.out, hc1]; rfl)
                have HF := Lib.hid hf
                clear hck hf
                go_enter Tryd.func35, Tryd.ntmps35
                go_wp2_with fail
                refine HC.out.mono ?_
                rintro e w2 ⟨rfl, hb2⟩
                have HB2 := Lib.hid (HB.out.trans (hb2.mono (by omega)))
                have hx2 := HX.out.below hb2 (by omega)
                have hK2 := kidsAt_on HKW.out hb2
                have hs2 := hb2.size
                have HX2 := Lib.hid hx2
                have HL := Lib.hid (rlay_says d.wt d (Nat.le_refl _) hB HF.out w2.heap.size w2.heap.size (.slice none 0 0) ⟨wd, wd * rb / 1000, md⟩ pen0 false 0 0 true A cc w2 (World.ownsRow_nil _ _ _ _) (Nat.le_refl _) ⟨by decide, by decide, by decide, by decide, by decide, by decide, by decide, by decide⟩ (fun _ _ _ _ => by show (0 : Int) ≤ max 0 _; omega) (by omega) (by omega) (by omega) (Nat.le_refl _) HNIL.out hcap hK2)
                obtain ⟨y0, y1, y2, y3, _, _, _, _⟩ := hx2
                clear hb2 hK2 z0 z1 z2 z3
                go_wp2_with fail
                refine HL.out.mono ?_
                rintro e v1 ⟨V1, q1, l1, rfl, g1, g2, g3, g4, g5⟩
                obtain ⟨A1, c1, rfl⟩ := own_form g1
                have hs4' : Sim (d.lay ⟨wd, wd * rb / 1000, md⟩ pen0 0 true) q1 l1 := g5
                have HB3 := Lib.hid (HB2.out.trans ((g2.below (B := w2.heap.size) (Nat.le_refl _) (fun k hk e => by cases e)).mono (by omega)))
                cases l1 with
                | true =>
                  have hR2 := Lib.hid (show d.lay ⟨wd, wd * rb / 1000, md⟩ pen0 0 true = none by
                    cases ho : d.lay ⟨wd, wd * rb / 1000, md⟩ pen0 0 true with
                    | none => rfl
                    | some p => rw [ho] at hs4'; exact absurd hs4'.2 (by simp))
                  obtain ⟨hbx3, hb3, hsz3⟩ := rbox_new v1 (.slice A1 q1.out.length c1) (pfOf ⟨wd, wd * rb / 1000, md⟩ q1 true)
                  simp only [pfOf] at hb3 hsz3
                  obtain ⟨W4, hW4⟩ : ∃ W4, v1.alloc (.cells #[(.slice A1 q1.out.length c1), .int .i64 q1.col, .int .i64 q1.start, .bool q1.op, .int .i64 q1.owed, .int .i64 q1.lines, .bool true, .int .i64 wd, .int .i64 (wd * rb / 1000), .int .i64 md] 73) = W4 := ⟨_, rfl⟩
                  have hbx4 : RBox W4 v1.heap.size (.slice A1 q1.out.length c1) (pfOf ⟨wd, wd * rb / 1000, md⟩ q1 true) := by rw [← hW4]; exact hbx3
                  rw [hW4] at hb3
                  have c6 := hbx4.cells.c6
                  simp only [pfOf] at c6
                  have HB4 := Lib.hid (HB3.out.trans (hb3.mono (by have := g2.size; have := HB2.out.size; omega)))
                  clear hs4' g1 g2 g3 g4 g5 hbx3 hbx4 hb3 hsz3 HL y0 y1 y2 y3
                  go_wp2
                  go_ret2
                  exact ⟨by rw [HR.out, hR2.out]; rfl, HB4.out⟩
                | false =>
                  have hR2 := Lib.hid (show d.lay ⟨wd, wd * rb / 1000, md⟩ pen0 0 true = some q1 by
                    cases ho : d.lay ⟨wd, wd * rb / 1000, md⟩ pen0 0 true with
                    | none => rw [ho] at hs4'; exact absurd hs4' (by simp [Sim])
                    | some p => rw [ho] at hs4'; rw [hs4'.1])
                  obtain ⟨hbx3, hb3, hsz3⟩ := rbox_new v1 (.slice A1 q1.out.length c1) (pfOf ⟨wd, wd * rb / 1000, md⟩ q1 false)
                  simp only [pfOf] at hb3 hsz3
                  obtain ⟨W4, hW4⟩ : ∃ W4, v1.alloc (.cells #[(.slice A1 q1.out.length c1), .int .i64 q1.col, .int .i64 q1.start, .bool q1.op, .int .i64 q1.owed, .int .i64 q1.lines, .bool false, .int .i64 wd, .int .i64 (wd * rb / 1000), .int .i64 md] 73) = W4 := ⟨_, rfl⟩
                  have hbx4 : RBox W4 v1.heap.size (.slice A1 q1.out.length c1) (pfOf ⟨wd, wd * rb / 1000, md⟩ q1 false) := by rw [← hW4]; exact hbx3
                  rw [hW4] at hb3
                  have c6 := hbx4.cells.c6
                  have c0 := hbx4.cells.c0
                  simp only [pfOf] at c6
                  have hcv := own_conv (own_on g1 hb3)
                  have HB4 := Lib.hid (HB3.out.trans (hb3.mono (by have := g2.size; have := HB2.out.size; omega)))
                  clear hs4' g1 g2 g3 g4 g5 hbx3 hbx4 hb3 hsz3 HL y0 y1 y2 y3
                  go_wp2
                  go_ret2
                  exact ⟨by rw [HR.out, hR2.out]; rfl, HB4.out⟩
end Go.Proofs.YtnpaplfdmpjfgaaDoor

/-! The law RenderRenders, walked. -/
namespace Go.Proofs.YtnpaplfdmpjfgaaDoor
open Go.RowKit

set_option maxRecDepth 100000 in
set_option maxHeartbeats 8000000 in
theorem renderRenders_any (d : Doc) (A : Option Addr) (cc : Nat) (wd rb md : Int) (w : World) (hO : d.Ok) (hT : Lib.Utf8Tabs 1 2 w) (hm : MaxI w) (hnil : A = none → cc = 0) (hcap : d.kids.length ≤ cc) (hK : KidsAt w.heap.size w d.kids A) :
    Calls Tryd.prog 9 #[.agg #[.int .i64 d.kind, .string d.text, .int .i64 d.n, .slice A d.kids.length cc], .agg #[.int .i64 wd, .int .i64 rb, .int .i64 md]] w fun e w' => e = .returned (.bool true) ∧ Below w.heap.size w w' := by
  obtain ⟨hbx, hb0, hs0⟩ := box_new w (.int .i64 d.kind) (.string d.text) (.int .i64 d.n) (.slice A d.kids.length cc)
  obtain ⟨W1, hW1⟩ : ∃ W, w.alloc (.cells #[.int .i64 d.kind, .string d.text, .int .i64 d.n, .slice A d.kids.length cc] 24) = W := ⟨_, rfl⟩
  rw [hW1] at hbx hb0 hs0
  have hb2 := (Below.refl W1.heap.size W1).alloc (Nat.le_refl _) (.cells #[.int .i64 wd, .int .i64 rb, .int .i64 md] 41)
  have t0 : (W1.alloc (.cells #[.int .i64 wd, .int .i64 rb, .int .i64 md] 41)).cell? ⟨W1.heap.size, 0, none⟩ = some (.int .i64 wd) := by simp
  have t1 : (W1.alloc (.cells #[.int .i64 wd, .int .i64 rb, .int .i64 md] 41)).cell? ⟨W1.heap.size, 1, none⟩ = some (.int .i64 rb) := by simp
  have t2 : (W1.alloc (.cells #[.int .i64 wd, .int .i64 rb, .int .i64 md] 41)).cell? ⟨W1.heap.size, 2, none⟩ = some (.int .i64 md) := by simp
  obtain ⟨W, hW⟩ : ∃ W2, W1.alloc (.cells #[.int .i64 wd, .int .i64 rb, .int .i64 md] 41) = W2 := ⟨_, rfl⟩
  have hs2 : W.heap.size = W1.heap.size + 1 := by rw [← hW]; simp
  rw [hW] at hb2 t0 t1 t2
  have hbw := hb0.trans (hb2.mono (by omega))
  have HT := Lib.hid (Utf8Tabs_below hT hbw)
  have HK := Lib.hid (kidsAt_on hK hbw)
  have HB := Lib.hid hbw
  have hx2 := hbx.below hb2 (by omega)
  have HX := Lib.hid hx2
  have HNIL := Lib.hid hnil
  have HTT := Lib.hid (And.intro t0 (And.intro t1 t2))
  have hs' : w.heap.size < W.heap.size := by omega
  have hs'' : W1.heap.size < W.heap.size := by omega
  have HM := Lib.hid (hm.below hbw)
  have HC0 := Lib.hid (much_ok d A cc 400 W hO HK.out)
  obtain ⟨x0, x1, x2, x3, _, _, _, _⟩ := hx2
  clear hT hm hK hb0 hb2 hbw hs0 hs2 hbx hnil t0 t1 t2
  go_enter Tryd.func9, Tryd.ntmps9
  go_wp2_with fail
  clear hW hW1
  refine HC0.out.mono ?_
  rintro e w1 ⟨rfl, hb1⟩
  have HB1 := Lib.hid hb1
  clear hb1 HC0 x0 x1 x2 x3
  by_cases mb : (400 : Int) < d.cnt 0
  · have g1 : decide ((400 : Int) < d.cnt 0) = true := decide_eq_true mb
    have HC := Lib.hid (awake19_any w1 (Utf8Tabs_below HT.out HB1.out) (HM.out.below HB1.out))
    clear mb
    go_wp2_with fail
    refine HC.out.mono ?_
    rintro e w2 ⟨rfl, hb2⟩
    have HB2 := Lib.hid (HB1.out.trans (hb2.mono HB1.out.size))
    clear hb2
    go_wp2
    go_ret
    exact ⟨rfl, HB.out.trans (HB2.out.mono (Nat.le_of_lt hs'))⟩
  · have g1 : decide ((400 : Int) < d.cnt 0) = false := decide_eq_false mb
    have hB : d.wt ≤ 4194304 := by have := small_wt (by decide) mb; omega
    clear mb
    obtain ⟨x0, x1, x2, x3, _, _, _, _⟩ := HX.out.below HB1.out hs'
    have t0 := (HB1.out.cell (p := ⟨W1.heap.size, 0, none⟩) hs'').trans HTT.out.1
    have t1 := (HB1.out.cell (p := ⟨W1.heap.size, 1, none⟩) hs'').trans HTT.out.2.1
    have t2 := (HB1.out.cell (p := ⟨W1.heap.size, 2, none⟩) hs'').trans HTT.out.2.2
    have HC2 := Lib.hid (render_any d A cc wd rb md w1 (by omega) (Utf8Tabs_below HT.out HB1.out) HNIL.out hcap (kidsAt_on HK.out HB1.out))
    go_wp2_with fail
    refine HC2.out.mono ?_
    rintro e w2 ⟨rfl, hb2⟩
    have HB2 := Lib.hid (HB1.out.trans (hb2.mono HB1.out.size))
    clear hb2 x0 x1 x2 x3 t0 t1 t2 HC2
    obtain ⟨x0, x1, x2, x3, _, _, _, _⟩ := HX.out.below HB2.out hs'
    have t0 := (HB2.out.cell (p := ⟨W1.heap.size, 0, none⟩) hs'').trans HTT.out.1
    have t1 := (HB2.out.cell (p := ⟨W1.heap.size, 1, none⟩) hs'').trans HTT.out.2.1
    have t2 := (HB2.out.cell (p := ⟨W1.heap.size, 2, none⟩) hs'').trans HTT.out.2.2
    have HC3 := Lib.hid (rrender_any d A cc wd rb md w2 hB (Utf8Tabs_below HT.out HB2.out) HNIL.out hcap (kidsAt_on HK.out HB2.out))
    go_wp2_with fail
    refine HC3.out.mono ?_
    rintro e w3 ⟨rfl, hb3⟩
    have HB3 := Lib.hid (HB2.out.trans (hb3.mono HB2.out.size))
    clear hb3 x0 x1 x2 x3 t0 t1 t2 HC3
    have HC4 := Lib.hid (awake19_any w3 (Utf8Tabs_below HT.out HB3.out) (HM.out.below HB3.out))
    go_wp2_with fail
    refine HC4.out.mono ?_
    rintro e w4 ⟨rfl, hb4⟩
    have HB4 := Lib.hid (HB3.out.trans (hb4.mono HB3.out.size))
    clear hb4
    go_wp2
    go_ret
    exact ⟨rfl, HB.out.trans (HB4.out.mono (Nat.le_of_lt hs'))⟩
end Go.Proofs.YtnpaplfdmpjfgaaDoor
