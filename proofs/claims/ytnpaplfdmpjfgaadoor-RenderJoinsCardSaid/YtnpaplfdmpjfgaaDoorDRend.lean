/- Render of the program. -/
import Derived.Test.YtnpaplfdmpjfgaaDoorDLayQ
namespace Go.Proofs.YtnpaplfdmpjfgaaDoor
open Go.RowKit

def pen0 : Pen := ⟨[], 0, 0, false, 0, 0⟩
def badArg (wd rb md : Int) : Bool := decide (wd < 1) || decide (10000 < wd) || decide (rb < 1) || decide (1000 < rb) || decide (md < 0) || decide (2 < md)
def laidV (o : Option Pen) : ByteArray × Int := match o with
  | none => (noB, 3)
  | some p => (⟨p.out.toArray⟩, 0)
/-- A document, laid out; or the reason why not. -/
def renderV (d : Doc) (wd rb md : Int) : ByteArray × Int :=
  if badArg wd rb md then (noB, 1) else if checkN d != 0 then (noB, checkN d) else laidV (d.lay ⟨wd, wd * rb / 1000, md⟩ pen0 0 true)
def RendSaid (d : Doc) (wd rb md : Int) (w : World) (e : Ending) (w' : World) : Prop := e = .returned (.tuple #[.string (renderV d wd rb md).1, .int .i64 (renderV d wd rb md).2]) ∧ Below w.heap.size w w'

set_option maxRecDepth 100000 in
set_option maxHeartbeats 8000000 in
theorem render_any (d : Doc) (A : Option Addr) (cc : Nat) (wd rb md : Int) (w : World) (hB : d.wt ≤ 16777216) (hT : Lib.Utf8Tabs 1 2 w) (hnil : A = none → cc = 0) (hcap : d.kids.length ≤ cc) (hK : KidsAt w.heap.size w d.kids A) :
    Calls Tryd.prog 34 #[.agg #[.int .i64 d.kind, .string d.text, .int .i64 d.n, .slice A d.kids.length cc], .int .i64 wd, .int .i64 rb, .int .i64 md] w (RendSaid d wd rb md w) := by
  obtain ⟨hbx, hb0, hs0⟩ := box_new w (.int .i64 d.kind) (.string d.text) (.int .i64 d.n) (.slice A d.kids.length cc)
  obtain ⟨W, hW⟩ : ∃ W, w.alloc (.cells #[.int .i64 d.kind, .string d.text, .int .i64 d.n, .slice A d.kids.length cc] 24) = W := ⟨_, rfl⟩
  rw [hW] at hbx hb0 hs0
  have hKW := kidsAt_on hK hb0
  have HC := Lib.hid (pcheck_any d A cc W hB (Utf8Tabs_below hT hb0) hKW)
  have HKW := Lib.hid hKW
  have HB := Lib.hid hb0
  have HX := Lib.hid hbx
  have HNIL := Lib.hid hnil
  have hsW : w.heap.size < W.heap.size := by omega
  obtain ⟨z0, z1, z2, z3, _, _, _, _⟩ := hbx
  clear hT hK hKW hb0 hs0 hnil
  by_cases b0 : wd < 1
  · have e0 : decide (wd < 1) = true := decide_eq_true b0
    have HR := Lib.hid (show renderV d wd rb md = (noB, 1) by unfold renderV badArg; rw [e0]; simp)
    clear b0
    go_enter Tryd.func34, Tryd.ntmps34
    go_wp2
    go_ret2
    exact ⟨by rw [HR.out]; rfl, HB.out⟩
  · have e0 : decide (wd < 1) = false := decide_eq_false b0
    by_cases b1 : 10000 < wd
    · have e1 : decide (10000 < wd) = true := decide_eq_true b1
      have HR := Lib.hid (show renderV d wd rb md = (noB, 1) by unfold renderV badArg; rw [e0, e1]; simp)
      clear b0 b1
      go_enter Tryd.func34, Tryd.ntmps34
      go_wp2
      go_ret2
      exact ⟨by rw [HR.out]; rfl, HB.out⟩
    · have e1 : decide (10000 < wd) = false := decide_eq_false b1
      by_cases b2 : rb < 1
      · have e2 : decide (rb < 1) = true := decide_eq_true b2
        have HR := Lib.hid (show renderV d wd rb md = (noB, 1) by unfold renderV badArg; rw [e0, e1, e2]; simp)
        clear b0 b1 b2
        go_enter Tryd.func34, Tryd.ntmps34
        go_wp2
        go_ret2
        exact ⟨by rw [HR.out]; rfl, HB.out⟩
      · have e2 : decide (rb < 1) = false := decide_eq_false b2
        by_cases b3 : 1000 < rb
        · have e3 : decide (1000 < rb) = true := decide_eq_true b3
          have HR := Lib.hid (show renderV d wd rb md = (noB, 1) by unfold renderV badArg; rw [e0, e1, e2, e3]; simp)
          clear b0 b1 b2 b3
          go_enter Tryd.func34, Tryd.ntmps34
          go_wp2
          go_ret2
          exact ⟨by rw [HR.out]; rfl, HB.out⟩
        · have e3 : decide (1000 < rb) = false := decide_eq_false b3
          by_cases b4 : md < 0
          · have e4 : decide (md < 0) = true := decide_eq_true b4
            have HR := Lib.hid (show renderV d wd rb md = (noB, 1) by unfold renderV badArg; rw [e0, e1, e2, e3, e4]; simp)
            clear b0 b1 b2 b3 b4
            go_enter Tryd.func34, Tryd.ntmps34
            go_wp2
            go_ret2
            exact ⟨by rw [HR.out]; rfl, HB.out⟩
          · have e4 : decide (md < 0) = false := decide_eq_false b4
            by_cases b5 : 2 < md
            · have e5 : decide (2 < md) = true := decide_eq_true b5
              have HR := Lib.hid (show renderV d wd rb md = (noB, 1) by unfold renderV badArg; rw [e0, e1, e2, e3, e4, e5]; simp)
              clear b0 b1 b2 b3 b4 b5
              go_enter Tryd.func34, Tryd.ntmps34
              go_wp2
              go_ret2
              exact ⟨by rw [HR.out]; rfl, HB.out⟩
            · have e5 : decide (2 < md) = false := decide_eq_false b5
              have HBA := Lib.hid (show badArg wd rb md = false by unfold badArg; rw [e0, e1, e2, e3, e4, e5]; rfl)
              have hmul : wd * rb ≤ 10000000 := by
                have h1 : wd * rb ≤ 10000 * rb := Int.mul_le_mul_of_nonneg_right (by omega) (by omega)
                omega
              have hmul0 : 0 ≤ wd * rb := Int.mul_nonneg (by omega) (by omega)
              cases hc0 : (checkN d == 0) with
              | false =>
                have hc1 : (checkN d != 0) = true := by simp [bne, hc0]
                have HR := Lib.hid (show renderV d wd rb md = (noB, checkN d) by unfold renderV; rw [HBA.out, hc1]; rfl)
                go_enter Tryd.func34, Tryd.ntmps34
                go_wp2_with fail
                refine HC.out.mono ?_
                rintro e w2 ⟨rfl, hb2⟩
                have HB2 := Lib.hid (HB.out.trans (hb2.mono (by omega)))
                clear hb2
                go_wp2
                go_ret2
                exact ⟨by rw [HR.out]; rfl, HB2.out⟩
              | true =>
                have hc1 : (checkN d != 0) = false := by simp [bne, hc0]
                have hck : checkN d = 0 := by simpa using hc0
                have hf := check_form hck
                have HR := Lib.hid (show renderV d wd rb md = laidV (d.lay ⟨wd, wd * rb / 1000, md⟩ pen0 0 true) by unfold renderV; rw [HBA.out, hc1]; rfl)
                have HF := Lib.hid hf
                clear hck hf
                go_enter Tryd.func34, Tryd.ntmps34
                go_wp2_with fail
                refine HC.out.mono ?_
                rintro e w2 ⟨rfl, hb2⟩
                have HB2 := Lib.hid (HB.out.trans (hb2.mono (by omega)))
                have hx2 := HX.out.below hb2 (by omega)
                have hK2 := kidsAt_on HKW.out hb2
                have hs2 := hb2.size
                have hpen : PenAt w2.heap.size (w2.alloc (.cells #[.pointer none, .slice none 0 0, .int .i64 wd, .int .i64 (wd * rb / 1000), .int .i64 md, .int .i64 0, .int .i64 0, .int .i64 0, .int .i64 0, .bool false, .bool false] 67)) w2.heap.size (.slice none 0 0) (pfOf ⟨wd, wd * rb / 1000, md⟩ pen0 false) pen0.out :=
                  ⟨Nat.le_refl _, ⟨_, .inl rfl, heap_alloc_new w2 _⟩, World.ownsRow_nil _ _ _ _⟩
                have hb3 := (Below.refl w2.heap.size w2).alloc (Nat.le_refl _) (.cells #[.pointer none, .slice none 0 0, .int .i64 wd, .int .i64 (wd * rb / 1000), .int .i64 md, .int .i64 0, .int .i64 0, .int .i64 0, .int .i64 0, .bool false, .bool false] 67)
                obtain ⟨W3, hW3⟩ : ∃ W3, w2.alloc (.cells #[.pointer none, .slice none 0 0, .int .i64 wd, .int .i64 (wd * rb / 1000), .int .i64 md, .int .i64 0, .int .i64 0, .int .i64 0, .int .i64 0, .bool false, .bool false] 67) = W3 := ⟨_, rfl⟩
                rw [hW3] at hpen hb3
                have HK2 := Lib.hid hK2
                have HX2 := Lib.hid hx2
                have HX3 := Lib.hid (hx2.below hb3 (by omega))
                have HB3 := Lib.hid (HB2.out.trans (hb3.mono (by omega)))
                have HPEN := Lib.hid hpen
                have HL := Lib.hid (lay_says d.wt d (Nat.le_refl _) hB HF.out w2.heap.size w2.heap.size w2.heap.size (.slice none 0 0) ⟨wd, wd * rb / 1000, md⟩ pen0 false 0 0 true A cc W3 hpen ⟨by decide, by decide, by decide, by decide, by decide, by decide, by decide, by decide⟩ (fun _ _ _ _ => by show (0 : Int) ≤ max 0 _; omega) (by omega) (by omega) (by omega) (Nat.le_refl _) HNIL.out hcap (kidsAt_below HK2.out hb3))
                obtain ⟨y0, y1, y2, y3, _, _, _, _⟩ := hx2
                obtain ⟨x0, x1, x2, x3, _, _, _, _⟩ := HX3.out
                clear hb2 hb3 hpen hK2 z0 z1 z2 z3
                go_wp2_with fail
                refine HL.out.mono ?_
                rintro e w4 ⟨rfl, V4, q4, l4, hp4, hm4, hi4, hs4⟩
                have hs4' : Sim (d.lay ⟨wd, wd * rb / 1000, md⟩ pen0 0 true) q4 l4 := hs4
                have c10 := hp4.cells.c10
                simp only [pfOf] at c10
                have HB4 := Lib.hid (HB3.out.trans ((moved_below HPEN.out hm4).mono (by omega)))
                have HP4 := Lib.hid hp4
                clear hp4 hm4 hi4 hs4 HL x0 x1 x2 x3 y0 y1 y2 y3
                cases l4 with
                | true =>
                  have hR2 := Lib.hid (show d.lay ⟨wd, wd * rb / 1000, md⟩ pen0 0 true = none by
                    cases ho : d.lay ⟨wd, wd * rb / 1000, md⟩ pen0 0 true with
                    | none => rfl
                    | some p => rw [ho] at hs4'; exact absurd hs4'.2 (by simp))
                  clear hs4'
                  go_wp2
                  go_ret2
                  exact ⟨by rw [HR.out, hR2.out]; rfl, HB4.out⟩
                | false =>
                  have hR2 := Lib.hid (show d.lay ⟨wd, wd * rb / 1000, md⟩ pen0 0 true = some q4 by
                    cases ho : d.lay ⟨wd, wd * rb / 1000, md⟩ pen0 0 true with
                    | none => rw [ho] at hs4'; exact absurd hs4' (by simp [Sim])
                    | some p => rw [ho] at hs4'; rw [hs4'.1])
                  have HT4 := Lib.hid (btext_any w2.heap.size w2.heap.size V4 (pfOf ⟨wd, wd * rb / 1000, md⟩ q4 false) q4.out w4 HP4.out)
                  clear hs4'
                  go_wp2_with fail
                  refine HT4.out.mono ?_
                  rintro e w5 ⟨rfl, hb5⟩
                  have HB5 := Lib.hid (HB4.out.trans (hb5.mono (by omega)))
                  clear hb5
                  go_wp2
                  go_ret2
                  exact ⟨by rw [HR.out, hR2.out]; rfl, HB5.out⟩
end Go.Proofs.YtnpaplfdmpjfgaaDoor
