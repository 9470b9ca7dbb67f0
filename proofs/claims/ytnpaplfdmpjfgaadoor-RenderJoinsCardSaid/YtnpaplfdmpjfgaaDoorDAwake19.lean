/- What any right program answers: awake of layer 19; two documents laid out alike. -/
import Derived.Test.YtnpaplfdmpjfgaaDoorDMuch
import Derived.Test.YtnpaplfdmpjfgaaDoorDWide
import Derived.Test.YtnpaplfdmpjfgaaDoorDAwake
namespace Go.Proofs.YtnpaplfdmpjfgaaDoor
open Go.RowKit

def dS : Doc := ⟨7, ⟨#[]⟩, 0, [⟨1, ⟨#[97]⟩, 0, []⟩, ⟨1, ⟨#[98]⟩, 0, []⟩]⟩
def dT : Doc := ⟨1, ⟨#[116, 104, 101, 114, 101]⟩, 0, []⟩
def dM : Doc := ⟨2, ⟨#[]⟩, 5, [dT]⟩
def dO : Doc := ⟨5, ⟨#[]⟩, 0, [⟨1, ⟨#[104, 105]⟩, 0, []⟩, dM]⟩
theorem mayS : dS.may = true := by
  have pe := plain_e
  have pa := plain_1 97 (by decide) (by decide)
  have pb := plain_1 98 (by decide) (by decide)
  simp only [dS, Doc.may, mays, here_form, pe, pa, pb]
  decide
theorem plain_hi : plainF ⟨#[104, 105]⟩ = true := by
  have h : (⟨#[104, 105]⟩ : ByteArray) = (⟨#[104]⟩ : ByteArray) ++ ⟨#[105]⟩ := bytes_eq (by rw [data_app]; rfl)
  rw [h]
  exact plainF_app (plain_1 104 (by decide) (by decide)) (plain_1 105 (by decide) (by decide))
theorem plain_there : plainF ⟨#[116, 104, 101, 114, 101]⟩ = true := by
  have h : (⟨#[116, 104, 101, 114, 101]⟩ : ByteArray) = (⟨#[116]⟩ : ByteArray) ++ (⟨#[104]⟩ ++ (⟨#[101]⟩ ++ (⟨#[114]⟩ ++ ⟨#[101]⟩))) := bytes_eq (by simp only [data_app]; rfl)
  rw [h]
  exact plainF_app (plain_1 116 (by decide) (by decide)) (plainF_app (plain_1 104 (by decide) (by decide)) (plainF_app (plain_1 101 (by decide) (by decide)) (plainF_app (plain_1 114 (by decide) (by decide)) (plain_1 101 (by decide) (by decide)))))
theorem mayO : dO.may = true := by
  have pe := plain_e
  have pa := plain_hi
  have pb := plain_there
  simp only [dO, dM, dT, Doc.may, mays, here_form, pe, pa, pb]
  decide
theorem checkS : checkN dS = 0 := check_ok (by decide) mayS
theorem checkO : checkN dO = 0 := check_ok (by decide) mayO
theorem lay_S3 : dS.lay ⟨3, 3, 0⟩ pen0 0 true = some ⟨[97, 32, 98], 3, 0, true, 0, 0⟩ := by kernel_rfl
theorem lay_S2 : dS.lay ⟨2, 2, 0⟩ pen0 0 true = some ⟨[97, 10, 98], 1, 0, true, 0, 1⟩ := by kernel_rfl
theorem lay_O : dO.lay ⟨80, 80, 0⟩ pen0 0 true = some ⟨[104, 105, 32, 32, 32, 116, 104, 101, 114, 101], 10, 0, true, 0, 0⟩ := by kernel_rfl
theorem render_S3 : renderV dS 3 1000 0 = (⟨#[97, 32, 98]⟩, 0) := by
  unfold renderV
  rw [show badArg 3 1000 0 = false by decide, checkS, show ((3 : Int) * 1000 / 1000) = 3 by decide, lay_S3]
  rfl
theorem render_S2 : renderV dS 2 1000 0 = (⟨#[97, 10, 98]⟩, 0) := by
  unfold renderV
  rw [show badArg 2 1000 0 = false by decide, checkS, show ((2 : Int) * 1000 / 1000) = 2 by decide, lay_S2]
  rfl
theorem render_O : renderV dO 80 1000 0 = (⟨#[104, 105, 32, 32, 32, 116, 104, 101, 114, 101]⟩, 0) := by
  unfold renderV
  rw [show badArg 80 1000 0 = false by decide, checkO, show ((80 : Int) * 1000 / 1000) = 80 by decide, lay_O]
  rfl
theorem widest_S : widest ⟨#[97, 10, 98]⟩ = 1 := by kernel_rfl

theorem rend_said {d : Doc} {wd rb md : Int} {w w' : World} {e : Ending} {s : ByteArray} {n : Int} (h : RendSaid d wd rb md w e w') (hr : renderV d wd rb md = (s, n)) : e = .returned (.tuple #[.string s, .int .i64 n]) ∧ Below w.heap.size w w' := by
  obtain ⟨h1, h2⟩ := h
  rw [hr] at h1
  exact ⟨h1, h2⟩

set_option maxRecDepth 100000 in
set_option maxHeartbeats 4000000 in
theorem same19_any (d d' : Doc) (A A' : Option Addr) (c c' : Nat) (wd rb md : Int) (w : World) (hB : d.wt ≤ 16777216) (hB' : d'.wt ≤ 16777216) (hT : Lib.Utf8Tabs 1 2 w) (hnil : A = none → c = 0) (hnil' : A' = none → c' = 0) (hcap : d.kids.length ≤ c) (hcap' : d'.kids.length ≤ c')
    (hK : KidsAt w.heap.size w d.kids A) (hK' : KidsAt w.heap.size w d'.kids A') (hr : renderV d wd rb md = renderV d' wd rb md) :
    Calls Tryd.prog 39 #[.agg #[.int .i64 d.kind, .string d.text, .int .i64 d.n, .slice A d.kids.length c], .agg #[.int .i64 d'.kind, .string d'.text, .int .i64 d'.n, .slice A' d'.kids.length c'], .agg #[.int .i64 wd, .int .i64 rb, .int .i64 md]] w fun e w' => e = .returned (.bool true) ∧ Below w.heap.size w w' := by
  obtain ⟨hbx, hb0, hs0⟩ := box_new w (.int .i64 d.kind) (.string d.text) (.int .i64 d.n) (.slice A d.kids.length c)
  obtain ⟨W0, hW0⟩ : ∃ W0, w.alloc (.cells #[.int .i64 d.kind, .string d.text, .int .i64 d.n, .slice A d.kids.length c] 24) = W0 := ⟨_, rfl⟩
  rw [hW0] at hbx hb0 hs0
  obtain ⟨hby, hb1, hs1⟩ := box_new W0 (.int .i64 d'.kind) (.string d'.text) (.int .i64 d'.n) (.slice A' d'.kids.length c')
  obtain ⟨W1, hW1⟩ : ∃ W1, W0.alloc (.cells #[.int .i64 d'.kind, .string d'.text, .int .i64 d'.n, .slice A' d'.kids.length c'] 24) = W1 := ⟨_, rfl⟩
  rw [hW1] at hby hb1 hs1
  have hb2 := (Below.refl W1.heap.size W1).alloc (Nat.le_refl _) (.cells #[.int .i64 wd, .int .i64 rb, .int .i64 md] 41)
  have t0 : (W1.alloc (.cells #[.int .i64 wd, .int .i64 rb, .int .i64 md] 41)).cell? ⟨W1.heap.size, 0, none⟩ = some (.int .i64 wd) := by simp
  have t1 : (W1.alloc (.cells #[.int .i64 wd, .int .i64 rb, .int .i64 md] 41)).cell? ⟨W1.heap.size, 1, none⟩ = some (.int .i64 rb) := by simp
  have t2 : (W1.alloc (.cells #[.int .i64 wd, .int .i64 rb, .int .i64 md] 41)).cell? ⟨W1.heap.size, 2, none⟩ = some (.int .i64 md) := by simp
  obtain ⟨W2, hW2⟩ : ∃ W2, W1.alloc (.cells #[.int .i64 wd, .int .i64 rb, .int .i64 md] 41) = W2 := ⟨_, rfl⟩
  have hs2 : W2.heap.size = W1.heap.size + 1 := by rw [← hW2]; simp
  rw [hW2] at hb2 t0 t1 t2
  have hx2 := (hbx.below hb1 (by omega)).below hb2 (by omega)
  have hy2 := hby.below hb2 (by omega)
  have hl0 : w.heap.size < W0.heap.size := by omega
  have hl1 : W0.heap.size < W1.heap.size := by omega
  have hl2 : W1.heap.size < W2.heap.size := by omega
  have hb02 := (hb0.trans (hb1.mono (by omega))).trans (hb2.mono (by omega))
  have HB := Lib.hid hb02
  have HK' := Lib.hid (kidsAt_on hK' hb02)
  have HT := Lib.hid (Utf8Tabs_below hT hb02)
  have HY := Lib.hid hy2
  have HTT := Lib.hid (And.intro t0 (And.intro t1 t2))
  have HC := Lib.hid (render_any d A c wd rb md W2 hB HT.out hnil hcap (kidsAt_on hK hb02))
  have HNIL' := Lib.hid hnil'
  have HR := Lib.hid hr
  obtain ⟨x0, x1, x2, x3, _, _, _, _⟩ := hx2
  clear hbx hb0 hs0 hby hb1 hs1 hb2 hs2 hy2 hb02 hK hK' hT hnil hnil' hr
  go_enter Tryd.func39, Tryd.ntmps39
  go_wp2_with fail
  clear hW0 hW1 hW2
  refine HC.out.mono ?_
  rintro e w3 ⟨rfl, hb3⟩
  obtain ⟨y0, y1, y2, y3, _, _, _, _⟩ := HY.out.below hb3 (by omega)
  obtain ⟨t0', t1', t2'⟩ := HTT.out
  have u0 := (hb3.cell (p := ⟨W1.heap.size, 0, none⟩) hl2).trans t0'
  have u1 := (hb3.cell (p := ⟨W1.heap.size, 1, none⟩) hl2).trans t1'
  have u2 := (hb3.cell (p := ⟨W1.heap.size, 2, none⟩) hl2).trans t2'
  have HC2 := Lib.hid (render_any d' A' c' wd rb md w3 hB' (Utf8Tabs_below HT.out hb3) HNIL'.out hcap' (kidsAt_on HK'.out hb3))
  have HB3 := Lib.hid (HB.out.trans (hb3.mono (by omega)))
  clear hb3 t0 t1 t2 t0' t1' t2' x0 x1 x2 x3 HC
  go_wp2_with fail
  refine HC2.out.mono ?_
  rintro e w4 ⟨rfl, hb4⟩
  rw [HR.out]
  have HB4 := Lib.hid (HB3.out.trans (hb4.mono HB3.out.size))
  clear hb4
  go_wp2
  go_ret
  exact ⟨rfl, HB4.out⟩

set_option maxRecDepth 100000 in
set_option maxHeartbeats 8000000 in
theorem awake19_any (w : World) (hT : Lib.Utf8Tabs 1 2 w) (hm : MaxI w) : Calls Tryd.prog 33 #[] w fun e w' => e = .returned (.bool true) ∧ Below w.heap.size w w' := by
  have HT := Lib.hid hT
  have HM := Lib.hid hm
  clear hT hm
  go_enter Tryd.func33, Tryd.ntmps33
  go_wp2_with fail
  refine (str19_any ⟨#[97]⟩ w).mono ?_
  rintro e w1 ⟨rfl, hb1⟩
  have HB1 := Lib.hid hb1
  clear hb1
  go_wp2_with fail
  refine (str19_any ⟨#[98]⟩ w1).mono ?_
  rintro e w2 ⟨rfl, hb2⟩
  have HB2 := Lib.hid (HB1.out.trans (hb2.mono HB1.out.size))
  clear hb2 HB1
  have hk3 := kidsAt_lit [⟨⟨1, ⟨#[97]⟩, 0, []⟩, none, 0⟩, ⟨⟨1, ⟨#[98]⟩, 0, []⟩, none, 0⟩] w2 (by simp) (by
    intro t ht
    simp only [List.mem_cons, List.not_mem_nil, or_false] at ht
    rcases ht with rfl | rfl <;> exact ⟨Nat.le_refl _, fun _ => rfl, trivial⟩)
  have hb3 := (Below.refl w2.heap.size w2).alloc (Nat.le_refl _) (.cells #[.int .i64 1, .string ⟨#[97]⟩, .int .i64 0, .slice none 0 0, .int .i64 1, .string ⟨#[98]⟩, .int .i64 0, .slice none 0 0] 24)
  obtain ⟨W3, hW3⟩ : ∃ W3, w2.alloc (.cells #[.int .i64 1, .string ⟨#[97]⟩, .int .i64 0, .slice none 0 0, .int .i64 1, .string ⟨#[98]⟩, .int .i64 0, .slice none 0 0] 24) = W3 := ⟨_, rfl⟩
  rw [hW3] at hb3
  have hk3 : KidsAt W3.heap.size W3 dS.kids (some ⟨w2.heap.size, 0, none⟩) := by rw [← hW3]; exact hk3
  have HK3 := Lib.hid hk3
  have HB3 := Lib.hid (HB2.out.trans (hb3.mono HB2.out.size))
  clear hk3 hb3
  go_wp2_with fail
  refine (of19_any 7 (some ⟨w2.heap.size, 0, none⟩) 2 2 W3).mono ?_
  rintro e w4 ⟨rfl, hb4⟩
  have HB4 := Lib.hid (HB3.out.trans (hb4.mono HB3.out.size))
  have HK4 := Lib.hid (kidsAt_on HK3.out hb4)
  clear hb4 hW3 HK3 HB2 HB3
  obtain ⟨hbx, hbx1, hbx2⟩ := box_new w4 (.int .i64 7) (.string ⟨#[]⟩) (.int .i64 0) (.slice (some ⟨w2.heap.size, 0, none⟩) 2 2)
  obtain ⟨W5, hW5⟩ : ∃ W, w4.alloc (.cells #[.int .i64 7, .string ⟨#[]⟩, .int .i64 0, .slice (some ⟨w2.heap.size, 0, none⟩) 2 2] 24) = W := ⟨_, rfl⟩
  rw [hW5] at hbx hbx1 hbx2
  have HBX := Lib.hid hbx
  have HB5 := Lib.hid (HB4.out.trans (hbx1.mono HB4.out.size))
  have HK5 := Lib.hid (kidsAt_on HK4.out hbx1)
  have HS5 := Lib.hid (show w4.heap.size < W5.heap.size by omega)
  have HC6 := Lib.hid (render_any dS (some ⟨w2.heap.size, 0, none⟩) 2 3 1000 0 W5 (by decide) (Utf8Tabs_below HT.out HB5.out) (fun e => nomatch e) (by decide) HK5.out)
  obtain ⟨x0, x1, x2, x3, _, _, _, _⟩ := hbx
  clear hbx1 hbx2 HK4 HB4
  go_wp2_with fail
  clear hW5
  refine HC6.out.mono ?_
  intro e w6 h6
  obtain ⟨rfl, hb6⟩ := rend_said h6 render_S3
  have HB6 := Lib.hid (HB5.out.trans (hb6.mono HB5.out.size))
  have hx6 := HBX.out.below hb6 HS5.out
  have HC7 := Lib.hid (render_any dS (some ⟨w2.heap.size, 0, none⟩) 2 2 1000 0 w6 (by decide) (Utf8Tabs_below HT.out HB6.out) (fun e => nomatch e) (by decide) (kidsAt_on HK5.out hb6))
  obtain ⟨y0, y1, y2, y3, _, _, _, _⟩ := hx6
  clear h6 hb6 HC6 x0 x1 x2 x3
  go_wp2_with fail
  refine HC7.out.mono ?_
  intro e w7 h7
  obtain ⟨rfl, hb7⟩ := rend_said h7 render_S2
  have HB7 := Lib.hid (HB6.out.trans (hb7.mono HB6.out.size))
  clear h7 hb7 HC7 y0 y1 y2 y3
  go_wp2_with fail
  refine (str19_any ⟨#[104, 105]⟩ w7).mono ?_
  rintro e w8 ⟨rfl, hb8⟩
  have HB8 := Lib.hid (HB7.out.trans (hb8.mono HB7.out.size))
  clear hb8
  go_wp2_with fail
  refine (str19_any ⟨#[116, 104, 101, 114, 101]⟩ w8).mono ?_
  rintro e w9 ⟨rfl, hb9⟩
  have HB9 := Lib.hid (HB8.out.trans (hb9.mono HB8.out.size))
  clear hb9
  have HC9 := Lib.hid (nest19_any 5 dT none 0 w9 (fun _ => rfl) (Nat.le_refl _) trivial)
  go_wp2_with fail
  refine HC9.out.mono ?_
  rintro e w10 ⟨g, rfl, hk10, hb10⟩
  have HB10 := Lib.hid (HB9.out.trans (hb10.mono HB9.out.size))
  have HK10 := Lib.hid hk10
  clear hb10 hk10 HC9
  have hk11 := kidsAt_lit [⟨⟨1, ⟨#[104, 105]⟩, 0, []⟩, none, 0⟩, ⟨dM, some ⟨g, 0, none⟩, 1⟩] w10 (by simp) (by
    intro t ht
    simp only [List.mem_cons, List.not_mem_nil, or_false] at ht
    rcases ht with rfl | rfl; exact ⟨Nat.le_refl _, fun _ => rfl, trivial⟩; exact ⟨Nat.le_refl _, fun e => (nomatch e), HK10.out⟩)
  have hb11 := (Below.refl w10.heap.size w10).alloc (Nat.le_refl _) (.cells #[.int .i64 1, .string ⟨#[104, 105]⟩, .int .i64 0, .slice none 0 0, .int .i64 2, .string ⟨#[]⟩, .int .i64 5, .slice (some ⟨g, 0, none⟩) 1 1] 24)
  obtain ⟨W11, hW11⟩ : ∃ W, w10.alloc (.cells #[.int .i64 1, .string ⟨#[104, 105]⟩, .int .i64 0, .slice none 0 0, .int .i64 2, .string ⟨#[]⟩, .int .i64 5, .slice (some ⟨g, 0, none⟩) 1 1] 24) = W := ⟨_, rfl⟩
  rw [hW11] at hb11
  have hk11 : KidsAt W11.heap.size W11 dO.kids (some ⟨w10.heap.size, 0, none⟩) := by rw [← hW11]; exact hk11
  have HK11 := Lib.hid hk11
  have HB11 := Lib.hid (HB10.out.trans (hb11.mono HB10.out.size))
  clear hk11 hb11
  go_wp2_with fail
  refine (of19_any 5 (some ⟨w10.heap.size, 0, none⟩) 2 2 W11).mono ?_
  rintro e w12 ⟨rfl, hb12⟩
  have HB12 := Lib.hid (HB11.out.trans (hb12.mono HB11.out.size))
  have HC12 := Lib.hid (render_any dO (some ⟨w10.heap.size, 0, none⟩) 2 80 1000 0 w12 (by decide) (Utf8Tabs_below HT.out HB12.out) (fun e => nomatch e) (by decide) (kidsAt_on HK11.out hb12))
  clear hb12 hW11 HK10
  go_wp2_with fail
  refine HC12.out.mono ?_
  intro e w13 h13
  obtain ⟨rfl, hb13⟩ := rend_said h13 render_O
  have HB13 := Lib.hid (HB12.out.trans (hb13.mono HB12.out.size))
  have HC13 := Lib.hid (pwidest_any ⟨#[97, 10, 98]⟩ (by decide) w13 (HM.out.below HB13.out))
  clear h13 hb13 HC12
  go_wp2_with fail
  refine HC13.out.mono ?_
  rintro e w14 ⟨rfl, hb14⟩
  rw [widest_S]
  have HB14 := Lib.hid (HB13.out.trans (hb14.mono HB13.out.size))
  clear hb14 HC13
  go_wp2
  go_ret
  exact ⟨rfl, HB14.out⟩
end Go.Proofs.YtnpaplfdmpjfgaaDoor
