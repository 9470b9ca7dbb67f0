/- What any right program answers: awake of layer 18. -/
import Derived.Test.YtnpaplfdmpjfgaaDoorDTop
import Derived.Test.YtnpaplfdmpjfgaaDoorDFlatP
import Derived.Test.YtnpaplfdmpjfgaaDoorDSame
namespace Go.Proofs.YtnpaplfdmpjfgaaDoor
open Go.RowKit

def dI : Doc := ⟨3, ⟨#[]⟩, 0, [⟨0, ⟨#[]⟩, 0, []⟩, ⟨1, ⟨#[98]⟩, 0, []⟩]⟩
def dA : Doc := ⟨3, ⟨#[]⟩, 0, [⟨1, ⟨#[97]⟩, 0, []⟩, dI]⟩
def dN : Doc := ⟨2, ⟨#[]⟩, 2, [⟨1, ⟨#[98]⟩, 0, []⟩]⟩
def dF : Doc := ⟨7, ⟨#[]⟩, 0, [⟨1, ⟨#[97]⟩, 0, []⟩, dN]⟩
def dL : Doc := ⟨2, ⟨#[]⟩, 3, [dA]⟩
theorem dec_a : goodFrom ⟨#[97]⟩ 1 0 = true := by
  rw [goodFrom_step _ 0 0 97 1 (by decide) (by rw [dec_lo _ _ (by decide)]; rfl) (by rw [dec_lo _ _ (by decide)])]
  rfl
theorem plain_e : plainF ⟨#[]⟩ = true := by
  unfold plainF lowless good
  simp only [Bool.and_eq_true, decide_eq_true_eq]
  exact ⟨rfl, fun j hj => absurd hj (by simp [ByteArray.size])⟩
theorem plain_1 (x : UInt8) (h : 32 ≤ x.toNat) (h1 : x.toNat < 128) : plainF ⟨#[x]⟩ = true := by
  have hb : byteN ⟨#[x]⟩ 0 = x.toNat := rfl
  unfold plainF lowless good
  simp only [Bool.and_eq_true, decide_eq_true_eq]
  constructor
  · have hs : (⟨#[x]⟩ : ByteArray).size = 1 := rfl
    rw [hs, goodFrom_step _ 0 0 x.toNat 1 (by rw [hs]; decide) (by rw [dec_lo _ _ (by rw [hb]; omega), hb]) (by rw [dec_lo _ _ (by rw [hb]; omega)]), if_neg (by omega)]
    rfl
  · intro j hj
    have hj0 : j = 0 := by simp [ByteArray.size] at hj; exact hj
    subst hj0
    rw [hb]
    exact h
theorem numA : dA.num = 5 := rfl
theorem mayA : dA.may = true := by
  have pe := plain_e
  have pa := plain_1 97 (by decide) (by decide)
  have pb := plain_1 98 (by decide) (by decide)
  simp only [dA, dI, Doc.may, mays, here_form, pe, pa, pb]
  decide
theorem checkA : checkN dA = 0 := check_ok (by rw [numA]; decide) mayA
theorem flatF : dF.flat = some ⟨#[97, 32, 98]⟩ := by
  simp only [dF, dN, Doc.flat, flats, Doc.void, voids]
  rfl
theorem tidyA : dA.tidyV = ⟨1, ⟨#[97, 98]⟩, 0, []⟩ := by
  unfold Doc.tidyV
  rw [checkA]
  rfl
theorem leadL : dL.lead = 3 := by
  rfl

/-- Documents that a statement puts into a new row. -/
theorem kidsAt_lit (l : List DV) (w : World) (hl : l.length ≤ 1000) (h : ∀ t ∈ l, t.Ok w.heap.size w) : KidsAt (w.alloc (.cells (flatD l).toArray 24)).heap.size (w.alloc (.cells (flatD l).toArray 24)) (l.map DV.d) (some ⟨w.heap.size, 0, none⟩) := by
  have ho := World.ownsRow_lit (base := w.heap.size) (e := 24) (size := 4) w (flatD l).toArray l.length (Nat.le_refl _) (by unfold maxLen; omega) (by simpa using flatD_length l)
  have hb := (Below.refl w.heap.size w).alloc (Nat.le_refl _) (.cells (flatD l).toArray 24)
  obtain ⟨A, c, hv, _, _, hk⟩ := own_kidsIn (S := fun b => b < (w.alloc (.cells (flatD l).toArray 24)).heap.size) ho (fun t ht => ((h t ht).below hb).in_.later (fun b hlt => Nat.lt_of_lt_of_le hlt hb.size) fun _ _ _ => rfl) (fun g hg => (ho.lt g hg).2)
  simp only [Value.slice.injEq, true_and] at hv
  rw [hv.1]
  exact in_at.1 hk

theorem tidyA_said {w : World} {e : Ending} {w' : World} (h : TidyOut dA w e w') : ∃ A c, e = .returned (.agg #[.int .i64 1, .string ⟨#[97, 98]⟩, .int .i64 0, .slice A 0 c]) ∧ Below w.heap.size w w' := by
  obtain ⟨A, c, h1, _, h3⟩ := h
  rw [tidyA] at h1
  exact ⟨A, c, h1, h3⟩
theorem flatF_said {w : World} {e : Ending} {w' : World} (h : FlatSaid dF w e w') : e = .returned (.tuple #[.string ⟨#[97, 32, 98]⟩, .bool true]) ∧ Below w.heap.size w w' := by
  obtain ⟨h1, h3⟩ := h
  rw [flatF] at h1
  exact ⟨h1, h3⟩

set_option maxRecDepth 100000 in
set_option maxHeartbeats 4000000 in
theorem awake_any (w : World) (hT : Lib.Utf8Tabs 1 2 w) : Calls Tryd.prog 16 #[] w fun e w' => e = .returned (.bool true) ∧ Below w.heap.size w w' := by
  have HT := Lib.hid hT
  clear hT
  go_enter Tryd.func16, Tryd.ntmps16
  go_wp2_with fail
  refine (str_any ⟨#[97]⟩ w).mono ?_
  rintro e w1 ⟨rfl, hb1⟩
  have HB1 := Lib.hid hb1
  clear hb1
  go_wp2_with fail
  refine (str_any ⟨#[98]⟩ w1).mono ?_
  rintro e w2 ⟨rfl, hb2⟩
  have HB2 := Lib.hid (HB1.out.trans (hb2.mono HB1.out.size))
  clear hb2 HB1
  have hk3 := kidsAt_lit [⟨⟨0, ⟨#[]⟩, 0, []⟩, none, 0⟩, ⟨⟨1, ⟨#[98]⟩, 0, []⟩, none, 0⟩] w2 (by decide) (by
    intro t ht
    simp only [List.mem_cons, List.not_mem_nil, or_false] at ht
    rcases ht with rfl | rfl <;> exact ⟨Nat.le_refl _, fun _ => rfl, trivial⟩)
  have hb3 := (Below.refl w2.heap.size w2).alloc (Nat.le_refl _) (.cells #[.int .i64 0, .string ⟨#[]⟩, .int .i64 0, .slice none 0 0, .int .i64 1, .string ⟨#[98]⟩, .int .i64 0, .slice none 0 0] 24)
  obtain ⟨W3, hW3⟩ : ∃ W3, w2.alloc (.cells #[.int .i64 0, .string ⟨#[]⟩, .int .i64 0, .slice none 0 0, .int .i64 1, .string ⟨#[98]⟩, .int .i64 0, .slice none 0 0] 24) = W3 := ⟨_, rfl⟩
  rw [hW3] at hb3
  have hk3 : KidsAt W3.heap.size W3 dI.kids (some ⟨w2.heap.size, 0, none⟩) := by rw [← hW3]; exact hk3
  have HK3 := Lib.hid hk3
  have HB3 := Lib.hid (HB2.out.trans (hb3.mono HB2.out.size))
  clear hk3 hb3
  go_wp2_with fail
  refine (of_any 3 (some ⟨w2.heap.size, 0, none⟩) 2 2 W3).mono ?_
  rintro e w4 ⟨rfl, hb4⟩
  have HB4 := Lib.hid (HB3.out.trans (hb4.mono HB3.out.size))
  have HK4 := Lib.hid (kidsAt_on HK3.out hb4)
  clear hb4 hW3 HK3 HB2 HB3
  have hk := kidsAt_lit [⟨⟨1, ⟨#[97]⟩, 0, []⟩, none, 0⟩, ⟨dI, some ⟨w2.heap.size, 0, none⟩, 2⟩] w4 (by simp) (by
    intro t ht
    simp only [List.mem_cons, List.not_mem_nil, or_false] at ht
    rcases ht with rfl | rfl; exact ⟨Nat.le_refl _, fun _ => rfl, trivial⟩; exact ⟨Nat.le_refl _, fun e => (nomatch e), HK4.out⟩)
  have hb := (Below.refl w4.heap.size w4).alloc (Nat.le_refl _) (.cells #[.int .i64 1, .string ⟨#[97]⟩, .int .i64 0, .slice none 0 0, .int .i64 3, .string ⟨#[]⟩, .int .i64 0, .slice (some ⟨w2.heap.size, 0, none⟩) 2 2] 24)
  obtain ⟨W5, hW5⟩ : ∃ W, w4.alloc (.cells #[.int .i64 1, .string ⟨#[97]⟩, .int .i64 0, .slice none 0 0, .int .i64 3, .string ⟨#[]⟩, .int .i64 0, .slice (some ⟨w2.heap.size, 0, none⟩) 2 2] 24) = W := ⟨_, rfl⟩
  rw [hW5] at hb
  have hk : KidsAt W5.heap.size W5 dA.kids (some ⟨w4.heap.size, 0, none⟩) := by rw [← hW5]; exact hk
  have HW5 := Lib.hid hb
  have HKW5 := Lib.hid hk
  clear hk hb
  have HB5 := Lib.hid (HB4.out.trans (HW5.out.mono HB4.out.size))
  go_wp2_with fail
  refine (of_any 3 (some ⟨w4.heap.size, 0, none⟩) 2 2 W5).mono ?_
  rintro e w6 ⟨rfl, hb6⟩
  have HB6 := Lib.hid (HB5.out.trans (hb6.mono HB5.out.size))
  have HK6 := Lib.hid (kidsAt_on HKW5.out hb6)
  clear hb6 hW5 HW5 HKW5 HB4 HB5 HK4
  obtain ⟨hbx, hbx1, hbx2⟩ := box_new w6 (.int .i64 3) (.string ⟨#[]⟩) (.int .i64 0) (.slice (some ⟨w4.heap.size, 0, none⟩) 2 2)
  obtain ⟨W7, hW7⟩ : ∃ W, w6.alloc (.cells #[.int .i64 3, .string ⟨#[]⟩, .int .i64 0, .slice (some ⟨w4.heap.size, 0, none⟩) 2 2] 24) = W := ⟨_, rfl⟩
  rw [hW7] at hbx hbx1 hbx2
  have HBX7 := Lib.hid hbx
  have HB7 := Lib.hid (HB6.out.trans (hbx1.mono HB6.out.size))
  have HK7 := Lib.hid (kidsAt_on HK6.out hbx1)
  have HS7 := Lib.hid (show w6.heap.size < W7.heap.size by omega)
  clear hbx hbx1 hbx2 HK6 HB6
  go_wp2_with fail
  refine (str_any ⟨#[97]⟩ W7).mono ?_
  rintro e w8 ⟨rfl, hb8⟩
  have H8 := Lib.hid hb8
  clear hb8 hW7
  go_wp2_with fail
  refine (str_any ⟨#[98]⟩ w8).mono ?_
  rintro e w9 ⟨rfl, hb9⟩
  have H9 := Lib.hid (H8.out.trans (hb9.mono H8.out.size))
  clear hb9 H8
  have hk := kidsAt_lit [⟨⟨1, ⟨#[98]⟩, 0, []⟩, none, 0⟩] w9 (by decide) (by
    intro t ht
    simp only [List.mem_cons, List.not_mem_nil, or_false] at ht
    rcases ht with rfl; exact ⟨Nat.le_refl _, fun _ => rfl, trivial⟩)
  have hb := (Below.refl w9.heap.size w9).alloc (Nat.le_refl _) (.cells #[.int .i64 1, .string ⟨#[98]⟩, .int .i64 0, .slice none 0 0] 24)
  obtain ⟨W10, hW10⟩ : ∃ W, w9.alloc (.cells #[.int .i64 1, .string ⟨#[98]⟩, .int .i64 0, .slice none 0 0] 24) = W := ⟨_, rfl⟩
  rw [hW10] at hb
  have hk : KidsAt W10.heap.size W10 dN.kids (some ⟨w9.heap.size, 0, none⟩) := by rw [← hW10]; exact hk
  have HW10 := Lib.hid hb
  have HKW10 := Lib.hid hk
  clear hk hb
  have hk := kidsAt_lit [⟨⟨1, ⟨#[97]⟩, 0, []⟩, none, 0⟩, ⟨dN, some ⟨w9.heap.size, 0, none⟩, 1⟩] W10 (by simp) (by
    intro t ht
    simp only [List.mem_cons, List.not_mem_nil, or_false] at ht
    rcases ht with rfl | rfl; exact ⟨Nat.le_refl _, fun _ => rfl, trivial⟩; exact ⟨Nat.le_refl _, fun e => (nomatch e), HKW10.out⟩)
  have hb := (Below.refl W10.heap.size W10).alloc (Nat.le_refl _) (.cells #[.int .i64 1, .string ⟨#[97]⟩, .int .i64 0, .slice none 0 0, .int .i64 2, .string ⟨#[]⟩, .int .i64 2, .slice (some ⟨w9.heap.size, 0, none⟩) 1 1] 24)
  obtain ⟨W11, hW11⟩ : ∃ W, W10.alloc (.cells #[.int .i64 1, .string ⟨#[97]⟩, .int .i64 0, .slice none 0 0, .int .i64 2, .string ⟨#[]⟩, .int .i64 2, .slice (some ⟨w9.heap.size, 0, none⟩) 1 1] 24) = W := ⟨_, rfl⟩
  rw [hW11] at hb
  have hk : KidsAt W11.heap.size W11 dF.kids (some ⟨W10.heap.size, 0, none⟩) := by rw [← hW11]; exact hk
  have HW11 := Lib.hid hb
  have HKW11 := Lib.hid hk
  clear hk hb
  have H11 := Lib.hid ((H9.out.trans (HW10.out.mono H9.out.size)).trans (HW11.out.mono (Nat.le_trans H9.out.size HW10.out.size)))
  go_wp2_with fail
  refine (of_any 7 (some ⟨W10.heap.size, 0, none⟩) 2 2 W11).mono ?_
  rintro e w12 ⟨rfl, hb12⟩
  have H12 := Lib.hid (H11.out.trans (hb12.mono H11.out.size))
  have HKF := Lib.hid (kidsAt_on HKW11.out hb12)
  clear hb12 hW10 hW11 HW10 HKW10 HW11 HKW11 H9 H11
  go_wp2_with fail
  refine (flat_any dF.wt dF (some ⟨W10.heap.size, 0, none⟩) 2 w12 (Nat.le_refl _) (by decide) HKF.out).mono ?_
  intro e w13 h13
  obtain ⟨rfl, hb13⟩ := flatF_said h13
  have H13 := Lib.hid (H12.out.trans (hb13.mono H12.out.size))
  have HB13 := Lib.hid (HB7.out.trans (H13.out.mono HB7.out.size))
  have hx13 := HBX7.out.below H13.out HS7.out
  have HX13 := Lib.hid hx13
  obtain ⟨x0, x1, x2, x3, _, _, _, _⟩ := hx13
  have HC14 := Lib.hid (pcheck_any dA (some ⟨w4.heap.size, 0, none⟩) 2 w13 (by decide) (Utf8Tabs_below HT.out HB13.out) (kidsAt_on HK7.out H13.out))
  have HS13 := Lib.hid (show w6.heap.size < w13.heap.size by have := HS7.out; have := H13.out.size; omega)
  clear h13 hb13 H12 HKF
  go_wp2_with fail
  refine HC14.out.mono ?_
  rintro e w14 ⟨rfl, hb14⟩
  rw [checkA]
  have H14 := Lib.hid (H13.out.trans (hb14.mono H13.out.size))
  clear x0 x1 x2 x3 HC14
  go_wp2_with fail
  refine (void_any ⟨0, ⟨#[]⟩, 0, []⟩ none 0 w14 (by decide) trivial).mono ?_
  rintro e w15 ⟨rfl, hb15⟩
  have H15 := Lib.hid (H14.out.trans (hb15.mono H14.out.size))
  rw [show (⟨0, ⟨#[]⟩, 0, []⟩ : Doc).void = true from rfl]
  obtain ⟨x0, x1, x2, x3, _, _, _, _⟩ := HBX7.out.below H15.out HS7.out
  have HB15 := Lib.hid (HB7.out.trans (H15.out.mono HB7.out.size))
  have HC16 := Lib.hid (ptidy_any dA (some ⟨w4.heap.size, 0, none⟩) 2 w15 (by decide) (Utf8Tabs_below HT.out HB15.out) (fun e => nomatch e) (kidsAt_on HK7.out H15.out))
  clear hb14 hb15 H14
  go_wp2_with fail
  refine HC16.out.mono ?_
  intro e w16 h16
  obtain ⟨A16, c16, rfl, hb16⟩ := tidyA_said h16
  have H16 := Lib.hid (H15.out.trans (hb16.mono H15.out.size))
  clear h16 hb16 HC16 x0 x1 x2 x3
  go_wp2_with fail
  refine (str_any ⟨#[97, 98]⟩ w16).mono ?_
  rintro e w17 ⟨rfl, hb17⟩
  have H17 := Lib.hid (H16.out.trans (hb17.mono H16.out.size))
  clear hb17
  go_wp2_with fail
  refine (same_any 3 ⟨1, ⟨#[97, 98]⟩, 0, []⟩ A16 none c16 0 w17 (by decide) (by decide) trivial trivial).mono ?_
  rintro e w18 ⟨rfl, hb18⟩
  have H18 := Lib.hid (H17.out.trans (hb18.mono H17.out.size))
  obtain ⟨x0, x1, x2, x3, _, _, _, _⟩ := HBX7.out.below H18.out HS7.out
  have HK18 := Lib.hid (kidsAt_on HK7.out H18.out)
  clear hb18
  have hk := kidsAt_lit [⟨dA, some ⟨w4.heap.size, 0, none⟩, 2⟩] w18 (by simp) (by
    intro t ht
    simp only [List.mem_cons, List.not_mem_nil, or_false] at ht
    rcases ht with rfl; exact ⟨Nat.le_refl _, fun e => (nomatch e), HK18.out⟩)
  have hb := (Below.refl w18.heap.size w18).alloc (Nat.le_refl _) (.cells #[.int .i64 3, .string ⟨#[]⟩, .int .i64 0, .slice (some ⟨w4.heap.size, 0, none⟩) 2 2] 24)
  obtain ⟨W19, hW19⟩ : ∃ W, w18.alloc (.cells #[.int .i64 3, .string ⟨#[]⟩, .int .i64 0, .slice (some ⟨w4.heap.size, 0, none⟩) 2 2] 24) = W := ⟨_, rfl⟩
  rw [hW19] at hb
  have hk : KidsAt W19.heap.size W19 dL.kids (some ⟨w18.heap.size, 0, none⟩) := by rw [← hW19]; exact hk
  have HKL := Lib.hid hk
  have H19 := Lib.hid (H18.out.trans (hb.mono H18.out.size))
  clear hk hb
  go_wp2_with fail
  refine (lead_any dL.wt dL (some ⟨w18.heap.size, 0, none⟩) 1 W19 (Nat.le_refl _) (by decide) HKL.out).mono ?_
  rintro e w20 ⟨rfl, hb20⟩
  rw [leadL]
  have H20 := Lib.hid (H19.out.trans (hb20.mono H19.out.size))
  clear hb20
  go_wp2
  go_ret
  exact ⟨rfl, HB7.out.trans (H20.out.mono HB7.out.size)⟩
end Go.Proofs.YtnpaplfdmpjfgaaDoor
