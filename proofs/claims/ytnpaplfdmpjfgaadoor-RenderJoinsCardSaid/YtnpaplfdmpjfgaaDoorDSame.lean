/- Same of the reference, on documents that are alike. -/
import Derived.Test.YtnpaplfdmpjfgaaDoorDLead
import Derived.Test.YtnpaplfdmpjfgaaDoorDOk
namespace Go.Proofs.YtnpaplfdmpjfgaaDoor
open Go.RowKit

theorem held10 {w0 wx w1 : World} {a0 a1 a2 a3 a4 a5 a6 a7 a8 a9 : Addr} {u0 u1 u2 u3 u4 u5 u6 u7 u8 u9 : Value} (h : wx.cell? a0 = some u0 ∧ wx.cell? a1 = some u1 ∧ wx.cell? a2 = some u2 ∧ wx.cell? a3 = some u3 ∧ wx.cell? a4 = some u4 ∧ wx.cell? a5 = some u5 ∧ wx.cell? a6 = some u6 ∧ wx.cell? a7 = some u7 ∧ wx.cell? a8 = some u8 ∧ wx.cell? a9 = some u9 ∧ Below w0.heap.size w0 wx) (hb : Below wx.heap.size wx w1) (l0 : a0.block < w0.heap.size) (l1 : a1.block < w0.heap.size) (l2 : a2.block < w0.heap.size) (l3 : a3.block < w0.heap.size) (l4 : a4.block < w0.heap.size) (l5 : a5.block < w0.heap.size) (l6 : a6.block < w0.heap.size) (l7 : a7.block < w0.heap.size) (l8 : a8.block < w0.heap.size) (l9 : a9.block < w0.heap.size) : w1.cell? a0 = some u0 ∧ w1.cell? a1 = some u1 ∧ w1.cell? a2 = some u2 ∧ w1.cell? a3 = some u3 ∧ w1.cell? a4 = some u4 ∧ w1.cell? a5 = some u5 ∧ w1.cell? a6 = some u6 ∧ w1.cell? a7 = some u7 ∧ w1.cell? a8 = some u8 ∧ w1.cell? a9 = some u9 ∧ Below w0.heap.size w0 w1 := by
  obtain ⟨h0, h1, h2, h3, h4, h5, h6, h7, h8, h9, q⟩ := h
  exact ⟨(hb.cell (Nat.lt_of_lt_of_le l0 q.size)).trans h0, (hb.cell (Nat.lt_of_lt_of_le l1 q.size)).trans h1, (hb.cell (Nat.lt_of_lt_of_le l2 q.size)).trans h2, (hb.cell (Nat.lt_of_lt_of_le l3 q.size)).trans h3, (hb.cell (Nat.lt_of_lt_of_le l4 q.size)).trans h4, (hb.cell (Nat.lt_of_lt_of_le l5 q.size)).trans h5, (hb.cell (Nat.lt_of_lt_of_le l6 q.size)).trans h6, (hb.cell (Nat.lt_of_lt_of_le l7 q.size)).trans h7, (hb.cell (Nat.lt_of_lt_of_le l8 q.size)).trans h8, (hb.cell (Nat.lt_of_lt_of_le l9 q.size)).trans h9, q.trans (hb.mono q.size)⟩
theorem keep8 {a b c d e f g h : Prop} {W wx : World} (hk : a ∧ b ∧ c ∧ d ∧ e ∧ f ∧ g ∧ h ∧ Below W.heap.size W wx) : Below W.heap.size W wx := hk.2.2.2.2.2.2.2.2
theorem keep10 {a b c d e f g h i j : Prop} {W wx : World} (hk : a ∧ b ∧ c ∧ d ∧ e ∧ f ∧ g ∧ h ∧ i ∧ j ∧ Below W.heap.size W wx) : Below W.heap.size W wx := hk.2.2.2.2.2.2.2.2.2.2

set_option maxRecDepth 100000 in
set_option maxHeartbeats 4000000 in
theorem same_ok (m : Nat) : ∀ (d : Doc) (A B : Option Addr) (c e : Nat) (w : World), d.wt ≤ m → d.Ok → KidsAt w.heap.size w d.kids A → KidsAt w.heap.size w d.kids B →
    Calls Tryd.prog 25 #[.agg #[.int .i64 d.kind, .string d.text, .int .i64 d.n, .slice A d.kids.length c], .agg #[.int .i64 d.kind, .string d.text, .int .i64 d.n, .slice B d.kids.length e]] w fun r w' => r = .returned (.bool true) ∧ Below w.heap.size w w' := by
  induction m with
  | zero => intro d A B c e w h; have := wt_pos d; omega
  | succ m ih =>
    intro d A B c e w hm hB hKA hKB
    obtain ⟨hbx, hb0, hs0⟩ := box_new w (.int .i64 d.kind) (.string d.text) (.int .i64 d.n) (.slice A d.kids.length c)
    obtain ⟨hby, hb1, hs1⟩ := box_new (w.alloc (.cells #[.int .i64 d.kind, .string d.text, .int .i64 d.n, .slice A d.kids.length c] 24)) (.int .i64 d.kind) (.string d.text) (.int .i64 d.n) (.slice B d.kids.length e)
    have hkl := (ok_iff.1 hB).2.1
    have HOK := Lib.hid hB
    have HX := Lib.hid (hbx.below hb1 (by omega))
    have HY := Lib.hid hby
    have HB := Lib.hid (hb0.trans (hb1.mono (by omega)))
    have HKA := Lib.hid (kidsAt_on (kidsAt_on hKA hb0) hb1)
    have HKB := Lib.hid (kidsAt_on (kidsAt_on hKB hb0) hb1)
    have HS := Lib.hid (show _ = w.heap.size + 2 from hs1.trans (by rw [hs0]))
    have HS0 := Lib.hid hs0
    have HIH := Lib.hid ih
    clear hB hKA hKB hbx hby hb0 hb1 hs0 hs1 ih
    go_enter Tryd.func25, Tryd.ntmps25
    go_upto_region 3 with (fail)
    obtain ⟨W, hW⟩ : ∃ W, (w.alloc (.cells #[.int .i64 d.kind, .string d.text, .int .i64 d.n, .slice A d.kids.length c] 24)).alloc (.cells #[.int .i64 d.kind, .string d.text, .int .i64 d.n, .slice B d.kids.length e] 24) = W := ⟨_, rfl⟩
    have hka := HKA.out
    have hkb := HKB.out
    have hx := HX.out
    have hy := HY.out
    have hb := HB.out
    have hs := HS.out
    rw [hW] at hka hkb hx hy hb hs ⊢
    rw [HS0.out] at hy
    clear hW HKA HKB HX HY HB HS HS0
    have HKA := Lib.hid hka
    have HKB := Lib.hid hkb
    have HX := Lib.hid hx
    have HY := Lib.hid hy
    have HB := Lib.hid hb
    have hs' : w.heap.size + 1 < W.heap.size := by omega
    clear hka hkb hx hy hb hs
    go_wp2_with fail
    go_loopw [5] (fun i wr => ∃ k : Nat, k ≤ d.kids.length ∧ i = .int .i64 k ∧ Below W.heap.size W wr) (fun i wr => d.kids.length - (intOf i).toNat)
    case atStart => exact ⟨0, by omega, rfl, Below.refl _ _⟩
    case round =>
      obtain ⟨k, hk, rfl, hB1⟩ := hrel
      obtain ⟨x0, x1, x2, x3, _, _, _, _⟩ := HX.out.below hB1 (by omega)
      obtain ⟨y0, y1, y2, y3, _, _, _, _⟩ := HY.out.below hB1 (by omega)
      have HB1 := Lib.hid hB1
      have hsz := hB1.size
      have HKa := Lib.hid (kidsAt_on HKA.out hB1)
      have HKb := Lib.hid (kidsAt_on HKB.out hB1)
      clear hB1
      by_cases hlt : k < d.kids.length
      · obtain ⟨b, o, rfl, hat⟩ := kidsAt_get HKa.out (kid_in hlt)
        obtain ⟨A', c', h1, h2, h3, h4, h5, h6, h7, h8⟩ := docAt_iff.1 hat
        have HKa' := Lib.hid h8
        clear h6 h7 h8 hat
        obtain ⟨b', o', rfl, hat⟩ := kidsAt_get HKb.out (kid_in hlt)
        obtain ⟨B', e', g1, g2, g3, g4, g5, h6, h7, h8⟩ := docAt_iff.1 hat
        have HKb' := Lib.hid h8
        have hwt := kid_lt (List.getElem_mem hlt)
        clear h6 h7 h8 hat HKa HKb
        go_upto_region 6 with (fail)
        go_region_held3 (fun w' : World => w'.cell? ⟨w.heap.size, 3, none⟩ = some (.slice (some ⟨b, o, none⟩) d.kids.length c) ∧ w'.cell? ⟨w.heap.size + 1, 3, none⟩ = some (.slice (some ⟨b', o', none⟩) d.kids.length e) ∧ w'.cell? ⟨b, o + k * 4, none⟩ = some (.int .i64 d.kids[k].kind) ∧ w'.cell? ⟨b, o + k * 4 + 1, none⟩ = some (.string d.kids[k].text) ∧ w'.cell? ⟨b, o + k * 4 + 2, none⟩ = some (.int .i64 d.kids[k].n) ∧ w'.cell? ⟨b, o + k * 4 + 3, none⟩ = some (.slice A' d.kids[k].kids.length c') ∧ w'.cell? ⟨b', o' + k * 4, none⟩ = some (.int .i64 d.kids[k].kind) ∧ w'.cell? ⟨b', o' + k * 4 + 1, none⟩ = some (.string d.kids[k].text) ∧ w'.cell? ⟨b', o' + k * 4 + 2, none⟩ = some (.int .i64 d.kids[k].n) ∧ w'.cell? ⟨b', o' + k * 4 + 3, none⟩ = some (.slice B' d.kids[k].kids.length e') ∧ Below wr.heap.size wr w')
          (first | (exact ⟨x3, y3, h2, h3, h4, h5, g2, g3, g4, g5, (Below.refl _ _).drew⟩) | (exact held10 (by assumption) hbf (by dsimp only; omega) (by dsimp only; omega) (by dsimp only; omega) (by dsimp only; omega) (by dsimp only; omega) (by dsimp only; omega) (by dsimp only; omega) (by dsimp only; omega) (by dsimp only; omega) (by dsimp only; omega)) | assumption)
          (first | (go_at_call 25; refine (HIH.out d.kids[k] A' B' c' e' _ (by omega) (ok_kid HOK.out (List.getElem_mem hlt)) (kidsAt_on HKa'.out (keep10 (by assumption))) (kidsAt_on HKb'.out (keep10 (by assumption)))).mono ?_; rintro e w3 ⟨rfl, hbf⟩))
        rename_i hH
        have hq := keep10 hH
        go_wp2_with fail
        go_roundw
        case rel => exact ⟨k + 1, by omega, by go_num, HB1.out.trans (hq.mono hsz)⟩
        case measure => simp [intOf]; omega
      · obtain rfl : k = d.kids.length := by omega
        go_wp2
        go_ret
        exact ⟨rfl, HB.out.trans (HB1.out.mono (by omega))⟩

theorem same_any (m : Nat) (d : Doc) (A B : Option Addr) (c e : Nat) (w : World) (hm : d.wt ≤ m) (hB : d.wt ≤ 16777216) (hKA : KidsAt w.heap.size w d.kids A) (hKB : KidsAt w.heap.size w d.kids B) :
    Calls Tryd.prog 25 #[.agg #[.int .i64 d.kind, .string d.text, .int .i64 d.n, .slice A d.kids.length c], .agg #[.int .i64 d.kind, .string d.text, .int .i64 d.n, .slice B d.kids.length e]] w fun r w' => r = .returned (.bool true) ∧ Below w.heap.size w w' :=
  same_ok m d A B c e w hm (ok_of_wt (by omega)) hKA hKB

set_option maxRecDepth 100000 in
set_option maxHeartbeats 4000000 in
theorem sameAll_any (ds : List Doc) (A B : Option Addr) (c e : Nat) (w : World) (hB : wts ds ≤ 16777216) (hKA : KidsAt w.heap.size w ds A) (hKB : KidsAt w.heap.size w ds B) :
    Calls Tryd.prog 29 #[.slice A ds.length c, .slice B ds.length e] w fun r w' => r = .returned (.bool true) ∧ Below w.heap.size w w' := by
  have hlen := len_le_wts ds
  have HKA := Lib.hid hKA
  have HKB := Lib.hid hKB
  clear hKA hKB
  go_enter Tryd.func29, Tryd.ntmps29
  go_wp2_with fail
  go_loopw [5] (fun i wr => ∃ k : Nat, k ≤ ds.length ∧ i = .int .i64 k ∧ Below w.heap.size w wr) (fun i wr => ds.length - (intOf i).toNat)
  case atStart => exact ⟨0, by omega, rfl, Below.refl _ _⟩
  case round =>
    obtain ⟨k, hk, rfl, hB1⟩ := hrel
    have HB1 := Lib.hid hB1
    have hsz := hB1.size
    have HKa := Lib.hid (kidsAt_on HKA.out hB1)
    have HKb := Lib.hid (kidsAt_on HKB.out hB1)
    clear hB1
    by_cases hlt : k < ds.length
    · obtain ⟨b, o, rfl, hat⟩ := kidsAt_get HKa.out (kid_in hlt)
      obtain ⟨A', c', h1, h2, h3, h4, h5, h6, h7, h8⟩ := docAt_iff.1 hat
      have HKa' := Lib.hid h8
      clear h6 h7 h8 hat
      obtain ⟨b', o', rfl, hat⟩ := kidsAt_get HKb.out (kid_in hlt)
      obtain ⟨B', e', g1, g2, g3, g4, g5, h6, h7, h8⟩ := docAt_iff.1 hat
      have HKb' := Lib.hid h8
      have hwt := wts_le (List.getElem_mem hlt)
      clear h6 h7 h8 hat HKa HKb
      go_upto_region 6 with (fail)
      go_region_held3 (fun w' : World => w'.cell? ⟨b, o + k * 4, none⟩ = some (.int .i64 ds[k].kind) ∧ w'.cell? ⟨b, o + k * 4 + 1, none⟩ = some (.string ds[k].text) ∧ w'.cell? ⟨b, o + k * 4 + 2, none⟩ = some (.int .i64 ds[k].n) ∧ w'.cell? ⟨b, o + k * 4 + 3, none⟩ = some (.slice A' ds[k].kids.length c') ∧ w'.cell? ⟨b', o' + k * 4, none⟩ = some (.int .i64 ds[k].kind) ∧ w'.cell? ⟨b', o' + k * 4 + 1, none⟩ = some (.string ds[k].text) ∧ w'.cell? ⟨b', o' + k * 4 + 2, none⟩ = some (.int .i64 ds[k].n) ∧ w'.cell? ⟨b', o' + k * 4 + 3, none⟩ = some (.slice B' ds[k].kids.length e') ∧ Below wr.heap.size wr w')
        (first | (exact ⟨h2, h3, h4, h5, g2, g3, g4, g5, (Below.refl _ _).drew⟩) | (exact held8 (by assumption) hbf (by dsimp only; omega) (by dsimp only; omega) (by dsimp only; omega) (by dsimp only; omega) (by dsimp only; omega) (by dsimp only; omega) (by dsimp only; omega) (by dsimp only; omega)) | assumption)
        (first | (go_at_call 25; refine (same_any _ ds[k] A' B' c' e' _ (Nat.le_refl _) (by omega) (kidsAt_on HKa'.out (keep8 (by assumption))) (kidsAt_on HKb'.out (keep8 (by assumption)))).mono ?_; rintro e w3 ⟨rfl, hbf⟩))
      rename_i hH
      have hq := keep8 hH
      go_wp2_with fail
      go_roundw
      case rel => exact ⟨k + 1, by omega, by go_num, HB1.out.trans (hq.mono hsz)⟩
      case measure => simp [intOf]; omega
    · obtain rfl : k = ds.length := by omega
      go_wp2
      go_ret
      exact ⟨rfl, HB1.out⟩
end Go.Proofs.YtnpaplfdmpjfgaaDoor
