/- Flat of the reference. -/
import Derived.Test.YtnpaplfdmpjfgaaDoorDFlat
namespace Go.Proofs.YtnpaplfdmpjfgaaDoor
open Go.RowKit

def flatV : Option ByteArray → Value
  | none => .tuple #[.string ⟨#[]⟩, .bool false]
  | some s => .tuple #[.string s, .bool true]
def FlatSaid (d : Doc) (w : World) (e : Ending) (w' : World) : Prop := e = .returned (flatV d.flat) ∧ Below w.heap.size w w'

theorem spaced_any (k : Int) (w : World) : Calls Tryd.prog 51 #[.int .i64 k] w fun e w' => e = .returned (.bool (spaced k)) ∧ Below w.heap.size w w' := by
  cases k4 : (k == 4) with
  | true =>
    have HS := Lib.hid (show spaced k = true by simp [spaced, k4])
    go_enter Tryd.func51, Tryd.ntmps51
    go_wp2
    go_ret
    exact ⟨ret_bool HS.out.symm, Below.refl _ _⟩
  | false =>
    cases k7 : (k == 7) with
    | true =>
      have HS := Lib.hid (show spaced k = true by simp [spaced, k7])
      go_enter Tryd.func51, Tryd.ntmps51
      go_wp2
      go_ret
      exact ⟨ret_bool HS.out.symm, Below.refl _ _⟩
    | false =>
      have HS := Lib.hid (show spaced k = (k == 9) by simp [spaced, k4, k7])
      cases k9 : (k == 9) with
      | true =>
        go_enter Tryd.func51, Tryd.ntmps51
        go_wp2
        go_ret
        exact ⟨ret_bool (by rw [HS.out, k9]), Below.refl _ _⟩
      | false =>
        go_enter Tryd.func51, Tryd.ntmps51
        go_wp2
        go_ret
        exact ⟨ret_bool (by rw [HS.out, k9]), Below.refl _ _⟩

set_option maxRecDepth 100000 in
set_option maxHeartbeats 4000000 in
theorem rflat_any (m : Nat) : ∀ (d : Doc) (A : Option Addr) (c : Nat) (w : World), d.wt ≤ m → d.wt ≤ 16777216 → KidsAt w.heap.size w d.kids A →
    Calls Tryd.prog 20 #[.agg #[.int .i64 d.kind, .string d.text, .int .i64 d.n, .slice A d.kids.length c]] w (FlatSaid d w) := by
  induction m with
  | zero => intro d A c w h; have := wt_pos d; omega
  | succ m ih =>
    intro d A c w hm hB hK
    obtain ⟨hbx, hb0, hs0⟩ := box_new w (.int .i64 d.kind) (.string d.text) (.int .i64 d.n) (.slice A d.kids.length c)
    have hkl := kids_lt d
    have hwe := wt_eq d
    have HK := Lib.hid (kidsAt_on hK hb0)
    have HX := Lib.hid hbx
    have HB := Lib.hid hb0
    have HS := Lib.hid hs0
    have HIH := Lib.hid ih
    have HV := Lib.hid (flat_eq d)
    clear hK hbx hb0 hs0 ih
    cases k1 : (d.kind == 1) with
    | true =>
      have hv := Lib.hid (show d.flat = some d.text by rw [HV.out, k1]; rfl)
      go_enter Tryd.func20, Tryd.ntmps20
      go_wp2
      go_ret2
      exact ⟨by rw [hv.out]; rfl, HB.out⟩
    | false =>
      have hv := Lib.hid (show d.flat = flats d.kind true ⟨#[]⟩ d.kids by rw [HV.out, k1]; rfl)
      go_enter Tryd.func20, Tryd.ntmps20
      go_upto_region 3 with (fail)
      obtain ⟨W, hW⟩ : ∃ W, w.alloc (.cells #[.int .i64 d.kind, .string d.text, .int .i64 d.n, .slice A d.kids.length c] 24) = W := ⟨_, rfl⟩
      have hk := HK.out
      have hx := HX.out
      have hb := HB.out
      have hs := HS.out
      rw [hW] at hk hx hb hs ⊢
      clear hW HK HX HB HS
      have HK := Lib.hid hk
      have HX := Lib.hid hx
      have HB := Lib.hid hb
      have hs' : w.heap.size < W.heap.size := by omega
      clear hk hx hb hs
      go_wp2_with fail
      go_loopw [4, 5, 6] (fun s f i wr => ∃ (k : Nat) (b : Bool) (x : ByteArray), k ≤ d.kids.length ∧ i = .int .i64 k ∧ f = .bool b ∧ s = .string x ∧ x.size ≤ 2 * wts (d.kids.take k) ∧ flats d.kind b x (d.kids.drop k) = d.flat ∧ Below W.heap.size W wr) (fun _ _ i wr => d.kids.length - (intOf i).toNat)
      case atStart => exact ⟨0, true, ⟨#[]⟩, by omega, rfl, rfl, rfl, Nat.zero_le _, by rw [hv.out]; rfl, Below.refl _ _⟩
      case round =>
        obtain ⟨k, b, x, hk, rfl, rfl, rfl, hxs, hfl, hB1⟩ := hrel
        have hx1 := HX.out.below hB1 hs'
        obtain ⟨x0, x1, x2, x3, _, _, _, _⟩ := id hx1
        have HX1 := Lib.hid hx1
        have HB1 := Lib.hid hB1
        have HFL := Lib.hid hfl
        have hsz := hB1.size
        have HKr := Lib.hid (kidsAt_on HK.out hB1)
        clear hB1 hx1 hfl
        by_cases hlt : k < d.kids.length
        · have hdrop : d.kids.drop k = d.kids[k] :: d.kids.drop (k + 1) := List.drop_eq_getElem_cons hlt
          have hwk := wts_take hlt
          have hwl := wts_take_le d.kids (k + 1)
          have HFL := Lib.hid (show flats d.kind b x (d.kids[k] :: d.kids.drop (k + 1)) = d.flat by rw [← hdrop]; exact HFL.out)
          obtain ⟨a, o, rfl, hat⟩ := kidsAt_get HKr.out (kid_in hlt)
          obtain ⟨A', c', h1, h2, h3, h4, h5, h6, h7, h8⟩ := docAt_iff.1 hat
          have HK' := Lib.hid h8
          have hwt := kid_lt (List.getElem_mem hlt)
          clear h6 h8 hat h7 hdrop
          have hcall := rvoid_any _ d.kids[k] A' c' wr (Nat.le_refl _) (by omega) HK'.out
          have HC := Lib.hid hcall
          clear hcall
          cases hv1 : d.kids[k].void with
          | true =>
            have HV1 := Lib.hid hv1
            clear hv1
            go_wp2_with fail
            refine HC.out.mono ?_
            rintro e w2 ⟨rfl, hb2⟩
            rw [HV1.out]
            go_wp2
            go_roundw
            case rel => exact ⟨k + 1, b, x, by omega, by go_num, rfl, rfl, by omega, by rw [← HFL.out, flats_void HV1.out], HB1.out.trans (hb2.mono hsz)⟩
            case measure => simp [intOf]; omega
          | false =>
            have HV1 := Lib.hid hv1
            clear hv1
            go_wp2_with fail
            refine HC.out.mono ?_
            rintro e w2 ⟨rfl, hb2⟩
            rw [HV1.out]
            have hB2 : Below W.heap.size W w2 := HB1.out.trans (hb2.mono hsz)
            have y0 := (hb2.cell (p := ⟨a, o + k * 4, none⟩) h1).trans h2
            have y1 := (hb2.cell (p := ⟨a, o + k * 4 + 1, none⟩) h1).trans h3
            have y2 := (hb2.cell (p := ⟨a, o + k * 4 + 2, none⟩) h1).trans h4
            have y3 := (hb2.cell (p := ⟨a, o + k * 4 + 3, none⟩) h1).trans h5
            obtain ⟨z0, z1, z2, z3, _, _, _, _⟩ := HX1.out.below hb2 (by omega)
            have hcall := HIH.out d.kids[k] A' c' w2 (by omega) (by omega) (kidsAt_on HK'.out hb2)
            unfold FlatSaid at hcall
            have HB2 := Lib.hid hB2
            have hsz2 := hB2.size
            clear x0 x1 x2 x3 h1 h2 h3 h4 h5 hb2 HC HK' HX1 HKr HB1 hB2
            cases hf : d.kids[k].flat with
            | none =>
              rw [hf] at hcall
              have HC := Lib.hid hcall
              have HF := Lib.hid hf
              clear hcall hf
              go_wp2_with fail
              refine HC.out.mono ?_
              rintro e w3 ⟨rfl, hb3⟩
              simp only [flatV]
              go_wp2
              go_ret2
              exact ⟨by rw [← HFL.out, flats_none HV1.out HF.out]; rfl, HB.out.trans ((HB2.out.trans (hb3.mono hsz2)).mono (Nat.le_of_lt hs'))⟩
            | some t =>
              have hts := flat_size hf
              rw [hf] at hcall
              have HC := Lib.hid hcall
              have HF := Lib.hid hf
              clear hcall hf
              cases b with
              | true =>
                go_wp2_with fail
                refine HC.out.mono ?_
                rintro e w3 ⟨rfl, hb3⟩
                simp only [flatV]
                have HB3 := Lib.hid (HB2.out.trans (hb3.mono hsz2))
                clear hb3
                go_wp2
                go_roundw
                case rel => exact ⟨k + 1, false, x ++ t, by omega, by go_num, rfl, rfl, by rw [size_app]; omega, by rw [← HFL.out, flats_first HV1.out HF.out], HB3.out⟩
                case measure => simp [intOf]; omega
              | false =>
                cases k5 : (d.kind == 5) with
                | true =>
                  have HBL := Lib.hid (show below56 d.kind = true by simp [below56, k5])
                  go_wp2_with fail
                  refine HC.out.mono ?_
                  rintro e w3 ⟨rfl, hb3⟩
                  simp only [flatV]
                  obtain ⟨v0, v1, v2, v3, _, _, _, _⟩ := HX.out.below (HB2.out.trans (hb3.mono hsz2)) hs'
                  have HB3 := Lib.hid (HB2.out.trans (hb3.mono hsz2))
                  clear hb3 y0 y1 y2 y3 z0 z1 z2 z3
                  go_wp2
                  go_ret2
                  exact ⟨by rw [← HFL.out, flats_below HV1.out HF.out HBL.out]; rfl, HB.out.trans (HB3.out.mono (Nat.le_of_lt hs'))⟩
                | false =>
                  cases k6 : (d.kind == 6) with
                  | true =>
                    have HBL := Lib.hid (show below56 d.kind = true by simp [below56, k6])
                    go_wp2_with fail
                    refine HC.out.mono ?_
                    rintro e w3 ⟨rfl, hb3⟩
                    simp only [flatV]
                    obtain ⟨v0, v1, v2, v3, _, _, _, _⟩ := HX.out.below (HB2.out.trans (hb3.mono hsz2)) hs'
                    have HB3 := Lib.hid (HB2.out.trans (hb3.mono hsz2))
                    clear hb3 y0 y1 y2 y3 z0 z1 z2 z3
                    go_wp2
                    go_ret2
                    exact ⟨by rw [← HFL.out, flats_below HV1.out HF.out HBL.out]; rfl, HB.out.trans (HB3.out.mono (Nat.le_of_lt hs'))⟩
                  | false =>
                    have HBL := Lib.hid (show below56 d.kind = false by simp [below56, k5, k6])
                    go_wp2_with fail
                    refine HC.out.mono ?_
                    rintro e w3 ⟨rfl, hb3⟩
                    simp only [flatV]
                    obtain ⟨v0, v1, v2, v3, _, _, _, _⟩ := HX.out.below (HB2.out.trans (hb3.mono hsz2)) hs'
                    have HB3 := Lib.hid (HB2.out.trans (hb3.mono hsz2))
                    clear hb3 y0 y1 y2 y3 z0 z1 z2 z3
                    cases hsp : spaced d.kind with
                    | true =>
                      have HSP := Lib.hid hsp
                      clear hsp
                      go_wp2_with (go_at_call 51; refine (spaced_any d.kind _).mono ?_; rintro e w4 ⟨rfl, hb4⟩; rw [HSP.out])
                      go_roundw
                      case rel => exact ⟨k + 1, false, x ++ ⟨#[32]⟩ ++ t, by omega, by go_num, rfl, rfl, by rw [size_app, size_app, show (⟨#[32]⟩ : ByteArray).size = 1 from rfl]; omega, by rw [← HFL.out, flats_blank HV1.out HF.out HBL.out HSP.out], HB3.out.trans (hb4.mono HB3.out.size)⟩
                      case measure => simp [intOf]; omega
                    | false =>
                      have HSP := Lib.hid hsp
                      clear hsp
                      go_wp2_with (go_at_call 51; refine (spaced_any d.kind _).mono ?_; rintro e w4 ⟨rfl, hb4⟩; rw [HSP.out])
                      go_roundw
                      case rel => exact ⟨k + 1, false, x ++ t, by omega, by go_num, rfl, rfl, by rw [size_app]; omega, by rw [← HFL.out, flats_next HV1.out HF.out HBL.out HSP.out], HB3.out.trans (hb4.mono HB3.out.size)⟩
                      case measure => simp [intOf]; omega
        · obtain rfl : k = d.kids.length := by omega
          go_wp2
          go_ret2
          exact ⟨by rw [← HFL.out, List.drop_length]; rfl, HB.out.trans (HB1.out.mono (Nat.le_of_lt hs'))⟩
end Go.Proofs.YtnpaplfdmpjfgaaDoor
