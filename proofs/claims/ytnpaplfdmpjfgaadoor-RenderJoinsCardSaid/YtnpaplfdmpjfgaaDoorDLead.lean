/- Lead of the program and of the reference. -/
import Derived.Test.YtnpaplfdmpjfgaaDoorDVoid
namespace Go.Proofs.YtnpaplfdmpjfgaaDoor
open Go.RowKit

mutual
/-- How far a document's first text is nested. -/
def Doc.lead : Doc → Int
  | ⟨k, _, n, kids⟩ => if k == 1 then 0 else leads n kids
def leads (n : Int) : List Doc → Int
  | [] => 0
  | d :: r => if d.void then leads n r else IntKind.i64.wrap (n + d.lead)
end
theorem lead_eq (d : Doc) : d.lead = if d.kind == 1 then 0 else leads d.n d.kids := by cases d; simp [Doc.lead]
theorem leads_skip (n : Int) (ds : List Doc) : ∀ (k : Nat) (hk : k < ds.length), (∀ j (hj : j < ds.length), j < k → ds[j].void = true) → ds[k].void = false → leads n ds = IntKind.i64.wrap (n + ds[k].lead) := by
  induction ds with
  | nil => intro k hk; simp at hk
  | cons a r ih =>
    intro k hk h1 h2
    cases k with
    | zero => simp only [List.getElem_cons_zero] at h2 ⊢; simp [leads, h2]
    | succ k =>
      have h0 := h1 0 (by simp) (by omega)
      simp only [List.getElem_cons_zero] at h0
      simp only [leads, h0, if_true, List.getElem_cons_succ]
      exact ih k (by simpa using hk) (fun j hj hjk => h1 (j + 1) (by simp; omega) (by omega)) (by simpa using h2)
theorem leads_all (n : Int) (ds : List Doc) (h : ∀ j (hj : j < ds.length), ds[j].void = true) : leads n ds = 0 := by
  induction ds with
  | nil => simp [leads]
  | cons a r ih =>
    have h0 := h 0 (by simp)
    simp only [List.getElem_cons_zero] at h0
    simp only [leads, h0, if_true]
    exact ih fun j hj => h (j + 1) (by simp; omega)
theorem leads_there (n : Int) (ds : List Doc) : leads n ds = match ds.filter Doc.there with | [] => 0 | k :: _ => IntKind.i64.wrap (n + k.lead) := by
  induction ds with
  | nil => simp [leads]
  | cons a r ih =>
    cases hv : a.void <;> simp [leads, hv, Doc.there, ih]

/-- Kids lie on while facts are kept. -/
theorem kids_keep5 {a b c d e : Prop} {W wx : World} {ds : List Doc} {A : Option Addr} (h : KidsAt W.heap.size W ds A) (hk : a ∧ b ∧ c ∧ d ∧ e ∧ Below W.heap.size W wx) : KidsAt wx.heap.size wx ds A := kidsAt_on h hk.2.2.2.2.2

set_option maxRecDepth 100000 in
set_option maxHeartbeats 2000000 in
theorem lead_any (m : Nat) : ∀ (d : Doc) (A : Option Addr) (c : Nat) (w : World), d.wt ≤ m → d.wt ≤ 16777216 → KidsAt w.heap.size w d.kids A →
    Calls Tryd.prog 23 #[.agg #[.int .i64 d.kind, .string d.text, .int .i64 d.n, .slice A d.kids.length c]] w fun e w' => e = .returned (.int .i64 d.lead) ∧ Below w.heap.size w w' := by
  induction m with
  | zero => intro d A c w h; have := wt_pos d; omega
  | succ m ih =>
    intro d A c w hm hB hK
    obtain ⟨hbx, hb0, hs0⟩ := box_new w (.int .i64 d.kind) (.string d.text) (.int .i64 d.n) (.slice A d.kids.length c)
    have hcall := Lib.hid (kept_any d.kids A c _ (by rw [wt_eq] at hB; omega) (kidsAt_on hK hb0))
    have HX := Lib.hid hbx
    have HB := Lib.hid hb0
    have HS := Lib.hid hs0
    have HIH := Lib.hid ih
    have HV := Lib.hid (lead_eq d)
    have HT := Lib.hid (leads_there d.n d.kids)
    clear hK hbx hb0 hs0 ih
    go_enter Tryd.func23, Tryd.ntmps23
    go_wp2_with fail
    obtain ⟨W, hW⟩ : ∃ W, w.alloc (.cells #[.int .i64 d.kind, .string d.text, .int .i64 d.n, .slice A d.kids.length c] 24) = W := ⟨_, rfl⟩
    have hc := hcall.out
    have hx := HX.out
    have hb := HB.out
    have hs := HS.out
    rw [hW] at hc hx hb hs ⊢
    clear hW HX HB HS hcall
    have HWB := Lib.hid hb
    have hs' : w.heap.size < W.heap.size := by omega
    clear hb hs
    refine hc.mono ?_
    rintro e w1 ⟨v, l, rfl, hD, hl, hb1⟩
    obtain ⟨A1, c1, rfl, hc1, _, hK1⟩ := hD.at_
    have hx1 := hx.below hb1 hs'
    have hsz := hb1.size
    have HB1 := Lib.hid (HWB.out.trans (hb1.mono (Nat.le_of_lt hs')))
    have HK1 := Lib.hid hK1
    have HL := Lib.hid hl
    obtain ⟨x0, x1, x2, x3, _, _, _, _⟩ := hx1
    clear hc hx hb1 hD hK1 hl HWB
    cases k1 : (d.kind == 1) with
    | true =>
      go_wp2_with fail
      go_ret
      exact ⟨ret_int (by rw [HV.out, k1]; rfl), HB1.out⟩
    | false =>
      by_cases hn : l.length = 0
      · have hl0 : l = [] := List.eq_nil_of_length_eq_zero hn
        subst hl0
        go_wp2_with fail
        go_ret
        exact ⟨ret_int (by rw [HV.out, k1, HT.out, ← HL.out]; rfl), HB1.out⟩
      · obtain ⟨t, r, rfl⟩ : ∃ t r, l = t :: r := by cases l with | nil => simp at hn | cons t r => exact ⟨t, r, rfl⟩
        have hkk := Lib.hid (show d.lead = IntKind.i64.wrap (d.n + t.d.lead) by rw [HV.out, k1, HT.out, ← HL.out]; rfl)
        have hmem : t.d ∈ d.kids := by
          have : t.d ∈ d.kids.filter Doc.there := by rw [← HL.out]; simp
          exact (List.mem_filter.1 this).1
        have hwt := kid_lt hmem
        obtain ⟨b, o, rfl, hat⟩ := kidsAt_get HK1.out (k := 0) (d := t.d) rfl
        obtain ⟨A', c', h1, h2, h3, h4, h5, h6, h7, h8⟩ := docAt_iff.1 hat
        have HK2 := Lib.hid h8
        simp only [Nat.zero_mul, Nat.add_zero] at h2 h3 h4 h5
        clear hat h6 h7 h8 HL HK1 HT HV hn hmem
        have hL0 : (0 : Nat) < (t :: r).length := by simp
        go_upto_region 4 with (fail)
        go_region_held3 (fun w' : World => w'.cell? ⟨w.heap.size, 2, none⟩ = some (.int .i64 d.n) ∧ w'.cell? ⟨b, o, none⟩ = some (.int .i64 t.d.kind) ∧ w'.cell? ⟨b, o + 1, none⟩ = some (.string t.d.text) ∧ w'.cell? ⟨b, o + 2, none⟩ = some (.int .i64 t.d.n) ∧ w'.cell? ⟨b, o + 3, none⟩ = some (.slice A' t.d.kids.length c') ∧ Below w1.heap.size w1 w')
          (first | (exact ⟨x2, h2, h3, h4, h5, (Below.refl _ _).drew⟩) | (exact held5 (by assumption) hbf (by dsimp only; omega) (by dsimp only; omega) (by dsimp only; omega) (by dsimp only; omega) (by dsimp only; omega)) | assumption)
          (first | (go_at_call 23; refine (HIH.out t.d A' c' _ (by omega) (by omega) (kids_keep5 HK2.out (by assumption))).mono ?_; rintro e w2 ⟨rfl, hbf⟩))
        rename_i hH
        have hq := hH.2.2.2.2.2
        go_wp2_with fail
        go_ret
        exact ⟨ret_int hkk.out.symm, HB1.out.trans (hq.mono (by omega))⟩

set_option maxRecDepth 100000 in
set_option maxHeartbeats 2000000 in
theorem rlead_any (m : Nat) : ∀ (d : Doc) (A : Option Addr) (c : Nat) (w : World), d.wt ≤ m → d.wt ≤ 16777216 → KidsAt w.heap.size w d.kids A →
    Calls Tryd.prog 24 #[.agg #[.int .i64 d.kind, .string d.text, .int .i64 d.n, .slice A d.kids.length c]] w fun e w' => e = .returned (.int .i64 d.lead) ∧ Below w.heap.size w w' := by
  induction m with
  | zero => intro d A c w h; have := wt_pos d; omega
  | succ m ih =>
    intro d A c w hm hB hK
    obtain ⟨hbx, hb0, hs0⟩ := box_new w (.int .i64 d.kind) (.string d.text) (.int .i64 d.n) (.slice A d.kids.length c)
    have hkl := kids_lt d
    have HK := Lib.hid (kidsAt_on hK hb0)
    have HX := Lib.hid hbx
    have HB := Lib.hid hb0
    have HS := Lib.hid hs0
    have HIH := Lib.hid ih
    have HV := Lib.hid (lead_eq d)
    clear hK hbx hb0 hs0 ih
    cases k1 : (d.kind == 1) with
    | true =>
      go_enter Tryd.func24, Tryd.ntmps24
      go_wp2
      go_ret
      exact ⟨ret_int (by rw [HV.out, k1]; rfl), HB.out⟩
    | false =>
      have hv := Lib.hid (show d.lead = leads d.n d.kids by rw [HV.out, k1]; rfl)
      go_enter Tryd.func24, Tryd.ntmps24
      go_upto_region 3 with (fail)
      obtain ⟨W, hW⟩ : ∃ W, w.alloc (.cells #[.int .i64 d.kind, .string d.text, .int .i64 d.n, .slice A d.kids.length c] 24) = W := ⟨_, rfl⟩
      have hk := HK.out
      have hx := HX.out
      have hb := HB.out
      have hs := HS.out
      rw [hW] at hk hx hb hs ⊢
      clear hW HK HX HB HS
      have HK := Lib.hid hk
      have HX := Lib.hid hx
      have HB := Lib.hid hb
      have hs' : w.heap.size < W.heap.size := by omega
      clear hk hx hb hs
      go_wp2_with fail
      go_loopw [3] (fun i wr => ∃ k : Nat, k ≤ d.kids.length ∧ i = .int .i64 k ∧ (∀ j (hj : j < d.kids.length), j < k → d.kids[j].void = true) ∧ Below W.heap.size W wr) (fun i wr => d.kids.length - (intOf i).toNat)
      case atStart => exact ⟨0, by omega, rfl, fun j _ hj => by omega, Below.refl _ _⟩
      case round =>
        obtain ⟨k, hk, rfl, hall, hB1⟩ := hrel
        have hx1 := HX.out.below hB1 hs'
        obtain ⟨x0, x1, x2, x3, _, _, _, _⟩ := id hx1
        have HX1 := Lib.hid hx1
        have HA := Lib.hid hall
        have HB1 := Lib.hid hB1
        have hsz := hB1.size
        have HKr := Lib.hid (kidsAt_on HK.out hB1)
        clear hall hB1 hx1
        by_cases hlt : k < d.kids.length
        · obtain ⟨b, o, rfl, hat⟩ := kidsAt_get HKr.out (kid_in hlt)
          obtain ⟨A', c', h1, h2, h3, h4, h5, h6, h7, h8⟩ := docAt_iff.1 hat
          have HK' := Lib.hid h8
          have hwt := kid_lt (List.getElem_mem hlt)
          have HAT := Lib.hid (docAt_iff.1 hat)
          clear h8 hat h7
          have hcall := rvoid_any _ d.kids[k] A' c' wr (Nat.le_refl _) (by omega) HK'.out
          have HC := Lib.hid hcall
          clear hcall
          cases hv1 : d.kids[k].void with
          | false =>
            have HV1 := Lib.hid hv1
            clear hv1
            go_wp2_with fail
            refine HC.out.mono ?_
            rintro e w2 ⟨rfl, hb2⟩
            rw [HV1.out]
            have hwr : Below W.heap.size W w2 := HB1.out.trans (hb2.mono hsz)
            have y0 := (hb2.cell (p := ⟨b, o + k * 4, none⟩) h1).trans h2
            have y1 := (hb2.cell (p := ⟨b, o + k * 4 + 1, none⟩) h1).trans h3
            have y2 := (hb2.cell (p := ⟨b, o + k * 4 + 2, none⟩) h1).trans h4
            have y3 := (hb2.cell (p := ⟨b, o + k * 4 + 3, none⟩) h1).trans h5
            have hK2 := Lib.hid (kidsAt_on HK'.out hb2)
            have hb1' : b < w2.heap.size := Nat.lt_of_lt_of_le h1 hb2.size
            have hwW : w.heap.size < w2.heap.size := by have := hwr.size; omega
            obtain ⟨z0, z1, z2, z3, _, _, _, _⟩ := HX1.out.below hb2 (by omega)
            have HWR := Lib.hid hwr
            clear x0 x1 x2 x3 h1 h2 h3 h4 h5 hb2 hwr HC HAT HK' HX1 HKr
            go_upto_region 7 with (fail)
            go_region_held3 (fun w' : World => w'.cell? ⟨w.heap.size, 2, none⟩ = some (.int .i64 d.n) ∧ w'.cell? ⟨w.heap.size, 3, none⟩ = some (.slice (some ⟨b, o, none⟩) d.kids.length c) ∧ w'.cell? ⟨b, o + k * 4, none⟩ = some (.int .i64 d.kids[k].kind) ∧ w'.cell? ⟨b, o + k * 4 + 1, none⟩ = some (.string d.kids[k].text) ∧ w'.cell? ⟨b, o + k * 4 + 2, none⟩ = some (.int .i64 d.kids[k].n) ∧ w'.cell? ⟨b, o + k * 4 + 3, none⟩ = some (.slice A' d.kids[k].kids.length c') ∧ Below w2.heap.size w2 w')
              (first | (exact ⟨z2, z3, y0, y1, y2, y3, (Below.refl _ _).drew⟩) | (exact held6 (by assumption) hbf (by dsimp only; omega) (by dsimp only; omega) (by dsimp only; omega) (by dsimp only; omega) (by dsimp only; omega) (by dsimp only; omega)) | assumption)
              (first | (go_at_call 24; refine (HIH.out d.kids[k] A' c' _ (by omega) (by omega) (kids_keep5 hK2.out (And.right (by assumption)))).mono ?_; rintro e w3 ⟨rfl, hbf⟩))
            rename_i hH
            have hq := hH.2.2.2.2.2.2
            go_wp2_with fail
            go_ret
            exact ⟨ret_int (by rw [hv.out, leads_skip _ _ k hlt (fun j hj hjk => HA.out j hj hjk) HV1.out]), HB.out.trans ((HWR.out.trans (hq.mono (by have := HWR.out.size; omega))).mono (Nat.le_of_lt hs'))⟩
          | true =>
            have HV1 := Lib.hid hv1
            clear hv1
            go_wp2_with fail
            refine HC.out.mono ?_
            rintro e w2 ⟨rfl, hb2⟩
            rw [HV1.out]
            go_wp2
            go_roundw
            case rel =>
              refine ⟨k + 1, by omega, by go_num, fun j hj hjk => ?_, HB1.out.trans (hb2.mono hsz)⟩
              by_cases h : j < k
              · exact HA.out j hj h
              · obtain rfl : j = k := by omega
                exact HV1.out
            case measure => simp [intOf]; omega
        · obtain rfl : k = d.kids.length := by omega
          go_wp2
          go_ret
          exact ⟨ret_int (by rw [hv.out, leads_all _ _ (fun k hk => HA.out k hk hk)]), HB.out.trans (HB1.out.mono (Nat.le_of_lt hs'))⟩
end Go.Proofs.YtnpaplfdmpjfgaaDoor
