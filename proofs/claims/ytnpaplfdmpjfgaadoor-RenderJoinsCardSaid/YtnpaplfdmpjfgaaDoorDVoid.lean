/- Void, by the program and by its reference; the kids that are there. -/
import Derived.Test.YtnpaplfdmpjfgaaDoorDKit
namespace Go.Proofs.YtnpaplfdmpjfgaaDoor
open Go.RowKit

mutual
/-- Has a document nothing? -/
def Doc.void : Doc → Bool
  | ⟨k, _, _, kids⟩ => k != 1 && voids kids
def voids : List Doc → Bool
  | [] => true
  | d :: r => d.void && voids r
end
theorem void_eq (d : Doc) : d.void = (d.kind != 1 && voids d.kids) := by cases d; rfl
theorem voids_all (ds : List Doc) : voids ds = ds.all Doc.void := by
  induction ds with
  | nil => rfl
  | cons d r ih => simp [voids, ih]
theorem voids_no {ds : List Doc} {k : Nat} (h : k < ds.length) (hv : ds[k].void = false) : voids ds = false := by
  rw [voids_all, List.all_eq_false]
  exact ⟨_, List.getElem_mem h, by simp [hv]⟩
theorem voids_yes {ds : List Doc} (h : ∀ k (hk : k < ds.length), ds[k].void = true) : voids ds = true := by
  rw [voids_all, List.all_eq_true]
  intro d hd
  obtain ⟨k, hk, rfl⟩ := List.mem_iff_getElem.1 hd
  exact h k hk

set_option maxHeartbeats 1000000 in
theorem rvoid_any (m : Nat) : ∀ (d : Doc) (A : Option Addr) (c : Nat) (w : World), d.wt ≤ m → d.wt ≤ 16777216 → KidsAt w.heap.size w d.kids A →
    Calls Tryd.prog 22 #[.agg #[.int .i64 d.kind, .string d.text, .int .i64 d.n, .slice A d.kids.length c]] w fun e w' => e = .returned (.bool d.void) ∧ Below w.heap.size w w' := by
  induction m with
  | zero => intro d A c w h; have := wt_pos d; omega
  | succ m ih =>
    intro d A c w hm hB hK
    obtain ⟨hbx, hb0, hs0⟩ := box_new w (.int .i64 d.kind) (.string d.text) (.int .i64 d.n) (.slice A d.kids.length c)
    have hkl := kids_lt d
    have HK := Lib.hid (kidsAt_on hK hb0)
    have HX := Lib.hid hbx
    have HB := Lib.hid hb0
    have HS := Lib.hid hs0
    have HIH := Lib.hid ih
    have HV := Lib.hid (void_eq d)
    clear hK hbx hb0 hs0 ih
    cases k1 : (d.kind == 1) with
    | true =>
      have k1' : (d.kind != 1) = false := by simp [bne, k1]
      go_enter Tryd.func22, Tryd.ntmps22
      go_wp2
      go_ret
      exact ⟨ret_bool (by rw [HV.out, k1']; rfl), HB.out⟩
    | false =>
      have k1' := Lib.hid (show (d.kind != 1) = true by simp [bne, k1])
      go_enter Tryd.func22, Tryd.ntmps22
      go_upto_region 3 with (fail)
      obtain ⟨W, hW⟩ : ∃ W, w.alloc (.cells #[.int .i64 d.kind, .string d.text, .int .i64 d.n, .slice A d.kids.length c] 24) = W := ⟨_, rfl⟩
      have hk := HK.out
      have hx := HX.out
      have hb := HB.out
      have hs := HS.out
      rw [hW] at hk hx hb hs ⊢
      clear hW HK HX HB HS
      have HK := Lib.hid hk
      have HX := Lib.hid hx
      have HB := Lib.hid hb
      have hs' : w.heap.size < W.heap.size := by omega
      clear hk hx hb hs
      go_wp2_with fail
      go_loopw [3] (fun i wr => ∃ k : Nat, k ≤ d.kids.length ∧ i = .int .i64 k ∧ (∀ j (hj : j < d.kids.length), j < k → d.kids[j].void = true) ∧ Below W.heap.size W wr) (fun i wr => d.kids.length - (intOf i).toNat)
      case atStart => exact ⟨0, by omega, rfl, fun j _ hj => by omega, Below.refl _ _⟩
      case round =>
        obtain ⟨k, hk, rfl, hall, hB1⟩ := hrel
        obtain ⟨x0, x1, x2, x3, _, _, _, _⟩ := HX.out.below hB1 hs'
        have HA := Lib.hid hall
        have HB1 := Lib.hid hB1
        have hsz := hB1.size
        have HKr := Lib.hid (kidsAt_on HK.out hB1)
        clear hall hB1
        by_cases hlt : k < d.kids.length
        · obtain ⟨b, o, rfl, hat⟩ := kidsAt_get HKr.out (kid_in hlt)
          obtain ⟨A', c', h1, h2, h3, h4, h5, h6, h7, h8⟩ := docAt_iff.1 hat
          have HK' := Lib.hid h8
          have hwt := kid_lt (List.getElem_mem hlt)
          clear h8 hat h7
          have hcall := HIH.out d.kids[k] A' c' wr (by omega) (by omega) HK'.out
          cases hv : d.kids[k].void with
          | false =>
            have HC := Lib.hid hcall
            have HV1 := Lib.hid hv
            clear hcall hv
            go_wp2_with fail
            refine HC.out.mono ?_
            rintro e w2 ⟨rfl, hb2⟩
            rw [HV1.out]
            go_wp2
            go_ret
            exact ⟨ret_bool (by rw [HV.out, k1'.out, voids_no hlt HV1.out]; rfl), HB.out.trans ((HB1.out.trans (hb2.mono hsz)).mono (Nat.le_of_lt hs'))⟩
          | true =>
            have HC := Lib.hid hcall
            have HV1 := Lib.hid hv
            clear hcall hv
            go_wp2_with fail
            refine HC.out.mono ?_
            rintro e w2 ⟨rfl, hb2⟩
            rw [HV1.out]
            go_wp2
            go_roundw
            case rel =>
              refine ⟨k + 1, by omega, by go_num, fun j hj hjk => ?_, HB1.out.trans (hb2.mono hsz)⟩
              by_cases h : j < k
              · exact HA.out j hj h
              · obtain rfl : j = k := by omega
                exact HV1.out
            case measure => simp [intOf]; omega
        · obtain rfl : k = d.kids.length := by omega
          go_wp2
          go_ret
          exact ⟨ret_bool (by rw [HV.out, k1'.out, voids_yes (fun k hk => HA.out k hk hk)]; rfl), HB.out.trans (HB1.out.mono (Nat.le_of_lt hs'))⟩

/-- What 'there' answers of a document, wherever it is. -/
def ThereSays (d : Doc) : Prop := ∀ (A : Option Addr) (c : Nat) (w : World), KidsAt w.heap.size w d.kids A →
  Calls Tryd.prog 49 #[.agg #[.int .i64 d.kind, .string d.text, .int .i64 d.n, .slice A d.kids.length c]] w fun e w' => e = .returned (.bool !d.void) ∧ Below w.heap.size w w'
/-- The documents that are not void. -/
def Doc.there (d : Doc) : Bool := !d.void
theorem there_keep {ds : List Doc} {k : Nat} (h : k < ds.length) (hv : ds[k].void = true) : (ds.take (k + 1)).filter Doc.there = (ds.take k).filter Doc.there := by
  rw [List.take_succ_eq_append_getElem h, List.filter_append]
  simp [Doc.there, hv]
theorem there_add {ds : List Doc} {k : Nat} (h : k < ds.length) (hv : ds[k].void = false) : (ds.take (k + 1)).filter Doc.there = (ds.take k).filter Doc.there ++ [ds[k]] := by
  rw [List.take_succ_eq_append_getElem h, List.filter_append]
  simp [Doc.there, hv]

/-- What 'kept' hands back. -/
def KeptSaid (ds : List Doc) (w : World) (e : Ending) (w' : World) : Prop := ∃ v l, e = .returned v ∧ Docs w.heap.size w' v l ∧ l.map DV.d = ds.filter Doc.there ∧ Below w.heap.size w w'

/-- What 'kept' hands back: the kept documents' kids lie where they lay. -/
def KeptAt (n₀ : Nat) (ds : List Doc) (w : World) (e : Ending) (w' : World) : Prop := ∃ v l, e = .returned v ∧ Docs w.heap.size w' v l ∧ l.map DV.d = ds.filter Doc.there ∧ Below w.heap.size w w' ∧ ∀ t ∈ l, t.Ok n₀ w'
theorem below_le {B B' : Nat} {w w' : World} (h : Below B w w') (hB : B' ≤ B) : Below B' w w' := h.mono hB

set_option maxRecDepth 100000 in
set_option maxHeartbeats 2000000 in
theorem kept_at (n₀ : Nat) (ds : List Doc) (hth : ∀ d ∈ ds, ThereSays d) (A : Option Addr) (c : Nat) (w : World) (hn₀ : n₀ ≤ w.heap.size) (hlen : ds.length ≤ 16777216) (hK : KidsAt n₀ w ds A) :
    Calls Tryd.prog 48 #[.slice A ds.length c, .func (.func 49) #[] #[]] w (KeptAt n₀ ds w) := by
  obtain ⟨i0, hi, hz0, hz1, hz2⟩ := info_parts info24
  obtain ⟨MC, hMC, hmk⟩ : ∃ MC : Array Value, MC.size = ds.length * 4 ∧ ∀ u : World, (Instr.makeSlice 22 (.int .i64 0) (.int .i64 (ds.length : Int))).run Tryd.prog u =
      .ok (.slice (some ⟨u.heap.size, 0, none⟩) 0 ds.length) (u.alloc (.cells MC 24)) := by
    refine ⟨madeCells _ _, size_madeCells (Value.cells (.agg #[.int .i64 0, .string .empty, .int .i64 0, .slice none 0 0])) (ds.length * 4), fun u => ?_⟩
    have h := run_make (P := Tryd.prog) u 22 24 i0 _ Tryd.underlying22 hi hz0 .i64 .i64 0 (ds.length : Int) (by omega) (by omega) (by rw [hz2]; omega) (by omega)
    rw [hz1, show ((ds.length : Int)).toNat = ds.length from by omega] at h
    exact h
  have hO := World.ownsRow_made (base := w.heap.size) (e := 24) (size := 4) w MC ds.length (Nat.le_refl _) (by unfold maxLen; omega) hMC
  have hB0 := (Below.refl w.heap.size w).alloc (Nat.le_refl _) (.cells MC 24)
  have HO := Lib.hid hO
  have HB0 := Lib.hid hB0
  have HK := Lib.hid hK
  have HTH := Lib.hid hth
  clear hO hB0 hK hth hMC hi hz0 hz1 hz2
  go_enter Tryd.func48, Tryd.ntmps48
  go_wp2
  go_loopw [5, 13] (fun out i wr => ∃ (k : Nat) (l : List DV), k ≤ ds.length ∧ i = .int .i64 k ∧ l.map DV.d = (ds.take k).filter Doc.there ∧ (∀ t ∈ l, t.Ok n₀ w) ∧ wr.ownsRow w.heap.size 24 4 out l.length (flatD l) ∧ Below w.heap.size w wr) (fun _ i wr => ds.length - (intOf i).toNat)
  case atStart => exact ⟨0, [], by omega, rfl, rfl, by simp, HO.out, HB0.out⟩
  case round =>
    obtain ⟨k, l, hk, rfl, hl, hok, hown, hB⟩ := hrel
    clear hmk
    have hll : l.length ≤ k := by have := congrArg List.length hl; rw [List.length_map] at this; rw [this]; have := List.length_filter_le Doc.there (ds.take k); rw [List.length_take] at this; omega
    have HL := Lib.hid hl
    have HOK := Lib.hid hok
    have HOWN := Lib.hid hown
    have HB := Lib.hid hB
    have hsz := hB.size
    clear hl hok hown hB
    by_cases hlt : k < ds.length
    · obtain ⟨b, o, rfl, hat⟩ := kidsAt_get HK.out (kid_in hlt)
      obtain ⟨A', c', q1, q2, q3, q4, q5, q6, q7, q8⟩ := docAt_iff.1 hat
      obtain ⟨A'', c'', h1, h2, h3, h4, h5, h6, h7, h8⟩ := docAt_iff.1 (at_below hat (below_le HB.out hn₀))
      obtain ⟨rfl, rfl⟩ : A' = A'' ∧ c' = c'' := by
        have := ((below_le HB.out hn₀).cell (p := ⟨b, o + k * 4 + 3, none⟩) h1).trans q5
        rw [h5] at this
        simp only [Option.some.injEq, Value.slice.injEq] at this
        exact ⟨this.1.symm, this.2.2.symm⟩
      have hdv : (⟨ds[k], A', c'⟩ : DV).Ok n₀ w := ⟨q6, q7, q8⟩
      have HDV := Lib.hid hdv
      clear q1 q2 q3 q4 q5 q6 q7 q8 hat h6 h7 hdv
      obtain ⟨hbx, hb0, hs0⟩ := box_new wr (.int .i64 ds[k].kind) (.string ds[k].text) (.int .i64 ds[k].n) (.slice A' ds[k].kids.length c')
      have hk8 := kidsAt_on (kidsAt_mono h8 (Nat.le_trans hn₀ hsz)) hb0
      have HC := Lib.hid (HTH.out ds[k] (List.getElem_mem hlt) A' c' _ hk8)
      have HBX := Lib.hid hbx
      have HB1 := Lib.hid hb0
      have HS1 := Lib.hid hs0
      clear h8 hbx hb0 hs0 hk8
      go_wp2_with fail
      obtain ⟨W, hW⟩ : ∃ W, wr.alloc (.cells #[.int .i64 ds[k].kind, .string ds[k].text, .int .i64 ds[k].n, .slice A' ds[k].kids.length c'] 24) = W := ⟨_, rfl⟩
      have hc := HC.out
      have hx := HBX.out
      have hb := HB1.out
      have hs := HS1.out
      rw [hW] at hc hx hb hs ⊢
      clear hW HC HBX HB1 HS1 h1 h2 h3 h4 h5
      have hs' : wr.heap.size < W.heap.size := by omega
      have HWB := Lib.hid hb
      clear hs hb
      refine hc.mono ?_
      rintro e w2 ⟨rfl, hb2⟩
      have hx2 := hx.below hb2 hs'
      have hb12 := HWB.out.trans (hb2.mono (Nat.le_of_lt hs'))
      have hB2 := Lib.hid (HB.out.trans (hb12.mono hsz))
      have hO2 := own_below HOWN.out hb12
      have hs2 := hb2.size
      clear hc hx hb2 hb12
      cases hv : ds[k].void with
      | true =>
        have HV := Lib.hid (there_keep hlt hv)
        have HO2 := Lib.hid hO2
        clear hv hx2 hO2
        go_wp2
        go_roundw
        case rel => exact ⟨k + 1, l, by omega, by go_num, by rw [HV.out]; exact HL.out, HOK.out, HO2.out, hB2.out⟩
        case measure => simp [intOf]; omega
      | false =>
        have HV := Lib.hid (there_add hlt hv)
        obtain ⟨x0, x1, x2, x3, _, _, _, _⟩ := hx2
        clear hv
        go_wp2_with (at_builtin; refine wpList_app1 rfl _ _ 22 rfl 24 _ 4 56 Tryd.underlying22 info24 rfl (by decide) w2 (DV.cells ⟨ds[k], A', c'⟩) rfl _ rfl w.heap.size _ _ _ rfl hO2 rfl rfl (by simp [DV.cells, Value.oneCell']) (by unfold maxLen; omega) (by omega) (by omega) ?_; intro g cc w4 hown4 hB4 _ _)
        go_roundw
        case rel =>
          refine ⟨k + 1, l ++ [⟨ds[k], A', c'⟩], by omega, by go_num, by rw [HV.out, List.map_append, HL.out]; rfl, fun t ht => ?_, by rw [flatD_snoc, List.length_append]; exact hown4, hB2.out.trans hB4⟩
          rcases List.mem_append.1 ht with h | h
          · exact HOK.out t h
          · simp at h
            subst h
            exact HDV.out
        case measure => simp [intOf]; omega
    · obtain rfl : k = ds.length := by omega
      go_wp2
      go_ret
      exact ⟨_, l, rfl, ⟨HOWN.out, fun t ht => ((HOK.out t ht).below (below_le HB.out hn₀)).mono (Nat.le_trans hn₀ hsz)⟩, by rw [HL.out, List.take_length], HB.out, fun t ht => (HOK.out t ht).below (below_le HB.out hn₀)⟩

theorem kept_of (ds : List Doc) (hth : ∀ d ∈ ds, ThereSays d) (A : Option Addr) (c : Nat) (w : World) (hlen : ds.length ≤ 16777216) (hK : KidsAt w.heap.size w ds A) :
    Calls Tryd.prog 48 #[.slice A ds.length c, .func (.func 49) #[] #[]] w (KeptSaid ds w) :=
  (kept_at w.heap.size ds hth A c w (Nat.le_refl _) hlen hK).mono fun _ _ ⟨v, l, h1, h2, h3, h4, _⟩ => ⟨v, l, h1, h2, h3, h4⟩

def VoidSays (d : Doc) : Prop := ∀ (A : Option Addr) (c : Nat) (w : World), KidsAt w.heap.size w d.kids A →
  Calls Tryd.prog 21 #[.agg #[.int .i64 d.kind, .string d.text, .int .i64 d.n, .slice A d.kids.length c]] w fun e w' => e = .returned (.bool d.void) ∧ Below w.heap.size w w'

set_option maxHeartbeats 1000000 in
theorem there_of (d : Doc) (h : VoidSays d) : ThereSays d := by
  intro A c w hK
  obtain ⟨hbx, hb0, hs0⟩ := box_new w (.int .i64 d.kind) (.string d.text) (.int .i64 d.n) (.slice A d.kids.length c)
  have hcall := Lib.hid (h A c _ (kidsAt_on hK hb0))
  have HB := Lib.hid hb0
  have HS := Lib.hid hs0
  clear hK hbx hb0 hs0 h
  go_enter Tryd.func49, Tryd.ntmps49
  go_wp2_with fail
  refine hcall.out.mono ?_
  rintro e w1 ⟨rfl, hb1⟩
  go_wp2
  go_ret
  exact ⟨rfl, HB.out.trans (hb1.mono (by rw [HS.out]; omega))⟩

theorem there_none (ds : List Doc) : (((ds.filter Doc.there).length : Int) == 0) = voids ds := by
  rw [voids_all, Bool.eq_iff_iff, beq_iff_eq, List.all_eq_true]
  constructor
  · intro h d hd
    have h0 : ds.filter Doc.there = [] := List.eq_nil_of_length_eq_zero (by omega)
    have := List.filter_eq_nil_iff.1 h0 d hd
    simpa [Doc.there] using this
  · intro h
    have h0 : ds.filter Doc.there = [] := List.filter_eq_nil_iff.2 fun d hd => by simp [Doc.there, h d hd]
    rw [h0]; rfl

set_option maxHeartbeats 1000000 in
theorem void_step (d : Doc) (hw : d.wt ≤ 16777216) (h : ∀ k ∈ d.kids, ThereSays k) : VoidSays d := by
  intro A c w hK
  obtain ⟨hbx, hb0, hs0⟩ := box_new w (.int .i64 d.kind) (.string d.text) (.int .i64 d.n) (.slice A d.kids.length c)
  have hkl := kids_lt d
  have hcall := Lib.hid (kept_of d.kids h A c _ (by omega) (kidsAt_on hK hb0))
  have HB := Lib.hid hb0
  have HS := Lib.hid hs0
  have HV := Lib.hid (void_eq d)
  have HN := Lib.hid (there_none d.kids)
  clear hK hbx hb0 hs0 h
  cases k1 : (d.kind != 1) with
  | false =>
    have hv := Lib.hid (show d.void = false by rw [HV.out, k1]; rfl)
    go_enter Tryd.func21, Tryd.ntmps21
    go_wp2
    go_ret
    exact ⟨ret_bool hv.out.symm, HB.out⟩
  | true =>
    have hv := Lib.hid (show d.void = voids d.kids by rw [HV.out, k1]; rfl)
    go_enter Tryd.func21, Tryd.ntmps21
    go_wp2_with fail
    refine hcall.out.mono ?_
    rintro e w1 ⟨v, l, rfl, hD, hl, hb1⟩
    obtain ⟨A1, c1, rfl, _, _, _⟩ := hD.at_
    have hlen : l.length = (d.kids.filter Doc.there).length := by rw [← hl, List.length_map]
    have HLEN := Lib.hid hlen
    have HB1 := Lib.hid (HB.out.trans (hb1.mono (by rw [HS.out]; omega)))
    clear hD hl hb1 hlen
    go_wp2
    go_ret
    exact ⟨ret_bool (by rw [hv.out, ← HN.out, HLEN.out]), HB1.out⟩

theorem void_says (m : Nat) : ∀ d : Doc, d.wt ≤ m → d.wt ≤ 16777216 → VoidSays d := by
  induction m with
  | zero => intro d h; have := wt_pos d; omega
  | succ m ih =>
    intro d hm hB
    refine void_step d hB fun k hk => there_of k (ih k ?_ ?_)
    · have := kid_lt hk; omega
    · have := kid_lt hk; omega
theorem void_any (d : Doc) (A : Option Addr) (c : Nat) (w : World) (hB : d.wt ≤ 16777216) (hK : KidsAt w.heap.size w d.kids A) :
    Calls Tryd.prog 21 #[.agg #[.int .i64 d.kind, .string d.text, .int .i64 d.n, .slice A d.kids.length c]] w fun e w' => e = .returned (.bool d.void) ∧ Below w.heap.size w w' := void_says d.wt d (Nat.le_refl _) hB A c w hK
theorem kept_any (ds : List Doc) (A : Option Addr) (c : Nat) (w : World) (hB : wts ds ≤ 16777216) (hK : KidsAt w.heap.size w ds A) :
    Calls Tryd.prog 48 #[.slice A ds.length c, .func (.func 49) #[] #[]] w (KeptSaid ds w) :=
  kept_of ds (fun d hd => there_of d (void_says d.wt d (Nat.le_refl _) (by have := wts_le hd; omega))) A c w (by have := len_le_wts ds; omega) hK
theorem kept_below (n₀ : Nat) (ds : List Doc) (A : Option Addr) (c : Nat) (w : World) (hn₀ : n₀ ≤ w.heap.size) (hB : wts ds ≤ 16777216) (hK : KidsAt n₀ w ds A) :
    Calls Tryd.prog 48 #[.slice A ds.length c, .func (.func 49) #[] #[]] w (KeptAt n₀ ds w) :=
  kept_at n₀ ds (fun d hd => there_of d (void_says d.wt d (Nat.le_refl _) (by have := wts_le hd; omega))) A c w hn₀ (by have := len_le_wts ds; omega) hK
end Go.Proofs.YtnpaplfdmpjfgaaDoor
