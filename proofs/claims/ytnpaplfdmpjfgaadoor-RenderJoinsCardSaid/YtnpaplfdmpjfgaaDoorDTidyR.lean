/- A document without what makes no difference: the reference's tidy. -/
import Derived.Test.YtnpaplfdmpjfgaaDoorDMerge
import Derived.Test.YtnpaplfdmpjfgaaDoorDNestP
import Derived.StillTailTactics
namespace Go.Proofs.YtnpaplfdmpjfgaaDoor
open Go.RowKit

theorem rtidy_void (d : Doc) (hw : d.wt ≤ 16777216) (hv : d.void = true) : TidySays 53 d := by
  intro A c w hnil hK
  obtain ⟨hbx, hb0, hs0⟩ := box_new w (.int .i64 d.kind) (.string d.text) (.int .i64 d.n) (.slice A d.kids.length c)
  obtain ⟨W0, hW0⟩ : ∃ W0, w.alloc (.cells #[.int .i64 d.kind, .string d.text, .int .i64 d.n, .slice A d.kids.length c] 24) = W0 := ⟨_, rfl⟩
  rw [hW0] at hbx hb0 hs0
  obtain ⟨hby, hb1, hs1⟩ := box_new W0 (.int .i64 0) (.string ⟨#[]⟩) (.int .i64 0) (.slice none 0 0)
  obtain ⟨W, hW⟩ : ∃ W, W0.alloc (.cells #[.int .i64 0, .string ⟨#[]⟩, .int .i64 0, .slice none 0 0] 24) = W := ⟨_, rfl⟩
  rw [hW] at hby hb1 hs1
  rw [hs0] at hby
  have HC := Lib.hid (rvoid_any d.wt d A c W (Nat.le_refl _) hw (kidsAt_on (kidsAt_on hK hb0) hb1))
  have HV := Lib.hid hv
  have hx := hbx.below hb1 (by omega)
  have HT := Lib.hid (tidy_void hv)
  obtain ⟨x0, x1, x2, x3, _, _, _, _⟩ := hx
  clear hv
  go_enter Tryd.func53, Tryd.ntmps53
  go_wp2_with fail
  refine HC.out.mono ?_
  rintro e w1 ⟨rfl, hb2⟩
  rw [HV.out]
  have hy1 := hby.below hb2 (by omega)
  have HB := Lib.hid ((hb0.trans (hb1.mono (by omega))).trans (hb2.mono (by omega)))
  have hsz := hb2.size
  have HY := Lib.hid hy1
  obtain ⟨y0, y1, y2, y3, f0, f1, f2, f3⟩ := hy1
  clear hbx hby hb0 hb1 hb2 hW hW0
  go_wp2
  obtain ⟨hz, hg⟩ := HY.out.set (.int .i64 0) (.string ⟨#[]⟩) (.int .i64 0) (.slice none 0 0)
  have hb := gb_below HB.out hg (by omega) (by omega)
  generalize ((((w1.setCell ⟨w.heap.size + 1, 0, none⟩ (.int .i64 0)).setCell ⟨w.heap.size + 1, 1, none⟩ (.string ⟨#[]⟩)).setCell ⟨w.heap.size + 1, 2, none⟩ (.int .i64 0)).setCell ⟨w.heap.size + 1, 3, none⟩ (.slice none 0 0)) = W5 at hz hb ⊢
  obtain ⟨z0, z1, z2, z3, _, _, _, _⟩ := hz
  refine bodyPost_ret (v := .agg #[.int .i64 0, .string ⟨#[]⟩, .int .i64 0, .slice none 0 0]) (by simp [results, Tryd.results53, go_sem, z0, z1, z2, z3]) rfl ?_
  exact ⟨none, 0, by rw [HT.out]; rfl, ⟨by rw [HT.out]; exact Nat.le_refl _, fun _ => rfl, by rw [HT.out]; trivial⟩, hb⟩

set_option maxRecDepth 100000 in
set_option maxHeartbeats 4000000 in
theorem rtidy_str (d : Doc) (hw : d.wt ≤ 16777216) (hf : d.form = true) (hv : d.void = false) (k1 : (d.kind == 1) = true) : TidySays 53 d := by
  intro A c w hnil hK
  obtain ⟨hbx, hb0, hs0⟩ := box_new w (.int .i64 d.kind) (.string d.text) (.int .i64 d.n) (.slice A d.kids.length c)
  obtain ⟨W0, hW0⟩ : ∃ W0, w.alloc (.cells #[.int .i64 d.kind, .string d.text, .int .i64 d.n, .slice A d.kids.length c] 24) = W0 := ⟨_, rfl⟩
  rw [hW0] at hbx hb0 hs0
  obtain ⟨hby, hb1, hs1⟩ := box_new W0 (.int .i64 0) (.string ⟨#[]⟩) (.int .i64 0) (.slice none 0 0)
  obtain ⟨W, hW⟩ : ∃ W, W0.alloc (.cells #[.int .i64 0, .string ⟨#[]⟩, .int .i64 0, .slice none 0 0] 24) = W := ⟨_, rfl⟩
  rw [hW] at hby hb1 hs1
  rw [hs0] at hby
  have HKW := Lib.hid (kidsAt_on (kidsAt_on hK hb0) hb1)
  have HC := Lib.hid (rvoid_any d.wt d A c W (Nat.le_refl _) hw HKW.out)
  have hx := hbx.below hb1 (by omega)
  have HV := Lib.hid hv
  have HF := Lib.hid (form_at.1 hf)
  have HNIL0 := Lib.hid hnil
  have HT := Lib.hid (tidy_str k1)
  obtain ⟨x0, x1, x2, x3, _, _, _, _⟩ := id hx
  clear hv hf hnil
  go_enter Tryd.func53, Tryd.ntmps53
  go_wp2_with fail
  refine HC.out.mono ?_
  rintro e w3 ⟨rfl, hb2⟩
  rw [HV.out]
  have hy1 := hby.below hb2 (by omega)
  have HB := Lib.hid ((hb0.trans (hb1.mono (by omega))).trans (hb2.mono (by omega)))
  have hsz := hb2.size
  have HY := Lib.hid hy1
  obtain ⟨y0, y1, y2, y3, f0, f1, f2, f3⟩ := hy1
  obtain ⟨v0, v1, v2, v3, _, _, _, _⟩ := hx.below hb2 (by omega)
  clear hbx hby hb0 hb1 hb2 hW hW0 x0 x1 x2 x3 HC HKW
  go_wp2
  obtain ⟨hz, hg⟩ := HY.out.set (.int .i64 d.kind) (.string d.text) (.int .i64 d.n) (.slice A d.kids.length c)
  have hb := gb_below HB.out hg (by omega) (by omega)
  have hgs := hg.size
  have HG := Lib.hid hg
  generalize ((((w3.setCell ⟨w.heap.size + 1, 0, none⟩ (.int .i64 d.kind)).setCell ⟨w.heap.size + 1, 1, none⟩ (.string d.text)).setCell ⟨w.heap.size + 1, 2, none⟩ (.int .i64 d.n)).setCell ⟨w.heap.size + 1, 3, none⟩ (.slice A d.kids.length c)) = W6 at hz hb HG hgs ⊢
  obtain ⟨z0, z1, z2, z3, _, _, _, _⟩ := hz
  refine bodyPost_ret (v := .agg #[.int .i64 d.kind, .string d.text, .int .i64 d.n, .slice A d.kids.length c]) (by simp [results, Tryd.results53, go_sem, z0, z1, z2, z3]) rfl ?_
  have hk0 : d.kids = [] := List.eq_nil_of_length_eq_zero (HF.out.l.resolve_left (by have := k1; rw [beq_iff_eq] at this; omega))
  exact ⟨A, c, by rw [HT.out], by rw [HT.out]; exact ⟨by simp [hk0], HNIL0.out, by simp only [hk0]; trivial⟩, hb⟩

theorem spreads_app (k : Int) (a b : List Doc) : spreads k (a ++ b) = spreads k a ++ spreads k b := by
  induction a with
  | nil => simp [spreads]
  | cons x r ih =>
    simp only [List.cons_append, spreads, ih]
    split <;> simp
theorem spreads_skip {ds : List Doc} {k : Nat} (h : k < ds.length) (hv : ds[k].void = true) (kd : Int) : spreads kd (ds.take (k + 1)) = spreads kd (ds.take k) := by
  rw [List.take_succ_eq_append_getElem h, spreads_app]
  simp [spreads, hv]
theorem spreads_add {ds : List Doc} {k : Nat} (h : k < ds.length) (hv : ds[k].void = false) (kd : Int) : spreads kd (ds.take (k + 1)) = spreads kd (ds.take k) ++ taken kd ds[k].tidy := by
  rw [List.take_succ_eq_append_getElem h, spreads_app]
  simp [spreads, hv]
theorem Box4.grown {w w' : World} {b : Nat} {row : Option Nat} {v0 v1 v2 v3 : Value} (h : Box4 w b v0 v1 v2 v3) (hg : w.grownBy w' row) (hlt : b < w.heap.size) (hne : some b ≠ row) : Box4 w' b v0 v1 v2 v3 :=
  ⟨(hg.cell_far ⟨b, 0, none⟩ hlt hne).trans h.c0, (hg.cell_far ⟨b, 1, none⟩ hlt hne).trans h.c1, (hg.cell_far ⟨b, 2, none⟩ hlt hne).trans h.c2, (hg.cell_far ⟨b, 3, none⟩ hlt hne).trans h.c3,
    (hg.frozen_far ⟨b, 0, none⟩ hlt hne).trans h.f0, (hg.frozen_far ⟨b, 1, none⟩ hlt hne).trans h.f1, (hg.frozen_far ⟨b, 2, none⟩ hlt hne).trans h.f2, (hg.frozen_far ⟨b, 3, none⟩ hlt hne).trans h.f3⟩
theorem Box4.set2 {w : World} {b : Nat} {v0 v1 v2 v3 : Value} (h : Box4 w b v0 v1 v2 v3) (u : Value) : Box4 (w.setCell ⟨b, 2, none⟩ u) b v0 v1 u v3 ∧ w.grownBy (w.setCell ⟨b, 2, none⟩ u) (some b) := by
  obtain ⟨c0, c1, c2, c3, f0, f1, f2, f3⟩ := h
  refine ⟨⟨?_, ?_, ?_, ?_, ?_, ?_, ?_, ?_⟩, gb_set _ _ _ _⟩
  all_goals go_simp
theorem DRow.drew {base : Nat} {w : World} {v : Value} {l : List DV} (h : DRow base w v l) : DRow base w.drew v l := ⟨h.own, fun t ht => (h.ins t ht).later (fun _ hb => hb) fun _ _ _ => rfl⟩
theorem DV.In.drew {S : Nat → Prop} {w : World} {v : DV} (h : v.In S w) : v.In S w.drew := h.later (fun _ hb => hb) fun _ _ _ => rfl
theorem kidsIn_drew {S : Nat → Prop} {w : World} {ds : List Doc} {A : Option Addr} (h : KidsIn S w ds A) : KidsIn S w.drew ds A := kidsIn_later h (fun _ hb => hb) fun _ _ _ => rfl
theorem Box4.drew {w : World} {b : Nat} {v0 v1 v2 v3 : Value} (h : Box4 w b v0 v1 v2 v3) : Box4 w.drew b v0 v1 v2 v3 := ⟨h.c0, h.c1, h.c2, h.c3, h.f0, h.f1, h.f2, h.f3⟩
theorem DRow.shape {base : Nat} {w : World} {A : Option Addr} {n c : Nat} {l : List DV} (h : DRow base w (.slice A n c) l) : (A = none ∧ l = [] ∧ c = 0) ∨ ∃ g, A = some ⟨g, 0, none⟩ ∧ l.length ≤ c := by
  rcases h.own.2 with ⟨hv, hn⟩ | ⟨g, cap, cur, hv, _, _, hc, _⟩
  · simp only [Value.slice.injEq] at hv
    exact .inl ⟨hv.1, List.eq_nil_of_length_eq_zero hn, hv.2.2⟩
  · simp only [Value.slice.injEq] at hv
    exact .inr ⟨g, hv.1, by rw [hv.2.2]; exact hc⟩
theorem pushes_len (kd : Int) (xs : List Doc) : (xs.foldl (push kd) []).length ≤ wts xs := by
  have h1 := pushes_wt kd xs []
  have h2 := len_le_wts (xs.foldl (push kd) [])
  simp only [wts] at h1
  omega

set_option maxRecDepth 100000 in
set_option maxHeartbeats 16000000 in
theorem rtidy_there (d : Doc) (hw : d.wt ≤ 16777216) (hf : d.form = true) (hv : d.void = false) (k1 : (d.kind == 1) = false) (ih : ∀ k ∈ d.kids, TidySays 53 k) : TidySays 53 d := by
  intro A c w hnil hK
  obtain ⟨hbx, hb0, hs0⟩ := box_new w (.int .i64 d.kind) (.string d.text) (.int .i64 d.n) (.slice A d.kids.length c)
  obtain ⟨W0, hW0⟩ : ∃ W0, w.alloc (.cells #[.int .i64 d.kind, .string d.text, .int .i64 d.n, .slice A d.kids.length c] 24) = W0 := ⟨_, rfl⟩
  rw [hW0] at hbx hb0 hs0
  obtain ⟨hby, hb1, hs1⟩ := box_new W0 (.int .i64 0) (.string ⟨#[]⟩) (.int .i64 0) (.slice none 0 0)
  obtain ⟨W, hW⟩ : ∃ W, W0.alloc (.cells #[.int .i64 0, .string ⟨#[]⟩, .int .i64 0, .slice none 0 0] 24) = W := ⟨_, rfl⟩
  rw [hW] at hby hb1 hs1
  rw [hs0] at hby
  have HKW := Lib.hid (kidsAt_on (kidsAt_on hK hb0) hb1)
  have HC := Lib.hid (rvoid_any d.wt d A c W (Nat.le_refl _) hw HKW.out)
  have hx := hbx.below hb1 (by omega)
  have hwk : wts d.kids ≤ 16777216 := by rw [wt_eq] at hw; omega
  have hdl := len_le_wts d.kids
  have HV := Lib.hid hv
  have HF := Lib.hid (form_at.1 hf)
  have HIH := Lib.hid ih
  have hok := spreads_ok hf hv k1
  have HNE0 := Lib.hid hok.2
  have HT := Lib.hid (tidy_else k1 hv)
  obtain ⟨x0, x1, x2, x3, _, _, _, _⟩ := id hx
  clear hv hf ih hnil hok hK
  go_enter Tryd.func53, Tryd.ntmps53
  go_wp2_with fail
  refine HC.out.mono ?_
  rintro e w1 ⟨rfl, hb2⟩
  rw [HV.out]
  have HY := Lib.hid (hby.below hb2 (by omega))
  have HX := Lib.hid (hx.below hb2 (by omega))
  have HB := Lib.hid ((hb0.trans (hb1.mono (by omega))).trans (hb2.mono (by omega)))
  have hsz := hb2.size
  have HS := Lib.hid (show w.heap.size + 1 < w1.heap.size by omega)
  have HK := Lib.hid (kidsAt_on HKW.out hb2)
  obtain ⟨x0, x1, x2, x3, _, _, _, _⟩ := HX.out
  clear hbx hby hb0 hb1 hb2 hW hW0 HC HKW hx hs0 hs1 hsz
  go_wp2_with fail
  go_loopw [3, 4] (fun v i wr => ∃ (k : Nat) (l : List DV), k ≤ d.kids.length ∧ i = .int .i64 k ∧ l.map DV.d = (spreads d.kind (d.kids.take k)).foldl (push d.kind) [] ∧ DRow w1.heap.size wr v l ∧ Below w1.heap.size w1 wr) (fun _ i wr => d.kids.length - (intOf i).toNat)
  case atStart => exact ⟨0, [], by omega, rfl, rfl, DRow.nil _ _, Below.refl _ _⟩
  case round =>
    obtain ⟨k, l, hk, rfl, hl, hR, hB⟩ := hrel
    have HL := Lib.hid hl
    have HR := Lib.hid hR
    have HBR := Lib.hid hB
    have HKr := Lib.hid (kidsAt_on HK.out hB)
    have hsr := hB.size
    have hs1 := HS.out
    have hll : l.length ≤ 16777216 ∧ wts (l.map DV.d) ≤ wts (d.kids.take k) := by
      have h1 := pushes_wt d.kind (spreads d.kind (d.kids.take k)) []
      have h2 := spreads_wt d.kind (d.kids.take k)
      have h3 := wts_take_le' d.kids k
      rw [← hl] at h1
      simp only [wts] at h1
      have h4 := len_le_wts (l.map DV.d)
      rw [List.length_map] at h4
      omega
    obtain ⟨hll, hlw⟩ := hll
    obtain ⟨A3, c3, rfl⟩ := own_form hR.own
    obtain ⟨x0, x1, x2, x3, _, _, _, _⟩ := HX.out.below hB (by omega)
    clear hl hR hB
    by_cases hlt : k < d.kids.length
    · obtain ⟨b, o, rfl, hat⟩ := kidsAt_get HKr.out (kid_in hlt)
      obtain ⟨A', c', h1, h2, h3, h4, h5, h6, h7, h8⟩ := docAt_iff.1 hat
      have hwt := kid_lt (List.getElem_mem hlt)
      have HCK := Lib.hid (HIH.out d.kids[k] (List.getElem_mem hlt) A' c' wr h7 h8)
      have hform := HF.out.kids d.kids[k] (List.getElem_mem hlt)
      have hwtk := wts_take' hlt
      have hwtl := wts_take_le' d.kids (k + 1)
      have htw := tidy_wt d.kids[k]
      have HKIND := Lib.hid (tidy_kind hform)
      have HTF := Lib.hid (fun h : d.kids[k].void = false => tidy_fine hform h)
      clear hat h6 h7 h8 hform
      go_wp2_with fail
      refine HCK.out.mono ?_
      rintro e w4 ⟨A2, c2, rfl, hin, hb4⟩
      clear h1 h2 h3 h4 h5 x0 x1 x2 x3 HCK
      obtain ⟨t, ht⟩ : ∃ t, d.kids[k].tidy = t := ⟨_, rfl⟩
      rw [ht] at hin htw
      rw [ht]
      obtain ⟨hbk, hbk1, hbk2⟩ := box_new w4 (.int .i64 t.kind) (.string t.text) (.int .i64 t.n) (.slice A2 t.kids.length c2)
      obtain ⟨W5, hW5⟩ : ∃ W5, w4.alloc (.cells #[.int .i64 t.kind, .string t.text, .int .i64 t.n, .slice A2 t.kids.length c2] 24) = W5 := ⟨_, rfl⟩
      rw [hW5] at hbk hbk1 hbk2
      have hb45 := hb4.trans (hbk1.mono hb4.size)
      have hR5 := HR.out.below hb45
      have hin5 : (⟨t, A2, c2⟩ : DV).In (Off w1.heap.size (.slice A3 l.length c3) W5) W5 := hin.later (fun b hb => ⟨by omega, by have := hb.2; omega, fun e => by have := (HR.out.own.lt b e.symm).2; have := hb.1; omega⟩) (fun b o hb => hbk1.cell (p := ⟨b, o, none⟩) hb.2)
      have hoff : Off w1.heap.size (.slice A3 l.length c3) W5 w4.heap.size := ⟨by have := hb4.size; omega, by omega, fun e => by have := (HR.out.own.lt _ e.symm).2; have := hb4.size; omega⟩
      have HR5 := Lib.hid hR5
      have HIN5 := Lib.hid hin5
      have HOFF := Lib.hid hoff
      have HBX5 := Lib.hid hbk
      have HB5 := Lib.hid (HBR.out.trans (hb45.mono hsr))
      obtain ⟨x0, x1, x2, x3, _, _, _, _⟩ := HX.out.below HB5.out (by omega)
      obtain ⟨z0, z1, z2, z3, _, _, _, _⟩ := hbk
      have HT' := Lib.hid ht
      clear hin hb4 hbk1 hbk2 hb45 hR5 hin5 hoff HR HKr HBR ht
      go_upto_region 10 with (fail)
      clear hW5
      cases hv : d.kids[k].void with
      | true =>
        have hk0 : (t.kind == 0) = true := by rw [← HT'.out, HKIND.out, hv]
        have HSP := Lib.hid (spreads_skip hlt hv d.kind)
        clear hv
        go_wp2_with fail
        go_roundw
        case rel => exact ⟨k + 1, l, by omega, by go_num, by rw [HL.out, HSP.out], HR5.out, HB5.out⟩
        case measure => simp [intOf]; omega
      | false =>
        have hk0 : (t.kind == 0) = false := by rw [← HT'.out, HKIND.out, hv]
        have HSP := Lib.hid (show spreads d.kind (d.kids.take (k + 1)) = spreads d.kind (d.kids.take k) ++ taken d.kind t by rw [spreads_add hlt hv d.kind, HT'.out])
        have HFN := Lib.hid (show Fine t by rw [← HT'.out]; exact HTF.out hv)
        clear hv
        cases kt : (t.kind == d.kind) with
        | false =>
          go_upto_region 11 with (go_at_call 67; refine (joins_any d.kind _).mono ?_; rintro e w7 ⟨rfl, hb7⟩)
          have HSP2 := Lib.hid (show (spreads d.kind (d.kids.take (k + 1))).foldl (push d.kind) [] = push d.kind (l.map DV.d) t by rw [HSP.out, taken_no (.inr kt), List.foldl_append, ← HL.out]; rfl)
          have HMC := Lib.hid (merge_any w1.heap.size d.kind A3 c3 l t A2 c2 W5.drew (by have := HB5.out.size; exact this) hll (by omega) HR5.out.drew HIN5.out.drew)
          rcases HR5.out.shape with ⟨rfl, rfl, rfl⟩ | ⟨g3, rfl, hcap3⟩
          · simp only [List.length_nil] at *
            go_still_tail 6, (by kernel_rfl)
            change wpList _ _ _ _ _ W5.drew
            go_wp2_with fail
            refine HMC.out.mono ?_
            rintro e w7 ⟨A7, c7, l7, rfl, hR7, hl7, hg7, hn7⟩
            have HL7 := Lib.hid hl7
            go_wp2
            go_roundw
            case rel => exact ⟨k + 1, l7, by omega, by go_num, by rw [HSP2.out, HL7.out], hR7, HR5.out.drew.below_grown HB5.out.drew (by have := HB5.out.size; exact this) hg7⟩
            case measure => simp [intOf]; omega
          · go_still_tail 6, (by kernel_rfl)
            change wpList _ _ _ _ _ W5.drew
            go_wp2_with fail
            refine HMC.out.mono ?_
            rintro e w7 ⟨A7, c7, l7, rfl, hR7, hl7, hg7, hn7⟩
            have HL7 := Lib.hid hl7
            go_wp2
            go_roundw
            case rel => exact ⟨k + 1, l7, by omega, by go_num, by rw [HSP2.out, HL7.out], hR7, HR5.out.drew.below_grown HB5.out.drew (by have := HB5.out.size; exact this) hg7⟩
            case measure => simp [intOf]; omega
        | true =>
          have HKT := Lib.hid kt
          cases hj : joinsK d.kind with
          | false =>
            have HJ := Lib.hid hj
            clear hj
            go_wp2_with fail
            refine (joins_any d.kind _).mono ?_
            rintro e w6 ⟨rfl, hb6⟩
            rw [HJ.out]
            have HR6 := Lib.hid (HR5.out.below hb6)
            have HIN6 := Lib.hid (dvOff_below HIN5.out hb6)
            have HB6 := Lib.hid (HB5.out.trans (hb6.mono HB5.out.size))
            obtain ⟨z0, z1, z2, z3, _, _, _, _⟩ := HBX5.out.below hb6 HOFF.out.2.1
            obtain ⟨x0, x1, x2, x3, _, _, _, _⟩ := HX.out.below HB6.out (by omega)
            clear hb6
            go_upto_region 11 with (fail)
            have HSP2 := Lib.hid (show (spreads d.kind (d.kids.take (k + 1))).foldl (push d.kind) [] = push d.kind (l.map DV.d) t by rw [HSP.out, taken_no (.inl HJ.out), List.foldl_append, ← HL.out]; rfl)
            have HMC := Lib.hid (merge_any w1.heap.size d.kind A3 c3 l t A2 c2 w6.drew (by have := HB6.out.size; exact this) hll (by omega) HR6.out.drew HIN6.out.drew)
            rcases HR6.out.shape with ⟨rfl, rfl, rfl⟩ | ⟨g3, rfl, hcap3⟩
            · simp only [List.length_nil] at *
              go_still_tail 6, (by kernel_rfl)
              change wpList _ _ _ _ _ w6.drew
              go_wp2_with fail
              refine HMC.out.mono ?_
              rintro e w7 ⟨A7, c7, l7, rfl, hR7, hl7, hg7, hn7⟩
              have HL7 := Lib.hid hl7
              go_wp2
              go_roundw
              case rel => exact ⟨k + 1, l7, by omega, by go_num, by rw [HSP2.out, HL7.out], hR7, HR6.out.drew.below_grown HB6.out.drew (by have := HB6.out.size; exact this) hg7⟩
              case measure => simp [intOf]; omega
            · go_still_tail 6, (by kernel_rfl)
              change wpList _ _ _ _ _ w6.drew
              go_wp2_with fail
              refine HMC.out.mono ?_
              rintro e w7 ⟨A7, c7, l7, rfl, hR7, hl7, hg7, hn7⟩
              have HL7 := Lib.hid hl7
              go_wp2
              go_roundw
              case rel => exact ⟨k + 1, l7, by omega, by go_num, by rw [HSP2.out, HL7.out], hR7, HR6.out.drew.below_grown HB6.out.drew (by have := HB6.out.size; exact this) hg7⟩
              case measure => simp [intOf]; omega
          | true =>
            have HJ := Lib.hid hj
            clear hj
            go_wp2_with fail
            refine (joins_any d.kind _).mono ?_
            rintro e w6 ⟨rfl, hb6⟩
            rw [HJ.out]
            have HR6 := Lib.hid (HR5.out.below hb6)
            have HIN6 := Lib.hid (dvOff_below HIN5.out hb6)
            have HB6 := Lib.hid (HB5.out.trans (hb6.mono HB5.out.size))
            have HBX6 := Lib.hid (HBX5.out.below hb6 HOFF.out.2.1)
            have HOFF6 := Lib.hid ((off_below hb6).1 _ HOFF.out)
            obtain ⟨z0, z1, z2, z3, _, _, _, _⟩ := HBX6.out
            obtain ⟨x0, x1, x2, x3, _, _, _, _⟩ := HX.out.below HB6.out (by omega)
            clear hb6
            have hklt := kids_lt t
            go_wp2_with fail
            go_loopw [3, 7] (fun v m wx => ∃ (j : Nat) (l6 : List DV), j ≤ t.kids.length ∧ m = .int .i64 j ∧ l6.map DV.d = (t.kids.take j).foldl (push d.kind) (l.map DV.d) ∧ DRow w1.heap.size wx v l6 ∧ KidsIn (Off w1.heap.size v wx) wx t.kids A2 ∧ Off w1.heap.size v wx w4.heap.size ∧ Box4 wx w4.heap.size (.int .i64 t.kind) (.string t.text) (.int .i64 t.n) (.slice A2 t.kids.length c2) ∧ Below w1.heap.size w1 wx) (fun _ m wx => t.kids.length - (intOf m).toNat)
            case atStart => exact ⟨0, l, by omega, rfl, rfl, HR6.out, HIN6.out.in_, HOFF6.out, HBX6.out, HB6.out⟩
            case round =>
              obtain ⟨j, l6, hj, rfl, hl6, hr6, hk6, ho6, hbx6, hb6⟩ := hrel
              have HL6 := Lib.hid hl6
              have HR6 := Lib.hid hr6
              have HK6 := Lib.hid hk6
              have HO6 := Lib.hid ho6
              have HBX6 := Lib.hid hbx6
              have HB6 := Lib.hid hb6
              obtain ⟨A6, c6, rfl⟩ := own_form hr6.own
              obtain ⟨x0, x1, x2, x3, _, _, _, _⟩ := HX.out.below hb6 (by omega)
              obtain ⟨z0, z1, z2, z3, _, _, _, _⟩ := hbx6
              have hw6 : wts (l6.map DV.d) ≤ wts (l.map DV.d) + wts (t.kids.take j) := by rw [hl6]; exact pushes_wt _ _ _
              clear hl6 hr6 hk6 ho6 hb6
              by_cases hjt : j < t.kids.length
              · obtain ⟨b6, o6, rfl, hat⟩ := kidsIn_get HK6.out (kid_in hjt)
                obtain ⟨Ay, cy, q1, h2, h3, h4, h5, q6, q7, q8⟩ := docIn_iff.1 hat
                have hwj := wts_take' hjt
                have hwj2 := wts_take_le' t.kids (j + 1)
                have hwtt := wt_eq t
                have hlen6 := len_le_wts (l6.map DV.d)
                rw [List.length_map] at hlen6
                have HMC := Lib.hid (merge_any w1.heap.size d.kind A6 c6 l6 t.kids[j] Ay cy wr.drew (by have := HB6.out.size; exact this) (by omega) (by omega) HR6.out.drew (DV.In.drew (v := ⟨t.kids[j], Ay, cy⟩) ⟨q6, q7, q8⟩))
                have HFJ := Lib.hid (show (t.kids.take (j + 1)).foldl (push d.kind) (l.map DV.d) = push d.kind (l6.map DV.d) t.kids[j] by rw [List.take_succ_eq_append_getElem hjt, List.foldl_append, HL6.out]; rfl)
                clear q1 q6 q7 q8 hat hwj hwj2 hwtt hlen6 hw6
                go_wp2_with fail
                go_still_tail 8, (by kernel_rfl)
                change wpList _ _ _ _ _ wr.drew
                go_wp2_with fail
                refine HMC.out.mono ?_
                rintro e w7 ⟨A7, c7, l7, rfl, hR7, hl7, hg7, hn7⟩
                have HL7 := Lib.hid hl7
                clear x0 x1 x2 x3 z0 z1 z2 z3 h2 h3 h4 h5
                go_wp2
                go_roundw
                case rel => exact ⟨j + 1, l7, by omega, by go_num, by rw [HFJ.out, HL7.out], hR7, kidsOff_grown (kidsIn_drew HK6.out) hg7 hn7, (off_grown (w := wr.drew) hg7 hn7).1 _ HO6.out, HBX6.out.drew.grown hg7 HO6.out.2.1 HO6.out.2.2, HR6.out.drew.below_grown HB6.out.drew (by have := HB6.out.size; exact this) hg7⟩
                case measure => simp [intOf]; omega
              · obtain rfl : j = t.kids.length := by omega
                go_wp2
                go_roundw
                case rel => exact ⟨k + 1, l6, by omega, by go_num, by rw [HL6.out, List.take_length, HSP.out, taken_yes HJ.out kt, List.foldl_append, HL.out], HR6.out, HB6.out⟩
                case measure => simp [intOf]; omega
    · obtain rfl : k = d.kids.length := by omega
      have HL := Lib.hid (show l.map DV.d = (spreads d.kind d.kids).foldl (push d.kind) [] by rw [HL.out, List.take_length])
      have HY := Lib.hid (HY.out.below HBR.out (by omega))
      have HX := Lib.hid (HX.out.below HBR.out (by omega))
      have HB := Lib.hid (HB.out.trans (HBR.out.mono (by omega)))
      have HSZ := Lib.hid (show w.heap.size + 1 < wr.heap.size by omega)
      obtain ⟨A3', c3', hv3, hcap3, hnil3, hK3⟩ := HR.out.at_
      simp only [Value.slice.injEq, true_and] at hv3
      obtain ⟨rfl, rfl⟩ := hv3
      have HK := Lib.hid hK3
      have HCAP := Lib.hid hcap3
      have HNIL := Lib.hid hnil3
      clear hK3 hcap3 hnil3 x0 x1 x2 x3 HKr HR
      cases k2 : (d.kind == 2) with
      | false =>
        have hne : l ≠ [] := by
          rintro rfl
          exact pushes_ne (.inl HNE0.out) HL.out.symm
        have HNE := Lib.hid hne
        clear hne
        have hs2 := HSZ.out
        obtain ⟨y0, y1, y2, y3, _, _, _, _⟩ := HY.out
        obtain ⟨x0, x1, x2, x3, _, _, _, _⟩ := HX.out
        have k2' : (d.kind != 2) = true := by simp [bne, k2]
        by_cases hn : l.length = 1
        · obtain ⟨x, rfl⟩ : ∃ x, l = [x] := by
            match l, hn with
            | [x], _ => exact ⟨x, rfl⟩
          have hR : d.tidy = x.d := by rw [HT.out, ← HL.out]; simp [tidyW, k2]
          obtain ⟨b, o, rfl, hat⟩ := kidsIn_get HK.out (k := 0) (d := x.d) rfl
          obtain ⟨A4, c4, q1, h2, h3, h4, h5, q6, q7, q8⟩ := docIn_iff.1 hat
          simp only [Nat.zero_mul, Nat.add_zero] at h2 h3 h4 h5
          have HR := Lib.hid hR
          have Q1 := Lib.hid q1
          have Q6 := Lib.hid q6
          have Q7 := Lib.hid q7
          have Q8 := Lib.hid q8
          clear q1 q6 q7 q8 hat hR
          simp only [List.length_cons, List.length_nil, Nat.zero_add]
          go_wp2
          obtain ⟨hz, hg⟩ := HY.out.set (.int .i64 x.d.kind) (.string x.d.text) (.int .i64 x.d.n) (.slice A4 x.d.kids.length c4)
          have hb := gb_below HB.out hg (by omega) (by omega)
          have hgs := hg.size
          have HG := Lib.hid hg
          generalize ((((wr.setCell ⟨w.heap.size + 1, 0, none⟩ (.int .i64 x.d.kind)).setCell ⟨w.heap.size + 1, 1, none⟩ (.string x.d.text)).setCell ⟨w.heap.size + 1, 2, none⟩ (.int .i64 x.d.n)).setCell ⟨w.heap.size + 1, 3, none⟩ (.slice A4 x.d.kids.length c4)) = W6 at hz hb HG hgs ⊢
          obtain ⟨z0, z1, z2, z3, _, _, _, _⟩ := hz
          refine bodyPost_ret (v := .agg #[.int .i64 x.d.kind, .string x.d.text, .int .i64 x.d.n, .slice A4 x.d.kids.length c4]) (by simp [results, Tryd.results53, go_sem, z0, z1, z2, z3]) rfl ?_
          exact ⟨A4, c4, by rw [HR.out], by rw [HR.out]; exact DV.In.later (v := ⟨x.d, A4, c4⟩) ⟨Q6.out, Q7.out, Q8.out⟩ (fun b hb => ⟨by have := HS.out; omega, by omega⟩) (fun b o hb => HG.out.cell_far ⟨b, o, none⟩ hb.2 (fun e => by have := HS.out; have := hb.1; simp only [Option.some.injEq] at e; omega)), hb⟩
        · have hR : d.tidy = ⟨d.kind, noB, 0, l.map DV.d⟩ := by
            rw [HT.out, ← HL.out]
            match l, HNE.out, hn with
            | x :: y :: r, _, _ => simp [tidyW, k2]
          have HR := Lib.hid hR
          have hn1 : ¬ (l.length : Int) = 1 := by omega
          clear hR
          go_wp2
          obtain ⟨hz, hg⟩ := HY.out.set (.int .i64 d.kind) (.string ⟨#[]⟩) (.int .i64 0) (.slice A3 l.length c3)
          have hb := gb_below HB.out hg (by omega) (by omega)
          have hgs := hg.size
          have HG := Lib.hid hg
          generalize ((((wr.setCell ⟨w.heap.size + 1, 0, none⟩ (.int .i64 d.kind)).setCell ⟨w.heap.size + 1, 1, none⟩ (.string ⟨#[]⟩)).setCell ⟨w.heap.size + 1, 2, none⟩ (.int .i64 0)).setCell ⟨w.heap.size + 1, 3, none⟩ (.slice A3 l.length c3)) = W6 at hz hb HG hgs ⊢
          obtain ⟨z0, z1, z2, z3, _, _, _, _⟩ := hz
          refine bodyPost_ret (v := .agg #[.int .i64 d.kind, .string ⟨#[]⟩, .int .i64 0, .slice A3 l.length c3]) (by simp [results, Tryd.results53, go_sem, z0, z1, z2, z3]) rfl ?_
          exact ⟨A3, c3, by rw [HR.out]; simp only [List.length_map]; rfl, by rw [HR.out]; exact DV.In.later (v := ⟨⟨d.kind, noB, 0, l.map DV.d⟩, A3, c3⟩) ⟨by simpa using HCAP.out, HNIL.out, HK.out⟩ (fun b hb => ⟨by have := HS.out; omega, by omega⟩) (fun b o hb => HG.out.cell_far ⟨b, o, none⟩ hb.2 (fun e => by have := HS.out; have := hb.1; simp only [Option.some.injEq] at e; omega)), hb⟩
      | true =>
        have k2' : (d.kind != 2) = false := by simp [bne, k2]
        have hd2 : d.kind = 2 := by simpa using k2
        have hn0 := HF.out.n0
        have hn1 := HF.out.n1
        obtain ⟨x0, hx0⟩ : ∃ x0, d.kids = [x0] := List.length_eq_one_iff.1 (HF.out.l1.resolve_left (by omega))
        have hxf : Fine x0.tidy ∧ spreads d.kind d.kids = [x0.tidy] := by
          have h1 := HNE0.out
          rw [hx0, hd2] at h1 ⊢
          cases hxv : x0.void with
          | true => simp [spreads, hxv] at h1
          | false => exact ⟨tidy_fine (HF.out.kids x0 (by rw [hx0]; exact List.mem_cons_self)) hxv, by simp [spreads, hxv, taken, joinsK]⟩
        obtain ⟨t, ht⟩ : ∃ t, x0.tidy = t := ⟨_, rfl⟩
        rw [ht] at hxf
        obtain ⟨hfine, hsp⟩ := hxf
        obtain ⟨R, hR⟩ : ∃ R, nestD t.wt d.n t = R := ⟨_, rfl⟩
        have HT := Lib.hid (show d.tidy = nestE R by
          rw [HT.out, hsp, hd2, List.foldl_cons, List.foldl_nil, push_not (.inl (by decide)), ← hR]
          simp [tidyW])
        have hl1 : l.map DV.d = [t] := by
          rw [HL.out, hsp, hd2, List.foldl_cons, List.foldl_nil, push_not (.inl (by decide))]
          rfl
        obtain ⟨tv, rfl⟩ : ∃ tv, l = [tv] := by
          match l, hl1 with
          | [tv], _ => exact ⟨tv, rfl⟩
        have hk3 := HK.out
        rw [hl1] at hk3
        obtain ⟨b, o, rfl, hdi, _⟩ := hk3
        obtain ⟨A4, c4, hdi⟩ := docIn_iff.1 hdi
        have HDI0 := Lib.hid hdi
        have hcap3' := HCAP.out
        have HFN := Lib.hid hfine
        have HRR0 := Lib.hid hR
        have HX0 := HX
        obtain ⟨x0', x1, x2, x3, _, _, _, _⟩ := HX.out
        clear hx0 ht hfine hsp hR hl1 hdi HNE0 HIH hd2 hll hlw
        simp only [List.length_cons, List.length_nil, Nat.zero_add]
        go_wp2_with fail
        have HWS := Lib.hid (show w1.heap.size ≤ wr.heap.size from HBR.out.size)
        have HY0 := HY
        have HBW0 := HB
        obtain ⟨W9, hW9⟩ : ∃ n, wr.heap.size = n := ⟨_, rfl⟩
        have HW9 := Lib.hid (show w.heap.size + 1 < W9 by rw [← hW9]; exact HSZ.out)
        rw [hW9] at HWS HDI0
        have HDI0 := HDI0
        have HW9e := Lib.hid hW9
        clear hW9 HSZ
        clear HBR HY HX HB HK HCAP HNIL HL
        go_loopg [3] t.wt (fun g ls wx => ∃ (m : Int) (x : Doc) (b o cc : Nat) (A' : Option Addr) (c' : Nat), ls = .slice (some ⟨b, o, none⟩) 1 cc ∧ 1 ≤ cc ∧ Box4 wx w.heap.size (.int .i64 d.kind) (.string d.text) (.int .i64 m) (.slice A d.kids.length c) ∧ Box4 wx (w.heap.size + 1) (.int .i64 0) (.string ⟨#[]⟩) (.int .i64 0) (.slice none 0 0) ∧ DocIn (fun b => w1.heap.size ≤ b ∧ b < W9) wx x b o A' c' ∧ nestD g m x = R ∧ x.wt ≤ g ∧ Fine x ∧ -1000 ≤ m ∧ m ≤ 1000 ∧ W9 ≤ wx.heap.size ∧ Below w.heap.size w wx)
        case atStart => exact ⟨d.n, t, b, o, c3, A4, c4, rfl, by simpa using hcap3', HX0.out, HY0.out, HDI0.out, HRR0.out, Nat.le_refl _, HFN.out, hn0, hn1, Nat.le_of_eq HW9e.out.symm, HBW0.out⟩
        case round =>
          clear x0' x1 x2 x3
          obtain ⟨m, x, b, o, cc, A', c', rfl, hcc, hbx, hby, hdi, hRR, hxg, hfn, hm0, hm1, hws, hbw⟩ := hrel
          have HX := Lib.hid hbx
          have HY := Lib.hid hby
          have HDI := Lib.hid hdi
          have HRR := Lib.hid hRR
          have HFX := Lib.hid hfn
          have HBW := Lib.hid hbw
          have HCC := Lib.hid hcc
          have hnx0 := (form_at.1 hfn.1).n0
          have hnx1 := (form_at.1 hfn.1).n1
          have hl1 := (form_at.1 hfn.1).l1
          have hp := wt_pos x
          obtain ⟨g, rfl⟩ : ∃ g, gk = g + 1 := ⟨gk - 1, by omega⟩
          obtain ⟨z0, z1, z2, z3, zf0, zf1, zf2, zf3⟩ := hbx
          obtain ⟨q1, h2, h3, h4, h5, q6, q7, q8⟩ := hdi
          clear hRR hfn hbw hcc hby q1 q6 q7 q8
          cases kk : (x.kind == 2) with
          | false =>
            go_wp2_with fail
            go_quiet (fail)
            have HR1 := Lib.hid (show R = (m, x) by rw [← HRR.out, nestD_no (by rw [beq_eq_false_iff_ne] at kk; exact fun h => kk h.1)])
            have HYD := Lib.hid (show Box4 (wr.drewN nq) (w.heap.size + 1) (.int .i64 0) (.string ⟨#[]⟩) (.int .i64 0) (.slice none 0 0) from ⟨HY.out.c0, HY.out.c1, HY.out.c2, HY.out.c3, HY.out.f0, HY.out.f1, HY.out.f2, HY.out.f3⟩)
            have HBD := Lib.hid (below_drewN HBW.out nq)
            have hsd : w.heap.size + 1 < (wr.drewN nq).heap.size := Nat.lt_of_lt_of_le HS.out (Nat.le_trans HWS.out hws)
            have HTR := Lib.hid (show d.tidy = nestE (m, x) by rw [HT.out, HR1.out])
            obtain ⟨y0, y1, y2, y3, _, _, _, _⟩ := HY.out
            have hs1 := HS.out
            cases km : (m == 0) with
            | true =>
              have HR := Lib.hid (show d.tidy = x by rw [HTR.out]; simp [nestE, km])
              go_wp2
              obtain ⟨hz, hg⟩ := HYD.out.set (.int .i64 x.kind) (.string x.text) (.int .i64 x.n) (.slice A' x.kids.length c')
              have hb := gb_below HBD.out hg (by omega) (by omega)
              have hgs := hg.size
              have HG := Lib.hid hg
              generalize (((((wr.drewN nq).setCell ⟨w.heap.size + 1, 0, none⟩ (.int .i64 x.kind)).setCell ⟨w.heap.size + 1, 1, none⟩ (.string x.text)).setCell ⟨w.heap.size + 1, 2, none⟩ (.int .i64 x.n)).setCell ⟨w.heap.size + 1, 3, none⟩ (.slice A' x.kids.length c')) = W6 at hz hb HG hgs ⊢
              obtain ⟨z0, z1, z2, z3, _, _, _, _⟩ := hz
              refine bodyPost_ret (v := .agg #[.int .i64 x.kind, .string x.text, .int .i64 x.n, .slice A' x.kids.length c']) (by simp [results, Tryd.results53, go_sem, z0, z1, z2, z3]) rfl ?_
              exact ⟨A', c', by rw [HR.out], by rw [HR.out]; exact DV.In.later (v := ⟨x, A', c'⟩) ⟨HDI.out.cap, HDI.out.nil, HDI.out.in_⟩ (fun b hb => ⟨by have := HS.out; have := hb.1; omega, Nat.lt_of_lt_of_le hb.2 (Nat.le_trans hws hgs)⟩) (fun b o hb => HG.out.cell_far ⟨b, o, none⟩ (Nat.lt_of_lt_of_le hb.2 hws) (fun e => by have := HS.out; have := hb.1; simp only [Option.some.injEq] at e; omega)), hb⟩
            | false =>
              have HR := Lib.hid (show d.tidy = ⟨2, noB, m, [x]⟩ by rw [HTR.out]; simp [nestE, km])
              go_wp2
              obtain ⟨hz, hg⟩ := HYD.out.set (.int .i64 2) (.string ⟨#[]⟩) (.int .i64 m) (.slice (some ⟨b, o, none⟩) 1 cc)
              have hb := gb_below HBD.out hg (by omega) (by omega)
              have hgs := hg.size
              have HG := Lib.hid hg
              generalize (((((wr.drewN nq).setCell ⟨w.heap.size + 1, 0, none⟩ (.int .i64 2)).setCell ⟨w.heap.size + 1, 1, none⟩ (.string ⟨#[]⟩)).setCell ⟨w.heap.size + 1, 2, none⟩ (.int .i64 m)).setCell ⟨w.heap.size + 1, 3, none⟩ (.slice (some ⟨b, o, none⟩) 1 cc)) = W6 at hz hb HG hgs ⊢
              obtain ⟨z0, z1, z2, z3, _, _, _, _⟩ := hz
              refine bodyPost_ret (v := .agg #[.int .i64 2, .string ⟨#[]⟩, .int .i64 m, .slice (some ⟨b, o, none⟩) 1 cc]) (by simp [results, Tryd.results53, go_sem, z0, z1, z2, z3]) rfl ?_
              exact ⟨some ⟨b, o, none⟩, cc, by rw [HR.out]; rfl, by rw [HR.out]; exact DV.In.later (v := ⟨⟨2, noB, m, [x]⟩, some ⟨b, o, none⟩, cc⟩) ⟨HCC.out, fun e => (nomatch e), ⟨b, o, rfl, docIn_iff.2 ⟨A', c', HDI.out⟩, trivial⟩⟩ (fun b hb => ⟨by have := HS.out; have := hb.1; omega, Nat.lt_of_lt_of_le hb.2 (Nat.le_trans hws hgs)⟩) (fun b o hb => HG.out.cell_far ⟨b, o, none⟩ (Nat.lt_of_lt_of_le hb.2 hws) (fun e => by have := HS.out; have := hb.1; simp only [Option.some.injEq] at e; omega)), hb⟩
          | true =>
            have hwr : IntKind.i64.wrap (m + x.n) = m + x.n := IntWalk.i64_in _ (by omega)
            by_cases hlo : m + x.n < -1000
            · have hlo' : decide (-1000 ≤ m + x.n) = false := by simp; omega
              go_wp2_with fail
              go_quiet (fail)
              clear hwr hlo'
              have HR1 := Lib.hid (show R = (m, x) by rw [← HRR.out, nestD_no (by omega)])
              have HYD := Lib.hid (show Box4 (wr.drewN nq) (w.heap.size + 1) (.int .i64 0) (.string ⟨#[]⟩) (.int .i64 0) (.slice none 0 0) from ⟨HY.out.c0, HY.out.c1, HY.out.c2, HY.out.c3, HY.out.f0, HY.out.f1, HY.out.f2, HY.out.f3⟩)
              have HBD := Lib.hid (below_drewN HBW.out nq)
              have hsd : w.heap.size + 1 < (wr.drewN nq).heap.size := Nat.lt_of_lt_of_le HS.out (Nat.le_trans HWS.out hws)
              have HTR := Lib.hid (show d.tidy = nestE (m, x) by rw [HT.out, HR1.out])
              obtain ⟨y0, y1, y2, y3, _, _, _, _⟩ := HY.out
              have hs1 := HS.out
              cases km : (m == 0) with
              | true =>
                have HR := Lib.hid (show d.tidy = x by rw [HTR.out]; simp [nestE, km])
                go_wp2
                obtain ⟨hz, hg⟩ := HYD.out.set (.int .i64 x.kind) (.string x.text) (.int .i64 x.n) (.slice A' x.kids.length c')
                have hb := gb_below HBD.out hg (by omega) (by omega)
                have hgs := hg.size
                have HG := Lib.hid hg
                generalize (((((wr.drewN nq).setCell ⟨w.heap.size + 1, 0, none⟩ (.int .i64 x.kind)).setCell ⟨w.heap.size + 1, 1, none⟩ (.string x.text)).setCell ⟨w.heap.size + 1, 2, none⟩ (.int .i64 x.n)).setCell ⟨w.heap.size + 1, 3, none⟩ (.slice A' x.kids.length c')) = W6 at hz hb HG hgs ⊢
                obtain ⟨z0, z1, z2, z3, _, _, _, _⟩ := hz
                refine bodyPost_ret (v := .agg #[.int .i64 x.kind, .string x.text, .int .i64 x.n, .slice A' x.kids.length c']) (by simp [results, Tryd.results53, go_sem, z0, z1, z2, z3]) rfl ?_
                exact ⟨A', c', by rw [HR.out], by rw [HR.out]; exact DV.In.later (v := ⟨x, A', c'⟩) ⟨HDI.out.cap, HDI.out.nil, HDI.out.in_⟩ (fun b hb => ⟨by have := HS.out; have := hb.1; omega, Nat.lt_of_lt_of_le hb.2 (Nat.le_trans hws hgs)⟩) (fun b o hb => HG.out.cell_far ⟨b, o, none⟩ (Nat.lt_of_lt_of_le hb.2 hws) (fun e => by have := HS.out; have := hb.1; simp only [Option.some.injEq] at e; omega)), hb⟩
              | false =>
                have HR := Lib.hid (show d.tidy = ⟨2, noB, m, [x]⟩ by rw [HTR.out]; simp [nestE, km])
                go_wp2
                obtain ⟨hz, hg⟩ := HYD.out.set (.int .i64 2) (.string ⟨#[]⟩) (.int .i64 m) (.slice (some ⟨b, o, none⟩) 1 cc)
                have hb := gb_below HBD.out hg (by omega) (by omega)
                have hgs := hg.size
                have HG := Lib.hid hg
                generalize (((((wr.drewN nq).setCell ⟨w.heap.size + 1, 0, none⟩ (.int .i64 2)).setCell ⟨w.heap.size + 1, 1, none⟩ (.string ⟨#[]⟩)).setCell ⟨w.heap.size + 1, 2, none⟩ (.int .i64 m)).setCell ⟨w.heap.size + 1, 3, none⟩ (.slice (some ⟨b, o, none⟩) 1 cc)) = W6 at hz hb HG hgs ⊢
                obtain ⟨z0, z1, z2, z3, _, _, _, _⟩ := hz
                refine bodyPost_ret (v := .agg #[.int .i64 2, .string ⟨#[]⟩, .int .i64 m, .slice (some ⟨b, o, none⟩) 1 cc]) (by simp [results, Tryd.results53, go_sem, z0, z1, z2, z3]) rfl ?_
                exact ⟨some ⟨b, o, none⟩, cc, by rw [HR.out]; rfl, by rw [HR.out]; exact DV.In.later (v := ⟨⟨2, noB, m, [x]⟩, some ⟨b, o, none⟩, cc⟩) ⟨HCC.out, fun e => (nomatch e), ⟨b, o, rfl, docIn_iff.2 ⟨A', c', HDI.out⟩, trivial⟩⟩ (fun b hb => ⟨by have := HS.out; have := hb.1; omega, Nat.lt_of_lt_of_le hb.2 (Nat.le_trans hws hgs)⟩) (fun b o hb => HG.out.cell_far ⟨b, o, none⟩ (Nat.lt_of_lt_of_le hb.2 hws) (fun e => by have := HS.out; have := hb.1; simp only [Option.some.injEq] at e; omega)), hb⟩
            · by_cases hhi : 1000 < m + x.n
              · have hlo' : decide (-1000 ≤ m + x.n) = true := by simp; omega
                have hhi' : decide (m + x.n ≤ 1000) = false := by simp; omega
                go_wp2_with fail
                go_quiet (fail)
                clear hwr hlo' hhi'
                have HR1 := Lib.hid (show R = (m, x) by rw [← HRR.out, nestD_no (by omega)])
                have HYD := Lib.hid (show Box4 (wr.drewN nq) (w.heap.size + 1) (.int .i64 0) (.string ⟨#[]⟩) (.int .i64 0) (.slice none 0 0) from ⟨HY.out.c0, HY.out.c1, HY.out.c2, HY.out.c3, HY.out.f0, HY.out.f1, HY.out.f2, HY.out.f3⟩)
                have HBD := Lib.hid (below_drewN HBW.out nq)
                have hsd : w.heap.size + 1 < (wr.drewN nq).heap.size := Nat.lt_of_lt_of_le HS.out (Nat.le_trans HWS.out hws)
                have HTR := Lib.hid (show d.tidy = nestE (m, x) by rw [HT.out, HR1.out])
                obtain ⟨y0, y1, y2, y3, _, _, _, _⟩ := HY.out
                have hs1 := HS.out
                cases km : (m == 0) with
                | true =>
                  have HR := Lib.hid (show d.tidy = x by rw [HTR.out]; simp [nestE, km])
                  go_wp2
                  obtain ⟨hz, hg⟩ := HYD.out.set (.int .i64 x.kind) (.string x.text) (.int .i64 x.n) (.slice A' x.kids.length c')
                  have hb := gb_below HBD.out hg (by omega) (by omega)
                  have hgs := hg.size
                  have HG := Lib.hid hg
                  generalize (((((wr.drewN nq).setCell ⟨w.heap.size + 1, 0, none⟩ (.int .i64 x.kind)).setCell ⟨w.heap.size + 1, 1, none⟩ (.string x.text)).setCell ⟨w.heap.size + 1, 2, none⟩ (.int .i64 x.n)).setCell ⟨w.heap.size + 1, 3, none⟩ (.slice A' x.kids.length c')) = W6 at hz hb HG hgs ⊢
                  obtain ⟨z0, z1, z2, z3, _, _, _, _⟩ := hz
                  refine bodyPost_ret (v := .agg #[.int .i64 x.kind, .string x.text, .int .i64 x.n, .slice A' x.kids.length c']) (by simp [results, Tryd.results53, go_sem, z0, z1, z2, z3]) rfl ?_
                  exact ⟨A', c', by rw [HR.out], by rw [HR.out]; exact DV.In.later (v := ⟨x, A', c'⟩) ⟨HDI.out.cap, HDI.out.nil, HDI.out.in_⟩ (fun b hb => ⟨by have := HS.out; have := hb.1; omega, Nat.lt_of_lt_of_le hb.2 (Nat.le_trans hws hgs)⟩) (fun b o hb => HG.out.cell_far ⟨b, o, none⟩ (Nat.lt_of_lt_of_le hb.2 hws) (fun e => by have := HS.out; have := hb.1; simp only [Option.some.injEq] at e; omega)), hb⟩
                | false =>
                  have HR := Lib.hid (show d.tidy = ⟨2, noB, m, [x]⟩ by rw [HTR.out]; simp [nestE, km])
                  go_wp2
                  obtain ⟨hz, hg⟩ := HYD.out.set (.int .i64 2) (.string ⟨#[]⟩) (.int .i64 m) (.slice (some ⟨b, o, none⟩) 1 cc)
                  have hb := gb_below HBD.out hg (by omega) (by omega)
                  have hgs := hg.size
                  have HG := Lib.hid hg
                  generalize (((((wr.drewN nq).setCell ⟨w.heap.size + 1, 0, none⟩ (.int .i64 2)).setCell ⟨w.heap.size + 1, 1, none⟩ (.string ⟨#[]⟩)).setCell ⟨w.heap.size + 1, 2, none⟩ (.int .i64 m)).setCell ⟨w.heap.size + 1, 3, none⟩ (.slice (some ⟨b, o, none⟩) 1 cc)) = W6 at hz hb HG hgs ⊢
                  obtain ⟨z0, z1, z2, z3, _, _, _, _⟩ := hz
                  refine bodyPost_ret (v := .agg #[.int .i64 2, .string ⟨#[]⟩, .int .i64 m, .slice (some ⟨b, o, none⟩) 1 cc]) (by simp [results, Tryd.results53, go_sem, z0, z1, z2, z3]) rfl ?_
                  exact ⟨some ⟨b, o, none⟩, cc, by rw [HR.out]; rfl, by rw [HR.out]; exact DV.In.later (v := ⟨⟨2, noB, m, [x]⟩, some ⟨b, o, none⟩, cc⟩) ⟨HCC.out, fun e => (nomatch e), ⟨b, o, rfl, docIn_iff.2 ⟨A', c', HDI.out⟩, trivial⟩⟩ (fun b hb => ⟨by have := HS.out; have := hb.1; omega, Nat.lt_of_lt_of_le hb.2 (Nat.le_trans hws hgs)⟩) (fun b o hb => HG.out.cell_far ⟨b, o, none⟩ (Nat.lt_of_lt_of_le hb.2 hws) (fun e => by have := HS.out; have := hb.1; simp only [Option.some.injEq] at e; omega)), hb⟩
              · have hlo' : decide (-1000 ≤ m + x.n) = true := by simp; omega
                have hhi' : decide (m + x.n ≤ 1000) = true := by simp; omega
                have kk' : x.kind = 2 := by simpa using kk
                obtain ⟨y, hy⟩ : ∃ y, x.kids = [y] := List.length_eq_one_iff.1 (hl1.resolve_left (by omega))
                have HRY := Lib.hid (show nestD g (m + x.n) y = R by rw [← HRR.out, nestD_yes hy ⟨kk', by omega, by omega⟩])
                have hwy : y.wt < x.wt := kid_lt (by rw [hy]; exact List.mem_cons_self)
                have HFY := Lib.hid (fine_kids HFX.out y (by rw [hy]; exact List.mem_cons_self))
                have hkin := HDI.out.in_
                have hcx := HDI.out.cap
                rw [hy] at hkin hcx
                obtain ⟨b2, o2, rfl, hdy, _⟩ := hkin
                obtain ⟨A5, c5, hdy⟩ := docIn_iff.1 hdy
                have HDY := Lib.hid hdy
                have HCY := Lib.hid hcx
                have hlen : x.kids.length = 1 := by rw [hy]; rfl
                rw [hlen] at h5
                clear hy kk' hcx hl1 hdy
                go_wp2_with fail
                go_quiet (fail)
                go_wp2_with fail
                have hxd : Box4 (wr.drewN nq) w.heap.size (.int .i64 d.kind) (.string d.text) (.int .i64 m) (.slice A d.kids.length c) := ⟨HX.out.c0, HX.out.c1, HX.out.c2, HX.out.c3, HX.out.f0, HX.out.f1, HX.out.f2, HX.out.f3⟩
                have hyd : Box4 (wr.drewN nq) (w.heap.size + 1) (.int .i64 0) (.string ⟨#[]⟩) (.int .i64 0) (.slice none 0 0) := ⟨HY.out.c0, HY.out.c1, HY.out.c2, HY.out.c3, HY.out.f0, HY.out.f1, HY.out.f2, HY.out.f3⟩
                have hbd := below_drewN HBW.out nq
                have hdd := HDI.out.later (w' := wr.drewN nq) fun _ _ _ => rfl
                have hdyd := HDY.out.later (w' := wr.drewN nq) fun _ _ _ => rfl
                have hwsd : W9 ≤ (wr.drewN nq).heap.size := hws
                have hs1 := HS.out
                clear z0 z1 z2 z3 zf0 zf1 zf2 zf3 h2 h3 h4 h5
                generalize wr.drewN nq = Wd at hxd hyd hbd hdd hdyd hwsd ⊢
                have HXD := Lib.hid hxd
                have HYD := Lib.hid hyd
                have HBD := Lib.hid hbd
                have HDYD := Lib.hid hdyd
                have HDD := Lib.hid hdd
                obtain ⟨z0, z1, z2, z3, zf0, zf1, zf2, zf3⟩ := hxd
                obtain ⟨q1, h2, h3, h4, h5, q6, q7, q8⟩ := hdd
                rw [hlen] at h5
                clear q1 q6 q7 q8 hyd hbd hdyd
                go_region
                obtain ⟨hxs, hgs⟩ := HXD.out.set2 (.int .i64 (m + x.n))
                generalize Wd.setCell ⟨w.heap.size, 2, none⟩ (.int .i64 (m + x.n)) = Ws at hxs hgs ⊢
                have hne : ∀ b, (w1.heap.size ≤ b ∧ b < W9) → some b ≠ some w.heap.size := fun b hb e => by have := hb.1; simp only [Option.some.injEq] at e; omega
                have hds := HDD.out.later (w' := Ws) fun b o hb => hgs.cell_far ⟨b, o, none⟩ (Nat.lt_of_lt_of_le hb.2 hwsd) (hne b hb)
                have hdys := HDYD.out.later (w' := Ws) fun b o hb => hgs.cell_far ⟨b, o, none⟩ (Nat.lt_of_lt_of_le hb.2 hwsd) (hne b hb)
                have hs9 := HW9.out
                have HYS := Lib.hid (HYD.out.grown hgs (by omega) (by intro e; simp only [Option.some.injEq] at e; omega))
                have HXS := Lib.hid hxs
                have HDYS := Lib.hid hdys
                have HBS := Lib.hid (gb_below HBD.out hgs (by omega) (Nat.le_refl _))
                have HSS := Lib.hid (show W9 ≤ Ws.heap.size from Nat.le_trans hwsd hgs.size)
                obtain ⟨q1, h2, h3, h4, h5, q6, q7, q8⟩ := hds
                rw [hlen] at h5
                clear q1 q6 q7 q8 hxs hgs hne hdys z0 z1 z2 z3 zf0 zf1 zf2 zf3 hwr hlo' hhi'
                go_wp2
                go_roundg g
                case measure => omega
                case rel =>
                  exact ⟨m + x.n, y, b2, o2, c', A5, c5, rfl, HCY.out, HXS.out.drew, HYS.out.drew, HDYS.out.later fun _ _ _ => rfl, HRY.out, by omega, HFY.out, by omega, by omega, HSS.out, HBS.out.drew⟩
end Go.Proofs.YtnpaplfdmpjfgaaDoor
