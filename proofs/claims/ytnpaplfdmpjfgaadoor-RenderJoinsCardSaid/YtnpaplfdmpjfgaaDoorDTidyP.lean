/- A document without what makes no difference: the program's tidy. -/
import Derived.Test.YtnpaplfdmpjfgaaDoorDSpread
namespace Go.Proofs.YtnpaplfdmpjfgaaDoor
open Go.RowKit

theorem foldl_push_ne {k : Int} (hk : k ≠ 3) (xs : List Doc) : ∀ l, xs.foldl (push k) l = l ++ xs := by
  induction xs with
  | nil => intro l; simp
  | cons x r ih => intro l; rw [List.foldl_cons, ih, push_not (.inl hk)]; simp
theorem tidy_str {d : Doc} (h : (d.kind == 1) = true) : d.tidy = d := by rw [tidy_eq, if_pos h]
theorem tidy_else {d : Doc} (h : (d.kind == 1) = false) (hv : d.void = false) : d.tidy = tidyW d.kind d.n ((spreads d.kind d.kids).foldl (push d.kind) []) := by
  rw [void_eq] at hv
  have h1 : (d.kind != 1) = true := by simp [bne, h]
  rw [h1, Bool.true_and] at hv
  rw [tidy_eq, if_neg (by simp [h]), if_neg (by simp [hv])]

theorem tidy_void_w (d : Doc) (hw : d.wt ≤ 16777216) (hv : d.void = true) : TidySays 52 d := by
  intro A c w hnil hK
  obtain ⟨hbx, hb0, hs0⟩ := box_new w (.int .i64 d.kind) (.string d.text) (.int .i64 d.n) (.slice A d.kids.length c)
  obtain ⟨W0, hW0⟩ : ∃ W0, w.alloc (.cells #[.int .i64 d.kind, .string d.text, .int .i64 d.n, .slice A d.kids.length c] 24) = W0 := ⟨_, rfl⟩
  rw [hW0] at hbx hb0 hs0
  obtain ⟨hby, hb1, hs1⟩ := box_new W0 (.int .i64 0) (.string ⟨#[]⟩) (.int .i64 0) (.slice none 0 0)
  obtain ⟨W, hW⟩ : ∃ W, W0.alloc (.cells #[.int .i64 0, .string ⟨#[]⟩, .int .i64 0, .slice none 0 0] 24) = W := ⟨_, rfl⟩
  rw [hW] at hby hb1 hs1
  rw [hs0] at hby
  have HC := Lib.hid (void_any d A c W hw (kidsAt_on (kidsAt_on hK hb0) hb1))
  have HV := Lib.hid hv
  have hx := hbx.below hb1 (by omega)
  have HT := Lib.hid (tidy_void hv)
  obtain ⟨x0, x1, x2, x3, _, _, _, _⟩ := hx
  clear hv
  go_enter Tryd.func52, Tryd.ntmps52
  go_wp2_with fail
  refine HC.out.mono ?_
  rintro e w1 ⟨rfl, hb2⟩
  rw [HV.out]
  have hy1 := hby.below hb2 (by omega)
  have HB := Lib.hid ((hb0.trans (hb1.mono (by omega))).trans (hb2.mono (by omega)))
  have hsz := hb2.size
  have HY := Lib.hid hy1
  obtain ⟨y0, y1, y2, y3, f0, f1, f2, f3⟩ := hy1
  clear hbx hby hb0 hb1 hb2 hW hW0
  go_wp2
  obtain ⟨hz, hg⟩ := HY.out.set (.int .i64 0) (.string ⟨#[]⟩) (.int .i64 0) (.slice none 0 0)
  have hb := gb_below HB.out hg (by omega) (by omega)
  generalize ((((w1.setCell ⟨w.heap.size + 1, 0, none⟩ (.int .i64 0)).setCell ⟨w.heap.size + 1, 1, none⟩ (.string ⟨#[]⟩)).setCell ⟨w.heap.size + 1, 2, none⟩ (.int .i64 0)).setCell ⟨w.heap.size + 1, 3, none⟩ (.slice none 0 0)) = W5 at hz hb ⊢
  obtain ⟨z0, z1, z2, z3, _, _, _, _⟩ := hz
  refine bodyPost_ret (v := .agg #[.int .i64 0, .string ⟨#[]⟩, .int .i64 0, .slice none 0 0]) (by simp [results, Tryd.results52, go_sem, z0, z1, z2, z3]) rfl ?_
  exact ⟨none, 0, by rw [HT.out]; rfl, ⟨by rw [HT.out]; exact Nat.le_refl _, fun _ => rfl, by rw [HT.out]; trivial⟩, hb⟩
/-! The walk. -/
theorem spreads_ok {d : Doc} (hf : d.form = true) (hv : d.void = false) (h1 : (d.kind == 1) = false) : (∀ x ∈ spreads d.kind d.kids, Fine x) ∧ spreads d.kind d.kids ≠ [] := by
  have F := form_at.1 hf
  have hvs : voids d.kids = false := by
    rw [void_eq] at hv
    have h2 : (d.kind != 1) = true := by simp [bne, h1]
    rw [h2, Bool.true_and] at hv
    exact hv
  rw [spreads_there]
  constructor
  · intro x hx
    obtain ⟨a, ha, hx⟩ := List.mem_flatMap.1 hx
    obtain ⟨ha, hav⟩ := List.mem_filter.1 ha
    exact taken_fine (tidy_fine (F.kids a ha) (by simpa [Doc.there] using hav)) x hx
  · intro he
    have h0 : (d.kids.filter Doc.there) = [] := by
      cases hh : d.kids.filter Doc.there with
      | nil => rfl
      | cons a r =>
        rw [hh, List.flatMap_cons] at he
        have ha : a ∈ d.kids.filter Doc.there := by rw [hh]; exact List.mem_cons_self
        obtain ⟨ha, hav⟩ := List.mem_filter.1 ha
        exact absurd (List.append_eq_nil_iff.1 he).1 (taken_ne (tidy_fine (F.kids a ha) (by simpa [Doc.there] using hav)))
    have := there_none d.kids
    rw [h0, hvs] at this
    simp at this

set_option maxRecDepth 100000 in
set_option maxHeartbeats 4000000 in
theorem tidy_there (d : Doc) (hw : d.wt ≤ 16777216) (hf : d.form = true) (hv : d.void = false) (ih : ∀ k ∈ d.kids, TidySays 52 k) (h2 : ∀ (A : Option Addr) (c : Nat) (w : World), (A = none → c = 0) → KidsAt w.heap.size w d.kids A → d.kind = 2 → Calls Tryd.prog 52 #[.agg #[.int .i64 d.kind, .string d.text, .int .i64 d.n, .slice A d.kids.length c]] w (TidySaid d w)) : TidySays 52 d := by
  intro A c w hnil hK
  cases k2 : (d.kind == 2) with
  | true => exact h2 A c w hnil hK (by simpa using k2)
  | false =>
  obtain ⟨hbx, hb0, hs0⟩ := box_new w (.int .i64 d.kind) (.string d.text) (.int .i64 d.n) (.slice A d.kids.length c)
  obtain ⟨W0, hW0⟩ : ∃ W0, w.alloc (.cells #[.int .i64 d.kind, .string d.text, .int .i64 d.n, .slice A d.kids.length c] 24) = W0 := ⟨_, rfl⟩
  rw [hW0] at hbx hb0 hs0
  obtain ⟨hby, hb1, hs1⟩ := box_new W0 (.int .i64 0) (.string ⟨#[]⟩) (.int .i64 0) (.slice none 0 0)
  obtain ⟨W, hW⟩ : ∃ W, W0.alloc (.cells #[.int .i64 0, .string ⟨#[]⟩, .int .i64 0, .slice none 0 0] 24) = W := ⟨_, rfl⟩
  rw [hW] at hby hb1 hs1
  rw [hs0] at hby
  have hKW := kidsAt_on (kidsAt_on hK hb0) hb1
  have HKW := Lib.hid hKW
  have HC := Lib.hid (void_any d A c W hw hKW)
  have HV := Lib.hid hv
  have hx := hbx.below hb1 (by omega)
  have HF := Lib.hid (form_at.1 hf)
  have HIH := Lib.hid ih
  obtain ⟨x0, x1, x2, x3, _, _, _, _⟩ := id hx
  have HNIL0 := Lib.hid hnil
  clear hKW h2
  cases k1 : (d.kind == 1) with
  | true =>
    have HT := Lib.hid (tidy_str k1)
    clear hv hf ih hnil
    go_enter Tryd.func52, Tryd.ntmps52
    go_wp2_with fail
    refine HC.out.mono ?_
    rintro e w3 ⟨rfl, hb2⟩
    rw [HV.out]
    have hy1 := hby.below hb2 (by omega)
    have HB := Lib.hid ((hb0.trans (hb1.mono (by omega))).trans (hb2.mono (by omega)))
    have hsz := hb2.size
    have HY := Lib.hid hy1
    have HKW2 := Lib.hid (kidsAt_on HKW.out hb2)
    obtain ⟨y0, y1, y2, y3, f0, f1, f2, f3⟩ := hy1
    obtain ⟨v0, v1, v2, v3, _, _, _, _⟩ := hx.below hb2 (by omega)
    clear hbx hby hb0 hb1 hb2 hW hW0 x0 x1 x2 x3 HC HKW
    go_wp2
    obtain ⟨hz, hg⟩ := HY.out.set (.int .i64 d.kind) (.string d.text) (.int .i64 d.n) (.slice A d.kids.length c)
    have hb := gb_below HB.out hg (by omega) (by omega)
    have hgs := hg.size
    have HG := Lib.hid hg
    generalize ((((w3.setCell ⟨w.heap.size + 1, 0, none⟩ (.int .i64 d.kind)).setCell ⟨w.heap.size + 1, 1, none⟩ (.string d.text)).setCell ⟨w.heap.size + 1, 2, none⟩ (.int .i64 d.n)).setCell ⟨w.heap.size + 1, 3, none⟩ (.slice A d.kids.length c)) = W5 at hz hb HG hgs ⊢
    obtain ⟨z0, z1, z2, z3, _, _, _, _⟩ := hz
    refine bodyPost_ret (v := .agg #[.int .i64 d.kind, .string d.text, .int .i64 d.n, .slice A d.kids.length c]) (by simp [results, Tryd.results52, go_sem, z0, z1, z2, z3]) rfl ?_
    have hk0 : d.kids = [] := List.eq_nil_of_length_eq_zero (HF.out.l.resolve_left (by have := k1; rw [beq_iff_eq] at this; omega))
    exact ⟨A, c, by rw [HT.out], by rw [HT.out]; exact ⟨by simp [hk0], HNIL0.out, by simp only [hk0]; trivial⟩, hb⟩
  | false =>
    have hok := spreads_ok hf hv k1
    have HNE0 := Lib.hid hok.2
    have HT := Lib.hid (tidy_else k1 hv)
    have hwsp := spreads_wt d.kind d.kids
    have hws : wts (spreads d.kind d.kids) ≤ 16777216 := by rw [wt_eq] at hw; omega
    have HF' := Lib.hid hf
    clear hv hf ih hnil hok hwsp
    go_enter Tryd.func52, Tryd.ntmps52
    go_wp2_with fail
    refine HC.out.mono ?_
    rintro e w1 ⟨rfl, hb2⟩
    rw [HV.out]
    have HY1 := Lib.hid (hby.below hb2 (by omega))
    have HX1 := Lib.hid (hx.below hb2 (by omega))
    have HB1 := Lib.hid ((hb0.trans (hb1.mono (by omega))).trans (hb2.mono (by omega)))
    have hsz := hb2.size
    have HSPR := Lib.hid (spread_any d hw HF'.out HIH.out A c w1 (kidsAt_on HKW.out hb2))
    have HSZ1 := Lib.hid (show w.heap.size + 1 < w1.heap.size by omega)
    obtain ⟨x0, x1, x2, x3, _, _, _, _⟩ := HX1.out
    clear hbx hby hb0 hb1 hb2 hW hW0 HC HKW hx hs0 hs1 hsz
    go_wp2_with fail
    refine HSPR.out.mono ?_
    rintro e w2 ⟨A2, c2, l2, rfl, hrow, hl2, hb3⟩
    have hsz := hb3.size
    have hsw := HSZ1.out
    have HY2 := Lib.hid (HY1.out.below hb3 (by omega))
    have HX2 := Lib.hid (HX1.out.below hb3 (by omega))
    have HB2 := Lib.hid (HB1.out.trans (hb3.mono (by omega)))
    have HROW := Lib.hid hrow
    have HL2 := Lib.hid hl2
    have HSZ2 := Lib.hid (show w.heap.size + 1 < w2.heap.size by omega)
    have HSL := Lib.hid hsz
    clear hrow hl2 hb3 HSPR HX1 HY1 x0 x1 x2 x3 hsz hsw
    cases k3 : (d.kind == 3) with
    | true =>
      obtain ⟨A2', c2', hv2, hcap2, hnil2, hK2⟩ := HROW.out.at_
      simp only [Value.slice.injEq, true_and] at hv2
      obtain ⟨rfl, rfl⟩ := hv2
      have hG := Lib.hid (glued_any w1.heap.size (l2.map DV.d) A2 c2 w2 (by rw [HL2.out]; omega) (HSL.out) hK2)
      have HLEN := Lib.hid (show (l2.map DV.d).length = l2.length from List.length_map ..)
      obtain ⟨x0, x1, x2, x3, _, _, _, _⟩ := HX2.out
      clear hK2 hcap2 hnil2
      go_wp2_with fail
      have hg := hG.out
      rw [HLEN.out] at hg
      refine hg.mono ?_
      rintro e w3 ⟨A3, c3, l, rfl, hrow3, hl3, hb4⟩
      have hsz := hb4.size
      have hsw := HSZ2.out
      have HY := Lib.hid (HY2.out.below hb4 (by omega))
      have HX := Lib.hid (HX2.out.below hb4 (by omega))
      have HB := Lib.hid (HB2.out.trans (hb4.mono (by omega)))
      have HL := Lib.hid (show l.map DV.d = (spreads d.kind d.kids).foldl (push d.kind) [] by rw [hl3, HL2.out]; have := k3; rw [beq_iff_eq] at this; rw [this])
      have HS := HSZ1
      have HSZ := Lib.hid (show w.heap.size + 1 < w3.heap.size by omega)
      obtain ⟨A3', c3', hv3, hcap3, hnil3, hK3⟩ := hrow3.at_
      simp only [Value.slice.injEq, true_and] at hv3
      obtain ⟨rfl, rfl⟩ := hv3
      have HK := Lib.hid hK3
      have HCAP := Lib.hid hcap3
      have HNIL := Lib.hid hnil3
      clear hg hrow3 hl3 hb4 hK3 hcap3 hnil3 x0 x1 x2 x3 hsz hsw HX2 HY2 HB2 HROW hG HLEN
      have hne : l ≠ [] := by
        rintro rfl
        exact pushes_ne (.inl HNE0.out) HL.out.symm
      have HNE := Lib.hid hne
      clear hne
      have hs2 := HSZ.out
      obtain ⟨y0, y1, y2, y3, _, _, _, _⟩ := HY.out
      obtain ⟨x0, x1, x2, x3, _, _, _, _⟩ := HX.out
      have k2' : (d.kind != 2) = true := by simp [bne, k2]
      by_cases hn : l.length = 1
      · obtain ⟨x, rfl⟩ : ∃ x, l = [x] := by
          match l, hn with
          | [x], _ => exact ⟨x, rfl⟩
        have hR : d.tidy = x.d := by rw [HT.out, ← HL.out]; simp [tidyW, k2]
        obtain ⟨b, o, rfl, hat⟩ := kidsIn_get HK.out (k := 0) (d := x.d) rfl
        obtain ⟨A4, c4, q1, h2, h3, h4, h5, q6, q7, q8⟩ := docIn_iff.1 hat
        simp only [Nat.zero_mul, Nat.add_zero] at h2 h3 h4 h5
        have HR := Lib.hid hR
        have Q1 := Lib.hid q1
        have Q6 := Lib.hid q6
        have Q7 := Lib.hid q7
        have Q8 := Lib.hid q8
        clear q1 q6 q7 q8 hat hR
        simp only [List.length_cons, List.length_nil, Nat.zero_add]
        go_wp2
        obtain ⟨hz, hg⟩ := HY.out.set (.int .i64 x.d.kind) (.string x.d.text) (.int .i64 x.d.n) (.slice A4 x.d.kids.length c4)
        have hb := gb_below HB.out hg (by omega) (by omega)
        have hgs := hg.size
        have HG := Lib.hid hg
        generalize ((((w3.setCell ⟨w.heap.size + 1, 0, none⟩ (.int .i64 x.d.kind)).setCell ⟨w.heap.size + 1, 1, none⟩ (.string x.d.text)).setCell ⟨w.heap.size + 1, 2, none⟩ (.int .i64 x.d.n)).setCell ⟨w.heap.size + 1, 3, none⟩ (.slice A4 x.d.kids.length c4)) = W5 at hz hb HG hgs ⊢
        obtain ⟨z0, z1, z2, z3, _, _, _, _⟩ := hz
        refine bodyPost_ret (v := .agg #[.int .i64 x.d.kind, .string x.d.text, .int .i64 x.d.n, .slice A4 x.d.kids.length c4]) (by simp [results, Tryd.results52, go_sem, z0, z1, z2, z3]) rfl ?_
        exact ⟨A4, c4, by rw [HR.out], by rw [HR.out]; exact DV.In.later (v := ⟨x.d, A4, c4⟩) ⟨Q6.out, Q7.out, Q8.out⟩ (fun b hb => ⟨by have := HS.out; omega, by omega⟩) (fun b o hb => HG.out.cell_far ⟨b, o, none⟩ hb.2 (fun e => by have := HS.out; have := hb.1; simp only [Option.some.injEq] at e; omega)), hb⟩
      · have hR : d.tidy = ⟨d.kind, noB, 0, l.map DV.d⟩ := by
          rw [HT.out, ← HL.out]
          match l, HNE.out, hn with
          | x :: y :: r, _, _ => simp [tidyW, k2]
        have HR := Lib.hid hR
        have hn1 : ¬ (l.length : Int) = 1 := by omega
        clear hR
        go_wp2
        obtain ⟨hz, hg⟩ := HY.out.set (.int .i64 d.kind) (.string ⟨#[]⟩) (.int .i64 0) (.slice A3 l.length c3)
        have hb := gb_below HB.out hg (by omega) (by omega)
        have hgs := hg.size
        have HG := Lib.hid hg
        generalize ((((w3.setCell ⟨w.heap.size + 1, 0, none⟩ (.int .i64 d.kind)).setCell ⟨w.heap.size + 1, 1, none⟩ (.string ⟨#[]⟩)).setCell ⟨w.heap.size + 1, 2, none⟩ (.int .i64 0)).setCell ⟨w.heap.size + 1, 3, none⟩ (.slice A3 l.length c3)) = W5 at hz hb HG hgs ⊢
        obtain ⟨z0, z1, z2, z3, _, _, _, _⟩ := hz
        refine bodyPost_ret (v := .agg #[.int .i64 d.kind, .string ⟨#[]⟩, .int .i64 0, .slice A3 l.length c3]) (by simp [results, Tryd.results52, go_sem, z0, z1, z2, z3]) rfl ?_
        exact ⟨A3, c3, by rw [HR.out]; simp only [List.length_map]; rfl, by rw [HR.out]; exact DV.In.later (v := ⟨⟨d.kind, noB, 0, l.map DV.d⟩, A3, c3⟩) ⟨by simpa using HCAP.out, HNIL.out, HK.out⟩ (fun b hb => ⟨by have := HS.out; omega, by omega⟩) (fun b o hb => HG.out.cell_far ⟨b, o, none⟩ hb.2 (fun e => by have := HS.out; have := hb.1; simp only [Option.some.injEq] at e; omega)), hb⟩
    | false =>
      have HL := Lib.hid (show l2.map DV.d = (spreads d.kind d.kids).foldl (push d.kind) [] by rw [foldl_push_ne (by have := k3; rw [beq_eq_false_iff_ne] at this; exact this), HL2.out]; rfl)
      obtain ⟨A3', c3', hv3, hcap3, hnil3, hK3⟩ := HROW.out.at_
      simp only [Value.slice.injEq, true_and] at hv3
      obtain ⟨rfl, rfl⟩ := hv3
      have HK := Lib.hid hK3
      have HCAP := Lib.hid hcap3
      have HNIL := Lib.hid hnil3
      have HY := HY2
      have HX := HX2
      have HB := HB2
      have HS := HSZ1
      have HSZ := HSZ2
      clear hK3 hcap3 hnil3 HX2 HY2 HB2 HROW
      have hne : l2 ≠ [] := by
        rintro rfl
        exact pushes_ne (.inl HNE0.out) HL.out.symm
      have HNE := Lib.hid hne
      clear hne
      have hs2 := HSZ.out
      obtain ⟨y0, y1, y2, y3, _, _, _, _⟩ := HY.out
      obtain ⟨x0, x1, x2, x3, _, _, _, _⟩ := HX.out
      have k2' : (d.kind != 2) = true := by simp [bne, k2]
      by_cases hn : l2.length = 1
      · obtain ⟨x, rfl⟩ : ∃ x, l2 = [x] := by
          match l2, hn with
          | [x], _ => exact ⟨x, rfl⟩
        have hR : d.tidy = x.d := by rw [HT.out, ← HL.out]; simp [tidyW, k2]
        obtain ⟨b, o, rfl, hat⟩ := kidsIn_get HK.out (k := 0) (d := x.d) rfl
        obtain ⟨A4, c4, q1, h2, h3, h4, h5, q6, q7, q8⟩ := docIn_iff.1 hat
        simp only [Nat.zero_mul, Nat.add_zero] at h2 h3 h4 h5
        have HR := Lib.hid hR
        have Q1 := Lib.hid q1
        have Q6 := Lib.hid q6
        have Q7 := Lib.hid q7
        have Q8 := Lib.hid q8
        clear q1 q6 q7 q8 hat hR
        simp only [List.length_cons, List.length_nil, Nat.zero_add]
        go_wp2
        obtain ⟨hz, hg⟩ := HY.out.set (.int .i64 x.d.kind) (.string x.d.text) (.int .i64 x.d.n) (.slice A4 x.d.kids.length c4)
        have hb := gb_below HB.out hg (by omega) (by omega)
        have hgs := hg.size
        have HG := Lib.hid hg
        generalize ((((w2.setCell ⟨w.heap.size + 1, 0, none⟩ (.int .i64 x.d.kind)).setCell ⟨w.heap.size + 1, 1, none⟩ (.string x.d.text)).setCell ⟨w.heap.size + 1, 2, none⟩ (.int .i64 x.d.n)).setCell ⟨w.heap.size + 1, 3, none⟩ (.slice A4 x.d.kids.length c4)) = W5 at hz hb HG hgs ⊢
        obtain ⟨z0, z1, z2, z3, _, _, _, _⟩ := hz
        refine bodyPost_ret (v := .agg #[.int .i64 x.d.kind, .string x.d.text, .int .i64 x.d.n, .slice A4 x.d.kids.length c4]) (by simp [results, Tryd.results52, go_sem, z0, z1, z2, z3]) rfl ?_
        exact ⟨A4, c4, by rw [HR.out], by rw [HR.out]; exact DV.In.later (v := ⟨x.d, A4, c4⟩) ⟨Q6.out, Q7.out, Q8.out⟩ (fun b hb => ⟨by have := HS.out; omega, by omega⟩) (fun b o hb => HG.out.cell_far ⟨b, o, none⟩ hb.2 (fun e => by have := HS.out; have := hb.1; simp only [Option.some.injEq] at e; omega)), hb⟩
      · have hR : d.tidy = ⟨d.kind, noB, 0, l2.map DV.d⟩ := by
          rw [HT.out, ← HL.out]
          match l2, HNE.out, hn with
          | x :: y :: r, _, _ => simp [tidyW, k2]
        have HR := Lib.hid hR
        have hn1 : ¬ (l2.length : Int) = 1 := by omega
        clear hR
        go_wp2
        obtain ⟨hz, hg⟩ := HY.out.set (.int .i64 d.kind) (.string ⟨#[]⟩) (.int .i64 0) (.slice A2 l2.length c2)
        have hb := gb_below HB.out hg (by omega) (by omega)
        have hgs := hg.size
        have HG := Lib.hid hg
        generalize ((((w2.setCell ⟨w.heap.size + 1, 0, none⟩ (.int .i64 d.kind)).setCell ⟨w.heap.size + 1, 1, none⟩ (.string ⟨#[]⟩)).setCell ⟨w.heap.size + 1, 2, none⟩ (.int .i64 0)).setCell ⟨w.heap.size + 1, 3, none⟩ (.slice A2 l2.length c2)) = W5 at hz hb HG hgs ⊢
        obtain ⟨z0, z1, z2, z3, _, _, _, _⟩ := hz
        refine bodyPost_ret (v := .agg #[.int .i64 d.kind, .string ⟨#[]⟩, .int .i64 0, .slice A2 l2.length c2]) (by simp [results, Tryd.results52, go_sem, z0, z1, z2, z3]) rfl ?_
        exact ⟨A2, c2, by rw [HR.out]; simp only [List.length_map]; rfl, by rw [HR.out]; exact DV.In.later (v := ⟨⟨d.kind, noB, 0, l2.map DV.d⟩, A2, c2⟩) ⟨by simpa using HCAP.out, HNIL.out, HK.out⟩ (fun b hb => ⟨by have := HS.out; omega, by omega⟩) (fun b o hb => HG.out.cell_far ⟨b, o, none⟩ hb.2 (fun e => by have := HS.out; have := hb.1; simp only [Option.some.injEq] at e; omega)), hb⟩
end Go.Proofs.YtnpaplfdmpjfgaaDoor
