/- A document without what makes no difference: the program's tidy, at a Nest. -/
import Derived.Test.YtnpaplfdmpjfgaaDoorDTidyP
namespace Go.Proofs.YtnpaplfdmpjfgaaDoor
open Go.RowKit

theorem nestD_no {g : Nat} {m : Int} {x : Doc} (h : ¬ (x.kind = 2 ∧ -1000 ≤ m + x.n ∧ m + x.n ≤ 1000)) : nestD (g + 1) m x = (m, x) := by
  unfold nestD
  split
  · split
    · rename_i hc
      simp only [Bool.and_eq_true, beq_iff_eq, decide_eq_true_eq] at hc
      exact absurd ⟨hc.1.1, hc.1.2, hc.2⟩ h
    · rfl
  · rfl
theorem nestD_yes {g : Nat} {m : Int} {x y : Doc} (hy : x.kids = [y]) (h : x.kind = 2 ∧ -1000 ≤ m + x.n ∧ m + x.n ≤ 1000) : nestD (g + 1) m x = nestD g (m + x.n) y := by
  conv => lhs; unfold nestD
  rw [hy]
  simp [h]
theorem DocIn.later {S : Nat → Prop} {w w' : World} {d : Doc} {b o : Nat} {A : Option Addr} {c : Nat} (h : DocIn S w d b o A c) (hc : ∀ b o, S b → w'.cell? ⟨b, o, none⟩ = w.cell? ⟨b, o, none⟩) : DocIn S w' d b o A c :=
  ⟨h.lt, (hc _ _ h.lt).trans h.kind, (hc _ _ h.lt).trans h.text, (hc _ _ h.lt).trans h.n, (hc _ _ h.lt).trans h.kids, h.cap, h.nil, kidsIn_later h.in_ (fun _ h => h) hc⟩

set_option maxRecDepth 100000 in
set_option maxHeartbeats 4000000 in
theorem tidy_nest (d : Doc) (hw : d.wt ≤ 16777216) (hf : d.form = true) (hv : d.void = false) (ih : ∀ k ∈ d.kids, TidySays 52 k) (A : Option Addr) (c : Nat) (w : World) (hK : KidsAt w.heap.size w d.kids A) (k2 : d.kind = 2) :
    Calls Tryd.prog 52 #[.agg #[.int .i64 d.kind, .string d.text, .int .i64 d.n, .slice A d.kids.length c]] w (TidySaid d w) := by
  obtain ⟨hbx, hb0, hs0⟩ := box_new w (.int .i64 d.kind) (.string d.text) (.int .i64 d.n) (.slice A d.kids.length c)
  obtain ⟨W0, hW0⟩ : ∃ W0, w.alloc (.cells #[.int .i64 d.kind, .string d.text, .int .i64 d.n, .slice A d.kids.length c] 24) = W0 := ⟨_, rfl⟩
  rw [hW0] at hbx hb0 hs0
  obtain ⟨hby, hb1, hs1⟩ := box_new W0 (.int .i64 0) (.string ⟨#[]⟩) (.int .i64 0) (.slice none 0 0)
  obtain ⟨W, hW⟩ : ∃ W, W0.alloc (.cells #[.int .i64 0, .string ⟨#[]⟩, .int .i64 0, .slice none 0 0] 24) = W := ⟨_, rfl⟩
  rw [hW] at hby hb1 hs1
  rw [hs0] at hby
  have HKW := Lib.hid (kidsAt_on (kidsAt_on hK hb0) hb1)
  have HC := Lib.hid (void_any d A c W hw HKW.out)
  have HV := Lib.hid hv
  have hx := hbx.below hb1 (by omega)
  have F := form_at.1 hf
  have HF := Lib.hid F
  have HF' := Lib.hid hf
  have HIH := Lib.hid ih
  have k1 : (d.kind == 1) = false := by rw [k2]; rfl
  have k2b : (d.kind == 2) = true := by rw [k2]; rfl
  have k2c : (d.kind != 2) = false := by rw [k2]; rfl
  have k3 : (d.kind == 3) = false := by rw [k2]; rfl
  have hok := spreads_ok hf hv k1
  obtain ⟨x0, hx0⟩ : ∃ x0, d.kids = [x0] := List.length_eq_one_iff.1 (F.l1.resolve_left (by omega))
  have hxv : x0.void = false := by
    rw [void_eq, hx0] at hv
    have : (d.kind != 1) = true := by simp [bne, k1]
    rw [this] at hv
    simpa [voids] using hv
  have hsp : spreads d.kind d.kids = [x0.tidy] := by
    rw [hx0, k2]
    simp [spreads, hxv, taken, joinsK]
  obtain ⟨t, ht⟩ : ∃ t, x0.tidy = t := ⟨_, rfl⟩
  rw [ht] at hsp
  have hfine : Fine t := hok.1 t (by rw [hsp]; exact List.mem_cons_self)
  obtain ⟨R, hR⟩ : ∃ R, nestD t.wt d.n t = R := ⟨_, rfl⟩
  have HT := Lib.hid (show d.tidy = nestE R by
    rw [tidy_else k1 hv, hsp, k2, List.foldl_cons, List.foldl_nil, push_not (.inl (by decide)), ← hR]
    simp [tidyW])
  have HSP := Lib.hid hsp
  have HFN := Lib.hid hfine
  have HRR0 := Lib.hid hR
  have hn0 := F.n0
  have hn1 := F.n1
  obtain ⟨v0, v1, v2, v3, _, _, _, _⟩ := id hx
  clear hv hf ih hok hK F hx0 hxv hsp ht hfine hR k2
  go_enter Tryd.func52, Tryd.ntmps52
  go_wp2_with fail
  refine HC.out.mono ?_
  rintro e w1 ⟨rfl, hb2⟩
  rw [HV.out]
  have HY1 := Lib.hid (hby.below hb2 (by omega))
  have HX1 := Lib.hid (hx.below hb2 (by omega))
  have HB1 := Lib.hid ((hb0.trans (hb1.mono (by omega))).trans (hb2.mono (by omega)))
  have hsz := hb2.size
  have HSPR := Lib.hid (spread_any d hw HF'.out HIH.out A c w1 (kidsAt_on HKW.out hb2))
  have HSZ1 := Lib.hid (show w.heap.size + 1 < w1.heap.size by omega)
  obtain ⟨x0, x1, x2, x3, _, _, _, _⟩ := HX1.out
  clear hbx hby hb0 hb1 hb2 hW hW0 HC HKW hx hs0 hs1 hsz v0 v1 v2 v3
  go_wp2_with fail
  refine HSPR.out.mono ?_
  rintro e w2 ⟨A2, c2, l2, rfl, hrow, hl2, hb3⟩
  have hsz := hb3.size
  have hsw := HSZ1.out
  have HY := Lib.hid (HY1.out.below hb3 (by omega))
  have HX := Lib.hid (HX1.out.below hb3 (by omega))
  have HB := Lib.hid (HB1.out.trans (hb3.mono (by omega)))
  have HSZ := Lib.hid (show w.heap.size + 1 < w2.heap.size by omega)
  have HS := HSZ1
  obtain ⟨A3', c3', hv3, hcap3, hnil3, hK3⟩ := hrow.at_
  simp only [Value.slice.injEq, true_and] at hv3
  obtain ⟨rfl, rfl⟩ := hv3
  rw [HSP.out] at hl2
  obtain ⟨tv, rfl⟩ : ∃ tv, l2 = [tv] := by
    match l2, hl2 with
    | [tv], _ => exact ⟨tv, rfl⟩
  have htv : tv.d = t := by simpa using hl2
  rw [hl2] at hK3
  obtain ⟨b, o, rfl, hdi, _⟩ := hK3
  obtain ⟨A4, c4, hdi⟩ := docIn_iff.1 hdi
  have HDI0 := Lib.hid hdi
  have HCAP := Lib.hid hcap3
  obtain ⟨q1, h2, h3, h4, h5, q6, q7, q8⟩ := hdi
  obtain ⟨x0, x1, x2, x3, _, _, _, _⟩ := HX.out
  clear hrow hl2 hb3 HSPR HX1 HY1 hsz hsw hcap3 hnil3 htv HB1 q1 q6 q7 q8
  simp only [List.length_cons, List.length_nil, Nat.zero_add]
  obtain ⟨hbk, hbk1, hbk2⟩ := box_new w2 (.int .i64 t.kind) (.string t.text) (.int .i64 t.n) (.slice A4 t.kids.length c4)
  obtain ⟨W3, hW3⟩ : ∃ W3, w2.alloc (.cells #[.int .i64 t.kind, .string t.text, .int .i64 t.n, .slice A4 t.kids.length c4] 24) = W3 := ⟨_, rfl⟩
  rw [hW3] at hbk hbk1 hbk2
  have HBK := Lib.hid hbk
  have HBK1 := Lib.hid hbk1
  have HBK2 := Lib.hid hbk2
  clear hbk hbk1 hbk2
  go_wp2_with fail
  go_loopg [3, 4, 5] t.wt (fun g ls nn bb wr => ∃ (m : Int) (x : Doc) (b o cc bk : Nat) (A' : Option Addr) (c' : Nat), ls = .slice (some ⟨b, o, none⟩) 1 cc ∧ nn = .int .i64 m ∧ bb = .pointer (some ⟨bk, 0, none⟩) ∧ 1 ≤ cc ∧ w2.heap.size ≤ bk ∧ bk < wr.heap.size ∧ Box4 wr bk (.int .i64 x.kind) (.string x.text) (.int .i64 x.n) (.slice A' x.kids.length c') ∧ DocIn (fun b => w1.heap.size ≤ b ∧ b < w2.heap.size) wr x b o A' c' ∧ nestD g m x = R ∧ x.wt ≤ g ∧ Fine x ∧ -1000 ≤ m ∧ m ≤ 1000 ∧ Below w2.heap.size w2 wr)
  case atStart => exact ⟨d.n, t, b, o, c2, w2.heap.size, A4, c4, rfl, rfl, rfl, by simpa using HCAP.out, Nat.le_refl _, by have := HBK2.out; omega, HBK.out, HDI0.out.later (fun b o hb => HBK1.out.cell (p := ⟨b, o, none⟩) hb.2), HRR0.out, Nat.le_refl _, HFN.out, hn0, hn1, HBK1.out⟩
  case round =>
    clear h2 h3 h4 h5 HDI0 HBK HBK1 HBK2 hW3 HCAP x0 x1 x2 x3
    obtain ⟨m, x, b, o, cc, bk, A', c', rfl, rfl, rfl, hcc, hbk0, hbk1, hbox, hdi, hRR, hxg, hfn, hm0, hm1, hbr⟩ := hrel
    have HBX := Lib.hid hbox
    have HDI := Lib.hid hdi
    have HRR := Lib.hid hRR
    have HFX := Lib.hid hfn
    have HBR := Lib.hid hbr
    have HCC := Lib.hid hcc
    have HSR := Lib.hid hbr.size
    have hnx0 := (form_at.1 hfn.1).n0
    have hnx1 := (form_at.1 hfn.1).n1
    have hl1 := (form_at.1 hfn.1).l1
    have hp := wt_pos x
    obtain ⟨g, rfl⟩ : ∃ g, gk = g + 1 := ⟨gk - 1, by omega⟩
    obtain ⟨z0, z1, z2, z3, zf0, zf1, zf2, zf3⟩ := hbox
    clear hdi hRR hfn hbr hcc
    cases kk : (x.kind == 2) with
    | false =>
      have HR1 := Lib.hid (show R = (m, x) by rw [← HRR.out, nestD_no (by rw [beq_eq_false_iff_ne] at kk; exact fun h => kk h.1)])
      have HYR := Lib.hid (HY.out.below HBR.out (by have := HSZ.out; omega))
      have HBB := Lib.hid (HB.out.trans (HBR.out.mono (by have := HSZ.out; omega)))
      have HTR := Lib.hid (show d.tidy = nestE (m, x) by rw [HT.out, HR1.out])
      obtain ⟨y0, y1, y2, y3, _, _, _, _⟩ := HYR.out
      obtain ⟨q1, h2, h3, h4, h5, q6, q7, q8⟩ := HDI.out
      have hs2 := HSZ.out
      have hsr := HSR.out
      clear q1 q6 q7 q8
      cases km : (m == 0) with
      | true =>
        have HR := Lib.hid (show d.tidy = x by rw [HTR.out]; simp [nestE, km])
        go_wp2
        obtain ⟨hz, hg⟩ := HYR.out.set (.int .i64 x.kind) (.string x.text) (.int .i64 x.n) (.slice A' x.kids.length c')
        have hb := gb_below HBB.out hg (by omega) (by omega)
        have hgs := hg.size
        have HG := Lib.hid hg
        generalize ((((wr.setCell ⟨w.heap.size + 1, 0, none⟩ (.int .i64 x.kind)).setCell ⟨w.heap.size + 1, 1, none⟩ (.string x.text)).setCell ⟨w.heap.size + 1, 2, none⟩ (.int .i64 x.n)).setCell ⟨w.heap.size + 1, 3, none⟩ (.slice A' x.kids.length c')) = W6 at hz hb HG hgs ⊢
        obtain ⟨z0, z1, z2, z3, _, _, _, _⟩ := hz
        refine bodyPost_ret (v := .agg #[.int .i64 x.kind, .string x.text, .int .i64 x.n, .slice A' x.kids.length c']) (by simp [results, Tryd.results52, go_sem, z0, z1, z2, z3]) rfl ?_
        exact ⟨A', c', by rw [HR.out], by rw [HR.out]; exact DV.In.later (v := ⟨x, A', c'⟩) ⟨HDI.out.cap, HDI.out.nil, HDI.out.in_⟩ (fun b hb => ⟨by have := HS.out; have := hb.1; omega, by have := hb.2; have := HSR.out; omega⟩) (fun b o hb => HG.out.cell_far ⟨b, o, none⟩ (by have := hb.2; have := HSR.out; simp only; omega) (fun e => by have := HS.out; have := hb.1; simp only [Option.some.injEq] at e; omega)), hb⟩
      | false =>
        have HR := Lib.hid (show d.tidy = ⟨2, noB, m, [x]⟩ by rw [HTR.out]; simp [nestE, km])
        go_wp2
        obtain ⟨hz, hg⟩ := HYR.out.set (.int .i64 2) (.string ⟨#[]⟩) (.int .i64 m) (.slice (some ⟨b, o, none⟩) 1 cc)
        have hb := gb_below HBB.out hg (by omega) (by omega)
        have hgs := hg.size
        have HG := Lib.hid hg
        generalize ((((wr.setCell ⟨w.heap.size + 1, 0, none⟩ (.int .i64 2)).setCell ⟨w.heap.size + 1, 1, none⟩ (.string ⟨#[]⟩)).setCell ⟨w.heap.size + 1, 2, none⟩ (.int .i64 m)).setCell ⟨w.heap.size + 1, 3, none⟩ (.slice (some ⟨b, o, none⟩) 1 cc)) = W6 at hz hb HG hgs ⊢
        obtain ⟨z0, z1, z2, z3, _, _, _, _⟩ := hz
        refine bodyPost_ret (v := .agg #[.int .i64 2, .string ⟨#[]⟩, .int .i64 m, .slice (some ⟨b, o, none⟩) 1 cc]) (by simp [results, Tryd.results52, go_sem, z0, z1, z2, z3]) rfl ?_
        exact ⟨some ⟨b, o, none⟩, cc, by rw [HR.out]; rfl, by rw [HR.out]; exact DV.In.later (v := ⟨⟨2, noB, m, [x]⟩, some ⟨b, o, none⟩, cc⟩) ⟨HCC.out, fun e => (nomatch e), ⟨b, o, rfl, docIn_iff.2 ⟨A', c', HDI.out⟩, trivial⟩⟩ (fun b hb => ⟨by have := HS.out; have := hb.1; omega, by have := hb.2; have := HSR.out; omega⟩) (fun b o hb => HG.out.cell_far ⟨b, o, none⟩ (by have := hb.2; have := HSR.out; simp only; omega) (fun e => by have := HS.out; have := hb.1; simp only [Option.some.injEq] at e; omega)), hb⟩
    | true =>
      by_cases hlo : m + x.n < -1000
      · have HR1 := Lib.hid (show R = (m, x) by rw [← HRR.out, nestD_no (by omega)])
        have HYR := Lib.hid (HY.out.below HBR.out (by have := HSZ.out; omega))
        have HBB := Lib.hid (HB.out.trans (HBR.out.mono (by have := HSZ.out; omega)))
        have HTR := Lib.hid (show d.tidy = nestE (m, x) by rw [HT.out, HR1.out])
        obtain ⟨y0, y1, y2, y3, _, _, _, _⟩ := HYR.out
        obtain ⟨q1, h2, h3, h4, h5, q6, q7, q8⟩ := HDI.out
        have hs2 := HSZ.out
        have hsr := HSR.out
        clear q1 q6 q7 q8
        cases km : (m == 0) with
        | true =>
          have HR := Lib.hid (show d.tidy = x by rw [HTR.out]; simp [nestE, km])
          go_wp2
          obtain ⟨hz, hg⟩ := HYR.out.set (.int .i64 x.kind) (.string x.text) (.int .i64 x.n) (.slice A' x.kids.length c')
          have hb := gb_below HBB.out hg (by omega) (by omega)
          have hgs := hg.size
          have HG := Lib.hid hg
          generalize ((((wr.setCell ⟨w.heap.size + 1, 0, none⟩ (.int .i64 x.kind)).setCell ⟨w.heap.size + 1, 1, none⟩ (.string x.text)).setCell ⟨w.heap.size + 1, 2, none⟩ (.int .i64 x.n)).setCell ⟨w.heap.size + 1, 3, none⟩ (.slice A' x.kids.length c')) = W6 at hz hb HG hgs ⊢
          obtain ⟨z0, z1, z2, z3, _, _, _, _⟩ := hz
          refine bodyPost_ret (v := .agg #[.int .i64 x.kind, .string x.text, .int .i64 x.n, .slice A' x.kids.length c']) (by simp [results, Tryd.results52, go_sem, z0, z1, z2, z3]) rfl ?_
          exact ⟨A', c', by rw [HR.out], by rw [HR.out]; exact DV.In.later (v := ⟨x, A', c'⟩) ⟨HDI.out.cap, HDI.out.nil, HDI.out.in_⟩ (fun b hb => ⟨by have := HS.out; have := hb.1; omega, by have := hb.2; have := HSR.out; omega⟩) (fun b o hb => HG.out.cell_far ⟨b, o, none⟩ (by have := hb.2; have := HSR.out; simp only; omega) (fun e => by have := HS.out; have := hb.1; simp only [Option.some.injEq] at e; omega)), hb⟩
        | false =>
          have HR := Lib.hid (show d.tidy = ⟨2, noB, m, [x]⟩ by rw [HTR.out]; simp [nestE, km])
          go_wp2
          obtain ⟨hz, hg⟩ := HYR.out.set (.int .i64 2) (.string ⟨#[]⟩) (.int .i64 m) (.slice (some ⟨b, o, none⟩) 1 cc)
          have hb := gb_below HBB.out hg (by omega) (by omega)
          have hgs := hg.size
          have HG := Lib.hid hg
          generalize ((((wr.setCell ⟨w.heap.size + 1, 0, none⟩ (.int .i64 2)).setCell ⟨w.heap.size + 1, 1, none⟩ (.string ⟨#[]⟩)).setCell ⟨w.heap.size + 1, 2, none⟩ (.int .i64 m)).setCell ⟨w.heap.size + 1, 3, none⟩ (.slice (some ⟨b, o, none⟩) 1 cc)) = W6 at hz hb HG hgs ⊢
          obtain ⟨z0, z1, z2, z3, _, _, _, _⟩ := hz
          refine bodyPost_ret (v := .agg #[.int .i64 2, .string ⟨#[]⟩, .int .i64 m, .slice (some ⟨b, o, none⟩) 1 cc]) (by simp [results, Tryd.results52, go_sem, z0, z1, z2, z3]) rfl ?_
          exact ⟨some ⟨b, o, none⟩, cc, by rw [HR.out]; rfl, by rw [HR.out]; exact DV.In.later (v := ⟨⟨2, noB, m, [x]⟩, some ⟨b, o, none⟩, cc⟩) ⟨HCC.out, fun e => (nomatch e), ⟨b, o, rfl, docIn_iff.2 ⟨A', c', HDI.out⟩, trivial⟩⟩ (fun b hb => ⟨by have := HS.out; have := hb.1; omega, by have := hb.2; have := HSR.out; omega⟩) (fun b o hb => HG.out.cell_far ⟨b, o, none⟩ (by have := hb.2; have := HSR.out; simp only; omega) (fun e => by have := HS.out; have := hb.1; simp only [Option.some.injEq] at e; omega)), hb⟩
      · by_cases hhi : 1000 < m + x.n
        · have HR1 := Lib.hid (show R = (m, x) by rw [← HRR.out, nestD_no (by omega)])
          have HYR := Lib.hid (HY.out.below HBR.out (by have := HSZ.out; omega))
          have HBB := Lib.hid (HB.out.trans (HBR.out.mono (by have := HSZ.out; omega)))
          have HTR := Lib.hid (show d.tidy = nestE (m, x) by rw [HT.out, HR1.out])
          obtain ⟨y0, y1, y2, y3, _, _, _, _⟩ := HYR.out
          obtain ⟨q1, h2, h3, h4, h5, q6, q7, q8⟩ := HDI.out
          have hs2 := HSZ.out
          have hsr := HSR.out
          clear q1 q6 q7 q8
          cases km : (m == 0) with
          | true =>
            have HR := Lib.hid (show d.tidy = x by rw [HTR.out]; simp [nestE, km])
            go_wp2
            obtain ⟨hz, hg⟩ := HYR.out.set (.int .i64 x.kind) (.string x.text) (.int .i64 x.n) (.slice A' x.kids.length c')
            have hb := gb_below HBB.out hg (by omega) (by omega)
            have hgs := hg.size
            have HG := Lib.hid hg
            generalize ((((wr.setCell ⟨w.heap.size + 1, 0, none⟩ (.int .i64 x.kind)).setCell ⟨w.heap.size + 1, 1, none⟩ (.string x.text)).setCell ⟨w.heap.size + 1, 2, none⟩ (.int .i64 x.n)).setCell ⟨w.heap.size + 1, 3, none⟩ (.slice A' x.kids.length c')) = W6 at hz hb HG hgs ⊢
            obtain ⟨z0, z1, z2, z3, _, _, _, _⟩ := hz
            refine bodyPost_ret (v := .agg #[.int .i64 x.kind, .string x.text, .int .i64 x.n, .slice A' x.kids.length c']) (by simp [results, Tryd.results52, go_sem, z0, z1, z2, z3]) rfl ?_
            exact ⟨A', c', by rw [HR.out], by rw [HR.out]; exact DV.In.later (v := ⟨x, A', c'⟩) ⟨HDI.out.cap, HDI.out.nil, HDI.out.in_⟩ (fun b hb => ⟨by have := HS.out; have := hb.1; omega, by have := hb.2; have := HSR.out; omega⟩) (fun b o hb => HG.out.cell_far ⟨b, o, none⟩ (by have := hb.2; have := HSR.out; simp only; omega) (fun e => by have := HS.out; have := hb.1; simp only [Option.some.injEq] at e; omega)), hb⟩
          | false =>
            have HR := Lib.hid (show d.tidy = ⟨2, noB, m, [x]⟩ by rw [HTR.out]; simp [nestE, km])
            go_wp2
            obtain ⟨hz, hg⟩ := HYR.out.set (.int .i64 2) (.string ⟨#[]⟩) (.int .i64 m) (.slice (some ⟨b, o, none⟩) 1 cc)
            have hb := gb_below HBB.out hg (by omega) (by omega)
            have hgs := hg.size
            have HG := Lib.hid hg
            generalize ((((wr.setCell ⟨w.heap.size + 1, 0, none⟩ (.int .i64 2)).setCell ⟨w.heap.size + 1, 1, none⟩ (.string ⟨#[]⟩)).setCell ⟨w.heap.size + 1, 2, none⟩ (.int .i64 m)).setCell ⟨w.heap.size + 1, 3, none⟩ (.slice (some ⟨b, o, none⟩) 1 cc)) = W6 at hz hb HG hgs ⊢
            obtain ⟨z0, z1, z2, z3, _, _, _, _⟩ := hz
            refine bodyPost_ret (v := .agg #[.int .i64 2, .string ⟨#[]⟩, .int .i64 m, .slice (some ⟨b, o, none⟩) 1 cc]) (by simp [results, Tryd.results52, go_sem, z0, z1, z2, z3]) rfl ?_
            exact ⟨some ⟨b, o, none⟩, cc, by rw [HR.out]; rfl, by rw [HR.out]; exact DV.In.later (v := ⟨⟨2, noB, m, [x]⟩, some ⟨b, o, none⟩, cc⟩) ⟨HCC.out, fun e => (nomatch e), ⟨b, o, rfl, docIn_iff.2 ⟨A', c', HDI.out⟩, trivial⟩⟩ (fun b hb => ⟨by have := HS.out; have := hb.1; omega, by have := hb.2; have := HSR.out; omega⟩) (fun b o hb => HG.out.cell_far ⟨b, o, none⟩ (by have := hb.2; have := HSR.out; simp only; omega) (fun e => by have := HS.out; have := hb.1; simp only [Option.some.injEq] at e; omega)), hb⟩
        · have kk' : x.kind = 2 := by simpa using kk
          obtain ⟨y, hy⟩ : ∃ y, x.kids = [y] := List.length_eq_one_iff.1 (hl1.resolve_left (by omega))
          have HRY := Lib.hid (show nestD g (m + x.n) y = R by rw [← HRR.out, nestD_yes hy ⟨kk', by omega, by omega⟩])
          have hwy : y.wt < x.wt := kid_lt (by rw [hy]; exact List.mem_cons_self)
          have HFY := Lib.hid (fine_kids HFX.out y (by rw [hy]; exact List.mem_cons_self))
          have hkin := HDI.out.in_
          have HCX := Lib.hid HDI.out.cap
          have hcx := HCX.out
          rw [hy] at hkin hcx
          obtain ⟨b2, o2, rfl, hdy, _⟩ := hkin
          obtain ⟨A5, c5, hdy⟩ := docIn_iff.1 hdy
          have HDY := Lib.hid hdy
          have HCY := Lib.hid hcx
          obtain ⟨q1, h2, h3, h4, h5, q6, q7, q8⟩ := hdy
          have hlen : x.kids.length = 1 := by rw [hy]; rfl
          rw [hlen] at z3
          clear q1 q6 q7 q8 hy kk' HCX hcx hl1
          go_wp2_with fail
          have hwr : IntKind.i64.wrap (m + x.n) = m + x.n := IntWalk.i64_in _ (by omega)
          go_region
          clear hwr
          obtain ⟨hbn, hbn1, hbn2⟩ := box_new wr (.int .i64 x.kind) (.string x.text) (.int .i64 x.n) (.slice (some ⟨b2, o2, none⟩) 1 c')
          obtain ⟨W3, hW3⟩ : ∃ W3, wr.alloc (.cells #[.int .i64 x.kind, .string x.text, .int .i64 x.n, .slice (some ⟨b2, o2, none⟩) 1 c'] 24) = W3 := ⟨_, rfl⟩
          rw [hW3] at hbn hbn1 hbn2
          have hsr := HSR.out
          have hdy3 := HDY.out.later (w' := W3) (fun b o hb => hbn1.cell (p := ⟨b, o, none⟩) (by have := hb.2; simp only; omega))
          have HDY3 := Lib.hid hdy3
          obtain ⟨q1, h2, h3, h4, h5, q6, q7, q8⟩ := hdy3
          have HBN := Lib.hid hbn
          have HBN1 := Lib.hid hbn1
          have HBN2 := Lib.hid hbn2
          obtain ⟨n0, n1, n2, n3, _, _, _, _⟩ := hbn
          clear q1 q6 q7 q8 hbn1 hbn2
          go_wp2
          clear hW3 z0 z1 z2 z3 zf0 zf1 zf2 zf3
          obtain ⟨hz, hg⟩ := HBN.out.set (.int .i64 y.kind) (.string y.text) (.int .i64 y.n) (.slice A5 y.kids.length c5)
          have HZ := Lib.hid hz
          have HG := Lib.hid hg
          clear hz hg
          go_roundg g
          case measure => omega
          case rel =>
            have hn2 := HBN2.out
            have hgs := HG.out.size
            refine ⟨m + x.n, y, b2, o2, c', wr.heap.size, A5, c5, rfl, rfl, rfl, HCY.out, by omega, Nat.lt_of_lt_of_le (show wr.heap.size < W3.heap.size by omega) HG.out.size, ?_, ?_, HRY.out, by omega, HFY.out, by omega, by omega, ?_⟩
            · exact ⟨HZ.out.c0, HZ.out.c1, HZ.out.c2, HZ.out.c3, HZ.out.f0, HZ.out.f1, HZ.out.f2, HZ.out.f3⟩
            · exact HDY3.out.later fun b o hb => HG.out.cell_far ⟨b, o, none⟩ (by have := hb.2; simp only; omega) (fun e => by have := hb.2; simp only [Option.some.injEq] at e; omega)
            · exact (gb_below (HBR.out.trans (HBN1.out.mono (by omega))) HG.out (by omega) (by omega)).drew
end Go.Proofs.YtnpaplfdmpjfgaaDoor
