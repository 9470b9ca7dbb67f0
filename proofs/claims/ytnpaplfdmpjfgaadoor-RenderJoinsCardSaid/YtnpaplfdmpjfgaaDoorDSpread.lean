/- Tidy kids, those of the same kind taken up: the program's spread. -/
import Derived.Test.YtnpaplfdmpjfgaaDoorDGlued
namespace Go.Proofs.YtnpaplfdmpjfgaaDoor
open Go.RowKit

/-- What a tidying function tells of a document. -/
def TidySaid (d : Doc) (w : World) (e : Ending) (w' : World) : Prop := ∃ A c, e = .returned (.agg #[.int .i64 d.tidy.kind, .string d.tidy.text, .int .i64 d.tidy.n, .slice A d.tidy.kids.length c]) ∧ (⟨d.tidy, A, c⟩ : DV).In (fun b => w.heap.size ≤ b ∧ b < w'.heap.size) w' ∧ Below w.heap.size w w'
def TidySays (f : Nat) (d : Doc) : Prop := ∀ (A : Option Addr) (c : Nat) (w : World), (A = none → c = 0) → KidsAt w.heap.size w d.kids A →
  Calls Tryd.prog f #[.agg #[.int .i64 d.kind, .string d.text, .int .i64 d.n, .slice A d.kids.length c]] w (TidySaid d w)
def SpreadSaid (d : Doc) (w : World) (e : Ending) (w' : World) : Prop := ∃ A c l, e = .returned (.slice A (List.length l) c) ∧ DRow w.heap.size w' (.slice A l.length c) l ∧ l.map DV.d = spreads d.kind d.kids ∧ Below w.heap.size w w'

theorem wts_filter (p : Doc → Bool) (ds : List Doc) : wts (ds.filter p) ≤ wts ds := by
  induction ds with
  | nil => simp
  | cons a r ih => simp only [List.filter_cons]; split <;> simp only [wts] <;> omega
theorem wts_flat (k : Int) (ds : List Doc) : wts (ds.flatMap fun d => taken k d.tidy) ≤ wts ds := by
  induction ds with
  | nil => simp
  | cons a r ih => rw [List.flatMap_cons, wts_app]; have := taken_wt k a.tidy; have := tidy_wt a; simp only [wts]; omega
theorem flat_take {ds : List Doc} {k : Nat} (h : k < ds.length) (kd : Int) : ((ds.take (k + 1)).flatMap fun d => taken kd d.tidy) = ((ds.take k).flatMap fun d => taken kd d.tidy) ++ taken kd ds[k].tidy := by
  rw [List.take_succ_eq_append_getElem h, List.flatMap_append]
  simp
theorem taken_yes {k : Int} {t : Doc} (h1 : joinsK k = true) (h2 : (t.kind == k) = true) : taken k t = t.kids := by simp [taken, h1, h2]
theorem taken_no {k : Int} {t : Doc} (h : joinsK k = false ∨ (t.kind == k) = false) : taken k t = [t] := by rcases h with h | h <;> simp [taken, h]

set_option maxRecDepth 100000 in
set_option maxHeartbeats 4000000 in
theorem spread_any (d : Doc) (hB : d.wt ≤ 16777216) (hf : d.form = true) (ih : ∀ k ∈ d.kids, TidySays 52 k) (A : Option Addr) (c : Nat) (w : World) (hK : KidsAt w.heap.size w d.kids A) :
    Calls Tryd.prog 65 #[.agg #[.int .i64 d.kind, .string d.text, .int .i64 d.n, .slice A d.kids.length c]] w (SpreadSaid d w) := by
  have hwk : wts d.kids ≤ 16777216 := by rw [wt_eq] at hB; omega
  obtain ⟨hbx, hb0, hs0⟩ := box_new w (.int .i64 d.kind) (.string d.text) (.int .i64 d.n) (.slice A d.kids.length c)
  have hK0 := kidsAt_on hK hb0
  obtain ⟨W, hW⟩ : ∃ W, w.alloc (.cells #[.int .i64 d.kind, .string d.text, .int .i64 d.n, .slice A d.kids.length c] 24) = W := ⟨_, rfl⟩
  rw [hW] at hbx hb0 hs0 hK0
  have hO := World.ownsRow_lit (base := W.heap.size) (e := 24) (size := 4) W #[] 0 (Nat.le_refl _) (by decide) rfl
  have hb1 := (Below.refl W.heap.size W).alloc (Nat.le_refl _) (.cells #[] 24)
  obtain ⟨W1, hW1⟩ : ∃ W1, W.alloc (.cells #[] 24) = W1 := ⟨_, rfl⟩
  have hs1 : W1.heap.size = W.heap.size + 1 := by rw [← hW1]; simp
  rw [hW1] at hO hb1
  have hcall := kept_below W.heap.size d.kids A c W1 (by omega) hwk (kidsAt_below hK0 hb1)
  have HC := Lib.hid hcall
  have HO := Lib.hid hO
  have HB1 := Lib.hid hb1
  have HB0 := Lib.hid hb0
  have HX := Lib.hid hbx
  have HX1 := Lib.hid (hbx.below hb1 (by omega))
  have HS0 := Lib.hid hs0
  have HS1 := Lib.hid hs1
  have HIH := Lib.hid ih
  have HF := Lib.hid (form_at.1 hf)
  have HSP := Lib.hid (spreads_there d.kind d.kids)
  clear hK hK0 hcall hO hb1 hb0 hs0 hs1 ih hf
  obtain ⟨x0, x1, x2, x3, _, _, _, _⟩ := HX1.out
  go_enter Tryd.func65, Tryd.ntmps65
  go_wp2_with fail
  have hc := HC.out
  clear x0 x1 x2 x3 HC
  refine hc.mono ?_
  rintro e w1 ⟨v, l0, rfl, hD, hl0, hb2, hok0⟩
  have hs1 := HS1.out
  have hs2 := hb2.size
  obtain ⟨A1, c1, rfl, hc1, hnil1, hK1⟩ := own_kidsIn (S := Off 0 (.slice (some ⟨W.heap.size, 0, none⟩) 0 0) w1) hD.1 (fun t ht => (hok0 t ht).in_.later (fun b hb => ⟨Nat.zero_le _, by omega, fun e => by simp only [Value.ownBlock, Option.some.injEq] at e; omega⟩) fun _ _ _ => rfl)
    (fun g hg => ⟨Nat.zero_le _, (hD.1.lt g hg).2, fun e => by have := (hD.1.lt g hg).1; simp only [Value.ownBlock, Option.some.injEq] at e; omega⟩)
  have hR1 : DRow W.heap.size w1 (.slice (some ⟨W.heap.size, 0, none⟩) 0 0) [] := ⟨own_below HO.out hb2, by simp⟩
  have hB1 := HB1.out.trans (hb2.mono (by omega))
  rw [hl0] at hK1
  have hlen : l0.length = (d.kids.filter Doc.there).length := by rw [← hl0, List.length_map]
  rw [hlen]
  have HSP := Lib.hid (spreads_there d.kind d.kids)
  obtain ⟨ds0, hds⟩ : ∃ ds0, d.kids.filter Doc.there = ds0 := ⟨_, rfl⟩
  have hwd : wts ds0 ≤ 16777216 := by rw [← hds]; have := wts_filter Doc.there d.kids; omega
  have HMEM := Lib.hid (show ∀ x ∈ ds0, x ∈ d.kids ∧ x.void = false from fun x hx => by
    rw [← hds] at hx
    obtain ⟨h1, h2⟩ := List.mem_filter.1 hx
    exact ⟨h1, by simpa [Doc.there] using h2⟩)
  have HSP2 := Lib.hid (show spreads d.kind d.kids = ds0.flatMap fun x => taken d.kind x.tidy by rw [HSP.out, hds])
  rw [hds] at hK1
  rw [hds]
  have hdl := len_le_wts ds0
  have HK1 := Lib.hid hK1
  have HR1 := Lib.hid hR1
  have HB1' := Lib.hid hB1
  have HS2 := Lib.hid (show W.heap.size < w1.heap.size by omega)
  clear hc hD hl0 hb2 hok0 hs1 hs2 hc1 hnil1 hK1 hR1 hB1 hlen HSP hds
  go_wp2_with fail
  go_loopw [3, 11] (fun out i wr => ∃ (k : Nat) (l : List DV), k ≤ ds0.length ∧ i = .int .i64 k ∧ l.map DV.d = ((ds0.take k).flatMap fun x => taken d.kind x.tidy) ∧ DRow W.heap.size wr out l ∧ KidsIn (Off 0 out wr) wr ds0 A1 ∧ Below W.heap.size W wr) (fun _ i wr => ds0.length - (intOf i).toNat)
  case atStart => exact ⟨0, [], by omega, rfl, rfl, HR1.out, HK1.out, HB1'.out⟩
  case round =>
    obtain ⟨k, l, hk, rfl, hl, hR, hKo, hB⟩ := hrel
    have HL := Lib.hid hl
    have HR := Lib.hid hR
    have HKO := Lib.hid hKo
    have HB := Lib.hid hB
    have hll : l.length ≤ 16777216 := by
      have h1 := wts_flat d.kind (ds0.take k)
      have h2 := wts_take_le' ds0 k
      rw [← hl] at h1
      have h3 := len_le_wts (l.map DV.d)
      rw [List.length_map] at h3
      omega
    clear hl hR hKo hB
    by_cases hlt : k < ds0.length
    · obtain ⟨b, o, rfl, hat⟩ := kidsIn_get HKO.out (kid_in hlt)
      obtain ⟨A', c', q1, h2, h3, h4, h5, q6, q7, q8⟩ := docIn_iff.1 hat
      have hmem := HMEM.out ds0[k] (List.getElem_mem hlt)
      have hdw := kid_lt hmem.1
      obtain ⟨hbx, hb0, hs0⟩ := box_new wr (.int .i64 ds0[k].kind) (.string ds0[k].text) (.int .i64 ds0[k].n) (.slice A' ds0[k].kids.length c')
      obtain ⟨W3, hW3⟩ : ∃ W3, wr.alloc (.cells #[.int .i64 ds0[k].kind, .string ds0[k].text, .int .i64 ds0[k].n, .slice A' ds0[k].kids.length c'] 24) = W3 := ⟨_, rfl⟩
      rw [hW3] at hbx hb0 hs0
      have hcall := Lib.hid (HIH.out ds0[k] hmem.1 A' c' W3 q7 (kidsAt_on (q8.at_ fun b hb => hb.2.1) hb0))
      have HBX := Lib.hid hbx
      have HB3 := Lib.hid hb0
      have HS3 := Lib.hid hs0
      have HFN := Lib.hid (tidy_fine (HF.out.kids _ hmem.1) hmem.2)
      have HFT := Lib.hid (flat_take hlt d.kind)
      have hwt := tidy_wt ds0[k]
      have hkl := kids_lt ds0[k].tidy
      have HMANY := Lib.hid (show l.length + ds0[k].tidy.kids.length ≤ 33554432 by omega)
      obtain ⟨z0, z1, z2, z3, _, _, _, _⟩ := hbx
      clear q1 q6 q7 q8 hat hb0 hs0 hmem
      go_wp2_with fail
      have hc := hcall.out
      clear hcall h2 h3 h4 h5 z0 z1 z2 z3 hW3
      refine hc.mono ?_
      rintro e w4 ⟨A2, c2, rfl, hin, hb4⟩
      have hs3 := HS3.out
      have hbx4 := HBX.out.below hb4 (by omega)
      have hs4 := hb4.size
      have HB4 := Lib.hid (HB3.out.trans (hb4.mono (by omega)))
      have HIN := Lib.hid hin
      have HBX4 := Lib.hid hbx4
      have HS3' := Lib.hid hs3
      have hs34 : wr.heap.size < w4.heap.size := by omega
      obtain ⟨z0, z1, z2, z3, _, _, _, _⟩ := hbx4
      clear hc hin hb4 hs3 hs4 HBX HB3 HS3
      go_upto_region 6 with (fail)
      obtain ⟨hbx5, hg5⟩ := HBX4.out.set (.int .i64 ds0[k].tidy.kind) (.string ds0[k].tidy.text) (.int .i64 ds0[k].tidy.n) (.slice A2 ds0[k].tidy.kids.length c2)
      obtain ⟨W5, hW5⟩ : ∃ W5, (((w4.setCell ⟨wr.heap.size, 0, none⟩ (.int .i64 ds0[k].tidy.kind)).setCell ⟨wr.heap.size, 1, none⟩ (.string ds0[k].tidy.text)).setCell ⟨wr.heap.size, 2, none⟩ (.int .i64 ds0[k].tidy.n)).setCell ⟨wr.heap.size, 3, none⟩ (.slice A2 ds0[k].tidy.kids.length c2) = W5 := ⟨_, rfl⟩
      rw [hW5] at hbx5 hg5 ⊢
      have hwr5 : Below wr.heap.size wr W5 := gb_below HB4.out hg5 (Nat.le_of_lt hs34) (Nat.le_refl _)
      have hs3 := HS3'.out
      have hs5 := hg5.size
      have hWwr := HB.out.size
      have hT5 : (⟨ds0[k].tidy, A2, c2⟩ : DV).In (Off W.heap.size u3 W5) W5 := HIN.out.later (fun b hb => ⟨by omega, by omega, fun e => by have := (HR.out.own.lt b e.symm).2; omega⟩) (fun b o hb => hg5.cell_far ⟨b, o, none⟩ hb.2 (fun e => by simp only [Option.some.injEq] at e; omega))
      have HT5 := Lib.hid hT5
      have HR5 := Lib.hid (HR.out.below hwr5)
      have HK5 := Lib.hid (kidsOff_below HKO.out hwr5)
      have HB5 := Lib.hid (HB.out.trans (hwr5.mono hWwr))
      obtain ⟨x0, x1, x2, x3, _, _, _, _⟩ := HX.out.below HB5.out (by have := HS0.out; omega)
      obtain ⟨A3, c3, rfl⟩ := own_form HR5.out.own
      obtain ⟨z0, z1, z2, z3, _, _, _, _⟩ := hbx5
      clear hW5 hg5 hwr5 hs3 hs5 hWwr hT5 HIN HBX4 HS3' HB4 HR HKO HB hs34
      cases k3 : (d.kind == 3) with
      | true =>
        cases kt : (ds0[k].tidy.kind == d.kind) with
        | false =>
          go_wp2_with (at_builtin; refine wpList_app1d rfl _ _ 22 rfl Tryd.underlying22 info24 W5 ⟨ds0[k].tidy, A2, c2⟩ rfl _ rfl W.heap.size (.slice A3 l.length c3) l rfl HR5.out HT5.out rfl (by omega) (by have := HB5.out.size; omega) ?_; intro A6 c6 w6 hR6 hg6 hn6)
          go_roundw
          case rel => exact ⟨k + 1, l ++ [⟨ds0[k].tidy, A2, c2⟩], by omega, by go_num, by rw [HFT.out, List.map_append, HL.out, taken_no (.inr kt)]; rfl, hR6, kidsOff_grown HK5.out hg6 hn6, HR5.out.below_grown HB5.out HB5.out.size hg6⟩
          case measure => simp [intOf]; omega
        | true =>
          have hne : ds0[k].tidy.kids ≠ [] := (solid_at.1 HFN.out.2).l.resolve_left (by
            have h := kt
            rw [beq_iff_eq] at h
            have h2 := k3
            rw [beq_iff_eq] at h2
            omega)
          obtain ⟨b6, o6, rfl⟩ : ∃ b6 o6, A2 = some ⟨b6, o6, none⟩ := by
            cases hk : ds0[k].tidy.kids with
            | nil => exact absurd hk hne
            | cons q r =>
              have h : KidsIn (Off W.heap.size (.slice A3 l.length c3) W5) W5 ds0[k].tidy.kids A2 := HT5.out.in_
              rw [hk] at h
              obtain ⟨b6, o6, e, _⟩ := h
              exact ⟨b6, o6, e⟩
          obtain ⟨lv, hlv, hlo, hlc⟩ := kidsIn_dvs HT5.out.in_
          have hlv : lv.map DV.d = ds0[k].tidy.kids := hlv
          have hlen : lv.length = ds0[k].tidy.kids.length := by rw [← hlv, List.length_map]
          have HLV := Lib.hid hlv
          have HLEN := Lib.hid hlen
          have HLC := Lib.hid hlc
          have HLO := Lib.hid hlo
          clear hlv hlen hlo hlc hne
          go_wp2_with (at_builtin; refine wpList_appk rfl _ _ 22 rfl Tryd.underlying22 info24 W.heap.size (.slice A3 l.length c3) l rfl HR5.out b6 o6 _ c2 lv rfl HLEN.out.symm HLC.out HLO.out (by have := HMANY.out; omega) HB5.out.size ?_; intro A6 c6 w6 hR6 hg6 hn6)
          go_roundw
          case rel => exact ⟨k + 1, l ++ lv, by omega, by go_num, by rw [HFT.out, List.map_append, HL.out, HLV.out, taken_yes (by simp [joinsK, k3]) kt], hR6, kidsOff_grown HK5.out hg6 hn6, HR5.out.below_grown HB5.out HB5.out.size hg6⟩
          case measure => simp [intOf]; omega
      | false =>
        cases k4 : (d.kind == 4) with
        | true =>
          cases kt : (ds0[k].tidy.kind == d.kind) with
          | false =>
            go_wp2_with (at_builtin; refine wpList_app1d rfl _ _ 22 rfl Tryd.underlying22 info24 W5 ⟨ds0[k].tidy, A2, c2⟩ rfl _ rfl W.heap.size (.slice A3 l.length c3) l rfl HR5.out HT5.out rfl (by omega) (by have := HB5.out.size; omega) ?_; intro A6 c6 w6 hR6 hg6 hn6)
            go_roundw
            case rel => exact ⟨k + 1, l ++ [⟨ds0[k].tidy, A2, c2⟩], by omega, by go_num, by rw [HFT.out, List.map_append, HL.out, taken_no (.inr kt)]; rfl, hR6, kidsOff_grown HK5.out hg6 hn6, HR5.out.below_grown HB5.out HB5.out.size hg6⟩
            case measure => simp [intOf]; omega
          | true =>
            have hne : ds0[k].tidy.kids ≠ [] := (solid_at.1 HFN.out.2).l.resolve_left (by
              have h := kt
              rw [beq_iff_eq] at h
              have h2 := k4
              rw [beq_iff_eq] at h2
              omega)
            obtain ⟨b6, o6, rfl⟩ : ∃ b6 o6, A2 = some ⟨b6, o6, none⟩ := by
              cases hk : ds0[k].tidy.kids with
              | nil => exact absurd hk hne
              | cons q r =>
                have h : KidsIn (Off W.heap.size (.slice A3 l.length c3) W5) W5 ds0[k].tidy.kids A2 := HT5.out.in_
                rw [hk] at h
                obtain ⟨b6, o6, e, _⟩ := h
                exact ⟨b6, o6, e⟩
            obtain ⟨lv, hlv, hlo, hlc⟩ := kidsIn_dvs HT5.out.in_
            have hlv : lv.map DV.d = ds0[k].tidy.kids := hlv
            have hlen : lv.length = ds0[k].tidy.kids.length := by rw [← hlv, List.length_map]
            have HLV := Lib.hid hlv
            have HLEN := Lib.hid hlen
            have HLC := Lib.hid hlc
            have HLO := Lib.hid hlo
            clear hlv hlen hlo hlc hne
            go_wp2_with (at_builtin; refine wpList_appk rfl _ _ 22 rfl Tryd.underlying22 info24 W.heap.size (.slice A3 l.length c3) l rfl HR5.out b6 o6 _ c2 lv rfl HLEN.out.symm HLC.out HLO.out (by have := HMANY.out; omega) HB5.out.size ?_; intro A6 c6 w6 hR6 hg6 hn6)
            go_roundw
            case rel => exact ⟨k + 1, l ++ lv, by omega, by go_num, by rw [HFT.out, List.map_append, HL.out, HLV.out, taken_yes (by simp [joinsK, k3, k4]) kt], hR6, kidsOff_grown HK5.out hg6 hn6, HR5.out.below_grown HB5.out HB5.out.size hg6⟩
            case measure => simp [intOf]; omega
        | false =>
          cases k5 : (d.kind == 5) with
          | true =>
            cases kt : (ds0[k].tidy.kind == d.kind) with
            | false =>
              go_wp2_with (at_builtin; refine wpList_app1d rfl _ _ 22 rfl Tryd.underlying22 info24 W5 ⟨ds0[k].tidy, A2, c2⟩ rfl _ rfl W.heap.size (.slice A3 l.length c3) l rfl HR5.out HT5.out rfl (by omega) (by have := HB5.out.size; omega) ?_; intro A6 c6 w6 hR6 hg6 hn6)
              go_roundw
              case rel => exact ⟨k + 1, l ++ [⟨ds0[k].tidy, A2, c2⟩], by omega, by go_num, by rw [HFT.out, List.map_append, HL.out, taken_no (.inr kt)]; rfl, hR6, kidsOff_grown HK5.out hg6 hn6, HR5.out.below_grown HB5.out HB5.out.size hg6⟩
              case measure => simp [intOf]; omega
            | true =>
              have hne : ds0[k].tidy.kids ≠ [] := (solid_at.1 HFN.out.2).l.resolve_left (by
                have h := kt
                rw [beq_iff_eq] at h
                have h2 := k5
                rw [beq_iff_eq] at h2
                omega)
              obtain ⟨b6, o6, rfl⟩ : ∃ b6 o6, A2 = some ⟨b6, o6, none⟩ := by
                cases hk : ds0[k].tidy.kids with
                | nil => exact absurd hk hne
                | cons q r =>
                  have h : KidsIn (Off W.heap.size (.slice A3 l.length c3) W5) W5 ds0[k].tidy.kids A2 := HT5.out.in_
                  rw [hk] at h
                  obtain ⟨b6, o6, e, _⟩ := h
                  exact ⟨b6, o6, e⟩
              obtain ⟨lv, hlv, hlo, hlc⟩ := kidsIn_dvs HT5.out.in_
              have hlv : lv.map DV.d = ds0[k].tidy.kids := hlv
              have hlen : lv.length = ds0[k].tidy.kids.length := by rw [← hlv, List.length_map]
              have HLV := Lib.hid hlv
              have HLEN := Lib.hid hlen
              have HLC := Lib.hid hlc
              have HLO := Lib.hid hlo
              clear hlv hlen hlo hlc hne
              go_wp2_with (at_builtin; refine wpList_appk rfl _ _ 22 rfl Tryd.underlying22 info24 W.heap.size (.slice A3 l.length c3) l rfl HR5.out b6 o6 _ c2 lv rfl HLEN.out.symm HLC.out HLO.out (by have := HMANY.out; omega) HB5.out.size ?_; intro A6 c6 w6 hR6 hg6 hn6)
              go_roundw
              case rel => exact ⟨k + 1, l ++ lv, by omega, by go_num, by rw [HFT.out, List.map_append, HL.out, HLV.out, taken_yes (by simp [joinsK, k3, k4, k5]) kt], hR6, kidsOff_grown HK5.out hg6 hn6, HR5.out.below_grown HB5.out HB5.out.size hg6⟩
              case measure => simp [intOf]; omega
          | false =>
            cases k6 : (d.kind == 6) with
            | true =>
              cases kt : (ds0[k].tidy.kind == d.kind) with
              | false =>
                go_wp2_with (at_builtin; refine wpList_app1d rfl _ _ 22 rfl Tryd.underlying22 info24 W5 ⟨ds0[k].tidy, A2, c2⟩ rfl _ rfl W.heap.size (.slice A3 l.length c3) l rfl HR5.out HT5.out rfl (by omega) (by have := HB5.out.size; omega) ?_; intro A6 c6 w6 hR6 hg6 hn6)
                go_roundw
                case rel => exact ⟨k + 1, l ++ [⟨ds0[k].tidy, A2, c2⟩], by omega, by go_num, by rw [HFT.out, List.map_append, HL.out, taken_no (.inr kt)]; rfl, hR6, kidsOff_grown HK5.out hg6 hn6, HR5.out.below_grown HB5.out HB5.out.size hg6⟩
                case measure => simp [intOf]; omega
              | true =>
                have hne : ds0[k].tidy.kids ≠ [] := (solid_at.1 HFN.out.2).l.resolve_left (by
                  have h := kt
                  rw [beq_iff_eq] at h
                  have h2 := k6
                  rw [beq_iff_eq] at h2
                  omega)
                obtain ⟨b6, o6, rfl⟩ : ∃ b6 o6, A2 = some ⟨b6, o6, none⟩ := by
                  cases hk : ds0[k].tidy.kids with
                  | nil => exact absurd hk hne
                  | cons q r =>
                    have h : KidsIn (Off W.heap.size (.slice A3 l.length c3) W5) W5 ds0[k].tidy.kids A2 := HT5.out.in_
                    rw [hk] at h
                    obtain ⟨b6, o6, e, _⟩ := h
                    exact ⟨b6, o6, e⟩
                obtain ⟨lv, hlv, hlo, hlc⟩ := kidsIn_dvs HT5.out.in_
                have hlv : lv.map DV.d = ds0[k].tidy.kids := hlv
                have hlen : lv.length = ds0[k].tidy.kids.length := by rw [← hlv, List.length_map]
                have HLV := Lib.hid hlv
                have HLEN := Lib.hid hlen
                have HLC := Lib.hid hlc
                have HLO := Lib.hid hlo
                clear hlv hlen hlo hlc hne
                go_wp2_with (at_builtin; refine wpList_appk rfl _ _ 22 rfl Tryd.underlying22 info24 W.heap.size (.slice A3 l.length c3) l rfl HR5.out b6 o6 _ c2 lv rfl HLEN.out.symm HLC.out HLO.out (by have := HMANY.out; omega) HB5.out.size ?_; intro A6 c6 w6 hR6 hg6 hn6)
                go_roundw
                case rel => exact ⟨k + 1, l ++ lv, by omega, by go_num, by rw [HFT.out, List.map_append, HL.out, HLV.out, taken_yes (by simp [joinsK, k3, k4, k5, k6]) kt], hR6, kidsOff_grown HK5.out hg6 hn6, HR5.out.below_grown HB5.out HB5.out.size hg6⟩
                case measure => simp [intOf]; omega
            | false =>
              go_wp2_with (at_builtin; refine wpList_app1d rfl _ _ 22 rfl Tryd.underlying22 info24 W5 ⟨ds0[k].tidy, A2, c2⟩ rfl _ rfl W.heap.size (.slice A3 l.length c3) l rfl HR5.out HT5.out rfl (by omega) (by have := HB5.out.size; omega) ?_; intro A6 c6 w6 hR6 hg6 hn6)
              go_roundw
              case rel => exact ⟨k + 1, l ++ [⟨ds0[k].tidy, A2, c2⟩], by omega, by go_num, by rw [HFT.out, List.map_append, HL.out, taken_no (.inl (by simp [joinsK, k3, k4, k5, k6]))]; rfl, hR6, kidsOff_grown HK5.out hg6 hn6, HR5.out.below_grown HB5.out HB5.out.size hg6⟩
              case measure => simp [intOf]; omega
    · obtain rfl : k = ds0.length := by omega
      obtain ⟨A3, c3, rfl⟩ := own_form HR.out.own
      go_wp2
      go_ret
      exact ⟨A3, c3, l, rfl, ⟨own_mono HR.out.own (by have := HB0.out.size; omega), fun t ht => (HR.out.ins t ht).later (fun b hb => ⟨by have := HB0.out.size; have := hb.1; omega, hb.2⟩) fun _ _ _ => rfl⟩, by rw [HL.out, List.take_length, HSP2.out], HB0.out.trans (HB.out.mono (by have := HB0.out.size; omega))⟩
end Go.Proofs.YtnpaplfdmpjfgaaDoor
