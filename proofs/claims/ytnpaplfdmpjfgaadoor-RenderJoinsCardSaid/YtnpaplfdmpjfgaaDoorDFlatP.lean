/- Flat of the program. -/
import Derived.Test.YtnpaplfdmpjfgaaDoorDSpread
import Derived.Test.YtnpaplfdmpjfgaaDoorDFlatR
import Derived.Test.YtnpaplfdmpjfgaaDoorShelf
namespace Go.Proofs.YtnpaplfdmpjfgaaDoor
open Go.RowKit

theorem texts_none {ds : List Doc} {k : Nat} (h : k < ds.length) (hf : ds[k].flat = none) : textsOf ds = none := by
  induction ds generalizing k with
  | nil => simp at h
  | cons a r ih =>
    cases k with
    | zero =>
      simp only [List.getElem_cons_zero] at hf
      simp [textsOf, hf]
    | succ k =>
      simp only [List.getElem_cons_succ] at hf
      have := ih (by simpa using h) hf
      simp only [textsOf, this]
      cases a.flat <;> rfl
theorem texts_add {ds : List Doc} {k : Nat} {ts : List ByteArray} {t : ByteArray} (h : k < ds.length) (hts : textsOf (ds.take k) = some ts) (hf : ds[k].flat = some t) : textsOf (ds.take (k + 1)) = some (ts ++ [t]) := by
  rw [List.take_succ_eq_append_getElem h]
  have : ∀ (a : List Doc) (ts : List ByteArray), textsOf a = some ts → textsOf (a ++ [ds[k]]) = some (ts ++ [t]) := by
    intro a
    induction a with
    | nil => intro ts h; simp [textsOf] at h; subst h; simp [textsOf, hf]
    | cons x r ih =>
      intro ts h
      simp only [textsOf] at h
      cases hx : x.flat with
      | none => rw [hx] at h; simp at h
      | some u =>
        cases hr : textsOf r with
        | none => rw [hx, hr] at h; simp at h
        | some us =>
          rw [hx, hr] at h
          simp only [Option.some.injEq] at h
          subst h
          simp only [List.cons_append, textsOf, hx, ih us hr]
  exact this _ _ hts
theorem texts_len {ds : List Doc} : ∀ {ts : List ByteArray}, textsOf ds = some ts → ts.length = ds.length := by
  induction ds with
  | nil => intro ts h; simp [textsOf] at h; subst h; rfl
  | cons x r ih =>
    intro ts h
    simp only [textsOf] at h
    cases hx : x.flat with
    | none => rw [hx] at h; simp at h
    | some u =>
      cases hr : textsOf r with
      | none => rw [hx, hr] at h; simp at h
      | some us =>
        rw [hx, hr] at h
        simp only [Option.some.injEq] at h
        subst h
        simp [ih hr]

set_option maxRecDepth 100000 in
set_option maxHeartbeats 8000000 in
theorem flat_any (m : Nat) : ∀ (d : Doc) (A : Option Addr) (c : Nat) (w : World), d.wt ≤ m → d.wt ≤ 16777216 → KidsAt w.heap.size w d.kids A →
    Calls Tryd.prog 19 #[.agg #[.int .i64 d.kind, .string d.text, .int .i64 d.n, .slice A d.kids.length c]] w (FlatSaid d w) := by
  induction m with
  | zero => intro d A c w h; have := wt_pos d; omega
  | succ m ih =>
  intro d A c w hm hB hK
  have hwk : wts d.kids ≤ 16777216 := by rw [wt_eq] at hB; omega
  obtain ⟨hbx, hb0, hs0⟩ := box_new w (.int .i64 d.kind) (.string d.text) (.int .i64 d.n) (.slice A d.kids.length c)
  have hK0 := kidsAt_on hK hb0
  obtain ⟨W, hW⟩ : ∃ W, w.alloc (.cells #[.int .i64 d.kind, .string d.text, .int .i64 d.n, .slice A d.kids.length c] 24) = W := ⟨_, rfl⟩
  rw [hW] at hbx hb0 hs0 hK0
  have HV := Lib.hid (flat_eq d)
  cases k1 : (d.kind == 1) with
  | true =>
    have hv := Lib.hid (show d.flat = some d.text by rw [HV.out, k1]; rfl)
    obtain ⟨x0, x1, x2, x3, _, _, _, _⟩ := hbx
    clear hK hK0 ih
    go_enter Tryd.func19, Tryd.ntmps19
    go_wp2
    go_ret2
    exact ⟨by rw [hv.out]; rfl, hb0⟩
  | false =>
  have hv := Lib.hid (show d.flat = flats d.kind true ⟨#[]⟩ d.kids by rw [HV.out, k1]; rfl)
  have hO := World.ownsRow_lit (base := W.heap.size) (e := 9) (size := 1) W #[] 0 (Nat.le_refl _) (by decide) rfl
  have hb1 := (Below.refl W.heap.size W).alloc (Nat.le_refl _) (.cells #[] 9)
  obtain ⟨W1, hW1⟩ : ∃ W1, W.alloc (.cells #[] 9) = W1 := ⟨_, rfl⟩
  have hs1 : W1.heap.size = W.heap.size + 1 := by rw [← hW1]; simp
  rw [hW1] at hO hb1
  have hcall := kept_below W.heap.size d.kids A c W1 (by omega) hwk (kidsAt_below hK0 hb1)
  have HC := Lib.hid hcall
  have HO := Lib.hid hO
  have HB1 := Lib.hid hb1
  have HB0 := Lib.hid hb0
  have HX := Lib.hid hbx
  have HX1 := Lib.hid (hbx.below hb1 (by omega))
  have HS0 := Lib.hid hs0
  have HS1 := Lib.hid hs1
  have HIH := Lib.hid ih
  obtain ⟨z0, z1, z2, z3, _, _, _, _⟩ := id hbx
  obtain ⟨x0, x1, x2, x3, _, _, _, _⟩ := HX1.out
  clear hK hK0 hcall hO hb1 hb0 hs0 hs1 ih HV hbx
  go_enter Tryd.func19, Tryd.ntmps19
  go_wp2_with fail
  have hc := HC.out
  clear x0 x1 x2 x3 z0 z1 z2 z3 HC
  refine hc.mono ?_
  rintro e w1 ⟨v, l0, rfl, hD, hl0, hb2, hok0⟩
  have hs1 := HS1.out
  have hs2 := hb2.size
  obtain ⟨A1, c1, rfl, hc1, hnil1, hK1⟩ := own_kidsIn (S := Off 0 (.slice (some ⟨W.heap.size, 0, none⟩) 0 0) w1) hD.1 (fun t ht => (hok0 t ht).in_.later (fun b hb => ⟨Nat.zero_le _, by omega, fun e => by simp only [Value.ownBlock, Option.some.injEq] at e; omega⟩) fun _ _ _ => rfl)
    (fun g hg => ⟨Nat.zero_le _, (hD.1.lt g hg).2, fun e => by have := (hD.1.lt g hg).1; simp only [Value.ownBlock, Option.some.injEq] at e; omega⟩)
  have hR1 : w1.ownsRow W.heap.size 9 1 (.slice (some ⟨W.heap.size, 0, none⟩) 0 0) 0 [] := own_below HO.out hb2
  have hB1 := HB1.out.trans (hb2.mono (by omega))
  rw [hl0] at hK1
  have hlen : l0.length = (d.kids.filter Doc.there).length := by rw [← hl0, List.length_map]
  rw [hlen]
  obtain ⟨ds0, hds⟩ : ∃ ds0, d.kids.filter Doc.there = ds0 := ⟨_, rfl⟩
  have hwd : wts ds0 ≤ 16777216 := by rw [← hds]; have := wts_filter Doc.there d.kids; omega
  have HMEM := Lib.hid (show ∀ x ∈ ds0, x ∈ d.kids from fun x hx => by
    rw [← hds] at hx
    exact (List.mem_filter.1 hx).1)
  have HDS := Lib.hid hds
  rw [hds] at hK1
  rw [hds]
  have hdl := len_le_wts ds0
  have HK1 := Lib.hid hK1
  have HR1 := Lib.hid hR1
  have HB1' := Lib.hid hB1
  have HS2 := Lib.hid (show W.heap.size < w1.heap.size by omega)
  clear hc hD hl0 hb2 hok0 hs1 hs2 hc1 hnil1 hK1 hR1 hB1 hlen hds
  go_wp2_with fail
  go_loopw [4, 19] (fun out i wr => ∃ (k : Nat) (ts : List ByteArray), k ≤ ds0.length ∧ i = .int .i64 k ∧ textsOf (ds0.take k) = some ts ∧ wr.ownsRow W.heap.size 9 1 out ts.length (ts.map .string) ∧ KidsIn (Off 0 out wr) wr ds0 A1 ∧ Below W.heap.size W wr) (fun _ i wr => ds0.length - (intOf i).toNat)
  case atStart => exact ⟨0, [], by omega, rfl, rfl, HR1.out, HK1.out, HB1'.out⟩
  case round =>
    obtain ⟨k, ts, hk, rfl, hts, hR, hKo, hB⟩ := hrel
    have HTS := Lib.hid hts
    have HR := Lib.hid hR
    have HKO := Lib.hid hKo
    have HB := Lib.hid hB
    have hll : ts.length ≤ 16777216 := by
      have := texts_len hts
      rw [List.length_take] at this
      omega
    clear hts hR hKo hB
    by_cases hlt : k < ds0.length
    · obtain ⟨b, o, rfl, hat⟩ := kidsIn_get HKO.out (kid_in hlt)
      obtain ⟨A', c', q1, h2, h3, h4, h5, q6, q7, q8⟩ := docIn_iff.1 hat
      have hdw := kid_lt (HMEM.out ds0[k] (List.getElem_mem hlt))
      obtain ⟨hbx, hb0, hs0⟩ := box_new wr (.int .i64 ds0[k].kind) (.string ds0[k].text) (.int .i64 ds0[k].n) (.slice A' ds0[k].kids.length c')
      obtain ⟨W3, hW3⟩ : ∃ W3, wr.alloc (.cells #[.int .i64 ds0[k].kind, .string ds0[k].text, .int .i64 ds0[k].n, .slice A' ds0[k].kids.length c'] 24) = W3 := ⟨_, rfl⟩
      rw [hW3] at hbx hb0 hs0
      have hcall := HIH.out ds0[k] A' c' W3 (by omega) (by omega) (kidsAt_on (q8.at_ fun b hb => hb.2.1) hb0)
      have HBX := Lib.hid hbx
      have HB3 := Lib.hid hb0
      have HS3 := Lib.hid hs0
      unfold FlatSaid at hcall
      obtain ⟨z0, z1, z2, z3, _, _, _, _⟩ := hbx
      obtain ⟨A3, c3, rfl⟩ := own_form HR.out
      clear q1 q6 q7 q8 hat hb0 hs0
      cases hf : ds0[k].flat with
      | none =>
        rw [hf] at hcall
        have HC := Lib.hid hcall
        have HF := Lib.hid (show d.flat = none by rw [hv.out, flats_head, HDS.out, texts_none hlt hf])
        clear hcall hf
        go_wp2_with fail
        refine HC.out.mono ?_
        rintro e w4 ⟨rfl, hb4⟩
        simp only [flatV]
        go_wp2
        go_ret2
        exact ⟨by rw [HF.out]; rfl, HB0.out.trans ((HB.out.trans ((HB3.out.trans (hb4.mono (by have := HS3.out; omega))).mono HB.out.size)).mono (by have := HS0.out; omega))⟩
      | some t =>
        rw [hf] at hcall
        have HC := Lib.hid hcall
        have HF := Lib.hid (texts_add hlt HTS.out hf)
        clear hcall hf
        go_wp2_with fail
        refine HC.out.mono ?_
        rintro e w4 ⟨rfl, hb4⟩
        simp only [flatV]
        have hb5 := HB3.out.trans (hb4.mono (by have := HS3.out; omega))
        have HK5 := Lib.hid (kidsOff_below HKO.out hb5)
        have HR5 := Lib.hid (own_below HR.out hb5)
        have HB5 := Lib.hid (HB.out.trans (hb5.mono HB.out.size))
        clear h2 h3 h4 h5 z0 z1 z2 z3 hW3 hb4 hb5 HBX HB3 HS3 HC HR HKO HB
        go_wp2_with (at_builtin; refine wpList_app1 rfl _ _ 56 rfl 9 _ 1 16 Tryd.underlying56 info9 rfl (by decide) w4 [.string t] rfl _ rfl W.heap.size (.slice A3 ts.length c3) _ _ rfl HR5.out rfl rfl (by simp [Value.oneCell']) (by unfold maxLen; omega) (by omega) (by have := HB5.out.size; omega) ?_; intro g6 c6 w6 hown6 hb6 hg6 hn6)
        go_roundw
        case rel =>
          have hnx : Next (.slice A3 ts.length c3) w4 (.slice (some ⟨g6, 0, none⟩) (ts.length + 1) c6) := by
            by_cases hk : some g6 = (Value.slice A3 ts.length c3).ownBlock
            · exact .inl hk
            · exact .inr ⟨g6, rfl, Nat.le_of_not_lt fun hlt => hn6 g6 hk hlt rfl⟩
          exact ⟨k + 1, ts ++ [t], by omega, by go_num, HF.out, by rw [List.length_append, List.map_append]; exact hown6, kidsOff_grown HK5.out hg6 hnx, HB5.out.trans hb6⟩
        case measure => simp [intOf]; omega
    · obtain rfl : k = ds0.length := by omega
      obtain ⟨A3, c3, rfl⟩ := own_form HR.out
      obtain ⟨x0, x1, x2, x3, _, _, _, _⟩ := HX.out.below HB.out (by have := HS0.out; omega)
      have HTS := Lib.hid (show textsOf ds0 = some ts by rw [← HTS.out, List.take_length])
      have HBE := Lib.hid (HB0.out.trans (HB.out.mono (by have := HS0.out; omega)))
      clear HK1 HKO
      cases k5 : (d.kind == 5) with
      | true =>
        by_cases hmany : 1 < ts.length
        · have HFL := Lib.hid (show d.flat = none by rw [hv.out, flats_head, HDS.out, HTS.out]; simp [below56, k5, hmany])
          go_wp2
          go_ret2
          exact ⟨by rw [HFL.out]; rfl, HBE.out⟩
        · have HFL := Lib.hid (show d.flat = some (joinB ts ⟨#[]⟩) by rw [hv.out, flats_head, HDS.out, HTS.out]; have : sepB d.kind = ⟨#[]⟩ := (by have := k5; rw [beq_iff_eq] at this; rw [this]; rfl); simp [hmany, this])
          have hlj := flat_size HFL.out
          have HLJ := Lib.hid (show (Lib.join (ts.map (·.data.toList)) (ByteArray.data ⟨#[]⟩).toList).length ≤ 140737488355328 by
            have : (joinB ts ⟨#[]⟩).size = (Lib.join (ts.map (·.data.toList)) (ByteArray.data ⟨#[]⟩).toList).length := by simp [joinB, lists, ByteArray.size]
            omega)
          clear hlj
          by_cases h0 : ts.length = 0
          · have hts : ts = [] := List.eq_nil_of_length_eq_zero h0
            subst hts
            simp only [List.length_nil]
            go_wp2_with (go_at_call 50; refine (Tryd.strings_Join_none A3 c3 ⟨#[]⟩ _).mono ?_; rintro e w7 ⟨rfl, rfl⟩)
            go_ret2
            exact ⟨by rw [HFL.out]; rfl, HBE.out⟩
          · obtain ⟨g1, cap1, hv⟩ : ∃ g cap, Value.slice A3 ts.length c3 = .slice (some ⟨g, 0, none⟩) ts.length cap := by
              rcases HR.out.2 with ⟨_, hn⟩ | ⟨g, cap, cur, hv, _⟩
              · exact absurd hn h0
              · exact ⟨g, cap, hv⟩
            simp only [Value.slice.injEq, true_and] at hv
            obtain ⟨rfl, rfl⟩ := hv
            have HCC := Lib.hid (show ∀ (j : Nat) x, ts[j]? = some x → wr.cell? ⟨g1, 0 + j, none⟩ = some (.string x) by
              intro j x hj
              have hjl : j < ts.length := (List.getElem?_eq_some_iff.1 hj).1
              rw [Nat.zero_add, HR.out.cellAt j (by omega), List.getElem?_map, hj]
              rfl)
            have hlt1 := (HR.out.lt g1 rfl).2
            have hcap1 : ts.length ≤ c3 := by
              rcases HR.out.2 with ⟨hv, _⟩ | ⟨g, cap, cur, hv, _, _, h, _⟩
              · simp at hv
              · simp only [Value.slice.injEq, true_and] at hv
                rw [hv.2]
                exact h
            have HJ := Lib.hid (Tryd.strings_Join g1 0 c3 ts ⟨#[]⟩ wr HCC.out hlt1 (by omega) hcap1 HLJ.out)
            clear hcap1
            go_wp2_with (go_at_call 50; refine HJ.out.mono ?_; rintro e w7 ⟨rfl, hb7⟩)
            go_ret2
            exact ⟨by rw [HFL.out]; rfl, HBE.out.trans (hb7.mono (by have := HBE.out.size; omega))⟩
      | false =>
        cases k6 : (d.kind == 6) with
        | true =>
          by_cases hmany : 1 < ts.length
          · have HFL := Lib.hid (show d.flat = none by rw [hv.out, flats_head, HDS.out, HTS.out]; simp [below56, k6, hmany])
            go_wp2
            go_ret2
            exact ⟨by rw [HFL.out]; rfl, HBE.out⟩
          · have HFL := Lib.hid (show d.flat = some (joinB ts ⟨#[]⟩) by rw [hv.out, flats_head, HDS.out, HTS.out]; have : sepB d.kind = ⟨#[]⟩ := (by have := k6; rw [beq_iff_eq] at this; rw [this]; rfl); simp [hmany, this])
            have hlj := flat_size HFL.out
            have HLJ := Lib.hid (show (Lib.join (ts.map (·.data.toList)) (ByteArray.data ⟨#[]⟩).toList).length ≤ 140737488355328 by
              have : (joinB ts ⟨#[]⟩).size = (Lib.join (ts.map (·.data.toList)) (ByteArray.data ⟨#[]⟩).toList).length := by simp [joinB, lists, ByteArray.size]
              omega)
            clear hlj
            by_cases h0 : ts.length = 0
            · have hts : ts = [] := List.eq_nil_of_length_eq_zero h0
              subst hts
              simp only [List.length_nil]
              go_wp2_with (go_at_call 50; refine (Tryd.strings_Join_none A3 c3 ⟨#[]⟩ _).mono ?_; rintro e w7 ⟨rfl, rfl⟩)
              go_ret2
              exact ⟨by rw [HFL.out]; rfl, HBE.out⟩
            · obtain ⟨g1, cap1, hv⟩ : ∃ g cap, Value.slice A3 ts.length c3 = .slice (some ⟨g, 0, none⟩) ts.length cap := by
                rcases HR.out.2 with ⟨_, hn⟩ | ⟨g, cap, cur, hv, _⟩
                · exact absurd hn h0
                · exact ⟨g, cap, hv⟩
              simp only [Value.slice.injEq, true_and] at hv
              obtain ⟨rfl, rfl⟩ := hv
              have HCC := Lib.hid (show ∀ (j : Nat) x, ts[j]? = some x → wr.cell? ⟨g1, 0 + j, none⟩ = some (.string x) by
                intro j x hj
                have hjl : j < ts.length := (List.getElem?_eq_some_iff.1 hj).1
                rw [Nat.zero_add, HR.out.cellAt j (by omega), List.getElem?_map, hj]
                rfl)
              have hlt1 := (HR.out.lt g1 rfl).2
              have hcap1 : ts.length ≤ c3 := by
                rcases HR.out.2 with ⟨hv, _⟩ | ⟨g, cap, cur, hv, _, _, h, _⟩
                · simp at hv
                · simp only [Value.slice.injEq, true_and] at hv
                  rw [hv.2]
                  exact h
              have HJ := Lib.hid (Tryd.strings_Join g1 0 c3 ts ⟨#[]⟩ wr HCC.out hlt1 (by omega) hcap1 HLJ.out)
              clear hcap1
              go_wp2_with (go_at_call 50; refine HJ.out.mono ?_; rintro e w7 ⟨rfl, hb7⟩)
              go_ret2
              exact ⟨by rw [HFL.out]; rfl, HBE.out.trans (hb7.mono (by have := HBE.out.size; omega))⟩
        | false =>
          cases k4 : (d.kind == 4) with
          | true =>
            have HFL := Lib.hid (show d.flat = some (joinB ts ⟨#[32]⟩) by rw [hv.out, flats_head, HDS.out, HTS.out]; have : sepB d.kind = ⟨#[32]⟩ := (by simp [sepB, spaced, k4]); simp [below56, k5, k6, this])
            have hlj := flat_size HFL.out
            have HLJ := Lib.hid (show (Lib.join (ts.map (·.data.toList)) (ByteArray.data ⟨#[32]⟩).toList).length ≤ 140737488355328 by
              have : (joinB ts ⟨#[32]⟩).size = (Lib.join (ts.map (·.data.toList)) (ByteArray.data ⟨#[32]⟩).toList).length := by simp [joinB, lists, ByteArray.size]
              omega)
            clear hlj
            by_cases h0 : ts.length = 0
            · have hts : ts = [] := List.eq_nil_of_length_eq_zero h0
              subst hts
              simp only [List.length_nil]
              go_wp2_with (go_at_call 50; refine (Tryd.strings_Join_none A3 c3 ⟨#[32]⟩ _).mono ?_; rintro e w7 ⟨rfl, rfl⟩)
              go_ret2
              exact ⟨by rw [HFL.out]; rfl, HBE.out⟩
            · obtain ⟨g1, cap1, hv⟩ : ∃ g cap, Value.slice A3 ts.length c3 = .slice (some ⟨g, 0, none⟩) ts.length cap := by
                rcases HR.out.2 with ⟨_, hn⟩ | ⟨g, cap, cur, hv, _⟩
                · exact absurd hn h0
                · exact ⟨g, cap, hv⟩
              simp only [Value.slice.injEq, true_and] at hv
              obtain ⟨rfl, rfl⟩ := hv
              have HCC := Lib.hid (show ∀ (j : Nat) x, ts[j]? = some x → wr.cell? ⟨g1, 0 + j, none⟩ = some (.string x) by
                intro j x hj
                have hjl : j < ts.length := (List.getElem?_eq_some_iff.1 hj).1
                rw [Nat.zero_add, HR.out.cellAt j (by omega), List.getElem?_map, hj]
                rfl)
              have hlt1 := (HR.out.lt g1 rfl).2
              have hcap1 : ts.length ≤ c3 := by
                rcases HR.out.2 with ⟨hv, _⟩ | ⟨g, cap, cur, hv, _, _, h, _⟩
                · simp at hv
                · simp only [Value.slice.injEq, true_and] at hv
                  rw [hv.2]
                  exact h
              have HJ := Lib.hid (Tryd.strings_Join g1 0 c3 ts ⟨#[32]⟩ wr HCC.out hlt1 (by omega) hcap1 HLJ.out)
              clear hcap1
              go_wp2_with (go_at_call 50; refine HJ.out.mono ?_; rintro e w7 ⟨rfl, hb7⟩)
              go_ret2
              exact ⟨by rw [HFL.out]; rfl, HBE.out.trans (hb7.mono (by have := HBE.out.size; omega))⟩
          | false =>
            cases k7 : (d.kind == 7) with
            | true =>
              have HFL := Lib.hid (show d.flat = some (joinB ts ⟨#[32]⟩) by rw [hv.out, flats_head, HDS.out, HTS.out]; have : sepB d.kind = ⟨#[32]⟩ := (by simp [sepB, spaced, k7]); simp [below56, k5, k6, this])
              have hlj := flat_size HFL.out
              have HLJ := Lib.hid (show (Lib.join (ts.map (·.data.toList)) (ByteArray.data ⟨#[32]⟩).toList).length ≤ 140737488355328 by
                have : (joinB ts ⟨#[32]⟩).size = (Lib.join (ts.map (·.data.toList)) (ByteArray.data ⟨#[32]⟩).toList).length := by simp [joinB, lists, ByteArray.size]
                omega)
              clear hlj
              by_cases h0 : ts.length = 0
              · have hts : ts = [] := List.eq_nil_of_length_eq_zero h0
                subst hts
                simp only [List.length_nil]
                go_wp2_with (go_at_call 50; refine (Tryd.strings_Join_none A3 c3 ⟨#[32]⟩ _).mono ?_; rintro e w7 ⟨rfl, rfl⟩)
                go_ret2
                exact ⟨by rw [HFL.out]; rfl, HBE.out⟩
              · obtain ⟨g1, cap1, hv⟩ : ∃ g cap, Value.slice A3 ts.length c3 = .slice (some ⟨g, 0, none⟩) ts.length cap := by
                  rcases HR.out.2 with ⟨_, hn⟩ | ⟨g, cap, cur, hv, _⟩
                  · exact absurd hn h0
                  · exact ⟨g, cap, hv⟩
                simp only [Value.slice.injEq, true_and] at hv
                obtain ⟨rfl, rfl⟩ := hv
                have HCC := Lib.hid (show ∀ (j : Nat) x, ts[j]? = some x → wr.cell? ⟨g1, 0 + j, none⟩ = some (.string x) by
                  intro j x hj
                  have hjl : j < ts.length := (List.getElem?_eq_some_iff.1 hj).1
                  rw [Nat.zero_add, HR.out.cellAt j (by omega), List.getElem?_map, hj]
                  rfl)
                have hlt1 := (HR.out.lt g1 rfl).2
                have hcap1 : ts.length ≤ c3 := by
                  rcases HR.out.2 with ⟨hv, _⟩ | ⟨g, cap, cur, hv, _, _, h, _⟩
                  · simp at hv
                  · simp only [Value.slice.injEq, true_and] at hv
                    rw [hv.2]
                    exact h
                have HJ := Lib.hid (Tryd.strings_Join g1 0 c3 ts ⟨#[32]⟩ wr HCC.out hlt1 (by omega) hcap1 HLJ.out)
                clear hcap1
                go_wp2_with (go_at_call 50; refine HJ.out.mono ?_; rintro e w7 ⟨rfl, hb7⟩)
                go_ret2
                exact ⟨by rw [HFL.out]; rfl, HBE.out.trans (hb7.mono (by have := HBE.out.size; omega))⟩
            | false =>
              cases k9 : (d.kind == 9) with
              | true =>
                have HFL := Lib.hid (show d.flat = some (joinB ts ⟨#[32]⟩) by rw [hv.out, flats_head, HDS.out, HTS.out]; have : sepB d.kind = ⟨#[32]⟩ := (by simp [sepB, spaced, k9]); simp [below56, k5, k6, this])
                have hlj := flat_size HFL.out
                have HLJ := Lib.hid (show (Lib.join (ts.map (·.data.toList)) (ByteArray.data ⟨#[32]⟩).toList).length ≤ 140737488355328 by
                  have : (joinB ts ⟨#[32]⟩).size = (Lib.join (ts.map (·.data.toList)) (ByteArray.data ⟨#[32]⟩).toList).length := by simp [joinB, lists, ByteArray.size]
                  omega)
                clear hlj
                by_cases h0 : ts.length = 0
                · have hts : ts = [] := List.eq_nil_of_length_eq_zero h0
                  subst hts
                  simp only [List.length_nil]
                  go_wp2_with (go_at_call 50; refine (Tryd.strings_Join_none A3 c3 ⟨#[32]⟩ _).mono ?_; rintro e w7 ⟨rfl, rfl⟩)
                  go_ret2
                  exact ⟨by rw [HFL.out]; rfl, HBE.out⟩
                · obtain ⟨g1, cap1, hv⟩ : ∃ g cap, Value.slice A3 ts.length c3 = .slice (some ⟨g, 0, none⟩) ts.length cap := by
                    rcases HR.out.2 with ⟨_, hn⟩ | ⟨g, cap, cur, hv, _⟩
                    · exact absurd hn h0
                    · exact ⟨g, cap, hv⟩
                  simp only [Value.slice.injEq, true_and] at hv
                  obtain ⟨rfl, rfl⟩ := hv
                  have HCC := Lib.hid (show ∀ (j : Nat) x, ts[j]? = some x → wr.cell? ⟨g1, 0 + j, none⟩ = some (.string x) by
                    intro j x hj
                    have hjl : j < ts.length := (List.getElem?_eq_some_iff.1 hj).1
                    rw [Nat.zero_add, HR.out.cellAt j (by omega), List.getElem?_map, hj]
                    rfl)
                  have hlt1 := (HR.out.lt g1 rfl).2
                  have hcap1 : ts.length ≤ c3 := by
                    rcases HR.out.2 with ⟨hv, _⟩ | ⟨g, cap, cur, hv, _, _, h, _⟩
                    · simp at hv
                    · simp only [Value.slice.injEq, true_and] at hv
                      rw [hv.2]
                      exact h
                  have HJ := Lib.hid (Tryd.strings_Join g1 0 c3 ts ⟨#[32]⟩ wr HCC.out hlt1 (by omega) hcap1 HLJ.out)
                  clear hcap1
                  go_wp2_with (go_at_call 50; refine HJ.out.mono ?_; rintro e w7 ⟨rfl, hb7⟩)
                  go_ret2
                  exact ⟨by rw [HFL.out]; rfl, HBE.out.trans (hb7.mono (by have := HBE.out.size; omega))⟩
              | false =>
                have HFL := Lib.hid (show d.flat = some (joinB ts ⟨#[]⟩) by rw [hv.out, flats_head, HDS.out, HTS.out]; have : sepB d.kind = ⟨#[]⟩ := (by simp [sepB, spaced, k4, k7, k9]); simp [below56, k5, k6, this])
                have hlj := flat_size HFL.out
                have HLJ := Lib.hid (show (Lib.join (ts.map (·.data.toList)) (ByteArray.data ⟨#[]⟩).toList).length ≤ 140737488355328 by
                  have : (joinB ts ⟨#[]⟩).size = (Lib.join (ts.map (·.data.toList)) (ByteArray.data ⟨#[]⟩).toList).length := by simp [joinB, lists, ByteArray.size]
                  omega)
                clear hlj
                by_cases h0 : ts.length = 0
                · have hts : ts = [] := List.eq_nil_of_length_eq_zero h0
                  subst hts
                  simp only [List.length_nil]
                  go_wp2_with (go_at_call 50; refine (Tryd.strings_Join_none A3 c3 ⟨#[]⟩ _).mono ?_; rintro e w7 ⟨rfl, rfl⟩)
                  go_ret2
                  exact ⟨by rw [HFL.out]; rfl, HBE.out⟩
                · obtain ⟨g1, cap1, hv⟩ : ∃ g cap, Value.slice A3 ts.length c3 = .slice (some ⟨g, 0, none⟩) ts.length cap := by
                    rcases HR.out.2 with ⟨_, hn⟩ | ⟨g, cap, cur, hv, _⟩
                    · exact absurd hn h0
                    · exact ⟨g, cap, hv⟩
                  simp only [Value.slice.injEq, true_and] at hv
                  obtain ⟨rfl, rfl⟩ := hv
                  have HCC := Lib.hid (show ∀ (j : Nat) x, ts[j]? = some x → wr.cell? ⟨g1, 0 + j, none⟩ = some (.string x) by
                    intro j x hj
                    have hjl : j < ts.length := (List.getElem?_eq_some_iff.1 hj).1
                    rw [Nat.zero_add, HR.out.cellAt j (by omega), List.getElem?_map, hj]
                    rfl)
                  have hlt1 := (HR.out.lt g1 rfl).2
                  have hcap1 : ts.length ≤ c3 := by
                    rcases HR.out.2 with ⟨hv, _⟩ | ⟨g, cap, cur, hv, _, _, h, _⟩
                    · simp at hv
                    · simp only [Value.slice.injEq, true_and] at hv
                      rw [hv.2]
                      exact h
                  have HJ := Lib.hid (Tryd.strings_Join g1 0 c3 ts ⟨#[]⟩ wr HCC.out hlt1 (by omega) hcap1 HLJ.out)
                  clear hcap1
                  go_wp2_with (go_at_call 50; refine HJ.out.mono ?_; rintro e w7 ⟨rfl, hb7⟩)
                  go_ret2
                  exact ⟨by rw [HFL.out]; rfl, HBE.out.trans (hb7.mono (by have := HBE.out.size; omega))⟩
end Go.Proofs.YtnpaplfdmpjfgaaDoor
