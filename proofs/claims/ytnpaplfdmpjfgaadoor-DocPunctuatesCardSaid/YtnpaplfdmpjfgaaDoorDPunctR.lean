/- Documents with a mark between: the reference's Punctuate; the law DocPunctuates. -/
import Derived.Test.YtnpaplfdmpjfgaaDoorDPunct
namespace Go.Proofs.YtnpaplfdmpjfgaaDoor
open Go.RowKit

set_option maxRecDepth 100000 in
set_option maxHeartbeats 8000000 in
theorem rpunct_any (m : Doc) (Am : Option Addr) (cm : Nat) (ds : List Doc) (A : Option Addr) (c : Nat) (w : World) (hlen : ds.length * 56 ≤ 140737488351232) (hcm : m.kids.length ≤ cm) (hnm : Am = none → cm = 0) (hKm : KidsAt w.heap.size w m.kids Am) (hK : KidsAt w.heap.size w ds A) :
    Calls Tryd.prog 31 #[.agg #[.int .i64 m.kind, .string m.text, .int .i64 m.n, .slice Am m.kids.length cm], .slice A ds.length c] w (PunctSaid m ds w) := by
  obtain ⟨hbx, hb0, hs0⟩ := box_new w (.int .i64 m.kind) (.string m.text) (.int .i64 m.n) (.slice Am m.kids.length cm)
  obtain ⟨W, hW⟩ : ∃ W, w.alloc (.cells #[.int .i64 m.kind, .string m.text, .int .i64 m.n, .slice Am m.kids.length cm] 24) = W := ⟨_, rfl⟩
  rw [hW] at hbx hb0 hs0
  have HB0 := Lib.hid hb0
  have HX := Lib.hid hbx
  have HS0 := Lib.hid hs0
  have HK := Lib.hid (kidsAt_on hK hb0)
  have HKM := Lib.hid (kidsAt_on hKm hb0)
  have HCM := Lib.hid hcm
  have HNM := Lib.hid hnm
  clear hb0 hbx hs0 hK hKm hcm hnm
  go_enter Tryd.func31, Tryd.ntmps31
  go_wp2
  clear hW
  go_loopw [5, 6] (fun v i wr => ∃ (k : Nat) (l : List DV), k ≤ ds.length ∧ i = .int .i64 k ∧ l.map DV.d = (List.range k).map (punctAt m ds) ∧ DRow 0 wr v l ∧ (∀ g, v.ownBlock = some g → W.heap.size ≤ g) ∧ Below W.heap.size W wr) (fun _ i wr => ds.length - (intOf i).toNat)
  case atStart => exact ⟨0, [], by omega, rfl, rfl, DRow.nil _ _, fun g e => (nomatch e), Below.refl _ _⟩
  case round =>
    obtain ⟨k, l, hk, rfl, hl, hR, hown, hB⟩ := hrel
    have HL := Lib.hid hl
    have HR := Lib.hid hR
    have HOW := Lib.hid hown
    have HB := Lib.hid hB
    have hln : l.length = k := by have := congrArg List.length hl; simpa using this
    have HLN := Lib.hid hln
    obtain ⟨A3, c3, rfl⟩ := own_form hR.own
    have hsr := hB.size
    clear hl hR hown hln
    by_cases hlt : k < ds.length
    · obtain ⟨b, o, rfl, hat⟩ := kidsAt_get (kidsAt_below HK.out HB.out) (kid_in hlt)
      obtain ⟨A', c', q1, h2, h3, h4, h5, q6, q7, q8⟩ := docAt_iff.1 hat
      have hdv : (⟨ds[k], A', c'⟩ : DV).Ok W.heap.size wr := ⟨q6, q7, q8⟩
      have HDV := Lib.hid hdv
      clear q1 q6 q7 q8 hat hdv
      have hnext : ∀ (w' : World) (v6 : Value), wr.heap.size ≤ w'.heap.size → Next (.slice A3 l.length c3) w' v6 → ∀ g, v6.ownBlock = some g → W.heap.size ≤ g := by
        intro w' v6 hs hn g hg
        rcases hn with h | ⟨g2, h, hge⟩
        · exact HOW.out g (by rw [← h]; exact hg)
        · rw [h] at hg; simp only [Option.some.injEq] at hg; omega
      have HNX := Lib.hid hnext
      clear hnext
      by_cases hmore : k + 1 < ds.length
      · have HPM := Lib.hid (punct_more (m := m) hmore)
        obtain ⟨v0, v1, v2, v3, _, _, _, _⟩ := HX.out.below HB.out (by have := HS0.out; omega)
        have hb5 := (Below.refl wr.heap.size wr).alloc (Nat.le_refl _) (.cells #[.int .i64 ds[k].kind, .string ds[k].text, .int .i64 ds[k].n, .slice A' ds[k].kids.length c', .int .i64 m.kind, .string m.text, .int .i64 m.n, .slice Am m.kids.length cm] 24)
        have ho := World.ownsRow_lit (base := wr.heap.size) (e := 24) (size := 4) wr (flatD [⟨ds[k], A', c'⟩, ⟨m, Am, cm⟩]).toArray 2 (Nat.le_refl _) (by decide) rfl
        have hkl : KidsIn (fun b => b < (wr.alloc (.cells #[.int .i64 ds[k].kind, .string ds[k].text, .int .i64 ds[k].n, .slice A' ds[k].kids.length c', .int .i64 m.kind, .string m.text, .int .i64 m.n, .slice Am m.kids.length cm] 24)).heap.size ∧ some b ≠ (Value.slice A3 l.length c3).ownBlock) (wr.alloc (.cells #[.int .i64 ds[k].kind, .string ds[k].text, .int .i64 ds[k].n, .slice A' ds[k].kids.length c', .int .i64 m.kind, .string m.text, .int .i64 m.n, .slice Am m.kids.length cm] 24)) [ds[k], m] (some ⟨wr.heap.size, 0, none⟩) := by
          obtain ⟨A9, c9, hv, _, _, hk9⟩ := own_kidsIn (l := [⟨ds[k], A', c'⟩, ⟨m, Am, cm⟩]) (S := fun b => b < (wr.alloc (.cells #[.int .i64 ds[k].kind, .string ds[k].text, .int .i64 ds[k].n, .slice A' ds[k].kids.length c', .int .i64 m.kind, .string m.text, .int .i64 m.n, .slice Am m.kids.length cm] 24)).heap.size ∧ some b ≠ (Value.slice A3 l.length c3).ownBlock) ho (fun t ht => by
            simp only [List.mem_cons, List.not_mem_nil, or_false] at ht
            have hh : ∀ b, b < W.heap.size → b < (wr.alloc (.cells #[.int .i64 ds[k].kind, .string ds[k].text, .int .i64 ds[k].n, .slice A' ds[k].kids.length c', .int .i64 m.kind, .string m.text, .int .i64 m.n, .slice Am m.kids.length cm] 24)).heap.size ∧ some b ≠ (Value.slice A3 l.length c3).ownBlock := fun b hb => ⟨Nat.lt_of_lt_of_le (by omega : b < wr.heap.size) hb5.size, fun e => by have := HOW.out b e.symm; omega⟩
            rcases ht with rfl | rfl
            · exact DV.In.later (HDV.out.below (hb5.mono (by omega))).in_ hh fun _ _ _ => rfl
            · exact ⟨HCM.out, HNM.out, kidsIn_mono (in_at.2 (kidsAt_below (kidsAt_below HKM.out HB.out) (hb5.mono (by omega)))) hh⟩) (fun g hg => ⟨(ho.lt g hg).2, fun e => by have h1 := (ho.lt g hg).1; have h2 := (HR.out.own.lt g e.symm).2; omega⟩)
          simp only [Value.slice.injEq] at hv
          rw [hv.1]
          exact hk9
        have hb6 := hb5.alloc hb5.size (.cells #[.int .i64 3, .string ⟨#[]⟩, .int .i64 0, .slice (some ⟨wr.heap.size, 0, none⟩) 2 2] 24)
        have HR2 := Lib.hid (HR.out.below hb6).drew
        have HB6 := Lib.hid hb6
        have hbx4 := Box4.new (wr.alloc (.cells #[.int .i64 ds[k].kind, .string ds[k].text, .int .i64 ds[k].n, .slice A' ds[k].kids.length c', .int .i64 m.kind, .string m.text, .int .i64 m.n, .slice Am m.kids.length cm] 24)) (.int .i64 3) (.string ⟨#[]⟩) (.int .i64 0) (.slice (some ⟨wr.heap.size, 0, none⟩) 2 2) 24
        have hbx5 : Box4 ((wr.alloc (.cells #[.int .i64 ds[k].kind, .string ds[k].text, .int .i64 ds[k].n, .slice A' ds[k].kids.length c', .int .i64 m.kind, .string m.text, .int .i64 m.n, .slice Am m.kids.length cm] 24)).alloc (.cells #[.int .i64 3, .string ⟨#[]⟩, .int .i64 0, .slice (some ⟨wr.heap.size, 0, none⟩) 2 2] 24)) (wr.heap.size + 1) (.int .i64 3) (.string ⟨#[]⟩) (.int .i64 0) (.slice (some ⟨wr.heap.size, 0, none⟩) 2 2) := by
          have e : (wr.alloc (.cells #[.int .i64 ds[k].kind, .string ds[k].text, .int .i64 ds[k].n, .slice A' ds[k].kids.length c', .int .i64 m.kind, .string m.text, .int .i64 m.n, .slice Am m.kids.length cm] 24)).heap.size = wr.heap.size + 1 := by simp
          rw [e] at hbx4
          exact hbx4
        have HBX5 := Lib.hid (box_cells hbx5.drew)
        have hb56 := (Below.refl (wr.alloc (.cells #[.int .i64 ds[k].kind, .string ds[k].text, .int .i64 ds[k].n, .slice A' ds[k].kids.length c', .int .i64 m.kind, .string m.text, .int .i64 m.n, .slice Am m.kids.length cm] 24)).heap.size (wr.alloc (.cells #[.int .i64 ds[k].kind, .string ds[k].text, .int .i64 ds[k].n, .slice A' ds[k].kids.length c', .int .i64 m.kind, .string m.text, .int .i64 m.n, .slice Am m.kids.length cm] 24))).alloc (Nat.le_refl _) (.cells #[.int .i64 3, .string ⟨#[]⟩, .int .i64 0, .slice (some ⟨wr.heap.size, 0, none⟩) 2 2] 24)
        have HDE := Lib.hid (DV.In.drew (S := Off 0 (.slice A3 l.length c3) ((wr.alloc (.cells #[.int .i64 ds[k].kind, .string ds[k].text, .int .i64 ds[k].n, .slice A' ds[k].kids.length c', .int .i64 m.kind, .string m.text, .int .i64 m.n, .slice Am m.kids.length cm] 24)).alloc (.cells #[.int .i64 3, .string ⟨#[]⟩, .int .i64 0, .slice (some ⟨wr.heap.size, 0, none⟩) 2 2] 24))) (v := ⟨besD ds[k] m, some ⟨wr.heap.size, 0, none⟩, 2⟩) ⟨Nat.le_refl _, fun e => (nomatch e), kidsIn_later hkl (fun b hb => ⟨Nat.zero_le _, Nat.lt_of_lt_of_le hb.1 hb56.size, hb.2⟩) (fun b o hb => hb56.cell (p := ⟨b, o, none⟩) hb.1)⟩)
        clear hb5 ho hkl hb6 hbx4 hbx5 hb56
        have hmore' : ¬ (k : Int) + 1 = (ds.length : Int) := by omega
        have hltI : (k : Int) < (ds.length : Int) := by omega
        have hk0 : (0 : Int) ≤ (k : Int) := by omega
        go_wp2_with fail
        go_region_law (refine step_app1 (o := ⟨some 34, _, _, _, _, _⟩) rfl _ _ 22 rfl Tryd.underlying22 info24 _ 0 (.slice A3 l.length c3) l (by simp [Act.eval]) HR2.out (wr.heap.size + 1) ⟨besD ds[k] m, some ⟨wr.heap.size, 0, none⟩, 2⟩ (by simp [Act.eval]) HBX5.out HDE.out (by have := HLN.out; omega) (Nat.zero_le _) ?_; intro A6 c6 w6 hR6 hg6 hn6)
        all_goals (
          clear hmore' hltI hk0
          go_wp2
          go_roundw
          case rel => exact ⟨k + 1, l ++ [⟨besD ds[k] m, some ⟨wr.heap.size, 0, none⟩, 2⟩], by omega, by go_num, by rw [List.range_succ, List.map_append, List.map_append, HL.out, List.map_singleton, List.map_singleton, HPM.out], hR6, HNX.out _ _ HB6.out.size hn6, (HB.out.trans (HB6.out.mono (by omega))).drew.grown hg6 (Nat.le_trans hsr HB6.out.size) HOW.out⟩
          case measure => simp [intOf]; omega)
      · have HPL := Lib.hid (punct_last (m := m) hlt hmore)
        have hlast : (k : Int) + 1 = (ds.length : Int) := by omega
        have HIN := Lib.hid (show (⟨ds[k], A', c'⟩ : DV).In (Off 0 (.slice A3 l.length c3) wr) wr from HDV.out.in_.later (fun b hb => ⟨Nat.zero_le _, by omega, fun e => by have := HOW.out b e.symm; omega⟩) fun _ _ _ => rfl)
        go_wp2_with (at_builtin; refine wpList_app1d rfl _ _ 22 rfl Tryd.underlying22 info24 wr ⟨ds[k], A', c'⟩ rfl _ rfl 0 (.slice A3 l.length c3) l rfl HR.out HIN.out rfl (by have := HLN.out; omega) (Nat.zero_le _) ?_; intro A6 c6 w6 hR6 hg6 hn6)
        clear hlast
        go_roundw
        case rel => exact ⟨k + 1, l ++ [⟨ds[k], A', c'⟩], by omega, by go_num, by rw [List.range_succ, List.map_append, List.map_append, HL.out, List.map_singleton, List.map_singleton, HPL.out], hR6, HNX.out _ _ (Nat.le_refl _) hn6, HB.out.grown hg6 hsr HOW.out⟩
        case measure => simp [intOf]; omega
    · obtain rfl : k = ds.length := by omega
      go_wp2
      go_ret
      obtain ⟨A9, c9, hv, _, _, hk9⟩ := HR.out.at_
      simp only [Value.slice.injEq] at hv
      rw [HL.out] at hk9
      rw [HLN.out]
      exact ⟨A3, c3, rfl, by rw [hv.1]; exact hk9.at_ fun _ hb => hb.2, HB0.out.trans (HB.out.mono (by have := HS0.out; omega))⟩

theorem punct_ok {m : Doc} {ds : List Doc} {d : Doc} (hm : m.Ok) (hs : oks ds) (h : d ∈ puncts m ds) : d.Ok := by
  obtain ⟨i, hi, rfl⟩ := List.mem_map.1 h
  have hi := List.mem_range.1 hi
  have hw := oks_iff.1 hs _ (List.getElem_mem hi)
  by_cases hmo : i + 1 < ds.length
  · rw [punct_more hmo]
    exact ok_iff.2 ⟨by simp [besD, ByteArray.size], by simp [besD], hw, hm, trivial⟩
  · rw [punct_last hi hmo]; exact hw
theorem samePunct_any (m : Doc) (ds : List Doc) (A B : Option Addr) (c e : Nat) (w : World) (hlen : ds.length * 56 ≤ 140737488351232) (hOm : m.Ok) (hOs : oks ds) (hA : KidsAt w.heap.size w (puncts m ds) A) (hC : KidsAt w.heap.size w (puncts m ds) B) :
    Calls Tryd.prog 29 #[.slice A ds.length c, .slice B ds.length e] w fun r w' => r = .returned (.bool true) ∧ Below w.heap.size w w' := by
  have := sameAll_each (puncts m ds) A B c e w (by rw [puncts_len]; omega) (fun d hd => punct_ok hOm hOs hd) hA hC
  rw [puncts_len] at this
  exact this

set_option maxRecDepth 100000 in
set_option maxHeartbeats 8000000 in
theorem docPunctuates_any (m : Doc) (Am : Option Addr) (cm : Nat) (ds : List Doc) (A : Option Addr) (c : Nat) (w : World) (hlen : ds.length * 56 ≤ 140737488351232) (hOm : m.Ok) (hOs : oks ds) (hT : Lib.Utf8Tabs 1 2 w) (hcm : m.kids.length ≤ cm) (hnm : Am = none → cm = 0) (hKm : KidsAt w.heap.size w m.kids Am) (hK : KidsAt w.heap.size w ds A) :
    Calls Tryd.prog 8 #[.agg #[.int .i64 m.kind, .string m.text, .int .i64 m.n, .slice Am m.kids.length cm], .slice A ds.length c] w fun e w' => e = .returned (.bool true) ∧ Below w.heap.size w w' := by
  obtain ⟨hbx, hb0, hs0⟩ := box_new w (.int .i64 m.kind) (.string m.text) (.int .i64 m.n) (.slice Am m.kids.length cm)
  obtain ⟨W, hW⟩ : ∃ W, w.alloc (.cells #[.int .i64 m.kind, .string m.text, .int .i64 m.n, .slice Am m.kids.length cm] 24) = W := ⟨_, rfl⟩
  rw [hW] at hbx hb0 hs0
  have HT := Lib.hid (Utf8Tabs_below hT hb0)
  have HK := Lib.hid (kidsAt_on hK hb0)
  have HKM := Lib.hid (kidsAt_on hKm hb0)
  have HCM := Lib.hid hcm
  have HNM := Lib.hid hnm
  have HB := Lib.hid hb0
  have hs' : w.heap.size < W.heap.size := by omega
  obtain ⟨x0, x1, x2, x3, _, _, _, _⟩ := hbx
  clear hT hK hb0 hs0 hnm hcm hKm
  go_enter Tryd.func8, Tryd.ntmps8
  go_upto_region 1 with (fail)
  clear hW
  go_region_held3 (fun w' : World => w'.cell? ⟨w.heap.size, 0, none⟩ = some (.int .i64 m.kind) ∧ w'.cell? ⟨w.heap.size, 1, none⟩ = some (.string m.text) ∧ w'.cell? ⟨w.heap.size, 2, none⟩ = some (.int .i64 m.n) ∧ w'.cell? ⟨w.heap.size, 3, none⟩ = some (.slice Am m.kids.length cm) ∧ Below W.heap.size W w')
    (first | (exact ⟨x0, x1, x2, x3, (Below.refl _ _).drew⟩) | (exact held4 (by assumption) hbf (by dsimp only; omega) (by dsimp only; omega) (by dsimp only; omega) (by dsimp only; omega)) | assumption)
    (first | (go_at_call 16; refine (awake_any _ (Utf8Tabs_below HT.out (keep4 (by assumption)))).mono ?_; rintro e w2 ⟨rfl, hbf⟩) | (go_at_call 30; refine (punct_any m Am cm ds A c _ (by omega) HCM.out HNM.out (kidsAt_on HKM.out (keep4 (by assumption))) (kidsAt_on HK.out (keep4 (by assumption)))).mono ?_; rintro e w2 ⟨A1, c1, rfl, hin1, hbf⟩) | (go_at_call 31; refine (rpunct_any m Am cm ds A c _ (by omega) HCM.out HNM.out (kidsAt_on HKM.out (keep4 (by assumption))) (kidsAt_on HK.out (keep4 (by assumption)))).mono ?_; rintro e w2 ⟨A2, c2, rfl, hin2, hbf⟩) | (go_at_call 29; refine (samePunct_any m ds A1 A2 c1 c2 _ hlen hOm hOs (by first | exact hin1 | exact kidsAt_on hin1 (by assumption)) (by first | exact hin2 | exact kidsAt_on hin2 (by assumption))).mono ?_; rintro e w2 ⟨rfl, hbf⟩))
  all_goals (rename_i hH; have hq := keep4 hH; go_wp2_with fail; go_ret; exact ⟨rfl, HB.out.trans (hq.mono (by omega))⟩)
end Go.Proofs.YtnpaplfdmpjfgaaDoor
