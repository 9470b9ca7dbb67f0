/- Documents with a mark between: Punctuate, the program's and the reference's; the law DocPunctuates. -/
import Derived.Test.YtnpaplfdmpjfgaaDoorDTidyR
import Derived.Test.YtnpaplfdmpjfgaaDoorDLaw18
namespace Go.Proofs.YtnpaplfdmpjfgaaDoor
open Go.RowKit

set_option maxRecDepth 100000 in
set_option maxHeartbeats 4000000 in
theorem sameAll_each (ds : List Doc) (A B : Option Addr) (c e : Nat) (w : World) (hlen : ds.length ≤ 140737488351232) (hB : ∀ d ∈ ds, d.Ok) (hKA : KidsAt w.heap.size w ds A) (hKB : KidsAt w.heap.size w ds B) :
    Calls Tryd.prog 29 #[.slice A ds.length c, .slice B ds.length e] w fun r w' => r = .returned (.bool true) ∧ Below w.heap.size w w' := by
  have HBD := Lib.hid hB
  clear hB
  have HKA := Lib.hid hKA
  have HKB := Lib.hid hKB
  clear hKA hKB
  go_enter Tryd.func29, Tryd.ntmps29
  go_wp2_with fail
  go_loopw [5] (fun i wr => ∃ k : Nat, k ≤ ds.length ∧ i = .int .i64 k ∧ Below w.heap.size w wr) (fun i wr => ds.length - (intOf i).toNat)
  case atStart => exact ⟨0, by omega, rfl, Below.refl _ _⟩
  case round =>
    obtain ⟨k, hk, rfl, hB1⟩ := hrel
    have HB1 := Lib.hid hB1
    have hsz := hB1.size
    have HKa := Lib.hid (kidsAt_on HKA.out hB1)
    have HKb := Lib.hid (kidsAt_on HKB.out hB1)
    clear hB1
    by_cases hlt : k < ds.length
    · obtain ⟨b, o, rfl, hat⟩ := kidsAt_get HKa.out (kid_in hlt)
      obtain ⟨A', c', h1, h2, h3, h4, h5, h6, h7, h8⟩ := docAt_iff.1 hat
      have HKa' := Lib.hid h8
      clear h6 h7 h8 hat
      obtain ⟨b', o', rfl, hat⟩ := kidsAt_get HKb.out (kid_in hlt)
      obtain ⟨B', e', g1, g2, g3, g4, g5, h6, h7, h8⟩ := docAt_iff.1 hat
      have HKb' := Lib.hid h8
      have HWT := Lib.hid (HBD.out _ (List.getElem_mem hlt))
      clear h6 h7 h8 hat HKa HKb
      go_upto_region 6 with (fail)
      go_region_held3 (fun w' : World => w'.cell? ⟨b, o + k * 4, none⟩ = some (.int .i64 ds[k].kind) ∧ w'.cell? ⟨b, o + k * 4 + 1, none⟩ = some (.string ds[k].text) ∧ w'.cell? ⟨b, o + k * 4 + 2, none⟩ = some (.int .i64 ds[k].n) ∧ w'.cell? ⟨b, o + k * 4 + 3, none⟩ = some (.slice A' ds[k].kids.length c') ∧ w'.cell? ⟨b', o' + k * 4, none⟩ = some (.int .i64 ds[k].kind) ∧ w'.cell? ⟨b', o' + k * 4 + 1, none⟩ = some (.string ds[k].text) ∧ w'.cell? ⟨b', o' + k * 4 + 2, none⟩ = some (.int .i64 ds[k].n) ∧ w'.cell? ⟨b', o' + k * 4 + 3, none⟩ = some (.slice B' ds[k].kids.length e') ∧ Below wr.heap.size wr w')
        (first | (exact ⟨h2, h3, h4, h5, g2, g3, g4, g5, (Below.refl _ _).drew⟩) | (exact held8 (by assumption) hbf (by dsimp only; omega) (by dsimp only; omega) (by dsimp only; omega) (by dsimp only; omega) (by dsimp only; omega) (by dsimp only; omega) (by dsimp only; omega) (by dsimp only; omega)) | assumption)
        (first | (go_at_call 25; refine (same_ok _ ds[k] A' B' c' e' _ (Nat.le_refl _) HWT.out (kidsAt_on HKa'.out (keep8 (by assumption))) (kidsAt_on HKb'.out (keep8 (by assumption)))).mono ?_; rintro e w3 ⟨rfl, hbf⟩))
      rename_i hH
      have hq := keep8 hH
      go_wp2_with fail
      go_roundw
      case rel => exact ⟨k + 1, by omega, by go_num, HB1.out.trans (hq.mono hsz)⟩
      case measure => simp [intOf]; omega
    · obtain rfl : k = ds.length := by omega
      go_wp2
      go_ret
      exact ⟨rfl, HB1.out⟩

/-- Two documents side by side. -/
def besD (x m : Doc) : Doc := ⟨3, ⟨#[]⟩, 0, [x, m]⟩
def punctAt (m : Doc) (ds : List Doc) (i : Nat) : Doc := if i + 1 < ds.length then besD (ds.getD i emptyD) m else ds.getD i emptyD
/-- Documents with a mark behind all but the last one. -/
def puncts (m : Doc) (ds : List Doc) : List Doc := (List.range ds.length).map (punctAt m ds)
theorem puncts_len (m : Doc) (ds : List Doc) : (puncts m ds).length = ds.length := by simp [puncts]
theorem punct_more {m : Doc} {ds : List Doc} {i : Nat} (h : i + 1 < ds.length) : punctAt m ds i = besD (ds[i]'(by omega)) m := by
  unfold punctAt
  rw [if_pos h, List.getD, List.getElem?_eq_getElem (by omega)]
  rfl
theorem punct_last {m : Doc} {ds : List Doc} {i : Nat} (h : i < ds.length) (h1 : ¬ i + 1 < ds.length) : punctAt m ds i = ds[i] := by
  unfold punctAt
  rw [if_neg h1, List.getD, List.getElem?_eq_getElem h]
  rfl
def PunctSaid (m : Doc) (ds : List Doc) (w : World) (e : Ending) (w' : World) : Prop := ∃ A c, e = .returned (.slice A (List.length ds) c) ∧ KidsAt w'.heap.size w' (puncts m ds) A ∧ Below w.heap.size w w'

theorem take_set4 {xs ys : List Value} {n : Nat} (u0 u1 u2 u3 : Value) (hn : n + 4 ≤ xs.length) (h : xs.take n = ys) :
    ((((xs.set n u0).set (n + 1) u1).set (n + 2) u2).set (n + 3) u3).take (n + 4) = ys ++ [u0, u1, u2, u3] ∧ ((((xs.set n u0).set (n + 1) u1).set (n + 2) u2).set (n + 3) u3).take n = ys ∧ ((((xs.set n u0).set (n + 1) u1).set (n + 2) u2).set (n + 3) u3).length = xs.length := by
  obtain ⟨a, b, rfl, rfl⟩ : ∃ a b, xs = a ++ b ∧ a.length = n := ⟨xs.take n, xs.drop n, (List.take_append_drop n xs).symm, by rw [List.length_take]; omega⟩
  rw [List.take_left] at h
  subst h
  rw [List.length_append] at hn
  match b, hn with
  | b0 :: b1 :: b2 :: b3 :: r, _ =>
    rw [List.set_append_right _ _ (Nat.le_refl _), List.set_append_right _ _ (by omega), List.set_append_right _ _ (by omega), List.set_append_right _ _ (by omega)]
    simp only [Nat.sub_self, Nat.add_sub_cancel_left, List.set_cons_zero, List.set_cons_succ]
    refine ⟨?_, ?_, ?_⟩
    · rw [List.take_append, List.take_of_length_le (by omega)]
      simp
    · rw [List.take_append]
      simp
    · simp
  | [], h => exact absurd h (by simp only [List.length_nil]; omega)
  | [_], h => exact absurd h (by simp only [List.length_cons, List.length_nil]; omega)
  | [_, _], h => exact absurd h (by simp only [List.length_cons, List.length_nil]; omega)
  | [_, _, _], h => exact absurd h (by simp only [List.length_cons, List.length_nil]; omega)

set_option maxRecDepth 100000 in
set_option maxHeartbeats 8000000 in
theorem punct_any (m : Doc) (Am : Option Addr) (cm : Nat) (ds : List Doc) (A : Option Addr) (c : Nat) (w : World) (hlen : ds.length * 56 ≤ 140737488351232) (hcm : m.kids.length ≤ cm) (hnm : Am = none → cm = 0) (hKm : KidsAt w.heap.size w m.kids Am) (hK : KidsAt w.heap.size w ds A) :
    Calls Tryd.prog 30 #[.agg #[.int .i64 m.kind, .string m.text, .int .i64 m.n, .slice Am m.kids.length cm], .slice A ds.length c] w (PunctSaid m ds w) := by
  obtain ⟨hbx, hb0, hs0⟩ := box_new w (.int .i64 m.kind) (.string m.text) (.int .i64 m.n) (.slice Am m.kids.length cm)
  obtain ⟨W, hW⟩ : ∃ W, w.alloc (.cells #[.int .i64 m.kind, .string m.text, .int .i64 m.n, .slice Am m.kids.length cm] 24) = W := ⟨_, rfl⟩
  rw [hW] at hbx hb0 hs0
  obtain ⟨i0, hi, hz0, hz1, hz2⟩ := info_parts info24
  obtain ⟨MC, hMC, hmk⟩ : ∃ MC : Array Value, MC.size = ds.length * 4 ∧ ∀ u : World, (Instr.makeSlice 22 (.int .i64 (ds.length : Int)) (.int .i64 (ds.length : Int))).run Tryd.prog u =
      .ok (.slice (some ⟨u.heap.size, 0, none⟩) ds.length ds.length) (u.alloc (.cells MC 24)) := by
    refine ⟨madeCells _ _, size_madeCells (Value.cells (.agg #[.int .i64 0, .string .empty, .int .i64 0, .slice none 0 0])) (ds.length * 4), fun u => ?_⟩
    have h := run_make (P := Tryd.prog) u 22 24 i0 _ Tryd.underlying22 hi hz0 .i64 .i64 (ds.length : Int) (ds.length : Int) (by omega) (by omega) (by rw [hz2]; omega) (by omega)
    rw [hz1, show ((ds.length : Int)).toNat = ds.length from by omega] at h
    exact h
  have hO := World.ownsRow_lit (base := W.heap.size) (e := 24) (size := 4) W MC ds.length (Nat.le_refl _) (by unfold maxLen; omega) hMC
  have hb1 := (Below.refl W.heap.size W).alloc (Nat.le_refl _) (.cells MC 24)
  obtain ⟨W1, hW1⟩ : ∃ W1, W.alloc (.cells MC 24) = W1 := ⟨_, rfl⟩
  rw [hW1] at hO hb1
  have hs1 : W1.heap.size = W.heap.size + 1 := by rw [← hW1]; simp
  have HO := Lib.hid hO
  have HB0 := Lib.hid hb0
  have HB1 := Lib.hid hb1
  have HX := Lib.hid hbx
  have HS0 := Lib.hid hs0
  have HS1 := Lib.hid hs1
  have HK := Lib.hid (kidsAt_on hK hb0)
  have HKM := Lib.hid (kidsAt_on hKm hb0)
  have HCM := Lib.hid hcm
  have HNM := Lib.hid hnm
  clear hO hb0 hb1 hbx hs0 hs1 hK hKm hcm hnm hi hz0 hz1 hz2 hMC
  go_enter Tryd.func30, Tryd.ntmps30
  go_wp2
  clear hmk hW1 hW
  go_loopw [13] (fun i wr => ∃ (k : Nat) (xs : List Value) (l : List DV), k ≤ ds.length ∧ i = .int .i64 k ∧ l.map DV.d = (List.range k).map (punctAt m ds) ∧ xs.take (k * 4) = flatD l ∧ wr.ownsRow W.heap.size 24 4 (.slice (some ⟨W.heap.size, 0, none⟩) ds.length ds.length) ds.length xs ∧ (∀ t ∈ l, t.In (fun b => b < wr.heap.size ∧ b ≠ W.heap.size) wr) ∧ W.heap.size < wr.heap.size ∧ Below W.heap.size W wr) (fun i wr => ds.length - (intOf i).toNat)
  case atStart => exact ⟨0, MC.toList, [], by omega, rfl, rfl, by simp [flatD], HO.out, by simp, by have := HS1.out; omega, HB1.out⟩
  case round =>
    obtain ⟨k, xs, l, hk, rfl, hl, htk, hown, hins, hsz, hB⟩ := hrel
    have HL := Lib.hid hl
    have HTK := Lib.hid htk
    have HOWN := Lib.hid hown
    have HINS := Lib.hid hins
    have HB := Lib.hid hB
    have hxl : xs.length = ds.length * 4 := hown.1
    clear hl htk hins
    by_cases hlt : k < ds.length
    · obtain ⟨b, o, rfl, hat⟩ := kidsAt_get (kidsAt_below HK.out HB.out) (kid_in hlt)
      obtain ⟨A', c', q1, h2, h3, h4, h5, q6, q7, q8⟩ := docAt_iff.1 hat
      have hdv : (⟨ds[k], A', c'⟩ : DV).Ok W.heap.size wr := ⟨q6, q7, q8⟩
      have HDV := Lib.hid hdv
      obtain ⟨hbx, hb3, hs3⟩ := box_new wr (.int .i64 ds[k].kind) (.string ds[k].text) (.int .i64 ds[k].n) (.slice A' ds[k].kids.length c')
      obtain ⟨W3, hW3⟩ : ∃ W3, wr.alloc (.cells #[.int .i64 ds[k].kind, .string ds[k].text, .int .i64 ds[k].n, .slice A' ds[k].kids.length c'] 24) = W3 := ⟨_, rfl⟩
      rw [hW3] at hbx hb3 hs3
      have hown3 := own_below hown hb3
      have hc : ∀ j, j < 4 → ∃ v, W3.cell? ⟨W.heap.size, k * 4 + j, none⟩ = some v := fun j hj => by
        rw [hown3.cellAt (k * 4 + j) (by omega)]
        exact ⟨_, List.getElem?_eq_getElem (by omega)⟩
      obtain ⟨o0, r0⟩ : ∃ v, W3.cell? ⟨W.heap.size, k * 4, none⟩ = some v := hc 0 (by omega)
      obtain ⟨o1, r1⟩ := hc 1 (by omega)
      obtain ⟨o2, r2⟩ := hc 2 (by omega)
      obtain ⟨o3, r3⟩ := hc 3 (by omega)
      have f0 : W3.frozen? ⟨W.heap.size, k * 4, none⟩ = false := hown3.frozenAt _
      have f1 := hown3.frozenAt (k * 4 + 1)
      have f2 := hown3.frozenAt (k * 4 + 2)
      have f3 := hown3.frozenAt (k * 4 + 3)
      have HOWN3 := Lib.hid hown3
      have HB3 := Lib.hid hb3
      have HS3 := Lib.hid hs3
      have HBX := Lib.hid hbx
      obtain ⟨z0, z1, z2, z3, _, _, _, _⟩ := hbx
      clear q1 q6 q7 q8 hat hdv hown3 hb3 hs3 hc hown
      go_upto_region 6 with (fail)
      clear hW3
      obtain ⟨hs1, hg1⟩ := HOWN3.out.stored (k * 4) (.int .i64 ds[k].kind)
      obtain ⟨hs2, hg2⟩ := hs1.stored (k * 4 + 1) (.string ds[k].text)
      obtain ⟨hs3, hg3⟩ := hs2.stored (k * 4 + 2) (.int .i64 ds[k].n)
      obtain ⟨hs4, hg4⟩ := hs3.stored (k * 4 + 3) (.slice A' ds[k].kids.length c')
      have hg := gb_trans (gb_trans (gb_trans hg1 hg2) hg3) hg4
      generalize ((((W3.setCell ⟨W.heap.size, k * 4, none⟩ (.int .i64 ds[k].kind)).setCell ⟨W.heap.size, k * 4 + 1, none⟩ (.string ds[k].text)).setCell ⟨W.heap.size, k * 4 + 2, none⟩ (.int .i64 ds[k].n)).setCell ⟨W.heap.size, k * 4 + 3, none⟩ (.slice A' ds[k].kids.length c')) = W4 at hs4 hg ⊢
      have hx4 := take_set4 (.int .i64 ds[k].kind) (.string ds[k].text) (.int .i64 ds[k].n) (.slice A' ds[k].kids.length c') (by omega) HTK.out
      have HX4 := Lib.hid hx4
      have HG := Lib.hid hg
      have HS4 := Lib.hid hs4
      have hs3' := HS3.out
      have hbx4 := HBX.out.grown hg (by omega) (fun e => by simp only [Option.some.injEq] at e; omega)
      have HB4 := Lib.hid ((HB.out.trans (HB3.out.mono (by omega))).grown hg (by omega) (fun g e => by simp only [Option.some.injEq] at e; omega))
      have HIN4 := Lib.hid (show ∀ t ∈ l, t.In (fun b => b < W4.heap.size ∧ b ≠ W.heap.size) W4 from fun t ht => (HINS.out t ht).later (fun b hb => ⟨Nat.lt_of_lt_of_le hb.1 (Nat.le_trans HB3.out.size hg.size), hb.2⟩) (fun b o hb => (hg.cell_far ⟨b, o, none⟩ (Nat.lt_of_lt_of_le hb.1 HB3.out.size) (fun e => hb.2 (Option.some.inj e))).trans (HB3.out.cell (p := ⟨b, o, none⟩) hb.1)))
      have hg4s := hg.size
      have HDV4 := Lib.hid (HDV.out.below ((HB3.out.mono (by omega)).grown hg (by omega) (fun g e => by simp only [Option.some.injEq] at e; omega)))
      have HBX4 := Lib.hid hbx4
      obtain ⟨z0, z1, z2, z3, _, _, _, _⟩ := hbx4
      clear hs1 hs2 hs3 hs4 hg1 hg2 hg3 hg4 hg hx4 r0 r1 r2 r3 f0 f1 f2 f3
      by_cases hmore : k + 1 < ds.length
      · have HPM := Lib.hid (punct_more (m := m) hmore)
        obtain ⟨v0, v1, v2, v3, _, _, _, _⟩ := HX.out.below HB4.out (by have := HS0.out; omega)
        have hcl := kidsAt_lit [⟨ds[k], A', c'⟩, ⟨m, Am, cm⟩] W4 (by simp) (by
          intro t ht
          simp only [List.mem_cons, List.not_mem_nil, or_false] at ht
          rcases ht with rfl | rfl
          · exact HDV4.out.mono (by omega)
          · exact ⟨HCM.out, HNM.out, kidsAt_mono (kidsAt_below HKM.out HB4.out) (by omega)⟩)
        have hb5 := (Below.refl W4.heap.size W4).alloc (Nat.le_refl _) (.cells #[.int .i64 ds[k].kind, .string ds[k].text, .int .i64 ds[k].n, .slice A' ds[k].kids.length c', .int .i64 m.kind, .string m.text, .int .i64 m.n, .slice Am m.kids.length cm] 24)
        obtain ⟨W5, hW5⟩ : ∃ W, W4.alloc (.cells #[.int .i64 ds[k].kind, .string ds[k].text, .int .i64 ds[k].n, .slice A' ds[k].kids.length c', .int .i64 m.kind, .string m.text, .int .i64 m.n, .slice Am m.kids.length cm] 24) = W := ⟨_, rfl⟩
        rw [hW5] at hb5
        have hcl5 : KidsAt W5.heap.size W5 [ds[k], m] (some ⟨W4.heap.size, 0, none⟩) := by rw [← hW5]; exact hcl
        have HCL5 := Lib.hid hcl5
        have HCLX := Lib.hid (show KidsIn (fun b => b < W5.heap.size ∧ b ≠ W.heap.size) W5 [ds[k], m] (some ⟨W4.heap.size, 0, none⟩) by
          have ho := World.ownsRow_lit (base := W4.heap.size) (e := 24) (size := 4) W4 (flatD [⟨ds[k], A', c'⟩, ⟨m, Am, cm⟩]).toArray 2 (Nat.le_refl _) (by decide) rfl
          have hW5' : W4.alloc (.cells (flatD [⟨ds[k], A', c'⟩, ⟨m, Am, cm⟩]).toArray 24) = W5 := hW5
          rw [hW5'] at ho
          obtain ⟨A9, c9, hv, _, _, hk9⟩ := own_kidsIn (l := [⟨ds[k], A', c'⟩, ⟨m, Am, cm⟩]) (S := fun b => b < W5.heap.size ∧ b ≠ W.heap.size) ho (fun t ht => by
            simp only [List.mem_cons, List.not_mem_nil, or_false] at ht
            rcases ht with rfl | rfl
            · exact DV.In.later (HDV4.out.below (hb5.mono (by omega))).in_ (fun b hb => ⟨by have := hb5.size; omega, by omega⟩) fun _ _ _ => rfl
            · exact ⟨HCM.out, HNM.out, kidsIn_mono (in_at.2 (kidsAt_below (kidsAt_below HKM.out HB4.out) (hb5.mono (by omega)))) fun b hb => ⟨by have := hb5.size; omega, by omega⟩⟩) (fun g hg => ⟨(ho.lt g hg).2, by have := (ho.lt g hg).1; omega⟩)
          simp only [Value.slice.injEq] at hv
          rw [hv.1]
          exact hk9)
        have hown5 := own_below HS4.out hb5
        have hx4l := HX4.out.2.2
        have hc : ∀ j, j < 4 → ∃ v, W5.cell? ⟨W.heap.size, k * 4 + j, none⟩ = some v := fun j hj => by
          rw [hown5.cellAt (k * 4 + j) (by omega)]
          exact ⟨_, List.getElem?_eq_getElem (by omega)⟩
        obtain ⟨p0, r0⟩ : ∃ v, W5.cell? ⟨W.heap.size, k * 4, none⟩ = some v := hc 0 (by omega)
        obtain ⟨p1, r1⟩ := hc 1 (by omega)
        obtain ⟨p2, r2⟩ := hc 2 (by omega)
        obtain ⟨p3, r3⟩ := hc 3 (by omega)
        have f0 : W5.frozen? ⟨W.heap.size, k * 4, none⟩ = false := hown5.frozenAt _
        have f1 := hown5.frozenAt (k * 4 + 1)
        have f2 := hown5.frozenAt (k * 4 + 2)
        have f3 := hown5.frozenAt (k * 4 + 3)
        have HOWN5 := Lib.hid hown5
        have HB5 := Lib.hid hb5
        clear hcl hcl5 hown5 hb5 hc hx4l
        go_wp2_with fail
        clear hW5
        obtain ⟨hs1, hg1⟩ := HOWN5.out.stored (k * 4) (.int .i64 3)
        obtain ⟨hs2, hg2⟩ := hs1.stored (k * 4 + 1) (.string ⟨#[]⟩)
        obtain ⟨hs3, hg3⟩ := hs2.stored (k * 4 + 2) (.int .i64 0)
        obtain ⟨hs6, hg6⟩ := hs3.stored (k * 4 + 3) (.slice (some ⟨W4.heap.size, 0, none⟩) 2 2)
        have hg := gb_trans (gb_trans (gb_trans hg1 hg2) hg3) hg6
        generalize ((((W5.setCell ⟨W.heap.size, k * 4, none⟩ (.int .i64 3)).setCell ⟨W.heap.size, k * 4 + 1, none⟩ (.string ⟨#[]⟩)).setCell ⟨W.heap.size, k * 4 + 2, none⟩ (.int .i64 0)).setCell ⟨W.heap.size, k * 4 + 3, none⟩ (.slice (some ⟨W4.heap.size, 0, none⟩) 2 2)) = W6 at hs6 hg ⊢
        have hx6 := take_set4 (.int .i64 3) (.string ⟨#[]⟩) (.int .i64 0) (.slice (some ⟨W4.heap.size, 0, none⟩) 2 2) (by have := HX4.out.2.2; omega) HX4.out.2.1
        have HX6 := Lib.hid hx6
        have HG6 := Lib.hid hg
        have HS6 := Lib.hid hs6
        clear hs1 hs2 hs3 hs6 hg1 hg2 hg3 hg6 hg hx6 r0 r1 r2 r3 f0 f1 f2 f3
        go_roundw
        case rel =>
          have h45 := HB5.out.size
          have h56 := HG6.out.size
          have hs4 : W4.heap.size < W5.heap.size := by
            have h := HCL5.out
            obtain ⟨b9, o9, e9, h9, _⟩ := h
            simp only [Option.some.injEq, Addr.mk.injEq, and_true] at e9
            obtain ⟨A8, c8, h8⟩ := docAt_iff.1 h9
            have := h8.lt
            omega
          refine ⟨k + 1, _, l ++ [⟨besD ds[k] m, some ⟨W4.heap.size, 0, none⟩, 2⟩], by omega, by go_num, by rw [List.range_succ, List.map_append, List.map_append, HL.out, List.map_singleton, List.map_singleton, HPM.out], ?_, HS6.out, fun t ht => ?_, by omega, (HB4.out.trans (HB5.out.mono (by omega))).grown HG6.out (by omega) (fun g e => by simp only [Option.some.injEq] at e; omega)⟩
          · rw [show (k + 1) * 4 = k * 4 + 4 by omega, HX6.out.1, flatD_snoc]
            rfl
          · rcases List.mem_append.1 ht with h | h
            · exact (HIN4.out t h).later (fun b hb => ⟨by omega, hb.2⟩) (fun b o hb => (HG6.out.cell_far ⟨b, o, none⟩ (Nat.lt_of_lt_of_le hb.1 h45) (fun e => hb.2 (Option.some.inj e))).trans (HB5.out.cell (p := ⟨b, o, none⟩) hb.1))
            · rw [List.mem_singleton.1 h]
              exact DV.In.later (v := ⟨besD ds[k] m, some ⟨W4.heap.size, 0, none⟩, 2⟩) (S := fun b => b < W5.heap.size ∧ b ≠ W.heap.size) ⟨Nat.le_refl _, fun e => (nomatch e), HCLX.out⟩ (fun b hb => ⟨by omega, hb.2⟩) (fun b o hb => HG6.out.cell_far ⟨b, o, none⟩ hb.1 (fun e => hb.2 (Option.some.inj e)))
        case measure => simp [intOf]; omega
      · have HPL := Lib.hid (punct_last (m := m) hlt hmore)
        go_wp2
        go_roundw
        case rel =>
          refine ⟨k + 1, _, l ++ [⟨ds[k], A', c'⟩], by omega, by go_num, by rw [List.range_succ, List.map_append, List.map_append, HL.out, List.map_singleton, List.map_singleton, HPL.out], ?_, HS4.out, fun t ht => ?_, by omega, HB4.out⟩
          · rw [show (k + 1) * 4 = k * 4 + 4 by omega, HX4.out.1, flatD_snoc]
            rfl
          · rcases List.mem_append.1 ht with h | h
            · exact HIN4.out t h
            · rw [List.mem_singleton.1 h]
              exact HDV4.out.in_.later (fun b hb => ⟨by omega, by omega⟩) fun _ _ _ => rfl
        case measure => simp [intOf]; omega
    · obtain rfl : k = ds.length := by omega
      go_wp2
      go_ret
      have hx : xs = flatD l := by rw [← HTK.out, List.take_of_length_le (by omega)]
      have hln : l.length = ds.length := by have := congrArg List.length HL.out; simpa using this
      have ho := HOWN.out
      rw [hx, ← hln] at ho
      obtain ⟨A9, c9, hv, _, _, hk9⟩ := own_kidsIn (S := fun b => b < wr.heap.size) ho (fun t ht => (HINS.out t ht).later (fun _ hb => hb.1) fun _ _ _ => rfl) (fun g hg => (ho.lt g hg).2)
      simp only [Value.slice.injEq] at hv
      rw [HL.out] at hk9
      exact ⟨some ⟨W.heap.size, 0, none⟩, ds.length, rfl, by rw [hv.1]; exact in_at.1 hk9, HB0.out.trans (HB.out.mono (by have := HS0.out; omega))⟩
end Go.Proofs.YtnpaplfdmpjfgaaDoor
