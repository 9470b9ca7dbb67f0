/- Texts that stand side by side are one: the program's glued. -/
import Derived.Test.YtnpaplfdmpjfgaaDoorDMem
namespace Go.Proofs.YtnpaplfdmpjfgaaDoor
open Go.RowKit

def GluedSaid (base : Nat) (ds : List Doc) (w : World) (e : Ending) (w' : World) : Prop := ∃ A c l, e = .returned (.slice A (List.length l) c) ∧ DRow base w' (.slice A l.length c) l ∧ l.map DV.d = ds.foldl (push 3) [] ∧ Below w.heap.size w w'

theorem push_str {l : List Doc} {y x : Doc} (hy : y.kind = 1) (hx : x.kind = 1) : push 3 (l ++ [y]) x = l ++ [strD (y.text ++ x.text)] := by
  simp [push, hy, hx]
theorem push_not {k : Int} {l : List Doc} {x : Doc} (h : k ≠ 3 ∨ x.kind ≠ 1 ∨ l = [] ∨ ∃ y l', l = l' ++ [y] ∧ y.kind ≠ 1) : push k l x = l ++ [x] := by
  unfold push
  rcases h with h | h | rfl | ⟨y, l', rfl, h⟩
  · simp [h]
  · split
    · split
      · simp [h]
      · rfl
    · rfl
  · simp
  · simp [h]
theorem wts_take' {ds : List Doc} {k : Nat} (h : k < ds.length) : wts (ds.take (k + 1)) = wts (ds.take k) + ds[k].wt := by
  rw [List.take_succ_eq_append_getElem h, wts_app]
  simp [wts]
theorem wts_take_le' (ds : List Doc) (k : Nat) : wts (ds.take k) ≤ wts ds := by
  induction ds generalizing k with
  | nil => simp
  | cons a r ih =>
    cases k with
    | zero => simp [wts]
    | succ k => simp only [List.take_succ_cons, wts]; have := ih k; omega
theorem stored_last {base g c : Nat} {W : World} {l' : List DV} {y t : DV} {u0 u1 u2 u3 : Value} (h : W.ownsRow base 24 4 (.slice (some ⟨g, 0, none⟩) (l'.length + 1) c) (l'.length + 1) (flatD (l' ++ [y]))) (ht : t.cells = [u0, u1, u2, u3]) :
    ((((W.setCell ⟨g, l'.length * 4, none⟩ u0).setCell ⟨g, l'.length * 4 + 1, none⟩ u1).setCell ⟨g, l'.length * 4 + 2, none⟩ u2).setCell ⟨g, l'.length * 4 + 3, none⟩ u3).ownsRow base 24 4 (.slice (some ⟨g, 0, none⟩) (l'.length + 1) c) (l'.length + 1) (flatD (l' ++ [t])) ∧
    W.grownBy ((((W.setCell ⟨g, l'.length * 4, none⟩ u0).setCell ⟨g, l'.length * 4 + 1, none⟩ u1).setCell ⟨g, l'.length * 4 + 2, none⟩ u2).setCell ⟨g, l'.length * 4 + 3, none⟩ u3) (some g) := by
  obtain ⟨o1, g1⟩ := h.stored (l'.length * 4) u0
  obtain ⟨o2, g2⟩ := o1.stored (l'.length * 4 + 1) u1
  obtain ⟨o3, g3⟩ := o2.stored (l'.length * 4 + 2) u2
  obtain ⟨o4, g4⟩ := o3.stored (l'.length * 4 + 3) u3
  refine ⟨?_, gb_trans (gb_trans (gb_trans g1 g2) g3) g4⟩
  have e : flatD (l' ++ [t]) = ((((flatD (l' ++ [y])).set (l'.length * 4) u0).set (l'.length * 4 + 1) u1).set (l'.length * 4 + 2) u2).set (l'.length * 4 + 3) u3 := by
    rw [flatD_snoc, flatD_snoc, ht, ← flatD_length, List.set_append_right _ _ (Nat.le_refl _), List.set_append_right _ _ (by omega), List.set_append_right _ _ (by omega), List.set_append_right _ _ (by omega)]
    simp [DV.cells]
  rw [e]
  exact o4
theorem eq_nil_or_snoc {α : Type} (l : List α) : l = [] ∨ ∃ l' y, l = l' ++ [y] := by
  rcases List.eq_nil_or_concat l with h | ⟨l', y, h⟩
  · exact .inl h
  · exact .inr ⟨l', y, by rw [h, List.concat_eq_append]⟩
theorem foldl_take {ds : List Doc} {k : Nat} (h : k < ds.length) (kd : Int) : (ds.take (k + 1)).foldl (push kd) [] = push kd ((ds.take k).foldl (push kd) []) ds[k] := by
  rw [List.take_succ_eq_append_getElem h, List.foldl_append]
  rfl

set_option maxRecDepth 100000 in
set_option maxHeartbeats 4000000 in
theorem glued_any (base : Nat) (ds : List Doc) (A : Option Addr) (c : Nat) (w : World) (hB : wts ds ≤ 16777216) (hbase : base ≤ w.heap.size) (hK : KidsIn (fun b => base ≤ b ∧ b < w.heap.size) w ds A) :
    Calls Tryd.prog 66 #[.slice A ds.length c] w (GluedSaid base ds w) := by
  have hlen := len_le_wts ds
  have HK := Lib.hid hK
  have hO := World.ownsRow_lit (base := w.heap.size) (e := 24) (size := 4) w #[] 0 (Nat.le_refl _) (by decide) rfl
  have hB0 := (Below.refl w.heap.size w).alloc (Nat.le_refl _) (.cells #[] 24)
  have HO := Lib.hid hO
  have HB0 := Lib.hid hB0
  clear hK hO hB0
  go_enter Tryd.func66, Tryd.ntmps66
  go_wp2
  go_loopw [3, 10] (fun out i wr => ∃ (k : Nat) (l : List DV), k ≤ ds.length ∧ i = .int .i64 k ∧ l.map DV.d = (ds.take k).foldl (push 3) [] ∧ (∀ t ∈ l, t.In (fun b => base ≤ b ∧ b < w.heap.size) w) ∧ wr.ownsRow w.heap.size 24 4 out l.length (flatD l) ∧ Below w.heap.size w wr) (fun _ i wr => ds.length - (intOf i).toNat)
  case atStart => exact ⟨0, [], by omega, rfl, rfl, by simp, HO.out, HB0.out⟩
  case round =>
    obtain ⟨k, l, hk, rfl, hl, hok, hown, hB⟩ := hrel
    have hll : l.length ≤ k := by
      have h1 : ∀ (xs l : List Doc), (xs.foldl (push 3) l).length ≤ l.length + xs.length := by
        intro xs
        induction xs with
        | nil => intro l; simp
        | cons x r ih =>
          intro l
          have := ih (push 3 l x)
          have h2 : (push 3 l x).length ≤ l.length + 1 := by
            unfold push
            split
            · split
              · split
                · simp [List.length_dropLast]
                · simp
              · simp
            · simp
          simp only [List.foldl_cons, List.length_cons]
          omega
      have h3 := h1 (ds.take k) []
      rw [← hl, List.length_map, List.length_take] at h3
      simp at h3
      omega
    have HL := Lib.hid hl
    have HOK := Lib.hid hok
    have HOWN := Lib.hid hown
    have HB := Lib.hid hB
    have hsz := hB.size
    clear hl hok hown hB
    by_cases hlt : k < ds.length
    · obtain ⟨b, o, rfl, hat⟩ := kidsIn_get HK.out (kid_in hlt)
      obtain ⟨A', c', q1, q2, q3, q4, q5, q6, q7, q8⟩ := docIn_iff.1 hat
      have hdv : (⟨ds[k], A', c'⟩ : DV).In (fun b => base ≤ b ∧ b < w.heap.size) w := ⟨q6, q7, q8⟩
      have h2 := (HB.out.cell (p := ⟨b, o + k * 4, none⟩) q1.2).trans q2
      have h3 := (HB.out.cell (p := ⟨b, o + k * 4 + 1, none⟩) q1.2).trans q3
      have h4 := (HB.out.cell (p := ⟨b, o + k * 4 + 2, none⟩) q1.2).trans q4
      have h5 := (HB.out.cell (p := ⟨b, o + k * 4 + 3, none⟩) q1.2).trans q5
      have HDV := Lib.hid hdv
      have HF := Lib.hid (foldl_take hlt 3)
      obtain ⟨hbx, hb0, hs0⟩ := box_new wr (.int .i64 ds[k].kind) (.string ds[k].text) (.int .i64 ds[k].n) (.slice A' ds[k].kids.length c')
      obtain ⟨W, hW⟩ : ∃ W, wr.alloc (.cells #[.int .i64 ds[k].kind, .string ds[k].text, .int .i64 ds[k].n, .slice A' ds[k].kids.length c'] 24) = W := ⟨_, rfl⟩
      clear q1 q2 q3 q4 q5 q6 q7 q8 hat hdv
      obtain ⟨A1, c1, rfl⟩ := own_form HOWN.out
      go_upto_region 5 with (fail)
      skip
      rw [hW] at hbx hb0 hs0
      have HBX := Lib.hid hbx
      have hs' : wr.heap.size < W.heap.size := by omega
      have HB2 := Lib.hid (HB.out.trans (hb0.mono hsz))
      have HO2 := Lib.hid (own_below HOWN.out hb0)
      clear hW hbx hb0 hs0 h2 h3 h4 h5 HOWN HB
      obtain ⟨x0, x1, x2, x3, _, _, _, _⟩ := HBX.out
      rcases eq_nil_or_snoc l with rfl | ⟨l', y, rfl⟩
      · go_wp2_with (at_builtin; refine wpList_app1 rfl _ _ 22 rfl 24 _ 4 56 Tryd.underlying22 info24 rfl (by decide) W (DV.cells ⟨ds[k], A', c'⟩) rfl _ rfl w.heap.size _ _ _ rfl HO2.out rfl rfl (by simp [DV.cells, Value.oneCell']) (by unfold maxLen; omega) (by omega) (by omega) ?_; intro g cc w4 hown4 hB4 _ _)
        go_roundw
        case rel =>
          refine ⟨k + 1, [] ++ [⟨ds[k], A', c'⟩], by omega, by go_num, by rw [HF.out, ← HL.out]; exact (List.map_append ..).trans (push_not (.inr (.inr (.inl rfl)))).symm, fun t ht => ?_, by rw [flatD_snoc, List.length_append]; exact hown4, HB2.out.trans hB4⟩
          rcases List.mem_append.1 ht with h | h
          · exact HOK.out t h
          · simp at h
            subst h
            exact HDV.out
        case measure => simp [intOf]; omega
      · have hn : (l' ++ [y]).length = l'.length + 1 := by simp
        have hO3 := HO2.out
        rw [hn] at hO3
        obtain ⟨g1, cap1, hv⟩ := ownsRow_succ hO3
        simp only [Value.slice.injEq, true_and] at hv
        obtain ⟨rfl, rfl⟩ := hv
        have hy : ∀ j u, y.cells[j]? = some u → W.cell? ⟨g1, l'.length * 4 + j, none⟩ = some u := by
          intro j u hu
          have hj : j < 4 := (List.getElem?_eq_some_iff.1 hu).1
          have := hO3.cellAt (l'.length * 4 + j) (by omega)
          rw [this, ← hu]
          exact flatD_get _ l'.length y (by simp) j hj
        have y0 : W.cell? ⟨g1, l'.length * 4, none⟩ = some (.int .i64 y.d.kind) := hy 0 _ rfl
        have y1 := hy 1 _ rfl
        have Y2 := Lib.hid (hy 2 _ rfl)
        have Y3 := Lib.hid (hy 3 _ rfl)
        have HO3 := Lib.hid hO3
        clear hO3 HO2 hy
        rw [hn]
        cases k1 : (ds[k].kind == 1) with
        | false =>
          go_wp2_with (at_builtin; refine wpList_app1 rfl _ _ 22 rfl 24 _ 4 56 Tryd.underlying22 info24 rfl (by decide) W (DV.cells ⟨ds[k], A', c'⟩) rfl _ rfl w.heap.size _ _ _ rfl HO3.out rfl rfl (by simp [DV.cells, Value.oneCell']) (by unfold maxLen; omega) (by omega) (by omega) ?_; intro g cc w4 hown4 hB4 _ _)
          go_roundw
          case rel =>
            refine ⟨k + 1, (l' ++ [y]) ++ [⟨ds[k], A', c'⟩], by omega, by go_num, by rw [HF.out, ← HL.out]; exact (List.map_append ..).trans (push_not (.inr (.inl (by simpa using k1)))).symm, fun t ht => ?_, by rw [flatD_snoc, List.length_append, hn]; exact hown4, HB2.out.trans hB4⟩
            rcases List.mem_append.1 ht with h | h
            · exact HOK.out t h
            · simp at h
              subst h
              exact HDV.out
          case measure => simp [intOf]; omega
        | true =>
          cases k2 : (y.d.kind == 1) with
          | false =>
            go_wp2_with (at_builtin; refine wpList_app1 rfl _ _ 22 rfl 24 _ 4 56 Tryd.underlying22 info24 rfl (by decide) W (DV.cells ⟨ds[k], A', c'⟩) rfl _ rfl w.heap.size _ _ _ rfl HO3.out rfl rfl (by simp [DV.cells, Value.oneCell']) (by unfold maxLen; omega) (by omega) (by omega) ?_; intro g cc w4 hown4 hB4 _ _)
            go_roundw
            case rel =>
              refine ⟨k + 1, (l' ++ [y]) ++ [⟨ds[k], A', c'⟩], by omega, by go_num, by rw [HF.out, ← HL.out]; exact (List.map_append ..).trans (push_not (.inr (.inr (.inr ⟨y.d, l'.map DV.d, by simp, by simpa using k2⟩)))).symm, fun t ht => ?_, by rw [flatD_snoc, List.length_append, hn]; exact hown4, HB2.out.trans hB4⟩
              rcases List.mem_append.1 ht with h | h
              · exact HOK.out t h
              · simp at h
                subst h
                exact HDV.out
            case measure => simp [intOf]; omega
          | true =>
            have y1 : W.cell? ⟨g1, l'.length * 4 + 1, none⟩ = some (.string y.d.text) := y1
            have f0 : W.frozen? ⟨g1, l'.length * 4, none⟩ = false := HO3.out.frozenAt _
            have f1 : W.frozen? ⟨g1, l'.length * 4 + 1, none⟩ = false := HO3.out.frozenAt _
            have f2 : W.frozen? ⟨g1, l'.length * 4 + 2, none⟩ = false := HO3.out.frozenAt _
            have f3 : W.frozen? ⟨g1, l'.length * 4 + 3, none⟩ = false := HO3.out.frozenAt _
            have hsz1 : y.d.text.size + ds[k].text.size ≤ 16777216 := by
              have h1 := pushes_wt 3 (ds.take k) []
              rw [← HL.out, List.map_append, wts_app] at h1
              have h2 := wts_take' hlt
              have h3 := wts_take_le' ds (k + 1)
              simp only [List.map_cons, List.map_nil, wts] at h1
              have h4 := text_lt y.d
              have h5 := text_lt ds[k]
              omega
            have y2 := Y2.out
            have y3 := Y3.out
            go_wp2_with fail
            have hwr : IntKind.i64.wrap (l'.length : Int) = (l'.length : Int) := IntWalk.i64_in _ (by omega)
            go_region
            clear hwr
            obtain ⟨hs1, hs2⟩ := stored_last (t := ⟨strD (y.d.text ++ ds[k].text), none, 0⟩) HO3.out rfl
            have HS1 := Lib.hid hs1
            have HS2 := Lib.hid ((HB2.out.grown hs2 (by omega) (fun k hk => by simp only [Option.some.injEq] at hk; subst hk; exact (HO3.out.lt g1 rfl).1)).drew)
            clear hs1 hs2 y0 y1 y2 y3 f0 f1 f2 f3
            go_wp2
            go_roundw
            case rel =>
              refine ⟨k + 1, l' ++ [⟨strD (y.d.text ++ ds[k].text), none, 0⟩], by omega, by go_num, ?_, fun t ht => ?_, by rw [List.length_append]; exact HS1.out, HS2.out⟩
              · rw [HF.out, ← HL.out, List.map_append, List.map_append]
                exact (push_str (by simpa using k2) (by simpa using k1)).symm
              · rcases List.mem_append.1 ht with h | h
                · exact HOK.out t (List.mem_append_left _ h)
                · simp at h
                  subst h
                  exact ⟨Nat.le_refl _, fun _ => rfl, trivial⟩
            case measure => simp [intOf]; omega
    · obtain rfl : k = ds.length := by omega
      obtain ⟨A1, c1, rfl⟩ := own_form HOWN.out
      go_wp2
      go_ret
      refine ⟨A1, c1, l, rfl, ⟨own_mono HOWN.out hbase, fun t ht => (HOK.out t ht).later (fun b hb => ⟨hb.1, by omega, fun e => ?_⟩) (fun b o hb => HB.out.cell (p := ⟨b, o, none⟩) hb.2)⟩, by rw [HL.out, List.take_length], HB.out⟩
      have := (HOWN.out.lt b e.symm).1
      omega
end Go.Proofs.YtnpaplfdmpjfgaaDoor
