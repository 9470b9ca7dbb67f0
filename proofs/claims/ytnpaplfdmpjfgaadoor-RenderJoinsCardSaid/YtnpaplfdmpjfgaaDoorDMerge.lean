/- One kid more: the reference's merge, joins. -/
import Derived.Test.YtnpaplfdmpjfgaaDoorDSpread
import Derived.Deep.RegionLaw
namespace Go.Proofs.YtnpaplfdmpjfgaaDoor
open Go.RowKit

theorem joins_any (k : Int) (w : World) : Calls Tryd.prog 67 #[.int .i64 k] w fun e w' => e = .returned (.bool (joinsK k)) ∧ Below w.heap.size w w' := by
  cases k3 : (k == 3) with
  | true =>
    have HS := Lib.hid (show joinsK k = true by simp [joinsK, k3])
    go_enter Tryd.func67, Tryd.ntmps67
    go_wp2
    go_ret
    exact ⟨ret_bool HS.out.symm, Below.refl _ _⟩
  | false =>
    cases k4 : (k == 4) with
    | true =>
      have HS := Lib.hid (show joinsK k = true by simp [joinsK, k4])
      go_enter Tryd.func67, Tryd.ntmps67
      go_wp2
      go_ret
      exact ⟨ret_bool HS.out.symm, Below.refl _ _⟩
    | false =>
      cases k5 : (k == 5) with
      | true =>
        have HS := Lib.hid (show joinsK k = true by simp [joinsK, k5])
        go_enter Tryd.func67, Tryd.ntmps67
        go_wp2
        go_ret
        exact ⟨ret_bool HS.out.symm, Below.refl _ _⟩
      | false =>
        have HS := Lib.hid (show joinsK k = (k == 6) by simp [joinsK, k3, k4, k5])
        cases k6 : (k == 6) with
        | true =>
          go_enter Tryd.func67, Tryd.ntmps67
          go_wp2
          go_ret
          exact ⟨ret_bool (by rw [HS.out, k6]), Below.refl _ _⟩
        | false =>
          go_enter Tryd.func67, Tryd.ntmps67
          go_wp2
          go_ret
          exact ⟨ret_bool (by rw [HS.out, k6]), Below.refl _ _⟩

theorem box_cells {w : World} {b : Nat} {v0 v1 v2 v3 : Value} (h : Box4 w b v0 v1 v2 v3) : ∀ j u, [v0, v1, v2, v3][j]? = some u → w.cell? ⟨b, j, none⟩ = some u := by
  intro j u hu
  match j, hu with
  | 0, hu => simp only [List.getElem?_cons_zero, Option.some.injEq] at hu; subst hu; exact h.c0
  | 1, hu => simp only [List.getElem?_cons_zero, List.getElem?_cons_succ, Option.some.injEq] at hu; subst hu; exact h.c1
  | 2, hu => simp only [List.getElem?_cons_zero, List.getElem?_cons_succ, Option.some.injEq] at hu; subst hu; exact h.c2
  | 3, hu => simp only [List.getElem?_cons_zero, List.getElem?_cons_succ, Option.some.injEq] at hu; subst hu; exact h.c3
  | j + 4, hu => simp at hu
/-- What merge hands back. -/
def MergeSaid (base : Nat) (v : Value) (l : List DV) (k : Int) (x : Doc) (w : World) (e : Ending) (w' : World) : Prop :=
  ∃ A c l', e = .returned (.slice A (List.length l') c) ∧ DRow base w' (.slice A l'.length c) l' ∧ l'.map DV.d = push k (l.map DV.d) x ∧ w.grownBy w' v.ownBlock ∧ Next v w (.slice A l'.length c)

theorem next_alloc {v v' : Value} {w w' : World} (h : Next v w' v') (hs : w.heap.size ≤ w'.heap.size) : Next v w v' := by
  rcases h with h | ⟨g, h, hg⟩
  · exact .inl h
  · exact .inr ⟨g, h, Nat.le_trans hs hg⟩
theorem gb_of_below {w w' : World} {row : Option Nat} (h : Below w.heap.size w w') : w.grownBy w' row := ⟨h.os, h.tape, h.output, h.size, fun k hk _ => h.block k hk⟩

set_option maxRecDepth 100000 in
set_option maxHeartbeats 4000000 in
theorem merge_any (base : Nat) (k : Int) (A : Option Addr) (c : Nat) (l : List DV) (x : Doc) (Ax : Option Addr) (cx : Nat) (w : World) (hbase : base ≤ w.heap.size) (hl : l.length ≤ 16777216) (hsz : wts (l.map DV.d) + x.wt ≤ 33554432)
    (hR : DRow base w (.slice A l.length c) l) (hx : (⟨x, Ax, cx⟩ : DV).In (Off base (.slice A l.length c) w) w) :
    Calls Tryd.prog 68 #[.int .i64 k, .slice A l.length c, .agg #[.int .i64 x.kind, .string x.text, .int .i64 x.n, .slice Ax x.kids.length cx]] w (MergeSaid base (.slice A l.length c) l k x w) := by
  obtain ⟨hbx, hb0, hs0⟩ := box_new w (.int .i64 x.kind) (.string x.text) (.int .i64 x.n) (.slice Ax x.kids.length cx)
  obtain ⟨W, hW⟩ : ∃ W, w.alloc (.cells #[.int .i64 x.kind, .string x.text, .int .i64 x.n, .slice Ax x.kids.length cx] 24) = W := ⟨_, rfl⟩
  rw [hW] at hbx hb0 hs0
  have HR := Lib.hid (hR.below hb0)
  have HX := Lib.hid (dvOff_below hx hb0)
  have HB := Lib.hid hb0
  have HBX := Lib.hid hbx
  have hsw := hb0.size
  obtain ⟨x0, x1, x2, x3, _, _, _, _⟩ := hbx
  have HS0 := Lib.hid hs0
  clear hR hx hb0 hs0
  have HLN := Lib.hid hl
  cases k3 : (k == 3) with
  | false =>
    go_enter Tryd.func68, Tryd.ntmps68
    go_wp2_with (at_builtin; refine wpList_app1d rfl _ _ 22 rfl Tryd.underlying22 info24 W ⟨x, Ax, cx⟩ rfl _ rfl base (.slice A l.length c) l rfl HR.out HX.out rfl (by first | (have := HLN.out; omega) | simp) (by omega) ?_; intro A6 c6 w6 hR6 hg6 hn6)
    go_ret
    exact ⟨A6, c6, l ++ [⟨x, Ax, cx⟩], by rw [List.length_append]; rfl, by rw [List.length_append]; exact hR6, by rw [List.map_append]; exact (push_not (.inl (by have h := k3; rw [beq_eq_false_iff_ne] at h; exact h))).symm, gb_trans (gb_of_below HB.out) hg6, next_alloc (by rw [List.length_append]; exact hn6) hsw⟩
  | true =>
    have hk3 := Lib.hid (show k = 3 by simpa using k3)
    rcases eq_nil_or_snoc l with rfl | ⟨l', y, rfl⟩
    · simp only [List.length_nil] at *
      go_enter Tryd.func68, Tryd.ntmps68
      go_wp2_with (at_builtin; refine wpList_app1d rfl _ _ 22 rfl Tryd.underlying22 info24 W ⟨x, Ax, cx⟩ rfl _ rfl base (.slice A 0 c) [] rfl HR.out HX.out rfl (by first | (have := HLN.out; omega) | simp) (by omega) ?_; intro A6 c6 w6 hR6 hg6 hn6)
      go_ret
      exact ⟨A6, c6, [] ++ [⟨x, Ax, cx⟩], by rw [List.length_append]; rfl, by rw [List.length_append]; exact hR6, by rw [List.map_append]; exact (push_not (.inr (.inr (.inl rfl)))).symm, gb_trans (gb_of_below HB.out) hg6, next_alloc (by rw [List.length_append]; exact hn6) hsw⟩
    · have hn : (l' ++ [y]).length = l'.length + 1 := by simp
      have hO3 := HR.out.own
      rw [hn] at hO3
      obtain ⟨g1, cap1, hv⟩ := ownsRow_succ hO3
      simp only [Value.slice.injEq, true_and] at hv
      obtain ⟨rfl, rfl⟩ := hv
      have hy : ∀ j u, y.cells[j]? = some u → W.cell? ⟨g1, l'.length * 4 + j, none⟩ = some u := by
        intro j u hu
        have hj : j < 4 := (List.getElem?_eq_some_iff.1 hu).1
        have := hO3.cellAt (l'.length * 4 + j) (by omega)
        rw [this, ← hu]
        exact flatD_get _ l'.length y (by simp) j hj
      have y0 : W.cell? ⟨g1, l'.length * 4, none⟩ = some (.int .i64 y.d.kind) := hy 0 _ rfl
      have y1 : W.cell? ⟨g1, l'.length * 4 + 1, none⟩ = some (.string y.d.text) := hy 1 _ rfl
      clear hO3 hy
      rw [hn] at HR HX hl HLN ⊢
      cases k1 : (y.d.kind == 1) with
      | false =>
        go_enter Tryd.func68, Tryd.ntmps68
        go_wp2_with (at_builtin; refine wpList_app1d rfl _ _ 22 rfl Tryd.underlying22 info24 W ⟨x, Ax, cx⟩ rfl _ rfl base (.slice (some ⟨g1, 0, none⟩) (l'.length + 1) c) (l' ++ [y]) rfl HR.out HX.out rfl (by first | (have := HLN.out; omega) | simp) (by omega) ?_; intro A6 c6 w6 hR6 hg6 hn6)
        go_ret
        exact ⟨A6, c6, (l' ++ [y]) ++ [⟨x, Ax, cx⟩], by rw [List.length_append, hn]; rfl, by rw [List.length_append]; exact hR6, by rw [List.map_append]; exact (push_not ((.inr (.inr (.inr ⟨y.d, l'.map DV.d, by simp, by simpa using k1⟩))))).symm, gb_trans (gb_of_below HB.out) hg6, next_alloc (by rw [List.length_append]; exact hn6) hsw⟩
      | true =>
        cases k2 : (x.kind == 1) with
        | false =>
          go_enter Tryd.func68, Tryd.ntmps68
          go_wp2_with (at_builtin; refine wpList_app1d rfl _ _ 22 rfl Tryd.underlying22 info24 W ⟨x, Ax, cx⟩ rfl _ rfl base (.slice (some ⟨g1, 0, none⟩) (l'.length + 1) c) (l' ++ [y]) rfl HR.out HX.out rfl (by first | (have := HLN.out; omega) | simp) (by omega) ?_; intro A6 c6 w6 hR6 hg6 hn6)
          go_ret
          exact ⟨A6, c6, (l' ++ [y]) ++ [⟨x, Ax, cx⟩], by rw [List.length_append, hn]; rfl, by rw [List.length_append]; exact hR6, by rw [List.map_append]; exact (push_not ((.inr (.inl (by simpa using k2))))).symm, gb_trans (gb_of_below HB.out) hg6, next_alloc (by rw [List.length_append]; exact hn6) hsw⟩
        | true =>
          go_enter Tryd.func68, Tryd.ntmps68
          have hO3 := HR.out.own
          rw [hn] at hO3
          have HCS := Lib.hid (show ∀ j u, (flatD l')[j]? = some u → W.cell? ⟨g1, 0 + j, none⟩ = some u by
            intro j u hu
            have hj : j < l'.length * 4 := by rw [← flatD_length]; exact (List.getElem?_eq_some_iff.1 hu).1
            rw [Nat.zero_add, hO3.cellAt j (by omega), flatD_snoc, List.getElem?_append_left (by rw [flatD_length]; exact hj)]
            exact hu)
          have HIN := Lib.hid (show ∀ t ∈ l', t.In (Off base (.slice none 0 0) W) W from fun t ht => (HR.out.ins t (List.mem_append_left _ ht)).later (fun b hb => ⟨hb.1, hb.2.1, fun e => by simp [Value.ownBlock] at e⟩) fun _ _ _ => rfl)
          have hg1 := hO3.lt g1 rfl
          have hcap : l'.length + 1 ≤ c := by
            rcases hO3.2 with ⟨hv, _⟩ | ⟨g, cap, cur, hv, _, _, h, _⟩
            · simp at hv
            · simp only [Value.slice.injEq, true_and] at hv
              rw [hv.2]
              exact h
          clear hO3
          go_wp2_with (at_builtin; refine wpList_appk rfl _ _ 22 rfl Tryd.underlying22 info24 base (.slice none 0 0) [] rfl (DRow.nil base W) g1 0 _ c l' rfl rfl HCS.out HIN.out (by have := HLN.out; simp; omega) (by omega) ?_; intro A2 c2 w2 hR2 hg2 hn2)
          have hb2 : Below W.heap.size W w2 := ⟨hg2.os, hg2.tape, hg2.output, hg2.size, fun k hk => hg2.block k hk (by simp [Value.ownBlock])⟩
          have y1' := (hb2.cell (p := ⟨g1, l'.length * 4 + 1, none⟩) hg1.2).trans y1
          obtain ⟨x0', x1', x2', x3', _, _, _, _⟩ := HBX.out.below hb2 (by have := HS0.out; omega)
          clear x0 x1 x2 x3 y0 y1
          have hwr : IntKind.i64.wrap (l'.length : Int) = (l'.length : Int) := IntWalk.i64_in _ (by have := HLN.out; omega)
          have hst : y.d.text.size + x.text.size ≤ 33554432 := by
            have h1 := text_lt y.d
            have h2 := text_lt x
            rw [List.map_append, wts_app] at hsz
            simp only [List.map_cons, List.map_nil, wts] at hsz
            omega
          have hlt1 : (l'.length : Int) < (l'.length : Int) + 1 := by omega
          simp only [List.length_nil, Nat.zero_add, List.nil_append] at hR2 hn2
          have HR2 := Lib.hid hR2
          have HG2 := Lib.hid hg2
          have HN2 := Lib.hid hn2
          have HB2 := Lib.hid hb2
          clear hR2 hg2 hn2 hb2
          have hba := (Below.refl w2.heap.size w2).alloc (Nat.le_refl _) (.cells #[.int .i64 1, .string (y.d.text ++ x.text), .int .i64 0, .slice none 0 0] 24)
          have HBA := Lib.hid hba
          have HRX := Lib.hid (show DRow base ((w2.alloc (.cells #[.int .i64 1, .string (y.d.text ++ x.text), .int .i64 0, .slice none 0 0] 24)).drew) (.slice A2 l'.length c2) l' by
            have h := HR2.out.below hba
            exact ⟨h.own, fun t ht => (h.ins t ht).later (fun _ hb => hb) fun _ _ _ => rfl⟩)
          clear hba
          have hst2 : ¬ 9223372036854775807 < y.d.text.size + x.text.size := by omega
          have HCL := Lib.hid (show ∀ j u, (DV.cells ⟨strD (y.d.text ++ x.text), none, 0⟩)[j]? = some u → ((w2.alloc (.cells #[.int .i64 1, .string (y.d.text ++ x.text), .int .i64 0, .slice none 0 0] 24)).drew).cell? ⟨w2.heap.size, j, none⟩ = some u from fun j u hu => box_cells (Box4.new w2 _ _ _ _ 24) j u hu)
          have HBS := Lib.hid (show base ≤ ((w2.alloc (.cells #[.int .i64 1, .string (y.d.text ++ x.text), .int .i64 0, .slice none 0 0] 24)).drew).heap.size from Nat.le_trans (Nat.le_trans hbase (Nat.le_trans hsw HB2.out.size)) HBA.out.size)
          go_region_law (refine step_app1 (o := ⟨some 49, _, _, _, _, _⟩) rfl _ _ 22 rfl Tryd.underlying22 info24 _ base (.slice A2 l'.length c2) l' (by simp [Act.eval]) HRX.out w2.heap.size ⟨strD (y.d.text ++ x.text), none, 0⟩ (by simp [Act.eval]) HCL.out ⟨Nat.le_refl _, fun _ => rfl, trivial⟩ (by have := HLN.out; omega) HBS.out ?_; intro A6 c6 w6 hR6 hg6 hn6)
          all_goals (
            clear hwr hlt1 hst hst2
            go_wp2
            go_ret
            have hb6 : Below W.heap.size W w6 := by
              refine (HB2.out.trans (HBA.out.mono HB2.out.size)).trans ⟨hg6.os, hg6.tape, hg6.output, hg6.size, fun k hk => hg6.block k (Nat.lt_of_lt_of_le hk (Nat.le_trans HB2.out.size HBA.out.size)) (fun e => ?_)⟩
              rcases HN2.out with h | ⟨g, h, hge⟩
              · rw [h] at e; simp [Value.ownBlock] at e
              · rw [h] at e; simp only [Option.some.injEq] at e; omega
            have hl6 : (l' ++ [(⟨strD (y.d.text ++ x.text), none, 0⟩ : DV)]).length = l'.length + 1 := by simp
            refine ⟨A6, c6, l' ++ [⟨strD (y.d.text ++ x.text), none, 0⟩], by rw [hl6]; rfl, by rw [hl6]; exact hR6, ?_, gb_trans (gb_of_below HB.out) (gb_of_below hb6), ?_⟩
            · rw [List.map_append, List.map_append, hk3.out]
              exact (push_str (by simpa using k1) (by simpa using k2)).symm
            · rw [hl6]
              have ho6 := hR6.own
              rw [hl6] at ho6
              obtain ⟨g6, cap6, hv6⟩ := ownsRow_succ ho6
              rw [hv6] at hn6 ⊢
              refine .inr ⟨g6, rfl, ?_⟩
              rcases hn6 with h | ⟨g, h, hge⟩
              · rcases HN2.out with h2 | ⟨g2, h2, hge2⟩
                · rw [h2] at h; simp [Value.ownBlock] at h
                · rw [h2] at h; simp only [Value.ownBlock, Option.some.injEq] at h; omega
              · simp only [Value.ownBlock, Option.some.injEq] at h
                have h1 := HB2.out.size
                have h2 := HBA.out.size
                have h3 : (w2.alloc (.cells #[.int .i64 1, .string (y.d.text ++ x.text), .int .i64 0, .slice none 0 0] 24)).heap.size ≤ g := hge
                omega)
end Go.Proofs.YtnpaplfdmpjfgaaDoor
