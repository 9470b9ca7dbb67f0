/- The end of the tokens, told by the program. -/
import Derived.Test.YtnophjkiecalpaaLayMay
import Derived.RegionTactic
namespace Go.Proofs.Ytnophjkiecalpaa
open Go.RowKit

/-- Four cells written. -/
def put4 (W : World) (b : Nat) (v0 v1 v2 v3 : Value) : World := (((W.setCell ⟨b, 0, none⟩ v0).setCell ⟨b, 1, none⟩ v1).setCell ⟨b, 2, none⟩ v2).setCell ⟨b, 3, none⟩ v3
theorem put4_below {B b : Nat} {w W : World} (h : Below B w W) (hb : B ≤ b) (v0 v1 v2 v3 : Value) : Below B w (put4 W b v0 v1 v2 v3) :=
  (((h.setCell (p := ⟨b, 0, none⟩) hb v0).setCell (p := ⟨b, 1, none⟩) hb v1).setCell (p := ⟨b, 2, none⟩) hb v2).setCell (p := ⟨b, 3, none⟩) hb v3
theorem put4_fresh {base b : Nat} {W : World} {v : Value} {zs : List Int} (h : Fresh base W v zs) (hb : b < base) (v0 v1 v2 v3 : Value) : Fresh base (put4 W b v0 v1 v2 v3) v zs :=
  ownsRow_setCell_below (ownsRow_setCell_below (ownsRow_setCell_below (ownsRow_setCell_below h (a := ⟨b, 0, none⟩) hb v0) (a := ⟨b, 1, none⟩) hb v1) (a := ⟨b, 2, none⟩) hb v2) (a := ⟨b, 3, none⟩) hb v3
theorem Box4.set_other {w : World} {b : Nat} {v0 v1 v2 v3 : Value} (h : Box4 w b v0 v1 v2 v3) {b' o : Nat} (hne : b ≠ b') (v : Value) : Box4 (w.setCell ⟨b', o, none⟩ v) b v0 v1 v2 v3 := by
  have hc : ∀ j, (w.setCell ⟨b', o, none⟩ v).cell? ⟨b, j, none⟩ = w.cell? ⟨b, j, none⟩ := fun j => World.cell?_setCell_other _ _ _ _ (by intro e; simp at e)
  exact ⟨(hc 0).trans h.c0, (hc 1).trans h.c1, (hc 2).trans h.c2, (hc 3).trans h.c3, by simpa using h.f0, by simpa using h.f1, by simpa using h.f2, by simpa using h.f3⟩
theorem Box4.set0 {w : World} {b : Nat} {v0 v1 v2 v3 : Value} (h : Box4 w b v0 v1 v2 v3) (v : Value) : Box4 (w.setCell ⟨b, 0, none⟩ v) b v v1 v2 v3 := by
  have hc : ∀ j, j ≠ 0 → (w.setCell ⟨b, 0, none⟩ v).cell? ⟨b, j, none⟩ = w.cell? ⟨b, j, none⟩ := fun j hj => World.cell?_setCell_other _ _ _ _ (by intro e; simp at e)
  exact ⟨World.cell?_setCell_same _ _ _ h.c0, (hc 1 (by omega)).trans h.c1, (hc 2 (by omega)).trans h.c2, (hc 3 (by omega)).trans h.c3, by simpa using h.f0, by simpa using h.f1, by simpa using h.f2, by simpa using h.f3⟩
theorem Box4.set1 {w : World} {b : Nat} {v0 v1 v2 v3 : Value} (h : Box4 w b v0 v1 v2 v3) (v : Value) : Box4 (w.setCell ⟨b, 1, none⟩ v) b v0 v v2 v3 := by
  have hc : ∀ j, j ≠ 1 → (w.setCell ⟨b, 1, none⟩ v).cell? ⟨b, j, none⟩ = w.cell? ⟨b, j, none⟩ := fun j hj => World.cell?_setCell_other _ _ _ _ (by intro e; simp at e)
  exact ⟨(hc 0 (by omega)).trans h.c0, World.cell?_setCell_same _ _ _ h.c1, (hc 2 (by omega)).trans h.c2, (hc 3 (by omega)).trans h.c3, by simpa using h.f0, by simpa using h.f1, by simpa using h.f2, by simpa using h.f3⟩
theorem Box4.set2 {w : World} {b : Nat} {v0 v1 v2 v3 : Value} (h : Box4 w b v0 v1 v2 v3) (v : Value) : Box4 (w.setCell ⟨b, 2, none⟩ v) b v0 v1 v v3 := by
  have hc : ∀ j, j ≠ 2 → (w.setCell ⟨b, 2, none⟩ v).cell? ⟨b, j, none⟩ = w.cell? ⟨b, j, none⟩ := fun j hj => World.cell?_setCell_other _ _ _ _ (by intro e; simp at e)
  exact ⟨(hc 0 (by omega)).trans h.c0, (hc 1 (by omega)).trans h.c1, World.cell?_setCell_same _ _ _ h.c2, (hc 3 (by omega)).trans h.c3, by simpa using h.f0, by simpa using h.f1, by simpa using h.f2, by simpa using h.f3⟩
theorem Box4.set3 {w : World} {b : Nat} {v0 v1 v2 v3 : Value} (h : Box4 w b v0 v1 v2 v3) (v : Value) : Box4 (w.setCell ⟨b, 3, none⟩ v) b v0 v1 v2 v := by
  have hc : ∀ j, j ≠ 3 → (w.setCell ⟨b, 3, none⟩ v).cell? ⟨b, j, none⟩ = w.cell? ⟨b, j, none⟩ := fun j hj => World.cell?_setCell_other _ _ _ _ (by intro e; simp at e)
  exact ⟨(hc 0 (by omega)).trans h.c0, (hc 1 (by omega)).trans h.c1, (hc 2 (by omega)).trans h.c2, World.cell?_setCell_same _ _ _ h.c3, by simpa using h.f0, by simpa using h.f1, by simpa using h.f2, by simpa using h.f3⟩
theorem Box4.put {w : World} {b : Nat} {v0 v1 v2 v3 : Value} (h : Box4 w b v0 v1 v2 v3) (u0 u1 u2 u3 : Value) : Box4 (put4 w b u0 u1 u2 u3) b u0 u1 u2 u3 := (((h.set0 u0).set1 u1).set2 u2).set3 u3
theorem Box4.put_other {w : World} {b b' : Nat} {v0 v1 v2 v3 : Value} (h : Box4 w b v0 v1 v2 v3) (hne : b ≠ b') (u0 u1 u2 u3 : Value) : Box4 (put4 w b' u0 u1 u2 u3) b v0 v1 v2 v3 := (((h.set_other hne u0).set_other hne u1).set_other hne u2).set_other hne u3
theorem put4_size (W : World) (b : Nat) (v0 v1 v2 v3 : Value) : (put4 W b v0 v1 v2 v3).heap.size = W.heap.size := by simp [put4]
theorem Fresh.form {base : Nat} {w : World} {v : Value} {zs : List Int} (h : Fresh base w v zs) : ∃ A c, v = .slice A zs.length c := own_form h
theorem Fresh.drew {base : Nat} {w : World} {v : Value} {zs : List Int} (h : Fresh base w v zs) : Fresh base w.drew v zs := h
theorem Fresh.mono {base base' : Nat} {w : World} {v : Value} {zs : List Int} (h : Fresh base w v zs) (hb : base' ≤ base) : Fresh base' w v zs := own_mono h hb
theorem Fresh.below {base : Nat} {w w' : World} {v : Value} {zs : List Int} (h : Fresh base w v zs) (hb : Below w.heap.size w w') : Fresh base w' v zs := own_below h hb

/-- The three boxes that such a function begins with: its argument's, and those of its results. -/
structure Three (w W : World) (v0 v1 v2 v3 : Value) : Prop where
  x : Box4 W w.heap.size v0 v1 v2 v3
  y : Box4 W (w.heap.size + 1) (.int .i64 0) (.string ⟨#[]⟩) (.int .i64 0) (.int .i64 0)
  z : Box4 W (w.heap.size + 1 + 1) (.slice none 0 0) (.int .i64 0) (.slice none 0 0) (.int .i64 0)
  below : Below w.heap.size w W
  size : W.heap.size = w.heap.size + 1 + 1 + 1
theorem Three.new (w : World) (v0 v1 v2 v3 : Value) : Three w (((w.alloc (.cells #[v0, v1, v2, v3] 34)).alloc (.cells #[.int .i64 0, .string ⟨#[]⟩, .int .i64 0, .int .i64 0] 23)).alloc (.cells #[.slice none 0 0, .int .i64 0, .slice none 0 0, .int .i64 0] 34)) v0 v1 v2 v3 :=
  ⟨((Box4.new w v0 v1 v2 v3 34).alloc _ (by simp)).alloc _ (by simp; omega), by simpa using (Box4.new (w.alloc (.cells #[v0, v1, v2, v3] 34)) (.int .i64 0) (.string ⟨#[]⟩) (.int .i64 0) (.int .i64 0) 23).alloc (.cells #[.slice none 0 0, .int .i64 0, .slice none 0 0, .int .i64 0] 34) (by simp),
    by simpa using Box4.new ((w.alloc (.cells #[v0, v1, v2, v3] 34)).alloc (.cells #[.int .i64 0, .string ⟨#[]⟩, .int .i64 0, .int .i64 0] 23)) (.slice none 0 0) (.int .i64 0) (.slice none 0 0) (.int .i64 0) 34,
    (((Below.refl _ _).alloc (Nat.le_refl _) _).alloc (by simp) _).alloc (by simp; omega) _, by simp⟩

/-- What 'end' tells. -/
def EndSaid (A0 A : Option Addr) (m n0 n : Nat) (p wt : Int) (zs : List Int) (w : World) (e : Ending) (w' : World) : Prop :=
  Below w.heap.size w w' ∧
  ((zs.length = 0 ∧ e = .returned (.tuple #[.agg #[.int .i64 21, .string ⟨#[]⟩, .int .i64 0, .int .i64 0], .agg #[.slice A0 m n0, .int .i64 p, .slice A zs.length n, .int .i64 wt], .int .i64 0])) ∨
   (zs.length ≠ 0 ∧ 0 < topOf zs ∧ ∃ v, Fresh w.heap.size w' v zs.dropLast ∧ e = .returned (.tuple #[.agg #[.int .i64 20, .string ⟨#[]⟩, .int .i64 0, .int .i64 0], .agg #[.slice A0 m n0, .int .i64 p, v, .int .i64 wt], .int .i64 0])) ∨
   (zs.length ≠ 0 ∧ ¬ 0 < topOf zs ∧ e = .returned (.tuple #[.agg #[.int .i64 0, .string ⟨#[]⟩, .int .i64 0, .int .i64 0], .agg #[.slice A0 m n0, .int .i64 p, .slice A zs.length n, .int .i64 wt], .int .i64 90])))

set_option maxHeartbeats 1600000 in
theorem end_lay (A0 A : Option Addr) (m n0 n : Nat) (p wt : Int) (zs : List Int) (w : World) (hn : zs.length ≤ 1000000) (hcap : zs.length ≤ n) (h : Ints w.heap.size w A zs) :
    Calls Try.prog 39 #[.agg #[.slice A0 m n0, .int .i64 p, .slice A zs.length n, .int .i64 wt]] w (EndSaid A0 A m n0 n p wt zs w) := by
  have h3 := Three.new w (.slice A0 m n0) (.int .i64 p) (.slice A zs.length n) (.int .i64 wt)
  have HI := Lib.hid ((h.below h3.below).mono h3.below.size)
  have H3 := Lib.hid h3
  clear h3 h
  cases t0 : ((zs.length : Int) == 0) with
  | true =>
    have hz := Lib.hid (show zs.length = 0 by have := beq_iff_eq.1 t0; omega)
    go_enter Try.func39, Try.ntmps39
    go_wp2_with fail
    obtain ⟨W, hW⟩ : ∃ W, ((w.alloc (.cells #[.slice A0 m n0, .int .i64 p, .slice A zs.length n, .int .i64 wt] 34)).alloc (.cells #[.int .i64 0, .string ⟨#[]⟩, .int .i64 0, .int .i64 0] 23)).alloc (.cells #[.slice none 0 0, .int .i64 0, .slice none 0 0, .int .i64 0] 34) = W := ⟨_, rfl⟩
    have h4 := H3.out
    rw [hW] at h4 ⊢
    clear H3 HI hW
    obtain ⟨⟨x0, x1, x2, x3, _, _, _, _⟩, ⟨y0, y1, y2, y3, g0, g1, g2, g3⟩, ⟨z0, z1, z2, z3, f0, f1, f2, f3⟩, hb, hs⟩ := h4
    have HS := Lib.hid hs
    clear hs
    go_region
    go_wp2
    exact bodyPost_ret (v := .tuple #[.agg #[.int .i64 21, .string ⟨#[]⟩, .int .i64 0, .int .i64 0], .agg #[.slice A0 m n0, .int .i64 p, .slice A zs.length n, .int .i64 wt], .int .i64 0]) (by simp [results, Try.results39, go_sem, y0, y1, y2, y3, z0, z1, z2, z3]) rfl
      ⟨(put4_below (put4_below hb (by omega) _ _ _ _) (by omega) _ _ _ _).drew, .inl ⟨hz.out, rfl⟩⟩
  | false =>
    have hz := Lib.hid (show zs.length ≠ 0 by have := beq_eq_false_iff_ne.1 t0; omega)
    cases t1 : decide (0 < topOf zs) with
    | true =>
      have ht := Lib.hid (of_decide_eq_true t1)
      go_enter Try.func39, Try.ntmps39
      go_wp2_with fail
      obtain ⟨W, hW⟩ : ∃ W, ((w.alloc (.cells #[.slice A0 m n0, .int .i64 p, .slice A zs.length n, .int .i64 wt] 34)).alloc (.cells #[.int .i64 0, .string ⟨#[]⟩, .int .i64 0, .int .i64 0] 23)).alloc (.cells #[.slice none 0 0, .int .i64 0, .slice none 0 0, .int .i64 0] 34) = W := ⟨_, rfl⟩
      have h4 := H3.out
      have h5 := HI.out
      rw [hW] at h4 h5 ⊢
      clear H3 HI hW
      obtain ⟨hx, hy, hzb, hb, hs⟩ := h4
      refine (ltop_any _ _ _ A zs n _ (by omega) h5).mono ?_
      rintro e w1 ⟨rfl, hb1⟩
      have hx1 := hx.below hb1 (by omega)
      have hy1 := hy.below hb1 (by omega)
      have hz1 := hzb.below hb1 (by omega)
      have hI1 := Lib.hid ((h5.below hb1).mono hb1.size)
      have hs1 := hb1.size
      have hbb := Lib.hid (hb.trans (hb1.mono (by omega)))
      rw [hs] at hs1
      clear hx hy hzb hb hs h5 hb1
      obtain ⟨x0, x1, x2, x3, _, _, _, _⟩ := hx1
      go_wp2_with fail
      refine (closed_any A0 A m n0 p wt zs n _ hn (by have := hz.out; omega) hcap hI1.out).mono ?_
      rintro e w2 ⟨v, rfl, hfr, hb2⟩
      obtain ⟨A', c', rfl⟩ := hfr.form
      obtain ⟨y0, y1, y2, y3, g0, g1, g2, g3⟩ := hy1.below hb2 (by omega)
      obtain ⟨z0, z1, z2, z3, f0, f1, f2, f3⟩ := hz1.below hb2 (by omega)
      clear x0 x1 x2 x3 hy1 hz1
      have HF := Lib.hid hfr
      have HB2 := Lib.hid (hbb.out.trans (hb2.mono (by omega)))
      clear hfr hb2
      go_wp2
      exact bodyPost_ret (v := .tuple #[.agg #[.int .i64 20, .string ⟨#[]⟩, .int .i64 0, .int .i64 0], .agg #[.slice A0 m n0, .int .i64 p, .slice A' zs.dropLast.length c', .int .i64 wt], .int .i64 0]) (by simp [results, Try.results39, go_sem, y0, y1, y2, y3, z0, z1, z2, z3]) rfl
        ⟨put4_below (put4_below HB2.out (by omega) _ _ _ _) (by omega) _ _ _ _, .inr (.inl ⟨hz.out, ht.out, _, Fresh.mono (put4_fresh (put4_fresh HF.out (by omega) _ _ _ _) (by omega) _ _ _ _) (by omega), rfl⟩)⟩
    | false =>
      have ht := Lib.hid (of_decide_eq_false t1)
      go_enter Try.func39, Try.ntmps39
      go_wp2_with fail
      obtain ⟨W, hW⟩ : ∃ W, ((w.alloc (.cells #[.slice A0 m n0, .int .i64 p, .slice A zs.length n, .int .i64 wt] 34)).alloc (.cells #[.int .i64 0, .string ⟨#[]⟩, .int .i64 0, .int .i64 0] 23)).alloc (.cells #[.slice none 0 0, .int .i64 0, .slice none 0 0, .int .i64 0] 34) = W := ⟨_, rfl⟩
      have h4 := H3.out
      have h5 := HI.out
      rw [hW] at h4 h5 ⊢
      clear H3 HI hW
      obtain ⟨hx, hy, hzb, hb, hs⟩ := h4
      refine (ltop_any _ _ _ A zs n _ (by omega) h5).mono ?_
      rintro e w1 ⟨rfl, hb1⟩
      obtain ⟨x0, x1, x2, x3, _, _, _, _⟩ := hx.below hb1 (by omega)
      obtain ⟨y0, y1, y2, y3, g0, g1, g2, g3⟩ := hy.below hb1 (by omega)
      obtain ⟨z0, z1, z2, z3, f0, f1, f2, f3⟩ := hzb.below hb1 (by omega)
      have hbb := Lib.hid (hb.trans (hb1.mono (by omega)))
      clear hx hy hzb hb hs h5 hb1
      go_wp2_with fail
      go_region
      go_wp2
      exact bodyPost_ret (v := .tuple #[.agg #[.int .i64 0, .string ⟨#[]⟩, .int .i64 0, .int .i64 0], .agg #[.slice A0 m n0, .int .i64 p, .slice A zs.length n, .int .i64 wt], .int .i64 90]) (by simp [results, Try.results39, go_sem, y0, y1, y2, y3, z0, z1, z2, z3]) rfl
        ⟨(put4_below (put4_below hbb.out (by omega) _ _ _ _) (by omega) _ _ _ _).drew, .inr (.inr ⟨hz.out, by have := ht.out; omega, rfl⟩)⟩
end Go.Proofs.Ytnophjkiecalpaa
