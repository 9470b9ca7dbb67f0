/- A mark where a block may begin, done by the program. -/
import Derived.Test.YtnophjkiecalpaaLayEnd
import Derived.Deep.DrawnRows
namespace Go.Proofs.Ytnophjkiecalpaa
open Go.RowKit
attribute [local go_sem ↓] Go.wp_at_zero Go.wp_at_succ

/-- The four boxes that such a function begins with: those of its arguments, and those of its results. -/
structure Four (w W : World) (t : Tok) (v0 v1 v2 v3 : Value) : Prop where
  t : Box4 W w.heap.size (.int .i64 t.kind) (.string t.text) (.int .i64 t.line) (.int .i64 t.col)
  x : Box4 W (w.heap.size + 1) v0 v1 v2 v3
  y : Box4 W (w.heap.size + 1 + 1) (.int .i64 0) (.string ⟨#[]⟩) (.int .i64 0) (.int .i64 0)
  z : Box4 W (w.heap.size + 1 + 1 + 1) (.slice none 0 0) (.int .i64 0) (.slice none 0 0) (.int .i64 0)
  below : Below w.heap.size w W
  size : W.heap.size = w.heap.size + 1 + 1 + 1 + 1
theorem Four.new (w : World) (t : Tok) (v0 v1 v2 v3 : Value) : Four w ((((w.alloc (.cells #[.int .i64 t.kind, .string t.text, .int .i64 t.line, .int .i64 t.col] 23)).alloc (.cells #[v0, v1, v2, v3] 34)).alloc (.cells #[.int .i64 0, .string ⟨#[]⟩, .int .i64 0, .int .i64 0] 23)).alloc (.cells #[.slice none 0 0, .int .i64 0, .slice none 0 0, .int .i64 0] 34)) t v0 v1 v2 v3 := by
  have h := Three.new (w.alloc (.cells #[.int .i64 t.kind, .string t.text, .int .i64 t.line, .int .i64 t.col] 23)) v0 v1 v2 v3
  have hb : Below w.heap.size w (w.alloc (.cells #[.int .i64 t.kind, .string t.text, .int .i64 t.line, .int .i64 t.col] 23)) := (Below.refl _ _).alloc (Nat.le_refl _) _
  have hs : (w.alloc (.cells #[.int .i64 t.kind, .string t.text, .int .i64 t.line, .int .i64 t.col] 23)).heap.size = w.heap.size + 1 := by simp
  obtain ⟨hx, hy, hz, hbb, hss⟩ := h
  have ht := (Box4.new w (.int .i64 t.kind) (.string t.text) (.int .i64 t.line) (.int .i64 t.col) 23).below hbb (by omega)
  rw [hs] at hx hy hz hss hbb
  exact ⟨ht, hx, hy, hz, hb.trans (hbb.mono (by omega)), hss⟩

/-- The boxes of such a function, in the midst of it: N is where they begin. -/
structure Quad (N : Nat) (W : World) (t : Tok) (v0 v1 v2 v3 : Value) : Prop where
  t : Box4 W N (.int .i64 t.kind) (.string t.text) (.int .i64 t.line) (.int .i64 t.col)
  x : Box4 W (N + 1) v0 v1 v2 v3
  y : Box4 W (N + 1 + 1) (.int .i64 0) (.string ⟨#[]⟩) (.int .i64 0) (.int .i64 0)
  z : Box4 W (N + 1 + 1 + 1) (.slice none 0 0) (.int .i64 0) (.slice none 0 0) (.int .i64 0)
  size : N + 1 + 1 + 1 < W.heap.size
theorem Four.quad {w W : World} {t : Tok} {v0 v1 v2 v3 : Value} (h : Four w W t v0 v1 v2 v3) : Quad w.heap.size W t v0 v1 v2 v3 := ⟨h.t, h.x, h.y, h.z, by rw [h.size]; omega⟩
theorem Quad.below {N : Nat} {W W' : World} {t : Tok} {v0 v1 v2 v3 : Value} (h : Quad N W t v0 v1 v2 v3) (hb : Below W.heap.size W W') : Quad N W' t v0 v1 v2 v3 := by
  have hs := h.size
  exact ⟨h.t.below hb (by omega), h.x.below hb (by omega), h.y.below hb (by omega), h.z.below hb hs, Nat.lt_of_lt_of_le hs hb.size⟩
theorem Quad.put {N : Nat} {W : World} {t : Tok} {v0 v1 v2 v3 : Value} (h : Quad N W t v0 v1 v2 v3) (u0 u1 u2 u3 : Value) : Quad N (put4 W (N + 1) u0 u1 u2 u3) t u0 u1 u2 u3 :=
  ⟨h.t.put_other (by omega) _ _ _ _, h.x.put _ _ _ _, h.y.put_other (by omega) _ _ _ _, h.z.put_other (by omega) _ _ _ _, by rw [put4_size]; exact h.size⟩
theorem Quad.set1 {N : Nat} {W : World} {t : Tok} {v0 v1 v2 v3 : Value} (h : Quad N W t v0 v1 v2 v3) (u : Value) : Quad N (W.setCell ⟨N + 1, 1, none⟩ u) t v0 u v2 v3 :=
  ⟨h.t.set_other (by omega) _, h.x.set1 _, h.y.set_other (by omega) _, h.z.set_other (by omega) _, by simpa using h.size⟩
theorem Quad.set3 {N : Nat} {W : World} {t : Tok} {v0 v1 v2 v3 : Value} (h : Quad N W t v0 v1 v2 v3) (u : Value) : Quad N (W.setCell ⟨N + 1, 3, none⟩ u) t v0 v1 v2 u :=
  ⟨h.t.set_other (by omega) _, h.x.set3 _, h.y.set_other (by omega) _, h.z.set_other (by omega) _, by simpa using h.size⟩
theorem Fresh.set {base b o : Nat} {W : World} {v : Value} {zs : List Int} (h : Fresh base W v zs) (hb : b < base) (u : Value) : Fresh base (W.setCell ⟨b, o, none⟩ u) v zs := ownsRow_setCell_below (a := ⟨b, o, none⟩) h hb u

set_option maxHeartbeats 1600000 in
theorem begin1_lay (t : Tok) (A0 A : Option Addr) (m n0 n : Nat) (p : Int) (zs : List Int) (w : World) :
    Calls Try.prog 36 #[.agg #[.int .i64 t.kind, .string t.text, .int .i64 t.line, .int .i64 t.col], .agg #[.slice A0 m n0, .int .i64 p, .slice A zs.length n, .int .i64 1]] w fun e w' =>
      e = .returned (.tuple #[.agg #[.int .i64 20, .string ⟨#[]⟩, .int .i64 t.line, .int .i64 t.col], .agg #[.slice A0 m n0, .int .i64 p, .slice A zs.length n, .int .i64 2]]) ∧ Below w.heap.size w w' := by
  have h4 := Four.new w t (.slice A0 m n0) (.int .i64 p) (.slice A zs.length n) (.int .i64 2)
  have H4 := Lib.hid h4
  clear h4
  go_enter Try.func36, Try.ntmps36
  go_wp2_with fail
  obtain ⟨W, hW⟩ : ∃ W, (((w.alloc (.cells #[.int .i64 t.kind, .string t.text, .int .i64 t.line, .int .i64 t.col] 23)).alloc (.cells #[.slice A0 m n0, .int .i64 p, .slice A zs.length n, .int .i64 2] 34)).alloc (.cells #[.int .i64 0, .string ⟨#[]⟩, .int .i64 0, .int .i64 0] 23)).alloc (.cells #[.slice none 0 0, .int .i64 0, .slice none 0 0, .int .i64 0] 34) = W := ⟨_, rfl⟩
  have h4 := H4.out
  rw [hW] at h4 ⊢
  clear H4 hW
  obtain ⟨⟨t0, t1, t2, t3, _, _, _, _⟩, hx, hy, hz, hb, hs⟩ := h4
  obtain ⟨x0, x1, x2, x3, _, _, _, _⟩ := id hx
  have hsl : w.heap.size + 1 + 1 + 1 < W.heap.size := by omega
  have HS := Lib.hid hs
  clear hs
  go_region_with (go_at_call 53; refine (unwritten_any 20 t _).mono ?_; rintro e w1 ⟨rfl, hbf⟩; have hq : Below W.heap.size W w1 := (Below.refl _ W).drew.trans hbf; obtain ⟨a0, a1, a2, a3, _, _, _, _⟩ := hx.below hq (by omega); obtain ⟨y0, y1, y2, y3, g0, g1, g2, g3⟩ := hy.below hq (by omega); obtain ⟨z0, z1, z2, z3, f0, f1, f2, f3⟩ := hz.below hq (by omega))
  all_goals
    go_wp2
    exact bodyPost_ret (v := .tuple #[.agg #[.int .i64 20, .string ⟨#[]⟩, .int .i64 t.line, .int .i64 t.col], .agg #[.slice A0 m n0, .int .i64 p, .slice A zs.length n, .int .i64 2]]) (by simp [results, Try.results36, go_sem, y0, y1, y2, y3, z0, z1, z2, z3]) rfl
      ⟨rfl, put4_below (put4_below (hb.trans (hq.mono (by omega))) (by omega) _ _ _ _) (by omega) _ _ _ _⟩

theorem ints_keep {w0 wx : World} {A : Option Addr} {zs : List Int} {a0 a1 a2 a3 a4 : Addr} {u0 u1 u2 u3 u4 : Value} (hI : Ints w0.heap.size w0 A zs) (h : wx.cell? a0 = some u0 ∧ wx.cell? a1 = some u1 ∧ wx.cell? a2 = some u2 ∧ wx.cell? a3 = some u3 ∧ wx.cell? a4 = some u4 ∧ Below w0.heap.size w0 wx) : Ints wx.heap.size wx A zs :=
  let q := h.2.2.2.2.2
  (hI.below q).mono q.size

set_option maxHeartbeats 1600000 in
theorem begin2_lay (t : Tok) (A0 A : Option Addr) (m n0 n : Nat) (p wt : Int) (zs : List Int) (w : World) (hp : 0 ≤ p ∧ p ≤ 1000000) (hn : zs.length ≤ 1000000) (hc : A = none → n = 0) (h : Ints w.heap.size w A zs) (hwt : (wt == 1) = false) (htop : topOf zs < t.col) :
    Calls Try.prog 36 #[.agg #[.int .i64 t.kind, .string t.text, .int .i64 t.line, .int .i64 t.col], .agg #[.slice A0 m n0, .int .i64 p, .slice A zs.length n, .int .i64 wt]] w fun e w' =>
      ∃ v, Fresh w.heap.size w' v (zs ++ [t.col]) ∧ e = .returned (.tuple #[.agg #[.int .i64 18, .string ⟨#[]⟩, .int .i64 t.line, .int .i64 t.col], .agg #[.slice A0 m n0, .int .i64 (p + 1), v, .int .i64 wt]]) ∧ Below w.heap.size w w' := by
  have h4 := Four.new w t (.slice A0 m n0) (.int .i64 p) (.slice A zs.length n) (.int .i64 wt)
  have HI := Lib.hid ((h.below h4.below).mono h4.below.size)
  have H4 := Lib.hid h4
  have HC := Lib.hid hc
  clear h4 h hc
  go_enter Try.func36, Try.ntmps36
  go_wp2_with fail
  obtain ⟨W, hW⟩ : ∃ W, (((w.alloc (.cells #[.int .i64 t.kind, .string t.text, .int .i64 t.line, .int .i64 t.col] 23)).alloc (.cells #[.slice A0 m n0, .int .i64 p, .slice A zs.length n, .int .i64 wt] 34)).alloc (.cells #[.int .i64 0, .string ⟨#[]⟩, .int .i64 0, .int .i64 0] 23)).alloc (.cells #[.slice none 0 0, .int .i64 0, .slice none 0 0, .int .i64 0] 34) = W := ⟨_, rfl⟩
  have h4 := H4.out
  have hI := HI.out
  rw [hW] at h4 hI ⊢
  clear H4 hW HI
  have hQ := h4.quad
  have hb := h4.below
  obtain ⟨⟨_, _, _, t3, _, _, _, _⟩, ⟨x0, x1, x2, x3, _, _, _, _⟩, _, _, hsl⟩ := id hQ
  have HI := Lib.hid hI
  clear hI h4
  go_region_held3 (fun w' : World => w'.cell? ⟨w.heap.size, 3, none⟩ = some (.int .i64 t.col) ∧ w'.cell? ⟨w.heap.size + 1, 0, none⟩ = some (.slice A0 m n0) ∧ w'.cell? ⟨w.heap.size + 1, 1, none⟩ = some (.int .i64 p) ∧ w'.cell? ⟨w.heap.size + 1, 2, none⟩ = some (.slice A zs.length n) ∧ w'.cell? ⟨w.heap.size + 1, 3, none⟩ = some (.int .i64 wt) ∧ Below W.heap.size W w')
    (first | (exact ⟨t3, x0, x1, x2, x3, (Below.refl _ _).drew⟩) | (exact held5 (by assumption) hbf (by dsimp only; omega) (by dsimp only; omega) (by dsimp only; omega) (by dsimp only; omega) (by dsimp only; omega)) | assumption)
    (first | (go_at_call 45; refine (ltop_any _ _ _ A zs n _ (by omega) (ints_keep HI.out (by assumption))).mono ?_; rintro e w1 ⟨rfl, hbf⟩))
  rename_i hH
  have hq : Below W.heap.size W w1 := hH.2.2.2.2.2
  have hI1 := Lib.hid ((HI.out.below hq).mono hq.size)
  have hsz := hq.size
  have hQ1 := hQ.below hq
  have HB1 := Lib.hid (hb.trans (hq.mono (by omega)))
  clear x0 x1 x2 x3 t3 hH HI hbf hq hQ hb
  obtain ⟨⟨_, _, _, t3, _, _, _, _⟩, ⟨x0, x1, x2, x3, _, _, _, _⟩, _, _, hsl1⟩ := id hQ1
  go_wp2_with fail
  refine (opened_any A0 A m n0 p wt t.col zs n _ (by omega) HC.out hI1.out).mono ?_
  rintro e w2 ⟨v, rfl, hfr, hb2⟩
  obtain ⟨A', c', rfl⟩ := hfr.form
  have hQ2 := hQ1.below hb2
  have HB2 := Lib.hid (HB1.out.trans (hb2.mono (by omega)))
  have HF := Lib.hid hfr
  clear x0 x1 x2 x3 t3 hQ1 HB1 hfr hb2
  obtain ⟨_, ⟨x0, x1, x2, x3, e0, e1, e2, e3⟩, _, _, hsl2⟩ := id hQ2
  go_wp2_with fail
  have hQ3 := (hQ2.put (.slice A0 m n0) (.int .i64 p) (.slice A' (zs ++ [t.col]).length c') (.int .i64 wt)).set1 (.int .i64 (p + 1))
  have HB3 := Lib.hid ((put4_below HB2.out (b := w.heap.size + 1) (by omega) (.slice A0 m n0) (.int .i64 p) (.slice A' (zs ++ [t.col]).length c') (.int .i64 wt)).setCell (p := ⟨w.heap.size + 1, 1, none⟩) (by simp) (.int .i64 (p + 1)))
  have HF3 := Lib.hid (Fresh.set (b := w.heap.size + 1) (o := 1) (put4_fresh HF.out (b := w.heap.size + 1) (by omega) (.slice A0 m n0) (.int .i64 p) (.slice A' (zs ++ [t.col]).length c') (.int .i64 wt)) (by omega) (.int .i64 (p + 1)))
  clear x0 x1 x2 x3 e0 e1 e2 e3 hQ2 HB2 HF
  simp only [List.length_append, List.length_cons, List.length_nil, Nat.zero_add] at hQ3 HB3 HF3 ⊢
  obtain ⟨W3, hW3⟩ : ∃ W3, ((put4 w2 (w.heap.size + 1) (.slice A0 m n0) (.int .i64 p) (.slice A' (zs.length + 1) c') (.int .i64 wt)).setCell ⟨w.heap.size + 1, 1, none⟩ (.int .i64 (p + 1))) = W3 := ⟨_, rfl⟩
  rw [hW3] at hQ3 HB3 HF3
  unfold put4 at hW3
  rw [hW3]
  clear hW3
  obtain ⟨⟨t0, t1, t2, t3, _, _, _, _⟩, ⟨x0, x1, x2, x3, _, _, _, _⟩, _, _, hsl3⟩ := id hQ3
  go_region_with (go_at_call 53; refine (unwritten_any 18 t _).mono ?_; rintro e w4 ⟨rfl, hbf⟩; have hq : Below W3.heap.size W3 w4 := (Below.refl _ W3).drew.trans hbf; obtain ⟨_, ⟨a0, a1, a2, a3, _, _, _, _⟩, ⟨y0, y1, y2, y3, g0, g1, g2, g3⟩, ⟨z0, z1, z2, z3, f0, f1, f2, f3⟩, _⟩ := hQ3.below hq)
  all_goals
    go_wp2
    exact bodyPost_ret (v := .tuple #[.agg #[.int .i64 18, .string ⟨#[]⟩, .int .i64 t.line, .int .i64 t.col], .agg #[.slice A0 m n0, .int .i64 (p + 1), .slice A' (zs.length + 1) c', .int .i64 wt]]) (by simp [results, Try.results36, go_sem, y0, y1, y2, y3, z0, z1, z2, z3]) rfl
      ⟨_, Fresh.mono (put4_fresh (put4_fresh (Fresh.below HF3.out hq) (by omega) _ _ _ _) (by omega) _ _ _ _) (by omega), rfl, put4_below (put4_below (HB3.out.trans (hq.mono (by omega))) (by omega) _ _ _ _) (by omega) _ _ _ _⟩
end Go.Proofs.Ytnophjkiecalpaa
