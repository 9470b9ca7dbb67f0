/- A token that may be a brace, done by the program. -/
import Derived.Test.YtnophjkiecalpaaLayLine
namespace Go.Proofs.Ytnophjkiecalpaa
open Go.RowKit
attribute [local go_sem ↓] Go.wp_at_zero Go.wp_at_succ

set_option maxHeartbeats 1600000 in
theorem brace1_lay (t : Tok) (A0 A : Option Addr) (m n0 n : Nat) (p wt : Int) (zs : List Int) (w : World) (hp : 0 ≤ p ∧ p ≤ 1000000) (_hn : zs.length ≤ 1000000) (hk : (t.kind == 15) = false) :
    Calls Try.prog 38 #[.agg #[.int .i64 t.kind, .string t.text, .int .i64 t.line, .int .i64 t.col], .agg #[.slice A0 m n0, .int .i64 p, .slice A zs.length n, .int .i64 wt]] w fun e w' =>
      e = .returned (.tuple #[.agg #[.int .i64 t.kind, .string t.text, .int .i64 t.line, .int .i64 t.col], .agg #[.slice A0 m n0, .int .i64 (p + 1), .slice A zs.length n, .int .i64 wt], .int .i64 0]) ∧ Below w.heap.size w w' := by
  have h4 := Four.new w t (.slice A0 m n0) (.int .i64 p) (.slice A zs.length n) (.int .i64 wt)
  have H4 := Lib.hid h4
  clear h4
  go_enter Try.func38, Try.ntmps38
  go_upto_region 1 with (fail)
  obtain ⟨W, hW⟩ : ∃ W, (((w.alloc (.cells #[.int .i64 t.kind, .string t.text, .int .i64 t.line, .int .i64 t.col] 23)).alloc (.cells #[.slice A0 m n0, .int .i64 p, .slice A zs.length n, .int .i64 wt] 34)).alloc (.cells #[.int .i64 0, .string ⟨#[]⟩, .int .i64 0, .int .i64 0] 23)).alloc (.cells #[.slice none 0 0, .int .i64 0, .slice none 0 0, .int .i64 0] 34) = W := ⟨_, rfl⟩
  have h4 := H4.out
  rw [hW] at h4 ⊢
  clear H4 hW
  have hQ := h4.quad
  have HB := Lib.hid h4.below
  clear h4
  obtain ⟨⟨t0, t1, t2, t3, _, _, _, _⟩, ⟨x0, x1, x2, x3, e0, e1, e2, e3⟩, ⟨y0, y1, y2, y3, g0, g1, g2, g3⟩, ⟨z0, z1, z2, z3, f0, f1, f2, f3⟩, hsl⟩ := id hQ
  go_wp2_with fail
  have hQ9 := hQ.set1 (.int .i64 (p + 1))
  have HB9 := Lib.hid (HB.out.setCell (p := ⟨w.heap.size + 1, 1, none⟩) (by simp) (.int .i64 (p + 1)))
  clear t0 t1 t2 t3 x0 x1 x2 x3 e0 e1 e2 e3 y0 y1 y2 y3 g0 g1 g2 g3 z0 z1 z2 z3 f0 f1 f2 f3 hQ HB
  obtain ⟨W9, hW9⟩ : ∃ W9, W.setCell ⟨w.heap.size + 1, 1, none⟩ (.int .i64 (p + 1)) = W9 := ⟨_, rfl⟩
  rw [hW9] at hQ9 HB9 ⊢
  clear hW9
  obtain ⟨⟨t0, t1, t2, t3, _, _, _, _⟩, ⟨x0, x1, x2, x3, _, _, _, _⟩, ⟨y0, y1, y2, y3, g0, g1, g2, g3⟩, ⟨z0, z1, z2, z3, f0, f1, f2, f3⟩, hsl9⟩ := id hQ9
  go_region
  all_goals
    go_wp2
    exact bodyPost_ret (v := .tuple #[.agg #[.int .i64 t.kind, .string t.text, .int .i64 t.line, .int .i64 t.col], .agg #[.slice A0 m n0, .int .i64 (p + 1), .slice A zs.length n, .int .i64 wt], .int .i64 0]) (by simp [results, Try.results38, go_sem, y0, y1, y2, y3, z0, z1, z2, z3]) rfl
      ⟨rfl, (put4_below (put4_below HB9.out (by omega) _ _ _ _) (by omega) _ _ _ _).drew⟩

set_option maxHeartbeats 1600000 in
theorem brace2_lay (t : Tok) (A0 A : Option Addr) (m n0 n : Nat) (p wt : Int) (zs : List Int) (w : World) (hp : 0 ≤ p ∧ p ≤ 1000000) (_hn : zs.length ≤ 1000000) (hk : (t.kind == 15) = true) (h1 : (t.text.toList == [123]) = false) (h2 : (t.text.toList == [125]) = false) :
    Calls Try.prog 38 #[.agg #[.int .i64 t.kind, .string t.text, .int .i64 t.line, .int .i64 t.col], .agg #[.slice A0 m n0, .int .i64 p, .slice A zs.length n, .int .i64 wt]] w fun e w' =>
      e = .returned (.tuple #[.agg #[.int .i64 t.kind, .string t.text, .int .i64 t.line, .int .i64 t.col], .agg #[.slice A0 m n0, .int .i64 (p + 1), .slice A zs.length n, .int .i64 wt], .int .i64 0]) ∧ Below w.heap.size w w' := by
  have h4 := Four.new w t (.slice A0 m n0) (.int .i64 p) (.slice A zs.length n) (.int .i64 wt)
  have H4 := Lib.hid h4
  clear h4
  go_enter Try.func38, Try.ntmps38
  go_upto_region 1 with (fail)
  obtain ⟨W, hW⟩ : ∃ W, (((w.alloc (.cells #[.int .i64 t.kind, .string t.text, .int .i64 t.line, .int .i64 t.col] 23)).alloc (.cells #[.slice A0 m n0, .int .i64 p, .slice A zs.length n, .int .i64 wt] 34)).alloc (.cells #[.int .i64 0, .string ⟨#[]⟩, .int .i64 0, .int .i64 0] 23)).alloc (.cells #[.slice none 0 0, .int .i64 0, .slice none 0 0, .int .i64 0] 34) = W := ⟨_, rfl⟩
  have h4 := H4.out
  rw [hW] at h4 ⊢
  clear H4 hW
  have hQ := h4.quad
  have HB := Lib.hid h4.below
  clear h4
  obtain ⟨⟨t0, t1, t2, t3, _, _, _, _⟩, ⟨x0, x1, x2, x3, e0, e1, e2, e3⟩, ⟨y0, y1, y2, y3, g0, g1, g2, g3⟩, ⟨z0, z1, z2, z3, f0, f1, f2, f3⟩, hsl⟩ := id hQ
  go_wp2_with fail
  have hQ9 := hQ.set1 (.int .i64 (p + 1))
  have HB9 := Lib.hid (HB.out.setCell (p := ⟨w.heap.size + 1, 1, none⟩) (by simp) (.int .i64 (p + 1)))
  clear t0 t1 t2 t3 x0 x1 x2 x3 e0 e1 e2 e3 y0 y1 y2 y3 g0 g1 g2 g3 z0 z1 z2 z3 f0 f1 f2 f3 hQ HB
  obtain ⟨W9, hW9⟩ : ∃ W9, W.setCell ⟨w.heap.size + 1, 1, none⟩ (.int .i64 (p + 1)) = W9 := ⟨_, rfl⟩
  rw [hW9] at hQ9 HB9 ⊢
  clear hW9
  obtain ⟨⟨t0, t1, t2, t3, _, _, _, _⟩, ⟨x0, x1, x2, x3, _, _, _, _⟩, ⟨y0, y1, y2, y3, g0, g1, g2, g3⟩, ⟨z0, z1, z2, z3, f0, f1, f2, f3⟩, hsl9⟩ := id hQ9
  go_region
  all_goals
    go_wp2
    exact bodyPost_ret (v := .tuple #[.agg #[.int .i64 t.kind, .string t.text, .int .i64 t.line, .int .i64 t.col], .agg #[.slice A0 m n0, .int .i64 (p + 1), .slice A zs.length n, .int .i64 wt], .int .i64 0]) (by simp [results, Try.results38, go_sem, y0, y1, y2, y3, z0, z1, z2, z3]) rfl
      ⟨rfl, (put4_below (put4_below HB9.out (by omega) _ _ _ _) (by omega) _ _ _ _).drew⟩

set_option maxHeartbeats 1600000 in
theorem brace3_lay (t : Tok) (A0 A : Option Addr) (m n0 n : Nat) (p wt : Int) (zs : List Int) (w : World) (_hp : 0 ≤ p ∧ p ≤ 1000000) (_hn : zs.length ≤ 1000000) (hk : (t.kind == 15) = true) (h1 : (t.text.toList == [123]) = false) (h2 : (t.text.toList == [125]) = true) (hz : ((zs.length : Int) == 0) = true) :
    Calls Try.prog 38 #[.agg #[.int .i64 t.kind, .string t.text, .int .i64 t.line, .int .i64 t.col], .agg #[.slice A0 m n0, .int .i64 p, .slice A zs.length n, .int .i64 wt]] w fun e w' =>
      e = .returned (.tuple #[.agg #[.int .i64 0, .string ⟨#[]⟩, .int .i64 0, .int .i64 0], .agg #[.slice A0 m n0, .int .i64 p, .slice A zs.length n, .int .i64 wt], .int .i64 90]) ∧ Below w.heap.size w w' := by
  have h4 := Four.new w t (.slice A0 m n0) (.int .i64 p) (.slice A zs.length n) (.int .i64 wt)
  have H4 := Lib.hid h4
  clear h4
  go_enter Try.func38, Try.ntmps38
  go_upto_region 1 with (fail)
  obtain ⟨W, hW⟩ : ∃ W, (((w.alloc (.cells #[.int .i64 t.kind, .string t.text, .int .i64 t.line, .int .i64 t.col] 23)).alloc (.cells #[.slice A0 m n0, .int .i64 p, .slice A zs.length n, .int .i64 wt] 34)).alloc (.cells #[.int .i64 0, .string ⟨#[]⟩, .int .i64 0, .int .i64 0] 23)).alloc (.cells #[.slice none 0 0, .int .i64 0, .slice none 0 0, .int .i64 0] 34) = W := ⟨_, rfl⟩
  have h4 := H4.out
  rw [hW] at h4 ⊢
  clear H4 hW
  have hQ := h4.quad
  have HB := Lib.hid h4.below
  clear h4
  obtain ⟨⟨t0, t1, t2, t3, _, _, _, _⟩, ⟨x0, x1, x2, x3, e0, e1, e2, e3⟩, ⟨y0, y1, y2, y3, g0, g1, g2, g3⟩, ⟨z0, z1, z2, z3, f0, f1, f2, f3⟩, hsl⟩ := id hQ
  go_wp2_with fail
  go_region
  all_goals
    go_wp2
    exact bodyPost_ret (v := .tuple #[.agg #[.int .i64 0, .string ⟨#[]⟩, .int .i64 0, .int .i64 0], .agg #[.slice A0 m n0, .int .i64 p, .slice A zs.length n, .int .i64 wt], .int .i64 90]) (by simp [results, Try.results38, go_sem, y0, y1, y2, y3, z0, z1, z2, z3]) rfl
      ⟨rfl, (put4_below (put4_below HB.out (by omega) _ _ _ _) (by omega) _ _ _ _).drew⟩

set_option maxHeartbeats 1600000 in
theorem brace4_lay (t : Tok) (A0 A : Option Addr) (m n0 n : Nat) (p wt : Int) (zs : List Int) (w : World) (_hp : 0 ≤ p ∧ p ≤ 1000000) (hn : zs.length ≤ 1000000) (h : Ints w.heap.size w A zs) (hk : (t.kind == 15) = true) (h1 : (t.text.toList == [123]) = false) (h2 : (t.text.toList == [125]) = true) (hz : ((zs.length : Int) == 0) = false) (ht : (topOf zs != 0) = true) :
    Calls Try.prog 38 #[.agg #[.int .i64 t.kind, .string t.text, .int .i64 t.line, .int .i64 t.col], .agg #[.slice A0 m n0, .int .i64 p, .slice A zs.length n, .int .i64 wt]] w fun e w' =>
      e = .returned (.tuple #[.agg #[.int .i64 0, .string ⟨#[]⟩, .int .i64 0, .int .i64 0], .agg #[.slice A0 m n0, .int .i64 p, .slice A zs.length n, .int .i64 wt], .int .i64 90]) ∧ Below w.heap.size w w' := by
  have h4 := Four.new w t (.slice A0 m n0) (.int .i64 p) (.slice A zs.length n) (.int .i64 wt)
  have HI := Lib.hid ((h.below h4.below).mono h4.below.size)
  clear h
  have H4 := Lib.hid h4
  clear h4
  go_enter Try.func38, Try.ntmps38
  go_upto_region 1 with (fail)
  obtain ⟨W, hW⟩ : ∃ W, (((w.alloc (.cells #[.int .i64 t.kind, .string t.text, .int .i64 t.line, .int .i64 t.col] 23)).alloc (.cells #[.slice A0 m n0, .int .i64 p, .slice A zs.length n, .int .i64 wt] 34)).alloc (.cells #[.int .i64 0, .string ⟨#[]⟩, .int .i64 0, .int .i64 0] 23)).alloc (.cells #[.slice none 0 0, .int .i64 0, .slice none 0 0, .int .i64 0] 34) = W := ⟨_, rfl⟩
  have h4 := H4.out
  have hI := HI.out
  rw [hW] at h4 hI ⊢
  clear H4 hW HI
  have HI := Lib.hid hI
  clear hI
  have hQ := h4.quad
  have HB := Lib.hid h4.below
  clear h4
  obtain ⟨⟨t0, t1, t2, t3, _, _, _, _⟩, ⟨x0, x1, x2, x3, e0, e1, e2, e3⟩, ⟨y0, y1, y2, y3, g0, g1, g2, g3⟩, ⟨z0, z1, z2, z3, f0, f1, f2, f3⟩, hsl⟩ := id hQ
  go_wp2_with fail
  refine (ltop_any _ _ _ A zs n _ (by omega) HI.out).mono ?_
  rintro e w1 ⟨rfl, hb1⟩
  have hQ1 := hQ.below hb1
  have HB1 := Lib.hid (HB.out.trans (hb1.mono (by omega)))
  have HI1 := Lib.hid ((HI.out.below hb1).mono hb1.size)
  clear t0 t1 t2 t3 x0 x1 x2 x3 e0 e1 e2 e3 y0 y1 y2 y3 g0 g1 g2 g3 z0 z1 z2 z3 f0 f1 f2 f3 hQ HB HI hb1
  obtain ⟨⟨t0, t1, t2, t3, _, _, _, _⟩, ⟨x0, x1, x2, x3, e0, e1, e2, e3⟩, ⟨y0, y1, y2, y3, g0, g1, g2, g3⟩, ⟨z0, z1, z2, z3, f0, f1, f2, f3⟩, hsl1⟩ := id hQ1
  go_wp2_with fail
  go_region
  all_goals
    go_wp2
    exact bodyPost_ret (v := .tuple #[.agg #[.int .i64 0, .string ⟨#[]⟩, .int .i64 0, .int .i64 0], .agg #[.slice A0 m n0, .int .i64 p, .slice A zs.length n, .int .i64 wt], .int .i64 90]) (by simp [results, Try.results38, go_sem, y0, y1, y2, y3, z0, z1, z2, z3]) rfl
      ⟨rfl, (put4_below (put4_below HB1.out (by omega) _ _ _ _) (by omega) _ _ _ _).drew⟩

set_option maxHeartbeats 1600000 in
theorem brace5_lay (t : Tok) (A0 A : Option Addr) (m n0 n : Nat) (p wt : Int) (zs : List Int) (w : World) (hp : 0 ≤ p ∧ p ≤ 1000000) (hn : zs.length ≤ 1000000) (h : Ints w.heap.size w A zs) (hc : A = none → n = 0) (hk : (t.kind == 15) = true) (h1 : (t.text.toList == [123]) = true) :
    Calls Try.prog 38 #[.agg #[.int .i64 t.kind, .string t.text, .int .i64 t.line, .int .i64 t.col], .agg #[.slice A0 m n0, .int .i64 p, .slice A zs.length n, .int .i64 wt]] w fun e w' =>
      ∃ v, Fresh w.heap.size w' v (zs ++ [0]) ∧ e = .returned (.tuple #[.agg #[.int .i64 t.kind, .string t.text, .int .i64 t.line, .int .i64 t.col], .agg #[.slice A0 m n0, .int .i64 (p + 1), v, .int .i64 wt], .int .i64 0]) ∧ Below w.heap.size w w' := by
  have HC := Lib.hid hc
  clear hc
  have h4 := Four.new w t (.slice A0 m n0) (.int .i64 p) (.slice A zs.length n) (.int .i64 wt)
  have HI := Lib.hid ((h.below h4.below).mono h4.below.size)
  clear h
  have H4 := Lib.hid h4
  clear h4
  go_enter Try.func38, Try.ntmps38
  go_upto_region 1 with (fail)
  obtain ⟨W, hW⟩ : ∃ W, (((w.alloc (.cells #[.int .i64 t.kind, .string t.text, .int .i64 t.line, .int .i64 t.col] 23)).alloc (.cells #[.slice A0 m n0, .int .i64 p, .slice A zs.length n, .int .i64 wt] 34)).alloc (.cells #[.int .i64 0, .string ⟨#[]⟩, .int .i64 0, .int .i64 0] 23)).alloc (.cells #[.slice none 0 0, .int .i64 0, .slice none 0 0, .int .i64 0] 34) = W := ⟨_, rfl⟩
  have h4 := H4.out
  have hI := HI.out
  rw [hW] at h4 hI ⊢
  clear H4 hW HI
  have HI := Lib.hid hI
  clear hI
  have hQ := h4.quad
  have HB := Lib.hid h4.below
  clear h4
  obtain ⟨⟨t0, t1, t2, t3, _, _, _, _⟩, ⟨x0, x1, x2, x3, e0, e1, e2, e3⟩, ⟨y0, y1, y2, y3, g0, g1, g2, g3⟩, ⟨z0, z1, z2, z3, f0, f1, f2, f3⟩, hsl⟩ := id hQ
  go_wp2_with fail
  refine (opened_any A0 A m n0 p wt 0 zs n _ (by omega) HC.out HI.out).mono ?_
  rintro e w2 ⟨v, rfl, hfr, hb2⟩
  obtain ⟨A', c', rfl⟩ := hfr.form
  have hQ2 := hQ.below hb2
  have HB2 := Lib.hid (HB.out.trans (hb2.mono (by omega)))
  have HF := Lib.hid hfr
  clear t0 t1 t2 t3 x0 x1 x2 x3 e0 e1 e2 e3 y0 y1 y2 y3 g0 g1 g2 g3 z0 z1 z2 z3 f0 f1 f2 f3 hQ HB HI hfr hb2
  obtain ⟨⟨t0, t1, t2, t3, _, _, _, _⟩, ⟨x0, x1, x2, x3, e0, e1, e2, e3⟩, ⟨y0, y1, y2, y3, g0, g1, g2, g3⟩, ⟨z0, z1, z2, z3, f0, f1, f2, f3⟩, hsl2⟩ := id hQ2
  go_wp2_with fail
  have hQ9 := (hQ2.put (.slice A0 m n0) (.int .i64 p) (.slice A' (zs ++ [0]).length c') (.int .i64 wt)).set1 (.int .i64 (p + 1))
  have HB9 := Lib.hid ((put4_below HB2.out (b := w.heap.size + 1) (by omega) (.slice A0 m n0) (.int .i64 p) (.slice A' (zs ++ [0]).length c') (.int .i64 wt)).setCell (p := ⟨w.heap.size + 1, 1, none⟩) (by simp) (.int .i64 (p + 1)))
  have HF9 := Lib.hid (Fresh.set (b := w.heap.size + 1) (o := 1) (put4_fresh HF.out (b := w.heap.size + 1) (by omega) (.slice A0 m n0) (.int .i64 p) (.slice A' (zs ++ [0]).length c') (.int .i64 wt)) (by omega) (.int .i64 (p + 1)))
  clear t0 t1 t2 t3 x0 x1 x2 x3 e0 e1 e2 e3 y0 y1 y2 y3 g0 g1 g2 g3 z0 z1 z2 z3 f0 f1 f2 f3 hQ2 HB2 HF
  simp only [List.length_append, List.length_cons, List.length_nil, Nat.zero_add] at hQ9 HB9 HF9 ⊢
  obtain ⟨W9, hW9⟩ : ∃ W9, ((put4 w2 (w.heap.size + 1) (.slice A0 m n0) (.int .i64 p) (.slice A' (zs.length + 1) c') (.int .i64 wt)).setCell ⟨w.heap.size + 1, 1, none⟩ (.int .i64 (p + 1))) = W9 := ⟨_, rfl⟩
  rw [hW9] at hQ9 HB9 HF9
  unfold put4 at hW9
  rw [hW9]
  clear hW9
  obtain ⟨⟨t0, t1, t2, t3, _, _, _, _⟩, ⟨x0, x1, x2, x3, _, _, _, _⟩, ⟨y0, y1, y2, y3, g0, g1, g2, g3⟩, ⟨z0, z1, z2, z3, f0, f1, f2, f3⟩, hsl9⟩ := id hQ9
  go_region
  all_goals
    go_wp2
    exact bodyPost_ret (v := .tuple #[.agg #[.int .i64 t.kind, .string t.text, .int .i64 t.line, .int .i64 t.col], .agg #[.slice A0 m n0, .int .i64 (p + 1), (.slice A' (zs.length + 1) c'), .int .i64 wt], .int .i64 0]) (by simp [results, Try.results38, go_sem, y0, y1, y2, y3, z0, z1, z2, z3]) rfl
      ⟨_, Fresh.drew (Fresh.mono (put4_fresh (put4_fresh HF9.out (by omega) _ _ _ _) (by omega) _ _ _ _) (by omega)), rfl, (put4_below (put4_below HB9.out (by omega) _ _ _ _) (by omega) _ _ _ _).drew⟩

set_option maxHeartbeats 1600000 in
theorem brace6_lay (t : Tok) (A0 A : Option Addr) (m n0 n : Nat) (p wt : Int) (zs : List Int) (w : World) (hp : 0 ≤ p ∧ p ≤ 1000000) (hn : zs.length ≤ 1000000) (h : Ints w.heap.size w A zs) (hcap : zs.length ≤ n) (hk : (t.kind == 15) = true) (h1 : (t.text.toList == [123]) = false) (h2 : (t.text.toList == [125]) = true) (hz : ((zs.length : Int) == 0) = false) (ht : (topOf zs != 0) = false) :
    Calls Try.prog 38 #[.agg #[.int .i64 t.kind, .string t.text, .int .i64 t.line, .int .i64 t.col], .agg #[.slice A0 m n0, .int .i64 p, .slice A zs.length n, .int .i64 wt]] w fun e w' =>
      ∃ v, Fresh w.heap.size w' v zs.dropLast ∧ e = .returned (.tuple #[.agg #[.int .i64 t.kind, .string t.text, .int .i64 t.line, .int .i64 t.col], .agg #[.slice A0 m n0, .int .i64 (p + 1), v, .int .i64 wt], .int .i64 0]) ∧ Below w.heap.size w w' := by
  have hzl : 0 < zs.length := by have := beq_eq_false_iff_ne.1 hz; omega
  have h4 := Four.new w t (.slice A0 m n0) (.int .i64 p) (.slice A zs.length n) (.int .i64 wt)
  have HI := Lib.hid ((h.below h4.below).mono h4.below.size)
  clear h
  have H4 := Lib.hid h4
  clear h4
  go_enter Try.func38, Try.ntmps38
  go_upto_region 1 with (fail)
  obtain ⟨W, hW⟩ : ∃ W, (((w.alloc (.cells #[.int .i64 t.kind, .string t.text, .int .i64 t.line, .int .i64 t.col] 23)).alloc (.cells #[.slice A0 m n0, .int .i64 p, .slice A zs.length n, .int .i64 wt] 34)).alloc (.cells #[.int .i64 0, .string ⟨#[]⟩, .int .i64 0, .int .i64 0] 23)).alloc (.cells #[.slice none 0 0, .int .i64 0, .slice none 0 0, .int .i64 0] 34) = W := ⟨_, rfl⟩
  have h4 := H4.out
  have hI := HI.out
  rw [hW] at h4 hI ⊢
  clear H4 hW HI
  have HI := Lib.hid hI
  clear hI
  have hQ := h4.quad
  have HB := Lib.hid h4.below
  clear h4
  obtain ⟨⟨t0, t1, t2, t3, _, _, _, _⟩, ⟨x0, x1, x2, x3, e0, e1, e2, e3⟩, ⟨y0, y1, y2, y3, g0, g1, g2, g3⟩, ⟨z0, z1, z2, z3, f0, f1, f2, f3⟩, hsl⟩ := id hQ
  go_wp2_with fail
  refine (ltop_any _ _ _ A zs n _ (by omega) HI.out).mono ?_
  rintro e w1 ⟨rfl, hb1⟩
  have hQ1 := hQ.below hb1
  have HB1 := Lib.hid (HB.out.trans (hb1.mono (by omega)))
  have HI1 := Lib.hid ((HI.out.below hb1).mono hb1.size)
  clear t0 t1 t2 t3 x0 x1 x2 x3 e0 e1 e2 e3 y0 y1 y2 y3 g0 g1 g2 g3 z0 z1 z2 z3 f0 f1 f2 f3 hQ HB HI hb1
  obtain ⟨⟨t0, t1, t2, t3, _, _, _, _⟩, ⟨x0, x1, x2, x3, e0, e1, e2, e3⟩, ⟨y0, y1, y2, y3, g0, g1, g2, g3⟩, ⟨z0, z1, z2, z3, f0, f1, f2, f3⟩, hsl1⟩ := id hQ1
  go_wp2_with fail
  refine (closed_any A0 A m n0 p wt zs n _ hn hzl hcap HI1.out).mono ?_
  rintro e w2 ⟨v, rfl, hfr, hb2⟩
  obtain ⟨A', c', rfl⟩ := hfr.form
  have hQ2 := hQ1.below hb2
  have HB2 := Lib.hid (HB1.out.trans (hb2.mono (by omega)))
  have HF := Lib.hid hfr
  clear t0 t1 t2 t3 x0 x1 x2 x3 e0 e1 e2 e3 y0 y1 y2 y3 g0 g1 g2 g3 z0 z1 z2 z3 f0 f1 f2 f3 hQ1 HB1 HI1 hfr hb2
  obtain ⟨⟨t0, t1, t2, t3, _, _, _, _⟩, ⟨x0, x1, x2, x3, e0, e1, e2, e3⟩, ⟨y0, y1, y2, y3, g0, g1, g2, g3⟩, ⟨z0, z1, z2, z3, f0, f1, f2, f3⟩, hsl2⟩ := id hQ2
  go_wp2_with fail
  have hQ9 := (hQ2.put (.slice A0 m n0) (.int .i64 p) (.slice A' zs.dropLast.length c') (.int .i64 wt)).set1 (.int .i64 (p + 1))
  have HB9 := Lib.hid ((put4_below HB2.out (b := w.heap.size + 1) (by omega) (.slice A0 m n0) (.int .i64 p) (.slice A' zs.dropLast.length c') (.int .i64 wt)).setCell (p := ⟨w.heap.size + 1, 1, none⟩) (by simp) (.int .i64 (p + 1)))
  have HF9 := Lib.hid (Fresh.set (b := w.heap.size + 1) (o := 1) (put4_fresh HF.out (b := w.heap.size + 1) (by omega) (.slice A0 m n0) (.int .i64 p) (.slice A' zs.dropLast.length c') (.int .i64 wt)) (by omega) (.int .i64 (p + 1)))
  clear t0 t1 t2 t3 x0 x1 x2 x3 e0 e1 e2 e3 y0 y1 y2 y3 g0 g1 g2 g3 z0 z1 z2 z3 f0 f1 f2 f3 hQ2 HB2 HF
  simp only [List.length_dropLast] at hQ9 HB9 HF9 ⊢
  obtain ⟨W9, hW9⟩ : ∃ W9, ((put4 w2 (w.heap.size + 1) (.slice A0 m n0) (.int .i64 p) (.slice A' (zs.length - 1) c') (.int .i64 wt)).setCell ⟨w.heap.size + 1, 1, none⟩ (.int .i64 (p + 1))) = W9 := ⟨_, rfl⟩
  rw [hW9] at hQ9 HB9 HF9
  unfold put4 at hW9
  rw [hW9]
  clear hW9
  obtain ⟨⟨t0, t1, t2, t3, _, _, _, _⟩, ⟨x0, x1, x2, x3, _, _, _, _⟩, ⟨y0, y1, y2, y3, g0, g1, g2, g3⟩, ⟨z0, z1, z2, z3, f0, f1, f2, f3⟩, hsl9⟩ := id hQ9
  go_region
  all_goals
    go_wp2
    exact bodyPost_ret (v := .tuple #[.agg #[.int .i64 t.kind, .string t.text, .int .i64 t.line, .int .i64 t.col], .agg #[.slice A0 m n0, .int .i64 (p + 1), (.slice A' (zs.length - 1) c'), .int .i64 wt], .int .i64 0]) (by simp [results, Try.results38, go_sem, y0, y1, y2, y3, z0, z1, z2, z3]) rfl
      ⟨_, Fresh.drew (Fresh.mono (put4_fresh (put4_fresh HF9.out (by omega) _ _ _ _) (by omega) _ _ _ _) (by omega)), rfl, (put4_below (put4_below HB9.out (by omega) _ _ _ _) (by omega) _ _ _ _).drew⟩
end Go.Proofs.Ytnophjkiecalpaa
