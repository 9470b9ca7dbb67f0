/- The mark of a line, done by the program. -/
import Derived.Test.YtnophjkiecalpaaLayBegin
namespace Go.Proofs.Ytnophjkiecalpaa
open Go.RowKit
attribute [local go_sem ↓] Go.wp_at_zero Go.wp_at_succ

set_option maxHeartbeats 1600000 in
theorem begin3_lay (t : Tok) (A0 A : Option Addr) (m n0 n : Nat) (p wt : Int) (zs : List Int) (w : World) (hn : zs.length ≤ 1000000) (h : Ints w.heap.size w A zs) (hwt : (wt == 1) = false) (htop : ¬ topOf zs < t.col) :
    Calls Try.prog 36 #[.agg #[.int .i64 t.kind, .string t.text, .int .i64 t.line, .int .i64 t.col], .agg #[.slice A0 m n0, .int .i64 p, .slice A zs.length n, .int .i64 wt]] w fun e w' =>
      e = .returned (.tuple #[.agg #[.int .i64 18, .string ⟨#[]⟩, .int .i64 t.line, .int .i64 t.col], .agg #[.slice A0 m n0, .int .i64 p, .slice A zs.length n, .int .i64 1]]) ∧ Below w.heap.size w w' := by
  have h4 := Four.new w t (.slice A0 m n0) (.int .i64 p) (.slice A zs.length n) (.int .i64 wt)
  have HI := Lib.hid ((h.below h4.below).mono h4.below.size)
  have H4 := Lib.hid h4
  clear h4 h
  go_enter Try.func36, Try.ntmps36
  go_wp2_with fail
  obtain ⟨W, hW⟩ : ∃ W, (((w.alloc (.cells #[.int .i64 t.kind, .string t.text, .int .i64 t.line, .int .i64 t.col] 23)).alloc (.cells #[.slice A0 m n0, .int .i64 p, .slice A zs.length n, .int .i64 wt] 34)).alloc (.cells #[.int .i64 0, .string ⟨#[]⟩, .int .i64 0, .int .i64 0] 23)).alloc (.cells #[.slice none 0 0, .int .i64 0, .slice none 0 0, .int .i64 0] 34) = W := ⟨_, rfl⟩
  have h4 := H4.out
  have hI := HI.out
  rw [hW] at h4 hI ⊢
  clear H4 hW HI
  have hQ := h4.quad
  have hb := h4.below
  obtain ⟨⟨_, _, _, t3, _, _, _, _⟩, ⟨x0, x1, x2, x3, _, _, _, _⟩, _, _, hsl⟩ := id hQ
  have HI := Lib.hid hI
  clear hI h4
  go_region_held3 (fun w' : World => w'.cell? ⟨w.heap.size, 3, none⟩ = some (.int .i64 t.col) ∧ w'.cell? ⟨w.heap.size + 1, 0, none⟩ = some (.slice A0 m n0) ∧ w'.cell? ⟨w.heap.size + 1, 1, none⟩ = some (.int .i64 p) ∧ w'.cell? ⟨w.heap.size + 1, 2, none⟩ = some (.slice A zs.length n) ∧ w'.cell? ⟨w.heap.size + 1, 3, none⟩ = some (.int .i64 wt) ∧ Below W.heap.size W w')
    (first | (exact ⟨t3, x0, x1, x2, x3, (Below.refl _ _).drew⟩) | (exact held5 (by assumption) hbf (by dsimp only; omega) (by dsimp only; omega) (by dsimp only; omega) (by dsimp only; omega) (by dsimp only; omega)) | assumption)
    (first | (go_at_call 45; refine (ltop_any _ _ _ A zs n _ (by omega) (ints_keep HI.out (by assumption))).mono ?_; rintro e w1 ⟨rfl, hbf⟩))
  rename_i hH
  have hq : Below W.heap.size W w1 := hH.2.2.2.2.2
  have hQ1 := hQ.below hq
  have HB1 := Lib.hid (hb.trans (hq.mono (by omega)))
  clear x0 x1 x2 x3 t3 hH HI hbf hq hQ hb
  obtain ⟨⟨_, _, _, t3, _, _, _, _⟩, ⟨x0, x1, x2, x3, e0, e1, e2, e3⟩, _, _, hsl1⟩ := id hQ1
  go_wp2_with fail
  have hQ3 := hQ1.set3 (.int .i64 1)
  have HB3 := Lib.hid (HB1.out.setCell (p := ⟨w.heap.size + 1, 3, none⟩) (by simp) (.int .i64 1))
  clear x0 x1 x2 x3 e0 e1 e2 e3 hQ1 HB1 t3
  obtain ⟨W3, hW3⟩ : ∃ W3, w1.setCell ⟨w.heap.size + 1, 3, none⟩ (.int .i64 1) = W3 := ⟨_, rfl⟩
  rw [hW3] at hQ3 HB3 ⊢
  clear hW3
  obtain ⟨⟨t0, t1, t2, t3, _, _, _, _⟩, ⟨x0, x1, x2, x3, _, _, _, _⟩, _, _, hsl3⟩ := id hQ3
  go_region_with (go_at_call 53; refine (unwritten_any 18 t _).mono ?_; rintro e w4 ⟨rfl, hbf⟩; have hq : Below W3.heap.size W3 w4 := (Below.refl _ W3).drew.trans hbf; obtain ⟨_, ⟨a0, a1, a2, a3, _, _, _, _⟩, ⟨y0, y1, y2, y3, g0, g1, g2, g3⟩, ⟨z0, z1, z2, z3, f0, f1, f2, f3⟩, _⟩ := hQ3.below hq)
  all_goals
    go_wp2
    exact bodyPost_ret (v := .tuple #[.agg #[.int .i64 18, .string ⟨#[]⟩, .int .i64 t.line, .int .i64 t.col], .agg #[.slice A0 m n0, .int .i64 p, .slice A zs.length n, .int .i64 1]]) (by simp [results, Try.results36, go_sem, y0, y1, y2, y3, z0, z1, z2, z3]) rfl
      ⟨rfl, put4_below (put4_below (HB3.out.trans (hq.mono (by omega))) (by omega) _ _ _ _) (by omega) _ _ _ _⟩

set_option maxHeartbeats 1600000 in
theorem line1_lay (t : Tok) (A0 A : Option Addr) (m n0 n : Nat) (p wt : Int) (zs : List Int) (w : World) (hn : zs.length ≤ 1000000) (hcap : zs.length ≤ n) (h : Ints w.heap.size w A zs) (hpos : 0 < topOf zs) (htop : t.col < topOf zs) :
    Calls Try.prog 37 #[.agg #[.int .i64 t.kind, .string t.text, .int .i64 t.line, .int .i64 t.col], .agg #[.slice A0 m n0, .int .i64 p, .slice A zs.length n, .int .i64 wt]] w fun e w' =>
      ∃ v, Fresh w.heap.size w' v zs.dropLast ∧ e = .returned (.tuple #[.agg #[.int .i64 20, .string ⟨#[]⟩, .int .i64 t.line, .int .i64 t.col], .agg #[.slice A0 m n0, .int .i64 p, v, .int .i64 wt]]) ∧ Below w.heap.size w w' := by
  have hzl : 0 < zs.length := by
    rcases Nat.eq_zero_or_pos zs.length with e | e
    · rw [List.eq_nil_of_length_eq_zero e, topOf_nil] at hpos; omega
    · exact e
  have h4 := Four.new w t (.slice A0 m n0) (.int .i64 p) (.slice A zs.length n) (.int .i64 wt)
  have HI := Lib.hid ((h.below h4.below).mono h4.below.size)
  have H4 := Lib.hid h4
  clear h4 h
  go_enter Try.func37, Try.ntmps37
  go_wp2_with fail
  obtain ⟨W, hW⟩ : ∃ W, (((w.alloc (.cells #[.int .i64 t.kind, .string t.text, .int .i64 t.line, .int .i64 t.col] 23)).alloc (.cells #[.slice A0 m n0, .int .i64 p, .slice A zs.length n, .int .i64 wt] 34)).alloc (.cells #[.int .i64 0, .string ⟨#[]⟩, .int .i64 0, .int .i64 0] 23)).alloc (.cells #[.slice none 0 0, .int .i64 0, .slice none 0 0, .int .i64 0] 34) = W := ⟨_, rfl⟩
  have h4 := H4.out
  have hI := HI.out
  rw [hW] at h4 hI ⊢
  clear H4 hW HI
  refine (ltop_any _ _ _ A zs n _ (by omega) hI).mono ?_
  rintro e w1 ⟨rfl, hb1⟩
  have hQ1 := h4.quad.below hb1
  have HB1 := Lib.hid (h4.below.trans (hb1.mono (by rw [h4.size]; omega)))
  have HI1 := Lib.hid ((hI.below hb1).mono hb1.size)
  clear h4 hI hb1
  obtain ⟨⟨t0, t1, t2, t3, _, _, _, _⟩, ⟨x0, x1, x2, x3, _, _, _, _⟩, _, _, hsl1⟩ := id hQ1
  go_wp2_with fail
  go_region_with (first
    | (go_at_call 53; refine (unwritten_any 20 t _).mono ?_; rintro e w4 ⟨rfl, hbf⟩; have hq4 : Below w1.heap.size w1 w4 := (by first | exact hq5.trans (hbf.mono hq5.size) | exact (Below.refl _ w1).drew.trans hbf); obtain ⟨_, ⟨a0, a1, a2, a3, _, _, _, _⟩, ⟨y0, y1, y2, y3, g0, g1, g2, g3⟩, ⟨z0, z1, z2, z3, f0, f1, f2, f3⟩, _⟩ := hQ1.below hq4)
    | (go_at_call 46; refine (closed_any A0 A m n0 p wt zs n _ hn hzl hcap (by first | exact (HI1.out.below hq4).mono hq4.size | exact HI1.out)).mono ?_; rintro e w5 ⟨v, rfl, hfr, hbf⟩; obtain ⟨A', c', rfl⟩ := hfr.form; have hq5 : Below w1.heap.size w1 w5 := (by first | exact hq4.trans (hbf.mono hq4.size) | exact (Below.refl _ w1).drew.trans hbf); obtain ⟨⟨b0, b1, b2, b3, _, _, _, _⟩, ⟨a0, a1, a2, a3, _, _, _, _⟩, ⟨y0, y1, y2, y3, g0, g1, g2, g3⟩, ⟨z0, z1, z2, z3, f0, f1, f2, f3⟩, _⟩ := hQ1.below hq5))
  all_goals
    go_wp2
    refine bodyPost_ret (v := .tuple #[.agg #[.int .i64 20, .string ⟨#[]⟩, .int .i64 t.line, .int .i64 t.col], .agg #[.slice A0 m n0, .int .i64 p, .slice A' zs.dropLast.length c', .int .i64 wt]]) (by simp [results, Try.results37, go_sem, y0, y1, y2, y3, z0, z1, z2, z3]) rfl ?_
    first
      | exact ⟨_, Fresh.mono (put4_fresh (put4_fresh hfr (by omega) _ _ _ _) (by omega) _ _ _ _) (by omega), rfl, put4_below (put4_below (HB1.out.trans (hq5.mono (by omega))) (by omega) _ _ _ _) (by omega) _ _ _ _⟩
      | exact ⟨_, Fresh.mono (put4_fresh (put4_fresh (Fresh.below hfr hbf) (by omega) _ _ _ _) (by omega) _ _ _ _) (by omega), rfl, put4_below (put4_below (HB1.out.trans (hq4.mono (by omega))) (by omega) _ _ _ _) (by omega) _ _ _ _⟩

set_option maxHeartbeats 1600000 in
theorem line2_lay (t : Tok) (A0 A : Option Addr) (m n0 n : Nat) (p wt : Int) (zs : List Int) (w : World) (hp : 0 ≤ p ∧ p ≤ 1000000) (hn : zs.length ≤ 1000000) (h : Ints w.heap.size w A zs) (hpos : 0 < topOf zs) (hlt : ¬ t.col < topOf zs) (heq : (t.col == topOf zs) = true) :
    Calls Try.prog 37 #[.agg #[.int .i64 t.kind, .string t.text, .int .i64 t.line, .int .i64 t.col], .agg #[.slice A0 m n0, .int .i64 p, .slice A zs.length n, .int .i64 wt]] w fun e w' =>
      e = .returned (.tuple #[.agg #[.int .i64 19, .string ⟨#[]⟩, .int .i64 t.line, .int .i64 t.col], .agg #[.slice A0 m n0, .int .i64 (p + 1), .slice A zs.length n, .int .i64 0]]) ∧ Below w.heap.size w w' := by
  have h4 := Four.new w t (.slice A0 m n0) (.int .i64 p) (.slice A zs.length n) (.int .i64 wt)
  have HI := Lib.hid ((h.below h4.below).mono h4.below.size)
  have H4 := Lib.hid h4
  clear h4 h
  go_enter Try.func37, Try.ntmps37
  go_wp2_with fail
  obtain ⟨W, hW⟩ : ∃ W, (((w.alloc (.cells #[.int .i64 t.kind, .string t.text, .int .i64 t.line, .int .i64 t.col] 23)).alloc (.cells #[.slice A0 m n0, .int .i64 p, .slice A zs.length n, .int .i64 wt] 34)).alloc (.cells #[.int .i64 0, .string ⟨#[]⟩, .int .i64 0, .int .i64 0] 23)).alloc (.cells #[.slice none 0 0, .int .i64 0, .slice none 0 0, .int .i64 0] 34) = W := ⟨_, rfl⟩
  have h4 := H4.out
  have hI := HI.out
  rw [hW] at h4 hI ⊢
  clear H4 hW HI
  refine (ltop_any _ _ _ A zs n _ (by omega) hI).mono ?_
  rintro e w1 ⟨rfl, hb1⟩
  have hQ1 := h4.quad.below hb1
  have HB1 := Lib.hid (h4.below.trans (hb1.mono (by rw [h4.size]; omega)))
  clear h4 hI hb1
  obtain ⟨⟨_, _, _, t3, _, _, _, _⟩, ⟨x0, x1, x2, x3, e0, e1, e2, e3⟩, _, _, hsl1⟩ := id hQ1
  go_wp2_with fail
  have hQ3 := (hQ1.set1 (.int .i64 (p + 1))).set3 (.int .i64 0)
  have HB3 := Lib.hid ((HB1.out.setCell (p := ⟨w.heap.size + 1, 1, none⟩) (by simp) (.int .i64 (p + 1))).setCell (p := ⟨w.heap.size + 1, 3, none⟩) (by simp) (.int .i64 0))
  clear x0 x1 x2 x3 e0 e1 e2 e3 hQ1 HB1 t3
  obtain ⟨W3, hW3⟩ : ∃ W3, (w1.setCell ⟨w.heap.size + 1, 1, none⟩ (.int .i64 (p + 1))).setCell ⟨w.heap.size + 1, 3, none⟩ (.int .i64 0) = W3 := ⟨_, rfl⟩
  rw [hW3] at hQ3 HB3 ⊢
  clear hW3
  obtain ⟨⟨t0, t1, t2, t3, _, _, _, _⟩, ⟨x0, x1, x2, x3, _, _, _, _⟩, _, _, hsl3⟩ := id hQ3
  go_region_with (go_at_call 53; refine (unwritten_any 19 t _).mono ?_; rintro e w4 ⟨rfl, hbf⟩; have hq : Below W3.heap.size W3 w4 := (Below.refl _ W3).drew.trans hbf; obtain ⟨_, ⟨a0, a1, a2, a3, _, _, _, _⟩, ⟨y0, y1, y2, y3, g0, g1, g2, g3⟩, ⟨z0, z1, z2, z3, f0, f1, f2, f3⟩, _⟩ := hQ3.below hq)
  all_goals
    go_wp2
    exact bodyPost_ret (v := .tuple #[.agg #[.int .i64 19, .string ⟨#[]⟩, .int .i64 t.line, .int .i64 t.col], .agg #[.slice A0 m n0, .int .i64 (p + 1), .slice A zs.length n, .int .i64 0]]) (by simp [results, Try.results37, go_sem, y0, y1, y2, y3, z0, z1, z2, z3]) rfl
      ⟨rfl, put4_below (put4_below (HB3.out.trans (hq.mono (by omega))) (by omega) _ _ _ _) (by omega) _ _ _ _⟩

set_option maxHeartbeats 1600000 in
theorem line3_lay (t : Tok) (A0 A : Option Addr) (m n0 n : Nat) (p wt : Int) (zs : List Int) (w : World) (hp : 0 ≤ p ∧ p ≤ 1000000) (hn : zs.length ≤ 1000000) (h : Ints w.heap.size w A zs) (hpos : 0 < topOf zs) (hlt : ¬ t.col < topOf zs) (heq : (t.col == topOf zs) = false) :
    Calls Try.prog 37 #[.agg #[.int .i64 t.kind, .string t.text, .int .i64 t.line, .int .i64 t.col], .agg #[.slice A0 m n0, .int .i64 p, .slice A zs.length n, .int .i64 wt]] w fun e w' =>
      e = .returned (.tuple #[.agg #[.int .i64 0, .string ⟨#[]⟩, .int .i64 0, .int .i64 0], .agg #[.slice A0 m n0, .int .i64 (p + 1), .slice A zs.length n, .int .i64 0]]) ∧ Below w.heap.size w w' := by
  have h4 := Four.new w t (.slice A0 m n0) (.int .i64 p) (.slice A zs.length n) (.int .i64 wt)
  have HI := Lib.hid ((h.below h4.below).mono h4.below.size)
  have H4 := Lib.hid h4
  clear h4 h
  go_enter Try.func37, Try.ntmps37
  go_wp2_with fail
  obtain ⟨W, hW⟩ : ∃ W, (((w.alloc (.cells #[.int .i64 t.kind, .string t.text, .int .i64 t.line, .int .i64 t.col] 23)).alloc (.cells #[.slice A0 m n0, .int .i64 p, .slice A zs.length n, .int .i64 wt] 34)).alloc (.cells #[.int .i64 0, .string ⟨#[]⟩, .int .i64 0, .int .i64 0] 23)).alloc (.cells #[.slice none 0 0, .int .i64 0, .slice none 0 0, .int .i64 0] 34) = W := ⟨_, rfl⟩
  have h4 := H4.out
  have hI := HI.out
  rw [hW] at h4 hI ⊢
  clear H4 hW HI
  refine (ltop_any _ _ _ A zs n _ (by omega) hI).mono ?_
  rintro e w1 ⟨rfl, hb1⟩
  have hQ1 := h4.quad.below hb1
  have HB1 := Lib.hid (h4.below.trans (hb1.mono (by rw [h4.size]; omega)))
  clear h4 hI hb1
  obtain ⟨⟨_, _, _, t3, _, _, _, _⟩, ⟨x0, x1, x2, x3, e0, e1, e2, e3⟩, _, _, hsl1⟩ := id hQ1
  go_wp2_with fail
  have hQ3 := (hQ1.set1 (.int .i64 (p + 1))).set3 (.int .i64 0)
  have HB3 := Lib.hid ((HB1.out.setCell (p := ⟨w.heap.size + 1, 1, none⟩) (by simp) (.int .i64 (p + 1))).setCell (p := ⟨w.heap.size + 1, 3, none⟩) (by simp) (.int .i64 0))
  clear x0 x1 x2 x3 e0 e1 e2 e3 hQ1 HB1 t3
  obtain ⟨W3, hW3⟩ : ∃ W3, (w1.setCell ⟨w.heap.size + 1, 1, none⟩ (.int .i64 (p + 1))).setCell ⟨w.heap.size + 1, 3, none⟩ (.int .i64 0) = W3 := ⟨_, rfl⟩
  rw [hW3] at hQ3 HB3 ⊢
  clear hW3
  obtain ⟨_, ⟨x0, x1, x2, x3, _, _, _, _⟩, ⟨y0, y1, y2, y3, g0, g1, g2, g3⟩, ⟨z0, z1, z2, z3, f0, f1, f2, f3⟩, hsl3⟩ := id hQ3
  go_region
  all_goals
    go_wp2
    exact bodyPost_ret (v := .tuple #[.agg #[.int .i64 0, .string ⟨#[]⟩, .int .i64 0, .int .i64 0], .agg #[.slice A0 m n0, .int .i64 (p + 1), .slice A zs.length n, .int .i64 0]]) (by simp [results, Try.results37, go_sem, y0, y1, y2, y3, z0, z1, z2, z3]) rfl
      ⟨rfl, (put4_below (put4_below HB3.out (by omega) _ _ _ _) (by omega) _ _ _ _).drew⟩

set_option maxHeartbeats 1600000 in
theorem line4_lay (t : Tok) (A0 A : Option Addr) (m n0 n : Nat) (p wt : Int) (zs : List Int) (w : World) (hp : 0 ≤ p ∧ p ≤ 1000000) (hn : zs.length ≤ 1000000) (h : Ints w.heap.size w A zs) (hpos : ¬ 0 < topOf zs) :
    Calls Try.prog 37 #[.agg #[.int .i64 t.kind, .string t.text, .int .i64 t.line, .int .i64 t.col], .agg #[.slice A0 m n0, .int .i64 p, .slice A zs.length n, .int .i64 wt]] w fun e w' =>
      e = .returned (.tuple #[.agg #[.int .i64 0, .string ⟨#[]⟩, .int .i64 0, .int .i64 0], .agg #[.slice A0 m n0, .int .i64 (p + 1), .slice A zs.length n, .int .i64 0]]) ∧ Below w.heap.size w w' := by
  have h4 := Four.new w t (.slice A0 m n0) (.int .i64 p) (.slice A zs.length n) (.int .i64 wt)
  have HI := Lib.hid ((h.below h4.below).mono h4.below.size)
  have H4 := Lib.hid h4
  clear h4 h
  go_enter Try.func37, Try.ntmps37
  go_wp2_with fail
  obtain ⟨W, hW⟩ : ∃ W, (((w.alloc (.cells #[.int .i64 t.kind, .string t.text, .int .i64 t.line, .int .i64 t.col] 23)).alloc (.cells #[.slice A0 m n0, .int .i64 p, .slice A zs.length n, .int .i64 wt] 34)).alloc (.cells #[.int .i64 0, .string ⟨#[]⟩, .int .i64 0, .int .i64 0] 23)).alloc (.cells #[.slice none 0 0, .int .i64 0, .slice none 0 0, .int .i64 0] 34) = W := ⟨_, rfl⟩
  have h4 := H4.out
  have hI := HI.out
  rw [hW] at h4 hI ⊢
  clear H4 hW HI
  refine (ltop_any _ _ _ A zs n _ (by omega) hI).mono ?_
  rintro e w1 ⟨rfl, hb1⟩
  have hQ1 := h4.quad.below hb1
  have HB1 := Lib.hid (h4.below.trans (hb1.mono (by rw [h4.size]; omega)))
  clear h4 hI hb1
  obtain ⟨⟨_, _, _, t3, _, _, _, _⟩, ⟨x0, x1, x2, x3, e0, e1, e2, e3⟩, _, _, hsl1⟩ := id hQ1
  go_wp2_with fail
  have hQ3 := (hQ1.set1 (.int .i64 (p + 1))).set3 (.int .i64 0)
  have HB3 := Lib.hid ((HB1.out.setCell (p := ⟨w.heap.size + 1, 1, none⟩) (by simp) (.int .i64 (p + 1))).setCell (p := ⟨w.heap.size + 1, 3, none⟩) (by simp) (.int .i64 0))
  clear x0 x1 x2 x3 e0 e1 e2 e3 hQ1 HB1 t3
  obtain ⟨W3, hW3⟩ : ∃ W3, (w1.setCell ⟨w.heap.size + 1, 1, none⟩ (.int .i64 (p + 1))).setCell ⟨w.heap.size + 1, 3, none⟩ (.int .i64 0) = W3 := ⟨_, rfl⟩
  rw [hW3] at hQ3 HB3 ⊢
  clear hW3
  obtain ⟨_, ⟨x0, x1, x2, x3, _, _, _, _⟩, ⟨y0, y1, y2, y3, g0, g1, g2, g3⟩, ⟨z0, z1, z2, z3, f0, f1, f2, f3⟩, hsl3⟩ := id hQ3
  go_region
  all_goals
    go_wp2
    exact bodyPost_ret (v := .tuple #[.agg #[.int .i64 0, .string ⟨#[]⟩, .int .i64 0, .int .i64 0], .agg #[.slice A0 m n0, .int .i64 (p + 1), .slice A zs.length n, .int .i64 0]]) (by simp [results, Try.results37, go_sem, y0, y1, y2, y3, z0, z1, z2, z3]) rfl
      ⟨rfl, (put4_below (put4_below HB3.out (by omega) _ _ _ _) (by omega) _ _ _ _).drew⟩
end Go.Proofs.Ytnophjkiecalpaa
