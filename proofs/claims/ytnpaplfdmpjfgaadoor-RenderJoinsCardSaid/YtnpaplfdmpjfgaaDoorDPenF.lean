/- The program's pen: begins, fits. -/
import Derived.Test.YtnpaplfdmpjfgaaDoorDPen
import Derived.Test.YtnpaplfdmpjfgaaDoorDPenB
import Derived.Test.YtnpaplfdmpjfgaaDoorShelf
import Derived.BigQuiet
import Derived.StillTailTactics
namespace Go.Proofs.YtnpaplfdmpjfgaaDoor
open Go.RowKit

def pfOf (c : Cfg) (q : Pen) (lg : Bool) : PF := ⟨c.width, c.ribbon, c.mode, q.col, q.start, q.owed, q.lines, q.op, lg⟩
/-- The pen in the memory, alive with what is laid, or dead. -/
def Sim : Option Pen → Pen → Bool → Prop
  | some p, q, lg => q = p ∧ lg = false
  | none, _, lg => lg = true
/-- Where a spot lies. -/
theorem spot_new (w : World) (x y : Value) : (w.alloc (.cells #[x, y] 70)).cell? ⟨w.heap.size, 0, none⟩ = some x ∧ (w.alloc (.cells #[x, y] 70)).cell? ⟨w.heap.size, 1, none⟩ = some y ∧ Below w.heap.size w (w.alloc (.cells #[x, y] 70)) ∧ (w.alloc (.cells #[x, y] 70)).heap.size = w.heap.size + 1 :=
  ⟨by simp, by simp, (Below.refl _ _).alloc (Nat.le_refl _) _, by simp⟩

set_option maxRecDepth 100000 in
set_option maxHeartbeats 2000000 in
theorem pbegins_any (B b : Nat) (V : Value) (c : Cfg) (q : Pen) (lg : Bool) (base : Int) (fresh : Bool) (w : World) (h : PenAt B w b V (pfOf c q lg) q.out) :
    Calls Tryd.prog 87 #[.pointer (some ⟨b, 0, none⟩), .agg #[.int .i64 base, .bool fresh]] w fun e w' => e = .returned (.int .i64 (begins c q base fresh)) ∧ Below w.heap.size w w' := by
  obtain ⟨s0, s1, hb, hs⟩ := spot_new w (.int .i64 base) (.bool fresh)
  obtain ⟨W, hW⟩ : ∃ W, w.alloc (.cells #[.int .i64 base, .bool fresh] 70) = W := ⟨_, rfl⟩
  rw [hW] at s0 s1 hb hs
  obtain ⟨c1, c2, c3, c4, c5, c6, c7, c8, c9, c10, fz⟩ := (h.later hb).cells
  have HB := Lib.hid hb
  clear h hb hs fz c1 c2 c3 c6 c7 c8 c9 c10
  simp only [pfOf] at c4 c5
  cases hf : fresh with
  | false =>
    subst hf
    go_enter Tryd.func87, Tryd.ntmps87
    go_wp2
    go_ret
    exact ⟨rfl, HB.out⟩
  | true =>
    subst hf
    cases hm : (c.mode == 0) with
    | false =>
      have HR := Lib.hid (show begins c q base true = q.col by simp [begins, hm])
      go_enter Tryd.func87, Tryd.ntmps87
      go_wp2
      go_ret
      exact ⟨ret_int HR.out.symm, HB.out⟩
    | true =>
      have HR := Lib.hid (show begins c q base true = max 0 base by simp [begins, hm])
      go_enter Tryd.func87, Tryd.ntmps87
      go_wp2
      go_ret
      exact ⟨ret_int HR.out.symm, HB.out⟩

theorem runes_any (s : ByteArray) (hs : s.size ≤ 1099511627776) (w : World) : Calls Tryd.prog 59 #[.string s] w fun e w' => e = .returned (.int .i64 (cols s)) ∧ Below w.heap.size w w' :=
  (Tryd.utf8_RuneCountInString s w (by omega)).mono fun e w' ⟨h1, pos, h2⟩ => ⟨h1, by rw [h2]; exact (Below.refl _ _).alloc (Nat.le_refl _) _⟩

set_option maxRecDepth 100000 in
set_option maxHeartbeats 4000000 in
theorem pfits_any (B b : Nat) (V : Value) (c : Cfg) (q : Pen) (lg : Bool) (s : ByteArray) (base M : Int) (fresh : Bool) (w : World) (h : PenAt B w b V (pfOf c q lg) q.out) (hi : Inv M q) (hM : M ≤ 1099511627776) (hb : base ≤ M) (hs : s.size ≤ 1099511627776) :
    Calls Tryd.prog 91 #[.pointer (some ⟨b, 0, none⟩), .string s, .agg #[.int .i64 base, .bool fresh]] w fun e w' => e = .returned (.bool (fitsB c q s base fresh)) ∧ Below w.heap.size w w' := by
  obtain ⟨s0, s1, hb0, hs0⟩ := spot_new w (.int .i64 base) (.bool fresh)
  obtain ⟨W, hW⟩ : ∃ W, w.alloc (.cells #[.int .i64 base, .bool fresh] 70) = W := ⟨_, rfl⟩
  rw [hW] at s0 s1 hb0 hs0
  have h1 := h.later hb0
  obtain ⟨c1, c2, c3, c4, c5, c6, c7, c8, c9, c10, fz⟩ := h1.cells
  have HB := Lib.hid hb0
  have hss : w.heap.size < W.heap.size := by omega
  have H1 := Lib.hid h1
  have hbM := begins_M (c := c) (fresh := fresh) hi hb
  obtain ⟨i1, i2, i3, i4, i5, _, _, _⟩ := hi
  have hb00 : 0 ≤ begins c q base fresh := by unfold begins; split <;> omega
  have hc0 := cols_nn s
  have hc1 := cols_le s
  clear h h1 hb0 hs0 fz c1 c7 c8 c10 i1
  simp only [pfOf] at c2 c3 c4 c5 c6 c9
  cases hm : (c.mode != 0) with
  | true =>
    have HR := Lib.hid (show fitsB c q s base fresh = true by simp [fitsB, hm])
    go_enter Tryd.func91, Tryd.ntmps91
    go_wp2
    go_ret
    exact ⟨ret_bool HR.out.symm, HB.out⟩
  | false =>
    have HR := Lib.hid (show fitsB c q s base fresh = (decide (begins c q base fresh + cols s ≤ c.width) && decide (begins c q base fresh + cols s - firstC c q base fresh ≤ c.ribbon)) by simp only [fitsB, hm, Bool.false_or])
    have HC := Lib.hid (pbegins_any B b V c q lg base fresh W H1.out)
    generalize hgb : begins c q base fresh = b0 at HC HR hbM hb00
    have HGB := Lib.hid hgb
    clear hgb
    cases hop : q.op with
    | true =>
      have HF := Lib.hid (show firstC c q base fresh = q.start by simp [firstC, hop])
      rw [hop] at c9
      have HOP := Lib.hid hop
      clear hop
      go_enter Tryd.func91, Tryd.ntmps91
      go_wp2_with fail
      refine HC.out.mono ?_
      rintro e w1 ⟨rfl, hb1⟩
      obtain ⟨-, d2, d3, d4, d5, d6, -, -, d9, -, -⟩ := (H1.out.later hb1).cells
      simp only [pfOf, HOP.out] at d2 d3 d4 d5 d6 d9
      have HB1 := Lib.hid hb1
      have HP1 := Lib.hid (H1.out.later hb1)
      clear c2 c3 c4 c5 c6 c9 hb1 s0 s1
      go_wp2_with fail
      refine (runes_any s hs w1).mono ?_
      rintro e w2 ⟨rfl, hb2⟩
      obtain ⟨-, c2, c3, c4, c5, c6, -, -, c9, -, -⟩ := (HP1.out.later hb2).cells
      simp only [pfOf, HOP.out] at c2 c3 c4 c5 c6 c9
      have HB2 := Lib.hid (HB1.out.trans (hb2.mono HB1.out.size))
      clear d2 d3 d4 d5 d6 d9 hb2
      have HX := Lib.hid (HB.out.trans (HB2.out.mono (Nat.le_of_lt hss)))
      by_cases g1 : b0 + cols s ≤ c.width
      · by_cases g2 : b0 + cols s - q.start ≤ c.ribbon
        · have HY := Lib.hid (show fitsB c q s base fresh = true by rw [HR.out, HF.out, decide_eq_true g1, decide_eq_true g2]; rfl)
          have e1 : decide (b0 + cols s ≤ c.width) = true := decide_eq_true g1
          have e2 : decide (b0 + cols s - q.start ≤ c.ribbon) = true := decide_eq_true g2
          go_wp2
          go_ret
          exact ⟨ret_bool HY.out.symm, HX.out⟩
        · have HY := Lib.hid (show fitsB c q s base fresh = false by rw [HR.out, HF.out, decide_eq_false g2, Bool.and_false])
          have e1 : decide (b0 + cols s ≤ c.width) = true := decide_eq_true g1
          have e2 : decide (b0 + cols s - q.start ≤ c.ribbon) = false := decide_eq_false g2
          go_wp2
          go_ret
          exact ⟨ret_bool HY.out.symm, HX.out⟩
      · have HY := Lib.hid (show fitsB c q s base fresh = false by rw [HR.out, HF.out, decide_eq_false g1, Bool.false_and])
        have e1 : decide (b0 + cols s ≤ c.width) = false := decide_eq_false g1
        go_wp2
        go_ret
        exact ⟨ret_bool HY.out.symm, HX.out⟩
    | false =>
      have HF := Lib.hid (show firstC c q base fresh = b0 by rw [← HGB.out]; simp [firstC, hop])
      rw [hop] at c9
      have HOP := Lib.hid hop
      clear hop
      go_enter Tryd.func91, Tryd.ntmps91
      go_wp2_with fail
      refine HC.out.mono ?_
      rintro e w1 ⟨rfl, hb1⟩
      obtain ⟨-, d2, d3, d4, d5, d6, -, -, d9, -, -⟩ := (H1.out.later hb1).cells
      simp only [pfOf, HOP.out] at d2 d3 d4 d5 d6 d9
      have HB1 := Lib.hid hb1
      have HP1 := Lib.hid (H1.out.later hb1)
      clear c2 c3 c4 c5 c6 c9 hb1 s0 s1
      go_wp2_with fail
      refine (runes_any s hs w1).mono ?_
      rintro e w2 ⟨rfl, hb2⟩
      obtain ⟨-, c2, c3, c4, c5, c6, -, -, c9, -, -⟩ := (HP1.out.later hb2).cells
      simp only [pfOf, HOP.out] at c2 c3 c4 c5 c6 c9
      have HB2 := Lib.hid (HB1.out.trans (hb2.mono HB1.out.size))
      clear d2 d3 d4 d5 d6 d9 hb2
      have HX := Lib.hid (HB.out.trans (HB2.out.mono (Nat.le_of_lt hss)))
      by_cases g1 : b0 + cols s ≤ c.width
      · by_cases g2 : b0 + cols s - b0 ≤ c.ribbon
        · have HY := Lib.hid (show fitsB c q s base fresh = true by rw [HR.out, HF.out, decide_eq_true g1, decide_eq_true g2]; rfl)
          have e1 : decide (b0 + cols s ≤ c.width) = true := decide_eq_true g1
          have e2 : decide (b0 + cols s - b0 ≤ c.ribbon) = true := decide_eq_true g2
          go_wp2
          go_ret
          exact ⟨ret_bool HY.out.symm, HX.out⟩
        · have HY := Lib.hid (show fitsB c q s base fresh = false by rw [HR.out, HF.out, decide_eq_false g2, Bool.and_false])
          have e1 : decide (b0 + cols s ≤ c.width) = true := decide_eq_true g1
          have e2 : decide (b0 + cols s - b0 ≤ c.ribbon) = false := decide_eq_false g2
          go_wp2
          go_ret
          exact ⟨ret_bool HY.out.symm, HX.out⟩
      · have HY := Lib.hid (show fitsB c q s base fresh = false by rw [HR.out, HF.out, decide_eq_false g1, Bool.false_and])
        have e1 : decide (b0 + cols s ≤ c.width) = false := decide_eq_false g1
        go_wp2
        go_ret
        exact ⟨ret_bool HY.out.symm, HX.out⟩
end Go.Proofs.YtnpaplfdmpjfgaaDoor
