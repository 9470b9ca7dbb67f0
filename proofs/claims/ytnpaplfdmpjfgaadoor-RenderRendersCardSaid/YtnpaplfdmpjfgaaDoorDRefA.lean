/- The reference's pen, handed on by value: begins, fits. -/
import Derived.Test.YtnpaplfdmpjfgaaDoorDPenN
import Derived.Test.YtnpaplfdmpjfgaaDoorDWide
import Derived.Test.YtnpaplfdmpjfgaaDoorDLayB
/-! The reference's pen, handed on by value: begins, fits. -/
namespace Go.Proofs.YtnpaplfdmpjfgaaDoor
open Go.RowKit

/-- A pen in a box. -/
structure RBox (w : World) (b : Nat) (V : Value) (f : PF) : Prop where
  blk : w.heap[b]? = some (.cells #[V, .int .i64 f.cl, .int .i64 f.st, .bool f.op, .int .i64 f.ow, .int .i64 f.ln, .bool f.lg, .int .i64 f.wd, .int .i64 f.rb, .int .i64 f.md] 73 (0, 0))
structure RC (w : World) (b : Nat) (V : Value) (f : PF) : Prop where
  c0 : w.cell? ⟨b, 0, none⟩ = some V
  c1 : w.cell? ⟨b, 1, none⟩ = some (.int .i64 f.cl)
  c2 : w.cell? ⟨b, 2, none⟩ = some (.int .i64 f.st)
  c3 : w.cell? ⟨b, 3, none⟩ = some (.bool f.op)
  c4 : w.cell? ⟨b, 4, none⟩ = some (.int .i64 f.ow)
  c5 : w.cell? ⟨b, 5, none⟩ = some (.int .i64 f.ln)
  c6 : w.cell? ⟨b, 6, none⟩ = some (.bool f.lg)
  c7 : w.cell? ⟨b, 7, none⟩ = some (.int .i64 f.wd)
  c8 : w.cell? ⟨b, 8, none⟩ = some (.int .i64 f.rb)
  c9 : w.cell? ⟨b, 9, none⟩ = some (.int .i64 f.md)
  fz : ∀ j, w.frozen? ⟨b, j, none⟩ = false
section
variable {b : Nat} {w w' : World} {V : Value} {f : PF}
theorem RBox.lt (h : RBox w b V f) : b < w.heap.size := (Array.getElem?_eq_some_iff.1 h.blk).1
theorem RBox.cells (h : RBox w b V f) : RC w b V f :=
  ⟨by rw [Lib.cell_of_heap h.blk]; rfl, by rw [Lib.cell_of_heap h.blk]; rfl, by rw [Lib.cell_of_heap h.blk]; rfl, by rw [Lib.cell_of_heap h.blk]; rfl, by rw [Lib.cell_of_heap h.blk]; rfl, by rw [Lib.cell_of_heap h.blk]; rfl, by rw [Lib.cell_of_heap h.blk]; rfl, by rw [Lib.cell_of_heap h.blk]; rfl, by rw [Lib.cell_of_heap h.blk]; rfl, by rw [Lib.cell_of_heap h.blk]; rfl, fun j => Lib.frozen_of_heap h.blk j⟩
theorem RBox.of (h : RBox w b V f) (hk : w'.heap[b]? = w.heap[b]?) : RBox w' b V f := ⟨hk.trans h.blk⟩
theorem RBox.on (h : RBox w b V f) (hb : Below w.heap.size w w') : RBox w' b V f := h.of (hb.block _ h.lt)
theorem RBox.stay {T : Nat → Prop} (h : RBox w b V f) (hs : Stay T w w') (ht : T b) : RBox w' b V f := h.of (hs.block _ h.lt ht)
theorem RBox.set (h : RBox w b V f) {V' : Value} (f' : PF) (i : Nat) (v : Value) (hc : (#[V, .int .i64 f.cl, .int .i64 f.st, .bool f.op, .int .i64 f.ow, .int .i64 f.ln, .bool f.lg, .int .i64 f.wd, .int .i64 f.rb, .int .i64 f.md] : Array Value).setIfInBounds i v = #[V', .int .i64 f'.cl, .int .i64 f'.st, .bool f'.op, .int .i64 f'.ow, .int .i64 f'.ln, .bool f'.lg, .int .i64 f'.wd, .int .i64 f'.rb, .int .i64 f'.md]) : RBox (w.setCell ⟨b, i, none⟩ v) b V' f' :=
  ⟨by rw [heap_set h.blk, hc]⟩
theorem RBox.far (h : RBox w b V f) {g i : Nat} (v : Value) (hg : b ≠ g) : RBox (w.setCell ⟨g, i, none⟩ v) b V f := h.of (Below.heap_setCell _ _ _ _ hg)
/-- A whole pen is laid into a box. -/
theorem RBox.put (h : RBox w b V f) (V' : Value) (f' : PF) : RBox ((((((((((w.setCell ⟨b, 0, none⟩ V').setCell ⟨b, 1, none⟩ (.int .i64 f'.cl)).setCell ⟨b, 2, none⟩ (.int .i64 f'.st)).setCell ⟨b, 3, none⟩ (.bool f'.op)).setCell ⟨b, 4, none⟩ (.int .i64 f'.ow)).setCell ⟨b, 5, none⟩ (.int .i64 f'.ln)).setCell ⟨b, 6, none⟩ (.bool f'.lg)).setCell ⟨b, 7, none⟩ (.int .i64 f'.wd)).setCell ⟨b, 8, none⟩ (.int .i64 f'.rb)).setCell ⟨b, 9, none⟩ (.int .i64 f'.md)) b V' f' :=
  ⟨by rw [heap_set (heap_set (heap_set (heap_set (heap_set (heap_set (heap_set (heap_set (heap_set (heap_set h.blk _) _) _) _) _) _) _) _) _) _]; simp only [List.setIfInBounds_toArray, List.set_cons_zero, List.set_cons_succ]⟩
end
theorem stay_put {T : Nat → Prop} {w w' : World} (h : Stay T w w') {b : Nat} (hb : ¬ T b) (V' : Value) (f' : PF) : Stay T w ((((((((((w'.setCell ⟨b, 0, none⟩ V').setCell ⟨b, 1, none⟩ (.int .i64 f'.cl)).setCell ⟨b, 2, none⟩ (.int .i64 f'.st)).setCell ⟨b, 3, none⟩ (.bool f'.op)).setCell ⟨b, 4, none⟩ (.int .i64 f'.ow)).setCell ⟨b, 5, none⟩ (.int .i64 f'.ln)).setCell ⟨b, 6, none⟩ (.bool f'.lg)).setCell ⟨b, 7, none⟩ (.int .i64 f'.wd)).setCell ⟨b, 8, none⟩ (.int .i64 f'.rb)).setCell ⟨b, 9, none⟩ (.int .i64 f'.md)) :=
  (((((((((h.setCell hb _ _).setCell hb _ _).setCell hb _ _).setCell hb _ _).setCell hb _ _).setCell hb _ _).setCell hb _ _).setCell hb _ _).setCell hb _ _).setCell hb _ _
theorem rbox_new (w : World) (V : Value) (f : PF) : RBox (w.alloc (.cells #[V, .int .i64 f.cl, .int .i64 f.st, .bool f.op, .int .i64 f.ow, .int .i64 f.ln, .bool f.lg, .int .i64 f.wd, .int .i64 f.rb, .int .i64 f.md] 73)) w.heap.size V f ∧ Below w.heap.size w (w.alloc (.cells #[V, .int .i64 f.cl, .int .i64 f.st, .bool f.op, .int .i64 f.ow, .int .i64 f.ln, .bool f.lg, .int .i64 f.wd, .int .i64 f.rb, .int .i64 f.md] 73)) ∧ (w.alloc (.cells #[V, .int .i64 f.cl, .int .i64 f.st, .bool f.op, .int .i64 f.ow, .int .i64 f.ln, .bool f.lg, .int .i64 f.wd, .int .i64 f.rb, .int .i64 f.md] 73)).heap.size = w.heap.size + 1 :=
  ⟨⟨heap_alloc_new w _⟩, (Below.refl _ _).alloc (Nat.le_refl _) _, by simp⟩
def PF0 : PF := ⟨0, 0, 0, 0, 0, 0, 0, false, false⟩

set_option maxRecDepth 100000 in
set_option maxHeartbeats 2000000 in
theorem rbegins_any (V : Value) (c : Cfg) (q : Pen) (lg : Bool) (base : Int) (fresh : Bool) (w : World) :
    Calls Tryd.prog 92 #[.agg #[V, .int .i64 q.col, .int .i64 q.start, .bool q.op, .int .i64 q.owed, .int .i64 q.lines, .bool lg, .int .i64 c.width, .int .i64 c.ribbon, .int .i64 c.mode], .int .i64 base, .bool fresh] w fun e w' => e = .returned (.int .i64 (begins c q base fresh)) ∧ Below w.heap.size w w' := by
  obtain ⟨hbx, hb, hs⟩ := rbox_new w V (pfOf c q lg)
  simp only [pfOf] at hbx hb hs
  obtain ⟨W, hW⟩ : ∃ W, w.alloc (.cells #[V, .int .i64 q.col, .int .i64 q.start, .bool q.op, .int .i64 q.owed, .int .i64 q.lines, .bool lg, .int .i64 c.width, .int .i64 c.ribbon, .int .i64 c.mode] 73) = W := ⟨_, rfl⟩
  rw [hW] at hbx hb hs
  obtain ⟨c0, c1, c2, c3, c4, c5, c6, c7, c8, c9, fz⟩ := hbx.cells
  have HB := Lib.hid hb
  clear hbx hb hs fz c0 c2 c3 c4 c5 c6 c7 c8
  cases hf : fresh with
  | false =>
    subst hf
    go_enter Tryd.func92, Tryd.ntmps92
    go_wp2
    go_ret
    exact ⟨rfl, HB.out⟩
  | true =>
    subst hf
    cases hm : (c.mode == 0) with
    | false =>
      have HR := Lib.hid (show begins c q base true = q.col by simp [begins, hm])
      go_enter Tryd.func92, Tryd.ntmps92
      go_wp2
      go_ret
      exact ⟨ret_int HR.out.symm, HB.out⟩
    | true =>
      have HR := Lib.hid (show begins c q base true = max 0 base by simp [begins, hm])
      go_enter Tryd.func92, Tryd.ntmps92
      go_wp2
      go_ret
      exact ⟨ret_int HR.out.symm, HB.out⟩

set_option maxRecDepth 100000 in
set_option maxHeartbeats 4000000 in
theorem rfits_any (V : Value) (c : Cfg) (q : Pen) (lg : Bool) (s : ByteArray) (base M : Int) (fresh : Bool) (w : World) (hi : Inv M q) (hM : M ≤ 1099511627776) (hb : base ≤ M) (hs : s.size ≤ 16777216) :
    Calls Tryd.prog 78 #[.agg #[V, .int .i64 q.col, .int .i64 q.start, .bool q.op, .int .i64 q.owed, .int .i64 q.lines, .bool lg, .int .i64 c.width, .int .i64 c.ribbon, .int .i64 c.mode], .string s, .int .i64 base, .bool fresh] w fun e w' => e = .returned (.bool (fitsB c q s base fresh)) ∧ Below w.heap.size w w' := by
  obtain ⟨hbx, hb0, hs0⟩ := rbox_new w V (pfOf c q lg)
  have HBX0 := Lib.hid hbx
  simp only [pfOf] at hbx hb0 hs0
  obtain ⟨W, hW⟩ : ∃ W, w.alloc (.cells #[V, .int .i64 q.col, .int .i64 q.start, .bool q.op, .int .i64 q.owed, .int .i64 q.lines, .bool lg, .int .i64 c.width, .int .i64 c.ribbon, .int .i64 c.mode] 73) = W := ⟨_, rfl⟩
  have HBX : Hid (RBox W w.heap.size V (pfOf c q lg)) := Lib.hid (by rw [← hW]; exact HBX0.out)
  rw [hW] at hbx hb0 hs0
  clear HBX0
  obtain ⟨c0, c1, c2, c3, c4, c5, c6, c7, c8, c9, fz⟩ := hbx.cells
  have HB := Lib.hid hb0
  have hss : w.heap.size < W.heap.size := by omega
  have hbM := begins_M (c := c) (fresh := fresh) hi hb
  obtain ⟨i1, i2, i3, i4, i5, _, _, _⟩ := hi
  have hb00 : 0 ≤ begins c q base fresh := by unfold begins; split <;> omega
  have hc0 := cols_nn s
  have hc1 := cols_le s
  clear hb0 hs0 fz i1 hbx
  simp only at c0 c1 c2 c3 c4 c5 c6 c7 c8 c9
  cases hm : (c.mode != 0) with
  | true =>
    have HR := Lib.hid (show fitsB c q s base fresh = true by simp [fitsB, hm])
    go_enter Tryd.func78, Tryd.ntmps78
    go_wp2
    go_ret
    exact ⟨ret_bool HR.out.symm, HB.out⟩
  | false =>
    have HR := Lib.hid (show fitsB c q s base fresh = (decide (begins c q base fresh + cols s ≤ c.width) && decide (begins c q base fresh + cols s - firstC c q base fresh ≤ c.ribbon)) by simp only [fitsB, hm, Bool.false_or])
    have HC := Lib.hid (rbegins_any V c q lg base fresh W)
    generalize hgb : begins c q base fresh = b0 at HC HR hbM hb00
    have HGB := Lib.hid hgb
    clear hgb
    go_enter Tryd.func78, Tryd.ntmps78
    go_wp2_with fail
    clear hW
    refine HC.out.mono ?_
    rintro e w1 ⟨rfl, hb1⟩
    have HB1 := Lib.hid hb1
    have hx1 := HBX.out.on hb1
    obtain ⟨-, -, d2, d3, -, -, -, d7, d8, -, -⟩ := hx1.cells
    have HX1 := Lib.hid hx1
    simp only [pfOf] at d2 d3 d7 d8
    clear hb1 hx1 c0 c1 c2 c3 c4 c5 c6 c7 c8 c9
    have HCC := Lib.hid (columns_any s hs w1)
    cases hop : q.op with
    | true =>
      have HF := Lib.hid (show firstC c q base fresh = q.start by simp [firstC, hop])
      rw [hop] at d3
      clear hop
      go_wp2_with fail
      refine HCC.out.mono ?_
      rintro e w2 ⟨rfl, hb2⟩
      obtain ⟨-, -, e2', -, -, -, -, e7, e8, -, -⟩ := (HX1.out.on hb2).cells
      simp only [pfOf] at e2' e7 e8
      have HX := Lib.hid (HB.out.trans ((HB1.out.trans (hb2.mono HB1.out.size)).mono (Nat.le_of_lt hss)))
      clear d2 d3 d7 d8 hb2
      by_cases g1 : b0 + cols s ≤ c.width
      · by_cases g2 : b0 + cols s - q.start ≤ c.ribbon
        · have HY := Lib.hid (show fitsB c q s base fresh = true by rw [HR.out, HF.out, decide_eq_true g1, decide_eq_true g2]; rfl)
          have e1 : decide (b0 + cols s ≤ c.width) = true := decide_eq_true g1
          have e2 : decide (b0 + cols s - q.start ≤ c.ribbon) = true := decide_eq_true g2
          go_wp2
          go_ret
          exact ⟨ret_bool HY.out.symm, HX.out⟩
        · have HY := Lib.hid (show fitsB c q s base fresh = false by rw [HR.out, HF.out, decide_eq_false g2, Bool.and_false])
          have e1 : decide (b0 + cols s ≤ c.width) = true := decide_eq_true g1
          have e2 : decide (b0 + cols s - q.start ≤ c.ribbon) = false := decide_eq_false g2
          go_wp2
          go_ret
          exact ⟨ret_bool HY.out.symm, HX.out⟩
      · have HY := Lib.hid (show fitsB c q s base fresh = false by rw [HR.out, HF.out, decide_eq_false g1, Bool.false_and])
        have e1 : decide (b0 + cols s ≤ c.width) = false := decide_eq_false g1
        go_wp2
        go_ret
        exact ⟨ret_bool HY.out.symm, HX.out⟩
    | false =>
      have HF := Lib.hid (show firstC c q base fresh = b0 by rw [← HGB.out]; simp [firstC, hop])
      rw [hop] at d3
      clear hop
      go_wp2_with fail
      refine HCC.out.mono ?_
      rintro e w2 ⟨rfl, hb2⟩
      obtain ⟨-, -, e2', -, -, -, -, e7, e8, -, -⟩ := (HX1.out.on hb2).cells
      simp only [pfOf] at e2' e7 e8
      have HX := Lib.hid (HB.out.trans ((HB1.out.trans (hb2.mono HB1.out.size)).mono (Nat.le_of_lt hss)))
      clear d2 d3 d7 d8 hb2
      by_cases g1 : b0 + cols s ≤ c.width
      · by_cases g2 : b0 + cols s - b0 ≤ c.ribbon
        · have HY := Lib.hid (show fitsB c q s base fresh = true by rw [HR.out, HF.out, decide_eq_true g1, decide_eq_true g2]; rfl)
          have e1 : decide (b0 + cols s ≤ c.width) = true := decide_eq_true g1
          have e2 : decide (b0 + cols s - b0 ≤ c.ribbon) = true := decide_eq_true g2
          go_wp2
          go_ret
          exact ⟨ret_bool HY.out.symm, HX.out⟩
        · have HY := Lib.hid (show fitsB c q s base fresh = false by rw [HR.out, HF.out, decide_eq_false g2, Bool.and_false])
          have e1 : decide (b0 + cols s ≤ c.width) = true := decide_eq_true g1
          have e2 : decide (b0 + cols s - b0 ≤ c.ribbon) = false := decide_eq_false g2
          go_wp2
          go_ret
          exact ⟨ret_bool HY.out.symm, HX.out⟩
      · have HY := Lib.hid (show fitsB c q s base fresh = false by rw [HR.out, HF.out, decide_eq_false g1, Bool.false_and])
        have e1 : decide (b0 + cols s ≤ c.width) = false := decide_eq_false g1
        go_wp2
        go_ret
        exact ⟨ret_bool HY.out.symm, HX.out⟩
end Go.Proofs.YtnpaplfdmpjfgaaDoor

/-! The reference's pen: a text is laid, a line is ended. -/
namespace Go.Proofs.YtnpaplfdmpjfgaaDoor
open Go.RowKit

/-- What a step of the reference's pen hands back, by what is laid. -/
def RLaid (B : Nat) (w : World) (V : Value) (c : Cfg) (M : Int) (o : Option Pen) (e : Ending) (w' : World) : Prop :=
  ∃ V' q' lg', e = .returned (.agg #[V', .int .i64 q'.col, .int .i64 q'.start, .bool q'.op, .int .i64 q'.owed, .int .i64 q'.lines, .bool lg', .int .i64 c.width, .int .i64 c.ribbon, .int .i64 c.mode]) ∧ w'.ownsRow B 5 1 V' q'.out.length (Lib.byteCells q'.out) ∧ Stay (fun k => some k ≠ V.ownBlock) w w' ∧ Next V w V' ∧ Inv M q' ∧ Sim o q' lg'
theorem below_put {B : Nat} {a w : World} (h : Below B a w) {b : Nat} (hb : B ≤ b) (V' : Value) (f' : PF) : Below B a ((((((((((w.setCell ⟨b, 0, none⟩ V').setCell ⟨b, 1, none⟩ (.int .i64 f'.cl)).setCell ⟨b, 2, none⟩ (.int .i64 f'.st)).setCell ⟨b, 3, none⟩ (.bool f'.op)).setCell ⟨b, 4, none⟩ (.int .i64 f'.ow)).setCell ⟨b, 5, none⟩ (.int .i64 f'.ln)).setCell ⟨b, 6, none⟩ (.bool f'.lg)).setCell ⟨b, 7, none⟩ (.int .i64 f'.wd)).setCell ⟨b, 8, none⟩ (.int .i64 f'.rb)).setCell ⟨b, 9, none⟩ (.int .i64 f'.md)) :=
  Below.setCell (p := ⟨b, 9, none⟩) (Below.setCell (p := ⟨b, 8, none⟩) (Below.setCell (p := ⟨b, 7, none⟩) (Below.setCell (p := ⟨b, 6, none⟩) (Below.setCell (p := ⟨b, 5, none⟩) (Below.setCell (p := ⟨b, 4, none⟩) (Below.setCell (p := ⟨b, 3, none⟩) (Below.setCell (p := ⟨b, 2, none⟩) (Below.setCell (p := ⟨b, 1, none⟩) (Below.setCell (p := ⟨b, 0, none⟩) h hb _) hb _) hb _) hb _) hb _) hb _) hb _) hb _) hb _) hb _
/-- A store beyond what was there. -/
theorem stay_set2 {T : Nat → Prop} {w w' : World} (h : Stay T w w') {b i : Nat} (hb : w.heap.size ≤ b) (v : Value) : Stay T w (w'.setCell ⟨b, i, none⟩ v) :=
  ⟨h.os, h.tape, h.output, by simpa [World.setCell] using h.size, fun k hk ht => (Below.heap_setCell _ _ _ _ (by dsimp only; omega)).trans (h.block k hk ht)⟩
theorem stay_on2 {T : Nat → Prop} {w w' w'' : World} (h : Stay T w w') (hb : Below w'.heap.size w' w'') : Stay T w w'' := h.trans (Stay.of_below (T := fun _ => True) hb) fun _ _ _ => trivial
theorem stay_put2 {T : Nat → Prop} {w w' : World} {b : Nat} (h : Stay T w w') (hb : w.heap.size ≤ b) (V' : Value) (f' : PF) : Stay T w ((((((((((w'.setCell ⟨b, 0, none⟩ V').setCell ⟨b, 1, none⟩ (.int .i64 f'.cl)).setCell ⟨b, 2, none⟩ (.int .i64 f'.st)).setCell ⟨b, 3, none⟩ (.bool f'.op)).setCell ⟨b, 4, none⟩ (.int .i64 f'.ow)).setCell ⟨b, 5, none⟩ (.int .i64 f'.ln)).setCell ⟨b, 6, none⟩ (.bool f'.lg)).setCell ⟨b, 7, none⟩ (.int .i64 f'.wd)).setCell ⟨b, 8, none⟩ (.int .i64 f'.rb)).setCell ⟨b, 9, none⟩ (.int .i64 f'.md)) :=
  stay_set2 (stay_set2 (stay_set2 (stay_set2 (stay_set2 (stay_set2 (stay_set2 (stay_set2 (stay_set2 (stay_set2 h hb _) hb _) hb _) hb _) hb _) hb _) hb _) hb _) hb _) hb _
theorem undrew0 {Z w' : World} (h : Below Z.drew.heap.size Z.drew w') : Below Z.heap.size Z w' := ((Below.refl Z.heap.size Z).drew).trans h
/-- Blanks that are owed, read off the box. -/
def owedAt (w : World) (b : Nat) : Nat := match w.cell? ⟨b, 4, none⟩ with
  | some (.int _ x) => x.toNat
  | _ => 0
theorem owedAt_of {w : World} {b : Nat} {x : Int} (h : w.cell? ⟨b, 4, none⟩ = some (.int .i64 x)) : owedAt w b = x.toNat := by unfold owedAt; rw [h]
theorem own_on {w w' : World} {B n : Nat} {V : Value} {xs : List Value} (h : w.ownsRow B 5 1 V n xs) (hb : Below w.heap.size w w') : w'.ownsRow B 5 1 V n xs := own_below h hb
theorem own_set {w : World} {B n b i : Nat} {V : Value} {xs : List Value} (h : w.ownsRow B 5 1 V n xs) (hne : V.ownBlock ≠ some b) (u : Value) : (w.setCell ⟨b, i, none⟩ u).ownsRow B 5 1 V n xs := set_own h hne
theorem own_new {w : World} {B n b : Nat} {V : Value} {xs : List Value} (h : w.ownsRow B 5 1 V n xs) (hb : w.heap.size ≤ b) : V.ownBlock ≠ some b := fun e => by have := (h.lt _ e).2; omega
theorem own_put {w : World} {B n b : Nat} {V : Value} {xs : List Value} (h : w.ownsRow B 5 1 V n xs) (hne : V.ownBlock ≠ some b) (V' : Value) (f' : PF) : ((((((((((w.setCell ⟨b, 0, none⟩ V').setCell ⟨b, 1, none⟩ (.int .i64 f'.cl)).setCell ⟨b, 2, none⟩ (.int .i64 f'.st)).setCell ⟨b, 3, none⟩ (.bool f'.op)).setCell ⟨b, 4, none⟩ (.int .i64 f'.ow)).setCell ⟨b, 5, none⟩ (.int .i64 f'.ln)).setCell ⟨b, 6, none⟩ (.bool f'.lg)).setCell ⟨b, 7, none⟩ (.int .i64 f'.wd)).setCell ⟨b, 8, none⟩ (.int .i64 f'.rb)).setCell ⟨b, 9, none⟩ (.int .i64 f'.md)).ownsRow B 5 1 V n xs :=
  set_own (set_own (set_own (set_own (set_own (set_own (set_own (set_own (set_own (set_own h hne) hne) hne) hne) hne) hne) hne) hne) hne) hne

set_option maxRecDepth 100000 in
set_option maxHeartbeats 8000000 in
theorem rput_any (B : Nat) (V : Value) (c : Cfg) (q : Pen) (lg : Bool) (s : ByteArray) (base M : Int) (fresh : Bool) (w : World) (h : w.ownsRow B 5 1 V q.out.length (Lib.byteCells q.out)) (hB : B ≤ w.heap.size) (hi : Inv M q) (hf : FOk c q base fresh) (hM : M ≤ 1099511627776) (hb : base ≤ M) (hs : s.size ≤ 1073741824) :
    Calls Tryd.prog 75 #[.agg #[V, .int .i64 q.col, .int .i64 q.start, .bool q.op, .int .i64 q.owed, .int .i64 q.lines, .bool lg, .int .i64 c.width, .int .i64 c.ribbon, .int .i64 c.mode], .string s, .int .i64 base, .bool fresh] w (RLaid B w V c (M + s.size) (liveO lg (put c q s base fresh))) := by
  obtain ⟨A, cp, rfl⟩ := own_form h
  obtain ⟨hbx, hb0, hs0⟩ := rbox_new w (.slice A q.out.length cp) (pfOf c q lg)
  simp only [pfOf] at hb0 hs0
  obtain ⟨W0, hW0⟩ : ∃ W, w.alloc (.cells #[(.slice A q.out.length cp), .int .i64 q.col, .int .i64 q.start, .bool q.op, .int .i64 q.owed, .int .i64 q.lines, .bool lg, .int .i64 c.width, .int .i64 c.ribbon, .int .i64 c.mode] 73) = W := ⟨_, rfl⟩
  have hbx0 : RBox W0 w.heap.size (.slice A q.out.length cp) (pfOf c q lg) := by rw [← hW0]; exact hbx
  rw [hW0] at hb0 hs0
  obtain ⟨hrx, hb1, hs1⟩ := rbox_new W0 (.slice none 0 0) PF0
  simp only [PF0] at hb1 hs1
  obtain ⟨W, hW⟩ : ∃ W, W0.alloc (.cells #[.slice none 0 0, .int .i64 0, .int .i64 0, .bool false, .int .i64 0, .int .i64 0, .bool false, .int .i64 0, .int .i64 0, .int .i64 0] 73) = W := ⟨_, rfl⟩
  have hrx0 : RBox W W0.heap.size (.slice none 0 0) PF0 := by rw [← hW]; exact hrx
  rw [hW] at hb1 hs1
  have hbx1 := hbx0.on hb1
  have HBX := Lib.hid hbx1
  have HRX := Lib.hid hrx0
  have hb01 := hb0.trans (hb1.mono (by omega))
  have HB := Lib.hid hb01
  have HOW := Lib.hid (own_on h hb01)
  have HV := Lib.hid (show Value.ownBlock (.slice A q.out.length cp) ≠ some w.heap.size ∧ Value.ownBlock (.slice A q.out.length cp) ≠ some W0.heap.size from ⟨own_new h (Nat.le_refl _), own_new h (by omega)⟩)
  have HC := Lib.hid (rbegins_any (.slice A q.out.length cp) c q lg base fresh W)
  have hbM := begins_M (c := c) (fresh := fresh) hi hb
  have hbL := begins_le hf
  have HO := Lib.hid (opened_inv hi hf hb)
  have HI := Lib.hid hi
  have HF := Lib.hid hf
  obtain ⟨i1, i2, i3, i4, i5, _, _, i8⟩ := hi
  have hl0 : w.heap.size < W.heap.size := by omega
  have hl1 : W0.heap.size < W.heap.size := by omega
  have hl01 : w.heap.size < W0.heap.size := by omega
  obtain ⟨c0, c1, c2, c3, c4, c5, c6, c7, c8, c9, -⟩ := hbx1.cells
  simp only [pfOf] at c1 c2 c3 c4 c5 c6 c7 c8 c9
  clear h hf hbx hbx0 hbx1 hrx hrx0 hb0 hb1 hb01 hs0 hs1
  go_enter Tryd.func75, Tryd.ntmps75
  go_wp2_with fail
  clear hW hW0
  refine HC.out.mono ?_
  rintro e w1 ⟨rfl, hb1⟩
  have hp1 := HBX.out.on hb1
  have hr1 := HRX.out.on hb1
  obtain ⟨-, d1, d2, d3, d4, -, d6, -, -, -, fz⟩ := hp1.cells
  simp only [pfOf] at d1 d2 d3 d4 d6
  have f1 := fz 1
  have f2 := fz 2
  have f3 := fz 3
  have f4 := fz 4
  have f6 := fz 6
  have HP1 := Lib.hid hp1
  have HR1 := Lib.hid hr1
  have HB1 := Lib.hid (HB.out.trans (hb1.mono (Nat.le_of_lt hl0)))
  have HOW1 := Lib.hid (own_on HOW.out hb1)
  have hsz1 := hb1.size
  clear hp1 hr1 fz hb1 c0 c1 c2 c3 c4 c5 c6 c7 c8 c9 HC HB HOW HBX HRX
  generalize hgb : begins c q base fresh = b0 at hbM hbL ⊢
  have HGB := Lib.hid hgb
  clear hgb
  cases hop : q.op with
  | true =>
    rw [hop] at d3
    go_upto_region 7 with (fail)
    have k1 := HP1.out.set (V' := (.slice A q.out.length cp)) { pfOf c q lg with ow := q.owed + b0 - q.col } 4 (.int .i64 (q.owed + b0 - q.col)) (by simp [pfOf])
    have k2 := k1.set (V' := (.slice A q.out.length cp)) { pfOf c q lg with ow := q.owed + b0 - q.col, cl := b0 } 1 (.int .i64 b0) (by simp [pfOf])
    have hpf : ({ pfOf c q lg with ow := q.owed + b0 - q.col, cl := b0 } : PF) = pfOf c (opened c q base fresh) lg := by
      simp only [pfOf, opened, firstC, hop, if_true, HGB.out]
    rw [hpf] at k2
    have o5 : World.ownsRow ((w1.setCell ⟨w.heap.size, 4, none⟩ (.int .i64 (q.owed + b0 - q.col))).setCell ⟨w.heap.size, 1, none⟩ (.int .i64 b0)) B 5 1 (.slice A q.out.length cp) q.out.length (Lib.byteCells q.out) := (own_set (own_set HOW1.out HV.out.1 _) HV.out.1 _)
    have b5 : Below w.heap.size w ((w1.setCell ⟨w.heap.size, 4, none⟩ (.int .i64 (q.owed + b0 - q.col))).setCell ⟨w.heap.size, 1, none⟩ (.int .i64 b0)) := (Below.setCell (p := ⟨w.heap.size, _, none⟩) (Below.setCell (p := ⟨w.heap.size, _, none⟩) HB1.out (Nat.le_refl _) _) (Nat.le_refl _) _)
    have r5 : RBox ((w1.setCell ⟨w.heap.size, 4, none⟩ (.int .i64 (q.owed + b0 - q.col))).setCell ⟨w.heap.size, 1, none⟩ (.int .i64 b0)) W0.heap.size (.slice none 0 0) PF0 := (RBox.far (RBox.far HR1.out _ (Nat.ne_of_gt hl01)) _ (Nat.ne_of_gt hl01))
    have hs5 : (((w1.setCell ⟨w.heap.size, 4, none⟩ (.int .i64 (q.owed + b0 - q.col))).setCell ⟨w.heap.size, 1, none⟩ (.int .i64 b0)) : World).heap.size = w1.heap.size := by simp [World.setCell]
    generalize ((w1.setCell ⟨w.heap.size, 4, none⟩ (.int .i64 (q.owed + b0 - q.col))).setCell ⟨w.heap.size, 1, none⟩ (.int .i64 b0)) = W5 at k2 o5 b5 r5 hs5 ⊢
    have hcol : (opened c q base fresh).col = b0 := HGB.out
    have HO5 := Lib.hid HO.out
    have HPUT := Lib.hid (show put c q s base fresh = if s.size = 0 then some (opened c q base fresh) else if 16777216 < q.out.length + (opened c q base fresh).owed.toNat + s.size then none else some { opened c q base fresh with out := q.out ++ List.replicate (opened c q base fresh).owed.toNat 32 ++ s.data.toList, owed := 0, col := (opened c q base fresh).col + cols s } from rfl)
    have HINV := Lib.hid (fun q' hq => put_inv (c := c) (s := s) (q := q') HI.out HF.out hb hq)
    have hout : (opened c q base fresh).out = q.out := rfl
    generalize hp1 : opened c q base fresh = p1 at HO5 HPUT k2 hcol hout
    have HP5 := Lib.hid k2
    have HR5 := Lib.hid r5
    have HOW5 := Lib.hid o5
    have HB5 := Lib.hid b5
    have HOUT := Lib.hid hout
    have HCOL := Lib.hid hcol
    have HP1E := Lib.hid hp1
    obtain ⟨j1, j2, j3, -, -, -, -, j8⟩ := HO5.out
    obtain ⟨e0, e1, e2, e3, e4, e5, e6, e7, e8, e9, fz⟩ := k2.cells
    obtain ⟨u0, u1, u2, u3, u4, u5, u6, u7, u8, u9, gz⟩ := r5.cells
    simp only [pfOf] at e1 e2 e3 e4 e5 e6 e7 e8 e9
    simp only [PF0] at u1 u2 u3 u4 u5 u6 u7 u8 u9
    clear d1 d2 d3 d4 d6 f1 f2 f3 f4 f6 hpf
    have f0 := fz 0
    have f1 := fz 1
    have f4 := fz 4
    have f6 := fz 6
    have h0 := gz 0
    have h1 := gz 1
    have h2 := gz 2
    have h3 := gz 3
    have h4 := gz 4
    have h5 := gz 5
    have h6 := gz 6
    have h7 := gz 7
    have h8 := gz 8
    have h9 := gz 9
    clear fz gz k1 k2 o5 b5 r5 hop HP1 HR1 HOW1 HB1 HGB hcol hout hp1 HO
    by_cases hs0 : s.size = 0
    · have es : s.toList.isEmpty = true := by rw [isEmpty_size, hs0]; rfl
      have HRR := Lib.hid (show put c q s base fresh = some p1 by rw [HPUT.out, if_pos hs0])
      clear hs0
      go_wp2
      have kz := (HR5.out).put (.slice A q.out.length cp) (pfOf c p1 lg)
      have oz := own_put (HOW5.out) (HV.out.2) (.slice A q.out.length cp) (pfOf c p1 lg)
      have bz := below_put HB5.out (b := W0.heap.size) (Nat.le_of_lt hl01) (.slice A q.out.length cp) (pfOf c p1 lg)
      simp only [pfOf] at kz oz bz
      generalize ((((((((((W5.setCell ⟨W0.heap.size, 0, none⟩ (.slice A q.out.length cp)).setCell ⟨W0.heap.size, 1, none⟩ (.int .i64 p1.col)).setCell ⟨W0.heap.size, 2, none⟩ (.int .i64 p1.start)).setCell ⟨W0.heap.size, 3, none⟩ (.bool p1.op)).setCell ⟨W0.heap.size, 4, none⟩ (.int .i64 p1.owed)).setCell ⟨W0.heap.size, 5, none⟩ (.int .i64 p1.lines)).setCell ⟨W0.heap.size, 6, none⟩ (.bool lg)).setCell ⟨W0.heap.size, 7, none⟩ (.int .i64 c.width)).setCell ⟨W0.heap.size, 8, none⟩ (.int .i64 c.ribbon)).setCell ⟨W0.heap.size, 9, none⟩ (.int .i64 c.mode)) = WZ at kz oz bz ⊢
      obtain ⟨z0, z1, z2, z3, z4, z5, z6, z7, z8, z9, -⟩ := kz.cells
      simp only at z1 z2 z3 z4 z5 z6 z7 z8 z9
      refine bodyPost_ret (v := .agg #[(.slice A q.out.length cp), (.int .i64 p1.col), (.int .i64 p1.start), (.bool p1.op), (.int .i64 p1.owed), (.int .i64 p1.lines), (.bool lg), (.int .i64 c.width), (.int .i64 c.ribbon), (.int .i64 c.mode)]) (by simp [results, Tryd.results75, go_sem, z0, z1, z2, z3, z4, z5, z6, z7, z8, z9]) rfl ?_
      exact ⟨_, p1, lg, rfl, by rw [HOUT.out]; exact oz, Stay.of_below bz, .inl rfl, HO5.out.mono (by omega), by rw [HRR.out]; exact sim_live (fun p hp => Option.some.inj hp) (fun h => nomatch h)⟩
    · have es : s.toList.isEmpty = false := by rw [isEmpty_size]; simpa using hs0
      cases lg with
      | true =>
        clear hs0
        go_wp2
        have kz := (HR5.out).put (.slice A q.out.length cp) (pfOf c p1 true)
        have oz := own_put (HOW5.out) (HV.out.2) (.slice A q.out.length cp) (pfOf c p1 true)
        have bz := below_put HB5.out (b := W0.heap.size) (Nat.le_of_lt hl01) (.slice A q.out.length cp) (pfOf c p1 true)
        simp only [pfOf] at kz oz bz
        generalize ((((((((((W5.setCell ⟨W0.heap.size, 0, none⟩ (.slice A q.out.length cp)).setCell ⟨W0.heap.size, 1, none⟩ (.int .i64 p1.col)).setCell ⟨W0.heap.size, 2, none⟩ (.int .i64 p1.start)).setCell ⟨W0.heap.size, 3, none⟩ (.bool p1.op)).setCell ⟨W0.heap.size, 4, none⟩ (.int .i64 p1.owed)).setCell ⟨W0.heap.size, 5, none⟩ (.int .i64 p1.lines)).setCell ⟨W0.heap.size, 6, none⟩ (.bool true)).setCell ⟨W0.heap.size, 7, none⟩ (.int .i64 c.width)).setCell ⟨W0.heap.size, 8, none⟩ (.int .i64 c.ribbon)).setCell ⟨W0.heap.size, 9, none⟩ (.int .i64 c.mode)) = WZ at kz oz bz ⊢
        obtain ⟨z0, z1, z2, z3, z4, z5, z6, z7, z8, z9, -⟩ := kz.cells
        simp only at z1 z2 z3 z4 z5 z6 z7 z8 z9
        refine bodyPost_ret (v := .agg #[(.slice A q.out.length cp), (.int .i64 p1.col), (.int .i64 p1.start), (.bool p1.op), (.int .i64 p1.owed), (.int .i64 p1.lines), (.bool true), (.int .i64 c.width), (.int .i64 c.ribbon), (.int .i64 c.mode)]) (by simp [results, Tryd.results75, go_sem, z0, z1, z2, z3, z4, z5, z6, z7, z8, z9]) rfl ?_
        exact ⟨_, p1, true, rfl, by rw [HOUT.out]; exact oz, Stay.of_below bz, .inl rfl, HO5.out.mono (by omega), rfl⟩
      | false =>
        by_cases hbig : 16777216 < q.out.length + p1.owed.toNat + s.size
        · have g1 : decide (16777216 < (q.out.length : Int) + p1.owed + (s.size : Int)) = true := decide_eq_true (by omega)
          have HRR := Lib.hid (show put c q s base fresh = none by rw [HPUT.out, if_neg hs0, if_pos hbig])
          clear hbig hs0
          go_wp2
          have kz := (RBox.far (g := w.heap.size) (i := 6) HR5.out (.bool true) (Nat.ne_of_gt hl01)).put (.slice A q.out.length cp) (pfOf c p1 true)
          have oz := own_put (own_set (b := w.heap.size) (i := 6) HOW5.out HV.out.1 (.bool true)) (HV.out.2) (.slice A q.out.length cp) (pfOf c p1 true)
          have bz := below_put (Below.setCell (p := ⟨w.heap.size, 6, none⟩) HB5.out (Nat.le_refl _) (.bool true)) (b := W0.heap.size) (Nat.le_of_lt hl01) (.slice A q.out.length cp) (pfOf c p1 true)
          simp only [pfOf] at kz oz bz
          generalize (((((((((((W5.setCell ⟨w.heap.size, 6, none⟩ (.bool true)).setCell ⟨W0.heap.size, 0, none⟩ (.slice A q.out.length cp)).setCell ⟨W0.heap.size, 1, none⟩ (.int .i64 p1.col)).setCell ⟨W0.heap.size, 2, none⟩ (.int .i64 p1.start)).setCell ⟨W0.heap.size, 3, none⟩ (.bool p1.op)).setCell ⟨W0.heap.size, 4, none⟩ (.int .i64 p1.owed)).setCell ⟨W0.heap.size, 5, none⟩ (.int .i64 p1.lines)).setCell ⟨W0.heap.size, 6, none⟩ (.bool true)).setCell ⟨W0.heap.size, 7, none⟩ (.int .i64 c.width)).setCell ⟨W0.heap.size, 8, none⟩ (.int .i64 c.ribbon)).setCell ⟨W0.heap.size, 9, none⟩ (.int .i64 c.mode)) = WZ at kz oz bz ⊢
          obtain ⟨z0, z1, z2, z3, z4, z5, z6, z7, z8, z9, -⟩ := kz.cells
          simp only at z1 z2 z3 z4 z5 z6 z7 z8 z9
          refine bodyPost_ret (v := .agg #[(.slice A q.out.length cp), (.int .i64 p1.col), (.int .i64 p1.start), (.bool p1.op), (.int .i64 p1.owed), (.int .i64 p1.lines), (.bool true), (.int .i64 c.width), (.int .i64 c.ribbon), (.int .i64 c.mode)]) (by simp [results, Tryd.results75, go_sem, z0, z1, z2, z3, z4, z5, z6, z7, z8, z9]) rfl ?_
          exact ⟨_, p1, true, rfl, by rw [HOUT.out]; exact oz, Stay.of_below bz, .inl rfl, HO5.out.mono (by omega), sim_dead HRR.out⟩
        · have g1 : decide (16777216 < (q.out.length : Int) + p1.owed + (s.size : Int)) = false := decide_eq_false (by omega)
          have HRR := Lib.hid (show put c q s base fresh = some { p1 with out := q.out ++ List.replicate p1.owed.toNat 32 ++ s.data.toList, owed := 0, col := p1.col + cols s } by rw [HPUT.out, if_neg hs0, if_neg hbig])
          have hsm : q.out.length + p1.owed.toNat + s.size ≤ 16777216 := by omega
          clear hbig hs0
          go_wp2_with fail
          go_loopw [] (fun wr => ∃ (j : Nat) (Vj : Value), j ≤ p1.owed.toNat ∧ wr.ownsRow B 5 1 Vj (q.out.length + j) (Lib.byteCells (q.out ++ List.replicate j 32)) ∧ RBox wr w.heap.size Vj (pfOf c { p1 with owed := p1.owed - j } false) ∧ RBox wr W0.heap.size (.slice none 0 0) PF0 ∧ Stay (fun k => some k ≠ Value.ownBlock (.slice A q.out.length cp)) w wr ∧ Next (.slice A q.out.length cp) w Vj) (fun wr => owedAt wr w.heap.size)
          case atStart => exact ⟨0, (.slice A q.out.length cp), Nat.zero_le _, by simpa using HOW5.out, by simpa using HP5.out, HR5.out, Stay.of_below HB5.out, .inl rfl⟩
          case round =>
            obtain ⟨j, Vj, hj, hoj, hpj, hrj, hsj, hnj⟩ := hrel
            have hBr : B ≤ wr.heap.size := Nat.le_trans hB hsj.size
            have HOJ := Lib.hid hoj
            have HPJ := Lib.hid hpj
            have HRJ := Lib.hid hrj
            have HSJ := Lib.hid hsj
            have HNJ := Lib.hid hnj
            have hne := Lib.ownBlock_ne hoj hpj.blk (by decide)
            have hnr := Lib.ownBlock_ne hoj hrj.blk (by decide)
            have HNE := Lib.hid (And.intro hne hnr)
            obtain ⟨Aj, cj, rfl⟩ := own_form hoj
            have hltp := hpj.lt
            have hltr := hrj.lt
            clear e0 e1 e2 e3 e4 e5 e6 e7 e8 e9 f0 f1 f4 f6 h0 h1 h2 h3 h4 h5 h6 h7 h8 h9 u0 u1 u2 u3 u4 u5 u6 u7 u8 u9
            obtain ⟨e0, e1, e2, e3, e4, e5, e6, e7, e8, e9, fz⟩ := hpj.cells
            simp only [pfOf] at e1 e2 e3 e4 e5 e6 e7 e8 e9
            by_cases hlt : (j : Int) < p1.owed
            · have g2 : decide (0 < p1.owed - (j : Int)) = true := decide_eq_true (by omega)
              clear hpj hrj hsj hnj hne hnr
              go_wp2_with (at_builtin; refine wpList_app1 rfl _ _ 63 rfl 5 _ 1 1 Tryd.underlying63 info5 rfl (by decide) wr [.int .u8 32] rfl _ rfl B (.slice Aj (q.out.length + j) cj) _ _ rfl hoj rfl rfl (by simp [Value.oneCell']) (by unfold maxLen; omega) (by omega) hBr ?_)
              intro g cg w2 hown' _ hgrow hn
              have hp2 := HPJ.out.of (hgrow.block _ hltp fun e => HNE.out.1 e.symm)
              have hr2 := HRJ.out.of (hgrow.block _ hltr fun e => HNE.out.2 e.symm)
              have hs2 : Stay (fun k => some k ≠ Value.ownBlock (.slice A q.out.length cp)) w w2 := HSJ.out.trans (Stay.of_grown hgrow) fun k hk ht => by
                rcases HNJ.out with e | ⟨x, e, hx⟩
                · rw [e]; exact ht
                · rw [e]; intro he; simp only [Option.some.injEq] at he; omega
              have hn2 : Next (.slice A q.out.length cp) w (.slice (some ⟨g, 0, none⟩) (q.out.length + j + 1) cg) := next_trans HNJ.out HSJ.out.size (by
                by_cases hk : some g = Value.ownBlock (.slice Aj (q.out.length + j) cj)
                · exact .inl hk
                · exact .inr ⟨g, rfl, Nat.le_of_not_lt fun hlt => hn g hk hlt rfl⟩)
              have hne2 := Lib.ownBlock_ne hown' hp2.blk (by decide)
              have hnr2 := Lib.ownBlock_ne hown' hr2.blk (by decide)
              have HO2 := Lib.hid hown'
              have HP2 := Lib.hid hp2
              have HR2 := Lib.hid hr2
              have HS2 := Lib.hid hs2
              have HN2 := Lib.hid hn2
              have HNE2 := Lib.hid (And.intro hne2 hnr2)
              obtain ⟨y0, y1, y2, y3, y4, y5, y6, y7, y8, y9, yz⟩ := hp2.cells
              simp only [pfOf] at y1 y2 y3 y4 y5 y6 y7 y8 y9
              have yf0 := yz 0
              have yf4 := yz 4
              clear hown' hp2 hr2 hs2 hn2 hne2 hnr2 yz fz hgrow hn e0 e1 e2 e3 e4 e5 e6 e7 e8 e9 hoj
              go_wp2
              go_roundw
              case rel =>
                have k1 := HP2.out.set (V' := .slice (some ⟨g, 0, none⟩) (q.out.length + j + 1) cg) (pfOf c { p1 with owed := p1.owed - j } false) 0 (.slice (some ⟨g, 0, none⟩) (q.out.length + j + 1) cg) (by simp)
                have k2 := k1.set (V' := .slice (some ⟨g, 0, none⟩) (q.out.length + j + 1) cg) (pfOf c { p1 with owed := p1.owed - j - 1 } false) 4 (.int .i64 (p1.owed - j - 1)) (by simp [pfOf])
                refine ⟨j + 1, _, by omega, ?_, by rw [show p1.owed - ((j + 1 : Nat) : Int) = p1.owed - j - 1 by omega]; exact k2, RBox.far (RBox.far HR2.out _ (Nat.ne_of_gt hl01)) _ (Nat.ne_of_gt hl01), stay_set2 (stay_set2 HS2.out (Nat.le_refl _) _) (Nat.le_refl _) _, HN2.out⟩
                have o2 := own_set (own_set HO2.out HNE2.out.1 (.slice (some ⟨g, 0, none⟩) (q.out.length + j + 1) cg) (i := 0)) HNE2.out.1 (.int .i64 (p1.owed - j - 1)) (i := 4)
                rw [show q.out ++ List.replicate (j + 1) (32 : UInt8) = (q.out ++ List.replicate j 32) ++ [32] by rw [List.replicate_succ', List.append_assoc], Lib.byteCells_append]
                exact o2
              case measure =>
                rw [owedAt_of (x := p1.owed - (j : Int)) HPJ.out.cells.c4, owedAt_of (x := p1.owed - (j : Int) - 1) ((HP2.out.set (V' := .slice (some ⟨g, 0, none⟩) (q.out.length + j + 1) cg) (pfOf c { p1 with owed := p1.owed - j } false) 0 (.slice (some ⟨g, 0, none⟩) (q.out.length + j + 1) cg) (by simp)).set (V' := .slice (some ⟨g, 0, none⟩) (q.out.length + j + 1) cg) (pfOf c { p1 with owed := p1.owed - j - 1 } false) 4 (.int .i64 (p1.owed - j - 1)) (by simp [pfOf])).cells.c4]
                omega
            · have g2 : decide (0 < p1.owed - (j : Int)) = false := decide_eq_false (by omega)
              obtain rfl : j = p1.owed.toNat := by omega
              go_wp2_with (at_builtin; refine wpList_str_at rfl _ _ rfl B _ _ _ rfl hoj s rfl (by omega) hBr ?_)
              intro v9 w2 hown' hgrow hnx
              have h00 : p1.owed - (p1.owed.toNat : Int) = 0 := by omega
              have hp2 := HPJ.out.of (hgrow.block _ hltp fun e => HNE.out.1 e.symm)
              rw [h00] at hp2
              have hr2 := HRJ.out.of (hgrow.block _ hltr fun e => HNE.out.2 e.symm)
              have hs2 : Stay (fun k => some k ≠ Value.ownBlock (.slice A q.out.length cp)) w w2 := HSJ.out.trans (Stay.of_grown hgrow) fun k hk ht => by
                rcases HNJ.out with e | ⟨x, e, hx⟩
                · rw [e]; exact ht
                · rw [e]; intro he; simp only [Option.some.injEq] at he; omega
              have hn2 := next_trans HNJ.out HSJ.out.size hnx
              have hne2 := Lib.ownBlock_ne hown' hp2.blk (by decide)
              have hnr2 := Lib.ownBlock_ne hown' hr2.blk (by decide)
              obtain ⟨A9, c9, rfl⟩ := own_form hown'
              have HO2 := Lib.hid hown'
              have HP2 := Lib.hid hp2
              have HR2 := Lib.hid hr2
              have HS2 := Lib.hid hs2
              have HX10 := Lib.hid hn2
              have HN10 := Lib.hid (And.intro hne2 hnr2)
              obtain ⟨y0, y1, y2, y3, y4, y5, y6, y7, y8, y9, yz⟩ := hp2.cells
              simp only [pfOf] at y1 y2 y3 y4 y5 y6 y7 y8 y9
              have yf0 := yz 0
              clear hown' hp2 hr2 hs2 hn2 hne2 hnr2 yz fz hgrow hnx e0 e1 e2 e3 e4 e5 e6 e7 e8 e9 hoj hpj hrj hsj hnj hne hnr h00
              go_upto_region 16 with (fail)
              have k10 := HP2.out.set (V' := (.slice A9 (q.out.length + p1.owed.toNat + s.size) c9)) (pfOf c { p1 with owed := 0 } false) 0 (.slice A9 (q.out.length + p1.owed.toNat + s.size) c9) (by simp)
              have r10 := RBox.far (g := w.heap.size) (i := 0) HR2.out (.slice A9 (q.out.length + p1.owed.toNat + s.size) c9) (Nat.ne_of_gt hl01)
              have o10 := own_set (b := w.heap.size) (i := 0) HO2.out HN10.out.1 (.slice A9 (q.out.length + p1.owed.toNat + s.size) c9)
              have s10 := stay_set2 (i := 0) HS2.out (Nat.le_refl _) (.slice A9 (q.out.length + p1.owed.toNat + s.size) c9)
              generalize w2.setCell ⟨w.heap.size, 0, none⟩ (.slice A9 (q.out.length + p1.owed.toNat + s.size) c9) = W10 at k10 r10 o10 s10 ⊢
              obtain ⟨-, x1, -, -, -, -, -, -, -, -, xz⟩ := k10.cells
              simp only [pfOf] at x1
              have xf := xz 1
              have hlt10 := k10.lt
              have HP10 := Lib.hid k10
              have HR10 := Lib.hid r10
              have HO10 := Lib.hid o10
              have HS10 := Lib.hid s10
              have hwc : IntKind.i64.wrap (p1.col + cols s) = p1.col + cols s := IntWalk.i64_in _ (by have := cols_nn s; have := cols_le s; omega)
              have HLEN := Lib.hid (show (Lib.byteCells (q.out ++ List.replicate p1.owed.toNat 32 ++ s.data.toList)) = Lib.byteCells (q.out ++ List.replicate p1.owed.toNat 32) ++ Lib.strCells s ∧ (q.out ++ List.replicate p1.owed.toNat 32 ++ s.data.toList).length = q.out.length + p1.owed.toNat + s.size from ⟨by rw [Lib.byteCells_append, ← Lib.strCells_eq], by rw [List.length_append, List.length_append, List.length_replicate, data_len]⟩)
              clear k10 r10 o10 s10 xz y0 y1 y2 y3 y4 y5 y6 y7 y8 y9 yf0
              go_region_with (go_at_call 42; refine (columns_any s (by omega) _).mono ?_; rintro e w11 ⟨rfl, hb11⟩; have g5' := (hb11.cell (p := ⟨w.heap.size, 1, none⟩) (by simpa using hlt10)).trans x1; have gf' := (hb11.frozen (p := ⟨w.heap.size, 1, none⟩) (by simpa using hlt10)).trans xf)
              all_goals
                clear hwc
                obtain ⟨e0, -, e2, e3, e4, e5, e6, e7, e8, e9, -⟩ := (HP10.out.on (undrew0 hb11)).cells
                simp only [pfOf] at e2 e3 e4 e5 e6 e7 e8 e9
                obtain ⟨u0, u1, u2, u3, u4, u5, u6, u7, u8, u9, gz⟩ := (HR10.out.on (undrew0 hb11)).cells
                simp only [PF0] at u1 u2 u3 u4 u5 u6 u7 u8 u9
                have h0 := gz 0
                have h1 := gz 1
                have h2 := gz 2
                have h3 := gz 3
                have h4 := gz 4
                have h5 := gz 5
                have h6 := gz 6
                have h7 := gz 7
                have h8 := gz 8
                have h9 := gz 9
                clear gz
                go_wp2
                have kz := (RBox.far (g := w.heap.size) (i := 1) (HR10.out.on (undrew0 hb11)) (.int .i64 (p1.col + cols s)) (Nat.ne_of_gt hl01)).put (.slice A9 (q.out.length + p1.owed.toNat + s.size) c9) (pfOf c { p1 with out := q.out ++ List.replicate p1.owed.toNat 32 ++ s.data.toList, owed := 0, col := p1.col + cols s } false)
                have oz := own_put (own_set (b := w.heap.size) (i := 1) (own_on HO10.out (undrew0 hb11)) HN10.out.1 (.int .i64 (p1.col + cols s))) (HN10.out.2) (.slice A9 (q.out.length + p1.owed.toNat + s.size) c9) (pfOf c { p1 with out := q.out ++ List.replicate p1.owed.toNat 32 ++ s.data.toList, owed := 0, col := p1.col + cols s } false)
                have bz := stay_put2 (b := W0.heap.size) (stay_set2 (i := 1) (stay_on2 HS10.out (undrew0 hb11)) (Nat.le_refl _) (.int .i64 (p1.col + cols s))) (Nat.le_of_lt hl01) (.slice A9 (q.out.length + p1.owed.toNat + s.size) c9) (pfOf c { p1 with out := q.out ++ List.replicate p1.owed.toNat 32 ++ s.data.toList, owed := 0, col := p1.col + cols s } false)
                simp only [pfOf] at kz oz bz
                generalize (((((((((((w11.setCell ⟨w.heap.size, 1, none⟩ (.int .i64 (p1.col + cols s))).setCell ⟨W0.heap.size, 0, none⟩ (.slice A9 (q.out.length + p1.owed.toNat + s.size) c9)).setCell ⟨W0.heap.size, 1, none⟩ (.int .i64 (p1.col + cols s))).setCell ⟨W0.heap.size, 2, none⟩ (.int .i64 p1.start)).setCell ⟨W0.heap.size, 3, none⟩ (.bool p1.op)).setCell ⟨W0.heap.size, 4, none⟩ (.int .i64 0)).setCell ⟨W0.heap.size, 5, none⟩ (.int .i64 p1.lines)).setCell ⟨W0.heap.size, 6, none⟩ (.bool false)).setCell ⟨W0.heap.size, 7, none⟩ (.int .i64 c.width)).setCell ⟨W0.heap.size, 8, none⟩ (.int .i64 c.ribbon)).setCell ⟨W0.heap.size, 9, none⟩ (.int .i64 c.mode)) = WZ at kz oz bz ⊢
                obtain ⟨z0, z1, z2, z3, z4, z5, z6, z7, z8, z9, -⟩ := kz.cells
                simp only at z1 z2 z3 z4 z5 z6 z7 z8 z9
                refine bodyPost_ret (v := .agg #[(.slice A9 (q.out.length + p1.owed.toNat + s.size) c9), (.int .i64 (p1.col + cols s)), (.int .i64 p1.start), (.bool p1.op), (.int .i64 0), (.int .i64 p1.lines), (.bool false), (.int .i64 c.width), (.int .i64 c.ribbon), (.int .i64 c.mode)]) (by simp [results, Tryd.results75, go_sem, z0, z1, z2, z3, z4, z5, z6, z7, z8, z9]) rfl ?_
                exact ⟨_, { p1 with out := q.out ++ List.replicate p1.owed.toNat 32 ++ s.data.toList, owed := 0, col := p1.col + cols s }, false, rfl, by rw [HLEN.out.1, HLEN.out.2]; exact oz, bz, HX10.out, HINV.out _ HRR.out, by rw [HRR.out]; exact sim_live (fun p hp => Option.some.inj hp) (fun h => nomatch h)⟩
  | false =>
    rw [hop] at d3
    go_upto_region 7 with (fail)
    have k1 := HP1.out.set (V' := (.slice A q.out.length cp)) { pfOf c q lg with ow := q.owed + b0 - q.col } 4 (.int .i64 (q.owed + b0 - q.col)) (by simp [pfOf])
    have k2 := k1.set (V' := (.slice A q.out.length cp)) { pfOf c q lg with ow := q.owed + b0 - q.col, cl := b0 } 1 (.int .i64 b0) (by simp [pfOf])
    have k3 := k2.set (V' := (.slice A q.out.length cp)) { pfOf c q lg with ow := q.owed + b0 - q.col, cl := b0, op := true } 3 (.bool true) (by simp [pfOf])
    have k4 := k3.set (V' := (.slice A q.out.length cp)) { pfOf c q lg with ow := q.owed + b0 - q.col, cl := b0, op := true, st := b0 } 2 (.int .i64 b0) (by simp [pfOf])
    have hpf : ({ pfOf c q lg with ow := q.owed + b0 - q.col, cl := b0, op := true, st := b0 } : PF) = pfOf c (opened c q base fresh) lg := by
      simp only [pfOf, opened, firstC, hop, Bool.false_eq_true, if_false, HGB.out]
    rw [hpf] at k4
    have o5 : World.ownsRow ((((w1.setCell ⟨w.heap.size, 4, none⟩ (.int .i64 (q.owed + b0 - q.col))).setCell ⟨w.heap.size, 1, none⟩ (.int .i64 b0)).setCell ⟨w.heap.size, 3, none⟩ (.bool true)).setCell ⟨w.heap.size, 2, none⟩ (.int .i64 b0)) B 5 1 (.slice A q.out.length cp) q.out.length (Lib.byteCells q.out) := (own_set (own_set (own_set (own_set HOW1.out HV.out.1 _) HV.out.1 _) HV.out.1 _) HV.out.1 _)
    have b5 : Below w.heap.size w ((((w1.setCell ⟨w.heap.size, 4, none⟩ (.int .i64 (q.owed + b0 - q.col))).setCell ⟨w.heap.size, 1, none⟩ (.int .i64 b0)).setCell ⟨w.heap.size, 3, none⟩ (.bool true)).setCell ⟨w.heap.size, 2, none⟩ (.int .i64 b0)) := (Below.setCell (p := ⟨w.heap.size, _, none⟩) (Below.setCell (p := ⟨w.heap.size, _, none⟩) (Below.setCell (p := ⟨w.heap.size, _, none⟩) (Below.setCell (p := ⟨w.heap.size, _, none⟩) HB1.out (Nat.le_refl _) _) (Nat.le_refl _) _) (Nat.le_refl _) _) (Nat.le_refl _) _)
    have r5 : RBox ((((w1.setCell ⟨w.heap.size, 4, none⟩ (.int .i64 (q.owed + b0 - q.col))).setCell ⟨w.heap.size, 1, none⟩ (.int .i64 b0)).setCell ⟨w.heap.size, 3, none⟩ (.bool true)).setCell ⟨w.heap.size, 2, none⟩ (.int .i64 b0)) W0.heap.size (.slice none 0 0) PF0 := (RBox.far (RBox.far (RBox.far (RBox.far HR1.out _ (Nat.ne_of_gt hl01)) _ (Nat.ne_of_gt hl01)) _ (Nat.ne_of_gt hl01)) _ (Nat.ne_of_gt hl01))
    have hs5 : (((((w1.setCell ⟨w.heap.size, 4, none⟩ (.int .i64 (q.owed + b0 - q.col))).setCell ⟨w.heap.size, 1, none⟩ (.int .i64 b0)).setCell ⟨w.heap.size, 3, none⟩ (.bool true)).setCell ⟨w.heap.size, 2, none⟩ (.int .i64 b0)) : World).heap.size = w1.heap.size := by simp [World.setCell]
    generalize ((((w1.setCell ⟨w.heap.size, 4, none⟩ (.int .i64 (q.owed + b0 - q.col))).setCell ⟨w.heap.size, 1, none⟩ (.int .i64 b0)).setCell ⟨w.heap.size, 3, none⟩ (.bool true)).setCell ⟨w.heap.size, 2, none⟩ (.int .i64 b0)) = W5 at k4 o5 b5 r5 hs5 ⊢
    have hcol : (opened c q base fresh).col = b0 := HGB.out
    have HO5 := Lib.hid HO.out
    have HPUT := Lib.hid (show put c q s base fresh = if s.size = 0 then some (opened c q base fresh) else if 16777216 < q.out.length + (opened c q base fresh).owed.toNat + s.size then none else some { opened c q base fresh with out := q.out ++ List.replicate (opened c q base fresh).owed.toNat 32 ++ s.data.toList, owed := 0, col := (opened c q base fresh).col + cols s } from rfl)
    have HINV := Lib.hid (fun q' hq => put_inv (c := c) (s := s) (q := q') HI.out HF.out hb hq)
    have hout : (opened c q base fresh).out = q.out := rfl
    generalize hp1 : opened c q base fresh = p1 at HO5 HPUT k4 hcol hout
    have HP5 := Lib.hid k4
    have HR5 := Lib.hid r5
    have HOW5 := Lib.hid o5
    have HB5 := Lib.hid b5
    have HOUT := Lib.hid hout
    have HCOL := Lib.hid hcol
    have HP1E := Lib.hid hp1
    obtain ⟨j1, j2, j3, -, -, -, -, j8⟩ := HO5.out
    obtain ⟨e0, e1, e2, e3, e4, e5, e6, e7, e8, e9, fz⟩ := k4.cells
    obtain ⟨u0, u1, u2, u3, u4, u5, u6, u7, u8, u9, gz⟩ := r5.cells
    simp only [pfOf] at e1 e2 e3 e4 e5 e6 e7 e8 e9
    simp only [PF0] at u1 u2 u3 u4 u5 u6 u7 u8 u9
    clear d1 d2 d3 d4 d6 f1 f2 f3 f4 f6 hpf
    have f0 := fz 0
    have f1 := fz 1
    have f4 := fz 4
    have f6 := fz 6
    have h0 := gz 0
    have h1 := gz 1
    have h2 := gz 2
    have h3 := gz 3
    have h4 := gz 4
    have h5 := gz 5
    have h6 := gz 6
    have h7 := gz 7
    have h8 := gz 8
    have h9 := gz 9
    clear fz gz k1 k2 k3 k4 o5 b5 r5 hop HP1 HR1 HOW1 HB1 HGB hcol hout hp1 HO
    by_cases hs0 : s.size = 0
    · have es : s.toList.isEmpty = true := by rw [isEmpty_size, hs0]; rfl
      have HRR := Lib.hid (show put c q s base fresh = some p1 by rw [HPUT.out, if_pos hs0])
      clear hs0
      go_wp2
      have kz := (HR5.out).put (.slice A q.out.length cp) (pfOf c p1 lg)
      have oz := own_put (HOW5.out) (HV.out.2) (.slice A q.out.length cp) (pfOf c p1 lg)
      have bz := below_put HB5.out (b := W0.heap.size) (Nat.le_of_lt hl01) (.slice A q.out.length cp) (pfOf c p1 lg)
      simp only [pfOf] at kz oz bz
      generalize ((((((((((W5.setCell ⟨W0.heap.size, 0, none⟩ (.slice A q.out.length cp)).setCell ⟨W0.heap.size, 1, none⟩ (.int .i64 p1.col)).setCell ⟨W0.heap.size, 2, none⟩ (.int .i64 p1.start)).setCell ⟨W0.heap.size, 3, none⟩ (.bool p1.op)).setCell ⟨W0.heap.size, 4, none⟩ (.int .i64 p1.owed)).setCell ⟨W0.heap.size, 5, none⟩ (.int .i64 p1.lines)).setCell ⟨W0.heap.size, 6, none⟩ (.bool lg)).setCell ⟨W0.heap.size, 7, none⟩ (.int .i64 c.width)).setCell ⟨W0.heap.size, 8, none⟩ (.int .i64 c.ribbon)).setCell ⟨W0.heap.size, 9, none⟩ (.int .i64 c.mode)) = WZ at kz oz bz ⊢
      obtain ⟨z0, z1, z2, z3, z4, z5, z6, z7, z8, z9, -⟩ := kz.cells
      simp only at z1 z2 z3 z4 z5 z6 z7 z8 z9
      refine bodyPost_ret (v := .agg #[(.slice A q.out.length cp), (.int .i64 p1.col), (.int .i64 p1.start), (.bool p1.op), (.int .i64 p1.owed), (.int .i64 p1.lines), (.bool lg), (.int .i64 c.width), (.int .i64 c.ribbon), (.int .i64 c.mode)]) (by simp [results, Tryd.results75, go_sem, z0, z1, z2, z3, z4, z5, z6, z7, z8, z9]) rfl ?_
      exact ⟨_, p1, lg, rfl, by rw [HOUT.out]; exact oz, Stay.of_below bz, .inl rfl, HO5.out.mono (by omega), by rw [HRR.out]; exact sim_live (fun p hp => Option.some.inj hp) (fun h => nomatch h)⟩
    · have es : s.toList.isEmpty = false := by rw [isEmpty_size]; simpa using hs0
      cases lg with
      | true =>
        clear hs0
        go_wp2
        have kz := (HR5.out).put (.slice A q.out.length cp) (pfOf c p1 true)
        have oz := own_put (HOW5.out) (HV.out.2) (.slice A q.out.length cp) (pfOf c p1 true)
        have bz := below_put HB5.out (b := W0.heap.size) (Nat.le_of_lt hl01) (.slice A q.out.length cp) (pfOf c p1 true)
        simp only [pfOf] at kz oz bz
        generalize ((((((((((W5.setCell ⟨W0.heap.size, 0, none⟩ (.slice A q.out.length cp)).setCell ⟨W0.heap.size, 1, none⟩ (.int .i64 p1.col)).setCell ⟨W0.heap.size, 2, none⟩ (.int .i64 p1.start)).setCell ⟨W0.heap.size, 3, none⟩ (.bool p1.op)).setCell ⟨W0.heap.size, 4, none⟩ (.int .i64 p1.owed)).setCell ⟨W0.heap.size, 5, none⟩ (.int .i64 p1.lines)).setCell ⟨W0.heap.size, 6, none⟩ (.bool true)).setCell ⟨W0.heap.size, 7, none⟩ (.int .i64 c.width)).setCell ⟨W0.heap.size, 8, none⟩ (.int .i64 c.ribbon)).setCell ⟨W0.heap.size, 9, none⟩ (.int .i64 c.mode)) = WZ at kz oz bz ⊢
        obtain ⟨z0, z1, z2, z3, z4, z5, z6, z7, z8, z9, -⟩ := kz.cells
        simp only at z1 z2 z3 z4 z5 z6 z7 z8 z9
        refine bodyPost_ret (v := .agg #[(.slice A q.out.length cp), (.int .i64 p1.col), (.int .i64 p1.start), (.bool p1.op), (.int .i64 p1.owed), (.int .i64 p1.lines), (.bool true), (.int .i64 c.width), (.int .i64 c.ribbon), (.int .i64 c.mode)]) (by simp [results, Tryd.results75, go_sem, z0, z1, z2, z3, z4, z5, z6, z7, z8, z9]) rfl ?_
        exact ⟨_, p1, true, rfl, by rw [HOUT.out]; exact oz, Stay.of_below bz, .inl rfl, HO5.out.mono (by omega), rfl⟩
      | false =>
        by_cases hbig : 16777216 < q.out.length + p1.owed.toNat + s.size
        · have g1 : decide (16777216 < (q.out.length : Int) + p1.owed + (s.size : Int)) = true := decide_eq_true (by omega)
          have HRR := Lib.hid (show put c q s base fresh = none by rw [HPUT.out, if_neg hs0, if_pos hbig])
          clear hbig hs0
          go_wp2
          have kz := (RBox.far (g := w.heap.size) (i := 6) HR5.out (.bool true) (Nat.ne_of_gt hl01)).put (.slice A q.out.length cp) (pfOf c p1 true)
          have oz := own_put (own_set (b := w.heap.size) (i := 6) HOW5.out HV.out.1 (.bool true)) (HV.out.2) (.slice A q.out.length cp) (pfOf c p1 true)
          have bz := below_put (Below.setCell (p := ⟨w.heap.size, 6, none⟩) HB5.out (Nat.le_refl _) (.bool true)) (b := W0.heap.size) (Nat.le_of_lt hl01) (.slice A q.out.length cp) (pfOf c p1 true)
          simp only [pfOf] at kz oz bz
          generalize (((((((((((W5.setCell ⟨w.heap.size, 6, none⟩ (.bool true)).setCell ⟨W0.heap.size, 0, none⟩ (.slice A q.out.length cp)).setCell ⟨W0.heap.size, 1, none⟩ (.int .i64 p1.col)).setCell ⟨W0.heap.size, 2, none⟩ (.int .i64 p1.start)).setCell ⟨W0.heap.size, 3, none⟩ (.bool p1.op)).setCell ⟨W0.heap.size, 4, none⟩ (.int .i64 p1.owed)).setCell ⟨W0.heap.size, 5, none⟩ (.int .i64 p1.lines)).setCell ⟨W0.heap.size, 6, none⟩ (.bool true)).setCell ⟨W0.heap.size, 7, none⟩ (.int .i64 c.width)).setCell ⟨W0.heap.size, 8, none⟩ (.int .i64 c.ribbon)).setCell ⟨W0.heap.size, 9, none⟩ (.int .i64 c.mode)) = WZ at kz oz bz ⊢
          obtain ⟨z0, z1, z2, z3, z4, z5, z6, z7, z8, z9, -⟩ := kz.cells
          simp only at z1 z2 z3 z4 z5 z6 z7 z8 z9
          refine bodyPost_ret (v := .agg #[(.slice A q.out.length cp), (.int .i64 p1.col), (.int .i64 p1.start), (.bool p1.op), (.int .i64 p1.owed), (.int .i64 p1.lines), (.bool true), (.int .i64 c.width), (.int .i64 c.ribbon), (.int .i64 c.mode)]) (by simp [results, Tryd.results75, go_sem, z0, z1, z2, z3, z4, z5, z6, z7, z8, z9]) rfl ?_
          exact ⟨_, p1, true, rfl, by rw [HOUT.out]; exact oz, Stay.of_below bz, .inl rfl, HO5.out.mono (by omega), sim_dead HRR.out⟩
        · have g1 : decide (16777216 < (q.out.length : Int) + p1.owed + (s.size : Int)) = false := decide_eq_false (by omega)
          have HRR := Lib.hid (show put c q s base fresh = some { p1 with out := q.out ++ List.replicate p1.owed.toNat 32 ++ s.data.toList, owed := 0, col := p1.col + cols s } by rw [HPUT.out, if_neg hs0, if_neg hbig])
          have hsm : q.out.length + p1.owed.toNat + s.size ≤ 16777216 := by omega
          clear hbig hs0
          go_wp2_with fail
          go_loopw [] (fun wr => ∃ (j : Nat) (Vj : Value), j ≤ p1.owed.toNat ∧ wr.ownsRow B 5 1 Vj (q.out.length + j) (Lib.byteCells (q.out ++ List.replicate j 32)) ∧ RBox wr w.heap.size Vj (pfOf c { p1 with owed := p1.owed - j } false) ∧ RBox wr W0.heap.size (.slice none 0 0) PF0 ∧ Stay (fun k => some k ≠ Value.ownBlock (.slice A q.out.length cp)) w wr ∧ Next (.slice A q.out.length cp) w Vj) (fun wr => owedAt wr w.heap.size)
          case atStart => exact ⟨0, (.slice A q.out.length cp), Nat.zero_le _, by simpa using HOW5.out, by simpa using HP5.out, HR5.out, Stay.of_below HB5.out, .inl rfl⟩
          case round =>
            obtain ⟨j, Vj, hj, hoj, hpj, hrj, hsj, hnj⟩ := hrel
            have hBr : B ≤ wr.heap.size := Nat.le_trans hB hsj.size
            have HOJ := Lib.hid hoj
            have HPJ := Lib.hid hpj
            have HRJ := Lib.hid hrj
            have HSJ := Lib.hid hsj
            have HNJ := Lib.hid hnj
            have hne := Lib.ownBlock_ne hoj hpj.blk (by decide)
            have hnr := Lib.ownBlock_ne hoj hrj.blk (by decide)
            have HNE := Lib.hid (And.intro hne hnr)
            obtain ⟨Aj, cj, rfl⟩ := own_form hoj
            have hltp := hpj.lt
            have hltr := hrj.lt
            clear e0 e1 e2 e3 e4 e5 e6 e7 e8 e9 f0 f1 f4 f6 h0 h1 h2 h3 h4 h5 h6 h7 h8 h9 u0 u1 u2 u3 u4 u5 u6 u7 u8 u9
            obtain ⟨e0, e1, e2, e3, e4, e5, e6, e7, e8, e9, fz⟩ := hpj.cells
            simp only [pfOf] at e1 e2 e3 e4 e5 e6 e7 e8 e9
            by_cases hlt : (j : Int) < p1.owed
            · have g2 : decide (0 < p1.owed - (j : Int)) = true := decide_eq_true (by omega)
              clear hpj hrj hsj hnj hne hnr
              go_wp2_with (at_builtin; refine wpList_app1 rfl _ _ 63 rfl 5 _ 1 1 Tryd.underlying63 info5 rfl (by decide) wr [.int .u8 32] rfl _ rfl B (.slice Aj (q.out.length + j) cj) _ _ rfl hoj rfl rfl (by simp [Value.oneCell']) (by unfold maxLen; omega) (by omega) hBr ?_)
              intro g cg w2 hown' _ hgrow hn
              have hp2 := HPJ.out.of (hgrow.block _ hltp fun e => HNE.out.1 e.symm)
              have hr2 := HRJ.out.of (hgrow.block _ hltr fun e => HNE.out.2 e.symm)
              have hs2 : Stay (fun k => some k ≠ Value.ownBlock (.slice A q.out.length cp)) w w2 := HSJ.out.trans (Stay.of_grown hgrow) fun k hk ht => by
                rcases HNJ.out with e | ⟨x, e, hx⟩
                · rw [e]; exact ht
                · rw [e]; intro he; simp only [Option.some.injEq] at he; omega
              have hn2 : Next (.slice A q.out.length cp) w (.slice (some ⟨g, 0, none⟩) (q.out.length + j + 1) cg) := next_trans HNJ.out HSJ.out.size (by
                by_cases hk : some g = Value.ownBlock (.slice Aj (q.out.length + j) cj)
                · exact .inl hk
                · exact .inr ⟨g, rfl, Nat.le_of_not_lt fun hlt => hn g hk hlt rfl⟩)
              have hne2 := Lib.ownBlock_ne hown' hp2.blk (by decide)
              have hnr2 := Lib.ownBlock_ne hown' hr2.blk (by decide)
              have HO2 := Lib.hid hown'
              have HP2 := Lib.hid hp2
              have HR2 := Lib.hid hr2
              have HS2 := Lib.hid hs2
              have HN2 := Lib.hid hn2
              have HNE2 := Lib.hid (And.intro hne2 hnr2)
              obtain ⟨y0, y1, y2, y3, y4, y5, y6, y7, y8, y9, yz⟩ := hp2.cells
              simp only [pfOf] at y1 y2 y3 y4 y5 y6 y7 y8 y9
              have yf0 := yz 0
              have yf4 := yz 4
              clear hown' hp2 hr2 hs2 hn2 hne2 hnr2 yz fz hgrow hn e0 e1 e2 e3 e4 e5 e6 e7 e8 e9 hoj
              go_wp2
              go_roundw
              case rel =>
                have k1 := HP2.out.set (V' := .slice (some ⟨g, 0, none⟩) (q.out.length + j + 1) cg) (pfOf c { p1 with owed := p1.owed - j } false) 0 (.slice (some ⟨g, 0, none⟩) (q.out.length + j + 1) cg) (by simp)
                have k2 := k1.set (V' := .slice (some ⟨g, 0, none⟩) (q.out.length + j + 1) cg) (pfOf c { p1 with owed := p1.owed - j - 1 } false) 4 (.int .i64 (p1.owed - j - 1)) (by simp [pfOf])
                refine ⟨j + 1, _, by omega, ?_, by rw [show p1.owed - ((j + 1 : Nat) : Int) = p1.owed - j - 1 by omega]; exact k2, RBox.far (RBox.far HR2.out _ (Nat.ne_of_gt hl01)) _ (Nat.ne_of_gt hl01), stay_set2 (stay_set2 HS2.out (Nat.le_refl _) _) (Nat.le_refl _) _, HN2.out⟩
                have o2 := own_set (own_set HO2.out HNE2.out.1 (.slice (some ⟨g, 0, none⟩) (q.out.length + j + 1) cg) (i := 0)) HNE2.out.1 (.int .i64 (p1.owed - j - 1)) (i := 4)
                rw [show q.out ++ List.replicate (j + 1) (32 : UInt8) = (q.out ++ List.replicate j 32) ++ [32] by rw [List.replicate_succ', List.append_assoc], Lib.byteCells_append]
                exact o2
              case measure =>
                rw [owedAt_of (x := p1.owed - (j : Int)) HPJ.out.cells.c4, owedAt_of (x := p1.owed - (j : Int) - 1) ((HP2.out.set (V' := .slice (some ⟨g, 0, none⟩) (q.out.length + j + 1) cg) (pfOf c { p1 with owed := p1.owed - j } false) 0 (.slice (some ⟨g, 0, none⟩) (q.out.length + j + 1) cg) (by simp)).set (V' := .slice (some ⟨g, 0, none⟩) (q.out.length + j + 1) cg) (pfOf c { p1 with owed := p1.owed - j - 1 } false) 4 (.int .i64 (p1.owed - j - 1)) (by simp [pfOf])).cells.c4]
                omega
            · have g2 : decide (0 < p1.owed - (j : Int)) = false := decide_eq_false (by omega)
              obtain rfl : j = p1.owed.toNat := by omega
              go_wp2_with (at_builtin; refine wpList_str_at rfl _ _ rfl B _ _ _ rfl hoj s rfl (by omega) hBr ?_)
              intro v9 w2 hown' hgrow hnx
              have h00 : p1.owed - (p1.owed.toNat : Int) = 0 := by omega
              have hp2 := HPJ.out.of (hgrow.block _ hltp fun e => HNE.out.1 e.symm)
              rw [h00] at hp2
              have hr2 := HRJ.out.of (hgrow.block _ hltr fun e => HNE.out.2 e.symm)
              have hs2 : Stay (fun k => some k ≠ Value.ownBlock (.slice A q.out.length cp)) w w2 := HSJ.out.trans (Stay.of_grown hgrow) fun k hk ht => by
                rcases HNJ.out with e | ⟨x, e, hx⟩
                · rw [e]; exact ht
                · rw [e]; intro he; simp only [Option.some.injEq] at he; omega
              have hn2 := next_trans HNJ.out HSJ.out.size hnx
              have hne2 := Lib.ownBlock_ne hown' hp2.blk (by decide)
              have hnr2 := Lib.ownBlock_ne hown' hr2.blk (by decide)
              obtain ⟨A9, c9, rfl⟩ := own_form hown'
              have HO2 := Lib.hid hown'
              have HP2 := Lib.hid hp2
              have HR2 := Lib.hid hr2
              have HS2 := Lib.hid hs2
              have HX10 := Lib.hid hn2
              have HN10 := Lib.hid (And.intro hne2 hnr2)
              obtain ⟨y0, y1, y2, y3, y4, y5, y6, y7, y8, y9, yz⟩ := hp2.cells
              simp only [pfOf] at y1 y2 y3 y4 y5 y6 y7 y8 y9
              have yf0 := yz 0
              clear hown' hp2 hr2 hs2 hn2 hne2 hnr2 yz fz hgrow hnx e0 e1 e2 e3 e4 e5 e6 e7 e8 e9 hoj hpj hrj hsj hnj hne hnr h00
              go_upto_region 16 with (fail)
              have k10 := HP2.out.set (V' := (.slice A9 (q.out.length + p1.owed.toNat + s.size) c9)) (pfOf c { p1 with owed := 0 } false) 0 (.slice A9 (q.out.length + p1.owed.toNat + s.size) c9) (by simp)
              have r10 := RBox.far (g := w.heap.size) (i := 0) HR2.out (.slice A9 (q.out.length + p1.owed.toNat + s.size) c9) (Nat.ne_of_gt hl01)
              have o10 := own_set (b := w.heap.size) (i := 0) HO2.out HN10.out.1 (.slice A9 (q.out.length + p1.owed.toNat + s.size) c9)
              have s10 := stay_set2 (i := 0) HS2.out (Nat.le_refl _) (.slice A9 (q.out.length + p1.owed.toNat + s.size) c9)
              generalize w2.setCell ⟨w.heap.size, 0, none⟩ (.slice A9 (q.out.length + p1.owed.toNat + s.size) c9) = W10 at k10 r10 o10 s10 ⊢
              obtain ⟨-, x1, -, -, -, -, -, -, -, -, xz⟩ := k10.cells
              simp only [pfOf] at x1
              have xf := xz 1
              have hlt10 := k10.lt
              have HP10 := Lib.hid k10
              have HR10 := Lib.hid r10
              have HO10 := Lib.hid o10
              have HS10 := Lib.hid s10
              have hwc : IntKind.i64.wrap (p1.col + cols s) = p1.col + cols s := IntWalk.i64_in _ (by have := cols_nn s; have := cols_le s; omega)
              have HLEN := Lib.hid (show (Lib.byteCells (q.out ++ List.replicate p1.owed.toNat 32 ++ s.data.toList)) = Lib.byteCells (q.out ++ List.replicate p1.owed.toNat 32) ++ Lib.strCells s ∧ (q.out ++ List.replicate p1.owed.toNat 32 ++ s.data.toList).length = q.out.length + p1.owed.toNat + s.size from ⟨by rw [Lib.byteCells_append, ← Lib.strCells_eq], by rw [List.length_append, List.length_append, List.length_replicate, data_len]⟩)
              clear k10 r10 o10 s10 xz y0 y1 y2 y3 y4 y5 y6 y7 y8 y9 yf0
              go_region_with (go_at_call 42; refine (columns_any s (by omega) _).mono ?_; rintro e w11 ⟨rfl, hb11⟩; have g5' := (hb11.cell (p := ⟨w.heap.size, 1, none⟩) (by simpa using hlt10)).trans x1; have gf' := (hb11.frozen (p := ⟨w.heap.size, 1, none⟩) (by simpa using hlt10)).trans xf)
              all_goals
                clear hwc
                obtain ⟨e0, -, e2, e3, e4, e5, e6, e7, e8, e9, -⟩ := (HP10.out.on (undrew0 hb11)).cells
                simp only [pfOf] at e2 e3 e4 e5 e6 e7 e8 e9
                obtain ⟨u0, u1, u2, u3, u4, u5, u6, u7, u8, u9, gz⟩ := (HR10.out.on (undrew0 hb11)).cells
                simp only [PF0] at u1 u2 u3 u4 u5 u6 u7 u8 u9
                have h0 := gz 0
                have h1 := gz 1
                have h2 := gz 2
                have h3 := gz 3
                have h4 := gz 4
                have h5 := gz 5
                have h6 := gz 6
                have h7 := gz 7
                have h8 := gz 8
                have h9 := gz 9
                clear gz
                go_wp2
                have kz := (RBox.far (g := w.heap.size) (i := 1) (HR10.out.on (undrew0 hb11)) (.int .i64 (p1.col + cols s)) (Nat.ne_of_gt hl01)).put (.slice A9 (q.out.length + p1.owed.toNat + s.size) c9) (pfOf c { p1 with out := q.out ++ List.replicate p1.owed.toNat 32 ++ s.data.toList, owed := 0, col := p1.col + cols s } false)
                have oz := own_put (own_set (b := w.heap.size) (i := 1) (own_on HO10.out (undrew0 hb11)) HN10.out.1 (.int .i64 (p1.col + cols s))) (HN10.out.2) (.slice A9 (q.out.length + p1.owed.toNat + s.size) c9) (pfOf c { p1 with out := q.out ++ List.replicate p1.owed.toNat 32 ++ s.data.toList, owed := 0, col := p1.col + cols s } false)
                have bz := stay_put2 (b := W0.heap.size) (stay_set2 (i := 1) (stay_on2 HS10.out (undrew0 hb11)) (Nat.le_refl _) (.int .i64 (p1.col + cols s))) (Nat.le_of_lt hl01) (.slice A9 (q.out.length + p1.owed.toNat + s.size) c9) (pfOf c { p1 with out := q.out ++ List.replicate p1.owed.toNat 32 ++ s.data.toList, owed := 0, col := p1.col + cols s } false)
                simp only [pfOf] at kz oz bz
                generalize (((((((((((w11.setCell ⟨w.heap.size, 1, none⟩ (.int .i64 (p1.col + cols s))).setCell ⟨W0.heap.size, 0, none⟩ (.slice A9 (q.out.length + p1.owed.toNat + s.size) c9)).setCell ⟨W0.heap.size, 1, none⟩ (.int .i64 (p1.col + cols s))).setCell ⟨W0.heap.size, 2, none⟩ (.int .i64 p1.start)).setCell ⟨W0.heap.size, 3, none⟩ (.bool p1.op)).setCell ⟨W0.heap.size, 4, none⟩ (.int .i64 0)).setCell ⟨W0.heap.size, 5, none⟩ (.int .i64 p1.lines)).setCell ⟨W0.heap.size, 6, none⟩ (.bool false)).setCell ⟨W0.heap.size, 7, none⟩ (.int .i64 c.width)).setCell ⟨W0.heap.size, 8, none⟩ (.int .i64 c.ribbon)).setCell ⟨W0.heap.size, 9, none⟩ (.int .i64 c.mode)) = WZ at kz oz bz ⊢
                obtain ⟨z0, z1, z2, z3, z4, z5, z6, z7, z8, z9, -⟩ := kz.cells
                simp only at z1 z2 z3 z4 z5 z6 z7 z8 z9
                refine bodyPost_ret (v := .agg #[(.slice A9 (q.out.length + p1.owed.toNat + s.size) c9), (.int .i64 (p1.col + cols s)), (.int .i64 p1.start), (.bool p1.op), (.int .i64 0), (.int .i64 p1.lines), (.bool false), (.int .i64 c.width), (.int .i64 c.ribbon), (.int .i64 c.mode)]) (by simp [results, Tryd.results75, go_sem, z0, z1, z2, z3, z4, z5, z6, z7, z8, z9]) rfl ?_
                exact ⟨_, { p1 with out := q.out ++ List.replicate p1.owed.toNat 32 ++ s.data.toList, owed := 0, col := p1.col + cols s }, false, rfl, by rw [HLEN.out.1, HLEN.out.2]; exact oz, bz, HX10.out, HINV.out _ HRR.out, by rw [HRR.out]; exact sim_live (fun p hp => Option.some.inj hp) (fun h => nomatch h)⟩
end Go.Proofs.YtnpaplfdmpjfgaaDoor

/-! The reference's pen: a line is ended. -/
namespace Go.Proofs.YtnpaplfdmpjfgaaDoor
open Go.RowKit

theorem dead_inv {M : Int} {q : Pen} (h : Inv M q) : Inv (M + 1) { q with col := 0, owed := 0, op := false, lines := q.lines + 1 } := by
  obtain ⟨b1, b2, b3, b4, b5, b6, b7, b8⟩ := h
  refine ⟨by simp, by simp, ?_, b4, ?_, ?_, ?_, b8⟩ <;> simp only [] <;> omega

set_option maxRecDepth 100000 in
set_option maxHeartbeats 8000000 in
theorem rline_any (B : Nat) (V : Value) (c : Cfg) (q : Pen) (lg : Bool) (M : Int) (w : World) (h : w.ownsRow B 5 1 V q.out.length (Lib.byteCells q.out)) (hB : B ≤ w.heap.size) (hi : Inv M q) (hM : M ≤ 1099511627776) :
    Calls Tryd.prog 93 #[.agg #[V, .int .i64 q.col, .int .i64 q.start, .bool q.op, .int .i64 q.owed, .int .i64 q.lines, .bool lg, .int .i64 c.width, .int .i64 c.ribbon, .int .i64 c.mode]] w (RLaid B w V c (M + 1) (liveO lg (endl c q))) := by
  obtain ⟨A, cp, rfl⟩ := own_form h
  obtain ⟨hbx, hb0, hs0⟩ := rbox_new w (.slice A q.out.length cp) (pfOf c q lg)
  simp only [pfOf] at hb0 hs0
  obtain ⟨W0, hW0⟩ : ∃ W, w.alloc (.cells #[(.slice A q.out.length cp), .int .i64 q.col, .int .i64 q.start, .bool q.op, .int .i64 q.owed, .int .i64 q.lines, .bool lg, .int .i64 c.width, .int .i64 c.ribbon, .int .i64 c.mode] 73) = W := ⟨_, rfl⟩
  have hbx0 : RBox W0 w.heap.size (.slice A q.out.length cp) (pfOf c q lg) := by rw [← hW0]; exact hbx
  rw [hW0] at hb0 hs0
  obtain ⟨hrx, hb1, hs1⟩ := rbox_new W0 (.slice none 0 0) PF0
  simp only [PF0] at hb1 hs1
  obtain ⟨W, hW⟩ : ∃ W, W0.alloc (.cells #[.slice none 0 0, .int .i64 0, .int .i64 0, .bool false, .int .i64 0, .int .i64 0, .bool false, .int .i64 0, .int .i64 0, .int .i64 0] 73) = W := ⟨_, rfl⟩
  have hrx0 : RBox W W0.heap.size (.slice none 0 0) PF0 := by rw [← hW]; exact hrx
  rw [hW] at hb1 hs1
  have hbx1 := hbx0.on hb1
  have HBX := Lib.hid hbx1
  have HRX := Lib.hid hrx0
  have hb01 := hb0.trans (hb1.mono (by omega))
  have HB := Lib.hid hb01
  have HOW := Lib.hid (own_on h hb01)
  have HV := Lib.hid (show Value.ownBlock (.slice A q.out.length cp) ≠ some w.heap.size ∧ Value.ownBlock (.slice A q.out.length cp) ≠ some W0.heap.size from ⟨own_new h (Nat.le_refl _), own_new h (by omega)⟩)
  have HIN := Lib.hid (dead_inv hi)
  have hl0 : w.heap.size < W.heap.size := by omega
  have hl1 : W0.heap.size < W.heap.size := by omega
  have hl01 : w.heap.size < W0.heap.size := by omega
  have hM0 : 0 ≤ M := by have := hi.start; have := hi.startM; omega
  have hli0 := hi.lines
  have hli1 := hi.linesM
  have hol := hi.out
  have HI := Lib.hid hi
  obtain ⟨c0, c1, c2, c3, c4, c5, c6, c7, c8, c9, fz⟩ := hbx1.cells
  simp only [pfOf] at c1 c2 c3 c4 c5 c6 c7 c8 c9
  obtain ⟨u0, u1, u2, u3, u4, u5, u6, u7, u8, u9, gz⟩ := hrx0.cells
  simp only [PF0] at u1 u2 u3 u4 u5 u6 u7 u8 u9
  have f0 := fz 0
  have f1 := fz 1
  have f3 := fz 3
  have f4 := fz 4
  have f5 := fz 5
  have f6 := fz 6
  have h0 := gz 0
  have h1 := gz 1
  have h2 := gz 2
  have h3 := gz 3
  have h4 := gz 4
  have h5 := gz 5
  have h6 := gz 6
  have h7 := gz 7
  have h8 := gz 8
  have h9 := gz 9
  clear fz gz hbx hbx0 hbx1 hrx hrx0 hb0 hb1 hb01 hs0 hs1
  cases hm : (c.mode == 2) with
  | true =>
    have HRR := Lib.hid (show endl c q = put c q blankB 0 false by simp only [endl, hm, if_true])
    have HC := Lib.hid (rput_any B (.slice A q.out.length cp) c q lg blankB 0 M false W HOW.out (Nat.le_trans hB (Nat.le_of_lt hl0)) hi (fok_not _ _ _) hM hM0 (by decide))
    clear h hi
    go_enter Tryd.func93, Tryd.ntmps93
    go_wp2_with fail
    clear hW hW0
    refine HC.out.mono ?_
    rintro e w1 ⟨V', q', lg', rfl, h1, h2, h3, h4, h5⟩
    obtain ⟨A', cp', rfl⟩ := own_form h1
    have hr1 := HRX.out.stay h2 (fun e => HV.out.2 e.symm)
    have HNE := Lib.hid (Lib.ownBlock_ne h1 hr1.blk (by decide))
    have HR1 := Lib.hid hr1
    have HO1 := Lib.hid h1
    have HS1 := Lib.hid (Stay.trans (Stay.of_below HB.out) h2 fun _ _ h => h)
    have HN1 := Lib.hid (next_trans (V := (.slice A q.out.length cp)) (.inl rfl) (Nat.le_of_lt hl0) h3)
    have HI1 := Lib.hid h4
    have HSM := Lib.hid h5
    clear u0 u1 u2 u3 u4 u5 u6 u7 u8 u9 h0 h1 h2 h3 h4 h5 h6 h7 h8 h9 c0 c1 c2 c3 c4 c5 c6 c7 c8 c9 f0 f1 f3 f4 f5 f6
    obtain ⟨u0, u1, u2, u3, u4, u5, u6, u7, u8, u9, gz⟩ := hr1.cells
    simp only [PF0] at u1 u2 u3 u4 u5 u6 u7 u8 u9
    have h0 := gz 0
    have h1 := gz 1
    have h2 := gz 2
    have h3 := gz 3
    have h4 := gz 4
    have h5 := gz 5
    have h6 := gz 6
    have h7 := gz 7
    have h8 := gz 8
    have h9 := gz 9
    clear gz hr1 HC
    go_wp2
    have kz := (HR1.out).put (.slice A' q'.out.length cp') (pfOf c q' lg')
    have oz := own_put (HO1.out) (HNE.out) (.slice A' q'.out.length cp') (pfOf c q' lg')
    have bz := stay_put2 HS1.out (b := W0.heap.size) (Nat.le_of_lt hl01) (.slice A' q'.out.length cp') (pfOf c q' lg')
    simp only [pfOf] at kz oz bz
    generalize ((((((((((w1.setCell ⟨W0.heap.size, 0, none⟩ (.slice A' q'.out.length cp')).setCell ⟨W0.heap.size, 1, none⟩ (.int .i64 q'.col)).setCell ⟨W0.heap.size, 2, none⟩ (.int .i64 q'.start)).setCell ⟨W0.heap.size, 3, none⟩ (.bool q'.op)).setCell ⟨W0.heap.size, 4, none⟩ (.int .i64 q'.owed)).setCell ⟨W0.heap.size, 5, none⟩ (.int .i64 q'.lines)).setCell ⟨W0.heap.size, 6, none⟩ (.bool lg')).setCell ⟨W0.heap.size, 7, none⟩ (.int .i64 c.width)).setCell ⟨W0.heap.size, 8, none⟩ (.int .i64 c.ribbon)).setCell ⟨W0.heap.size, 9, none⟩ (.int .i64 c.mode)) = WZ at kz oz bz ⊢
    obtain ⟨z0, z1, z2, z3, z4, z5, z6, z7, z8, z9, -⟩ := kz.cells
    simp only at z1 z2 z3 z4 z5 z6 z7 z8 z9
    refine bodyPost_ret (v := .agg #[(.slice A' q'.out.length cp'), (.int .i64 q'.col), (.int .i64 q'.start), (.bool q'.op), (.int .i64 q'.owed), (.int .i64 q'.lines), (.bool lg'), (.int .i64 c.width), (.int .i64 c.ribbon), (.int .i64 c.mode)]) (by simp [results, Tryd.results93, go_sem, z0, z1, z2, z3, z4, z5, z6, z7, z8, z9]) rfl ?_
    exact ⟨_, q', lg', rfl, oz, bz, HN1.out, HI1.out, by rw [HRR.out]; exact HSM.out⟩
  | false =>
    by_cases hbig : 16777216 ≤ q.out.length
    · have HRR := Lib.hid (show endl c q = none by simp only [endl, hm, Bool.false_eq_true, if_false, if_pos hbig])
      have g1 : decide ((16777216 : Int) ≤ (q.out.length : Int)) = true := decide_eq_true (by omega)
      clear h hi hbig
      go_enter Tryd.func93, Tryd.ntmps93
      go_wp2
      have kz := (RBox.far (g := w.heap.size) (i := 5) (RBox.far (g := w.heap.size) (i := 3) (RBox.far (g := w.heap.size) (i := 4) (RBox.far (g := w.heap.size) (i := 1) (RBox.far (g := w.heap.size) (i := 6) (HRX.out) (.bool true) (Nat.ne_of_gt hl01)) (.int .i64 0) (Nat.ne_of_gt hl01)) (.int .i64 0) (Nat.ne_of_gt hl01)) (.bool false) (Nat.ne_of_gt hl01)) (.int .i64 (q.lines + 1)) (Nat.ne_of_gt hl01)).put (.slice A q.out.length cp) (pfOf c { q with col := 0, owed := 0, op := false, lines := q.lines + 1 } true)
      have oz := own_put (own_set (b := w.heap.size) (i := 5) (own_set (b := w.heap.size) (i := 3) (own_set (b := w.heap.size) (i := 4) (own_set (b := w.heap.size) (i := 1) (own_set (b := w.heap.size) (i := 6) (HOW.out) HV.out.1 (.bool true)) HV.out.1 (.int .i64 0)) HV.out.1 (.int .i64 0)) HV.out.1 (.bool false)) HV.out.1 (.int .i64 (q.lines + 1))) (HV.out.2) (.slice A q.out.length cp) (pfOf c { q with col := 0, owed := 0, op := false, lines := q.lines + 1 } true)
      have bz := below_put (Below.setCell (p := ⟨w.heap.size, 5, none⟩) (Below.setCell (p := ⟨w.heap.size, 3, none⟩) (Below.setCell (p := ⟨w.heap.size, 4, none⟩) (Below.setCell (p := ⟨w.heap.size, 1, none⟩) (Below.setCell (p := ⟨w.heap.size, 6, none⟩) (HB.out) (Nat.le_refl _) (.bool true)) (Nat.le_refl _) (.int .i64 0)) (Nat.le_refl _) (.int .i64 0)) (Nat.le_refl _) (.bool false)) (Nat.le_refl _) (.int .i64 (q.lines + 1))) (b := W0.heap.size) (Nat.le_of_lt hl01) (.slice A q.out.length cp) (pfOf c { q with col := 0, owed := 0, op := false, lines := q.lines + 1 } true)
      simp only [pfOf] at kz oz bz
      generalize (((((((((((World.setCell (World.setCell (World.setCell (World.setCell (World.setCell W ⟨w.heap.size, 6, none⟩ (.bool true)) ⟨w.heap.size, 1, none⟩ (.int .i64 0)) ⟨w.heap.size, 4, none⟩ (.int .i64 0)) ⟨w.heap.size, 3, none⟩ (.bool false)) ⟨w.heap.size, 5, none⟩ (.int .i64 (q.lines + 1))).setCell ⟨W0.heap.size, 0, none⟩ (.slice A q.out.length cp)).setCell ⟨W0.heap.size, 1, none⟩ (.int .i64 0)).setCell ⟨W0.heap.size, 2, none⟩ (.int .i64 q.start)).setCell ⟨W0.heap.size, 3, none⟩ (.bool false)).setCell ⟨W0.heap.size, 4, none⟩ (.int .i64 0)).setCell ⟨W0.heap.size, 5, none⟩ (.int .i64 (q.lines + 1))).setCell ⟨W0.heap.size, 6, none⟩ (.bool true)).setCell ⟨W0.heap.size, 7, none⟩ (.int .i64 c.width)).setCell ⟨W0.heap.size, 8, none⟩ (.int .i64 c.ribbon)).setCell ⟨W0.heap.size, 9, none⟩ (.int .i64 c.mode)) = WZ at kz oz bz ⊢
      obtain ⟨z0, z1, z2, z3, z4, z5, z6, z7, z8, z9, -⟩ := kz.cells
      simp only at z1 z2 z3 z4 z5 z6 z7 z8 z9
      refine bodyPost_ret (v := .agg #[(.slice A q.out.length cp), (.int .i64 0), (.int .i64 q.start), (.bool false), (.int .i64 0), (.int .i64 (q.lines + 1)), (.bool true), (.int .i64 c.width), (.int .i64 c.ribbon), (.int .i64 c.mode)]) (by simp [results, Tryd.results93, go_sem, z0, z1, z2, z3, z4, z5, z6, z7, z8, z9]) rfl ?_
      exact ⟨_, { q with col := 0, owed := 0, op := false, lines := q.lines + 1 }, true, rfl, oz, Stay.of_below bz, .inl rfl, HIN.out, sim_dead HRR.out⟩
    · have g1 : decide ((16777216 : Int) ≤ (q.out.length : Int)) = false := decide_eq_false (by omega)
      have HRR := Lib.hid (show endl c q = some { q with out := q.out ++ [10], col := 0, owed := 0, op := false, lines := q.lines + 1 } by simp only [endl, hm, Bool.false_eq_true, if_false, if_neg hbig])
      have HINV := Lib.hid (endl_inv HI.out HRR.out)
      have hBW : B ≤ W.heap.size := by omega
      clear hbig hi h
      cases lg with
      | true =>
        go_enter Tryd.func93, Tryd.ntmps93
        go_wp2
        have kz := (RBox.far (g := w.heap.size) (i := 5) (RBox.far (g := w.heap.size) (i := 3) (RBox.far (g := w.heap.size) (i := 4) (RBox.far (g := w.heap.size) (i := 1) (HRX.out) (.int .i64 0) (Nat.ne_of_gt hl01)) (.int .i64 0) (Nat.ne_of_gt hl01)) (.bool false) (Nat.ne_of_gt hl01)) (.int .i64 (q.lines + 1)) (Nat.ne_of_gt hl01)).put (.slice A q.out.length cp) (pfOf c { q with col := 0, owed := 0, op := false, lines := q.lines + 1 } true)
        have oz := own_put (own_set (b := w.heap.size) (i := 5) (own_set (b := w.heap.size) (i := 3) (own_set (b := w.heap.size) (i := 4) (own_set (b := w.heap.size) (i := 1) (HOW.out) HV.out.1 (.int .i64 0)) HV.out.1 (.int .i64 0)) HV.out.1 (.bool false)) HV.out.1 (.int .i64 (q.lines + 1))) (HV.out.2) (.slice A q.out.length cp) (pfOf c { q with col := 0, owed := 0, op := false, lines := q.lines + 1 } true)
        have bz := below_put (Below.setCell (p := ⟨w.heap.size, 5, none⟩) (Below.setCell (p := ⟨w.heap.size, 3, none⟩) (Below.setCell (p := ⟨w.heap.size, 4, none⟩) (Below.setCell (p := ⟨w.heap.size, 1, none⟩) (HB.out) (Nat.le_refl _) (.int .i64 0)) (Nat.le_refl _) (.int .i64 0)) (Nat.le_refl _) (.bool false)) (Nat.le_refl _) (.int .i64 (q.lines + 1))) (b := W0.heap.size) (Nat.le_of_lt hl01) (.slice A q.out.length cp) (pfOf c { q with col := 0, owed := 0, op := false, lines := q.lines + 1 } true)
        simp only [pfOf] at kz oz bz
        generalize (((((((((((World.setCell (World.setCell (World.setCell (World.setCell W ⟨w.heap.size, 1, none⟩ (.int .i64 0)) ⟨w.heap.size, 4, none⟩ (.int .i64 0)) ⟨w.heap.size, 3, none⟩ (.bool false)) ⟨w.heap.size, 5, none⟩ (.int .i64 (q.lines + 1))).setCell ⟨W0.heap.size, 0, none⟩ (.slice A q.out.length cp)).setCell ⟨W0.heap.size, 1, none⟩ (.int .i64 0)).setCell ⟨W0.heap.size, 2, none⟩ (.int .i64 q.start)).setCell ⟨W0.heap.size, 3, none⟩ (.bool false)).setCell ⟨W0.heap.size, 4, none⟩ (.int .i64 0)).setCell ⟨W0.heap.size, 5, none⟩ (.int .i64 (q.lines + 1))).setCell ⟨W0.heap.size, 6, none⟩ (.bool true)).setCell ⟨W0.heap.size, 7, none⟩ (.int .i64 c.width)).setCell ⟨W0.heap.size, 8, none⟩ (.int .i64 c.ribbon)).setCell ⟨W0.heap.size, 9, none⟩ (.int .i64 c.mode)) = WZ at kz oz bz ⊢
        obtain ⟨z0, z1, z2, z3, z4, z5, z6, z7, z8, z9, -⟩ := kz.cells
        simp only at z1 z2 z3 z4 z5 z6 z7 z8 z9
        refine bodyPost_ret (v := .agg #[(.slice A q.out.length cp), (.int .i64 0), (.int .i64 q.start), (.bool false), (.int .i64 0), (.int .i64 (q.lines + 1)), (.bool true), (.int .i64 c.width), (.int .i64 c.ribbon), (.int .i64 c.mode)]) (by simp [results, Tryd.results93, go_sem, z0, z1, z2, z3, z4, z5, z6, z7, z8, z9]) rfl ?_
        exact ⟨_, { q with col := 0, owed := 0, op := false, lines := q.lines + 1 }, true, rfl, oz, Stay.of_below bz, .inl rfl, HIN.out, rfl⟩
      | false =>
        have hoj := HOW.out
        go_enter Tryd.func93, Tryd.ntmps93
        go_wp2_with (at_builtin; refine wpList_app1 rfl _ _ 63 rfl 5 _ 1 1 Tryd.underlying63 info5 rfl (by decide) W [.int .u8 10] rfl _ rfl B (.slice A q.out.length cp) _ _ rfl hoj rfl rfl (by simp [Value.oneCell']) (by unfold maxLen; omega) (by omega) hBW ?_)
        intro g cg w2 hown' _ hgrow hn
        clear hW hW0
        have hp2 := HBX.out.of (hgrow.block _ hl0 fun e => HV.out.1 e.symm)
        have hr2 := HRX.out.of (hgrow.block _ hl1 fun e => HV.out.2 e.symm)
        have hs2 : Stay (fun k => some k ≠ Value.ownBlock (.slice A q.out.length cp)) w w2 := Stay.trans (Stay.of_below HB.out) (Stay.of_grown hgrow) fun _ _ h => h
        have hn2 : Next (.slice A q.out.length cp) w (.slice (some ⟨g, 0, none⟩) (q.out.length + 1) cg) := by
          by_cases hk : some g = Value.ownBlock (.slice A q.out.length cp)
          · exact .inl hk
          · exact .inr ⟨g, rfl, Nat.le_of_not_lt fun hlt => hn g hk (by omega) rfl⟩
        have hne2 := Lib.ownBlock_ne hown' hp2.blk (by decide)
        have hnr2 := Lib.ownBlock_ne hown' hr2.blk (by decide)
        have HO2 := Lib.hid hown'
        have HP2 := Lib.hid hp2
        have HR2 := Lib.hid hr2
        have HS2 := Lib.hid hs2
        have HN2 := Lib.hid hn2
        have HNE2 := Lib.hid (And.intro hne2 hnr2)
        have HLEN := Lib.hid (show Lib.byteCells (q.out ++ [10]) = Lib.byteCells q.out ++ [.int .u8 10] ∧ (q.out ++ [(10 : UInt8)]).length = q.out.length + 1 from ⟨by rw [Lib.byteCells_append]; rfl, by simp⟩)
        clear c0 c1 c2 c3 c4 c5 c6 c7 c8 c9 f0 f1 f3 f4 f5 f6 u0 u1 u2 u3 u4 u5 u6 u7 u8 u9 h0 h1 h2 h3 h4 h5 h6 h7 h8 h9 hoj
        obtain ⟨c0, c1, c2, c3, c4, c5, c6, c7, c8, c9, fz⟩ := hp2.cells
        simp only [pfOf] at c1 c2 c3 c4 c5 c6 c7 c8 c9
        obtain ⟨u0, u1, u2, u3, u4, u5, u6, u7, u8, u9, gz⟩ := hr2.cells
        simp only [PF0] at u1 u2 u3 u4 u5 u6 u7 u8 u9
        have f0 := fz 0
        have f1 := fz 1
        have f3 := fz 3
        have f4 := fz 4
        have f5 := fz 5
        have f6 := fz 6
        have h0 := gz 0
        have h1 := gz 1
        have h2 := gz 2
        have h3 := gz 3
        have h4 := gz 4
        have h5 := gz 5
        have h6 := gz 6
        have h7 := gz 7
        have h8 := gz 8
        have h9 := gz 9
        clear fz gz hown' hgrow hn hp2 hr2 hs2 hn2 hne2 hnr2
        go_wp2
        have kz := (RBox.far (g := w.heap.size) (i := 5) (RBox.far (g := w.heap.size) (i := 3) (RBox.far (g := w.heap.size) (i := 4) (RBox.far (g := w.heap.size) (i := 1) (RBox.far (g := w.heap.size) (i := 0) (HR2.out) (.slice (some ⟨g, 0, none⟩) (q.out.length + 1) cg) (Nat.ne_of_gt hl01)) (.int .i64 0) (Nat.ne_of_gt hl01)) (.int .i64 0) (Nat.ne_of_gt hl01)) (.bool false) (Nat.ne_of_gt hl01)) (.int .i64 (q.lines + 1)) (Nat.ne_of_gt hl01)).put (.slice (some ⟨g, 0, none⟩) (q.out.length + 1) cg) (pfOf c { q with col := 0, owed := 0, op := false, lines := q.lines + 1 } false)
        have oz := own_put (own_set (b := w.heap.size) (i := 5) (own_set (b := w.heap.size) (i := 3) (own_set (b := w.heap.size) (i := 4) (own_set (b := w.heap.size) (i := 1) (own_set (b := w.heap.size) (i := 0) (HO2.out) HNE2.out.1 (.slice (some ⟨g, 0, none⟩) (q.out.length + 1) cg)) HNE2.out.1 (.int .i64 0)) HNE2.out.1 (.int .i64 0)) HNE2.out.1 (.bool false)) HNE2.out.1 (.int .i64 (q.lines + 1))) (HNE2.out.2) (.slice (some ⟨g, 0, none⟩) (q.out.length + 1) cg) (pfOf c { q with col := 0, owed := 0, op := false, lines := q.lines + 1 } false)
        have bz := stay_put2 (stay_set2 (b := w.heap.size) (i := 5) (stay_set2 (b := w.heap.size) (i := 3) (stay_set2 (b := w.heap.size) (i := 4) (stay_set2 (b := w.heap.size) (i := 1) (stay_set2 (b := w.heap.size) (i := 0) (HS2.out) (Nat.le_refl _) (.slice (some ⟨g, 0, none⟩) (q.out.length + 1) cg)) (Nat.le_refl _) (.int .i64 0)) (Nat.le_refl _) (.int .i64 0)) (Nat.le_refl _) (.bool false)) (Nat.le_refl _) (.int .i64 (q.lines + 1))) (b := W0.heap.size) (Nat.le_of_lt hl01) (.slice (some ⟨g, 0, none⟩) (q.out.length + 1) cg) (pfOf c { q with col := 0, owed := 0, op := false, lines := q.lines + 1 } false)
        simp only [pfOf] at kz oz bz
        generalize (((((((((((World.setCell (World.setCell (World.setCell (World.setCell (World.setCell w2 ⟨w.heap.size, 0, none⟩ (.slice (some ⟨g, 0, none⟩) (q.out.length + 1) cg)) ⟨w.heap.size, 1, none⟩ (.int .i64 0)) ⟨w.heap.size, 4, none⟩ (.int .i64 0)) ⟨w.heap.size, 3, none⟩ (.bool false)) ⟨w.heap.size, 5, none⟩ (.int .i64 (q.lines + 1))).setCell ⟨W0.heap.size, 0, none⟩ (.slice (some ⟨g, 0, none⟩) (q.out.length + 1) cg)).setCell ⟨W0.heap.size, 1, none⟩ (.int .i64 0)).setCell ⟨W0.heap.size, 2, none⟩ (.int .i64 q.start)).setCell ⟨W0.heap.size, 3, none⟩ (.bool false)).setCell ⟨W0.heap.size, 4, none⟩ (.int .i64 0)).setCell ⟨W0.heap.size, 5, none⟩ (.int .i64 (q.lines + 1))).setCell ⟨W0.heap.size, 6, none⟩ (.bool false)).setCell ⟨W0.heap.size, 7, none⟩ (.int .i64 c.width)).setCell ⟨W0.heap.size, 8, none⟩ (.int .i64 c.ribbon)).setCell ⟨W0.heap.size, 9, none⟩ (.int .i64 c.mode)) = WZ at kz oz bz ⊢
        obtain ⟨z0, z1, z2, z3, z4, z5, z6, z7, z8, z9, -⟩ := kz.cells
        simp only at z1 z2 z3 z4 z5 z6 z7 z8 z9
        refine bodyPost_ret (v := .agg #[(.slice (some ⟨g, 0, none⟩) (q.out.length + 1) cg), (.int .i64 0), (.int .i64 q.start), (.bool false), (.int .i64 0), (.int .i64 (q.lines + 1)), (.bool false), (.int .i64 c.width), (.int .i64 c.ribbon), (.int .i64 c.mode)]) (by simp [results, Tryd.results93, go_sem, z0, z1, z2, z3, z4, z5, z6, z7, z8, z9]) rfl ?_
        exact ⟨_, { q with out := q.out ++ [10], col := 0, owed := 0, op := false, lines := q.lines + 1 }, false, rfl, by rw [HLEN.out.1, HLEN.out.2]; exact oz, bz, HN2.out, HINV.out, by rw [HRR.out]; exact sim_live (fun p hp => Option.some.inj hp) (fun h => nomatch h)⟩
end Go.Proofs.YtnpaplfdmpjfgaaDoor

/-! The state of a loop of the reference's: a pen in a box, a document in a box. -/
namespace Go.Proofs.YtnpaplfdmpjfgaaDoor
open Go.RowKit

/-- A document in a box. -/
structure DBox (w : World) (b : Nat) (d : Doc) (A : Option Addr) (cc : Nat) : Prop where
  blk : w.heap[b]? = some (.cells #[.int .i64 d.kind, .string d.text, .int .i64 d.n, .slice A d.kids.length cc] 24 (0, 0))
section
variable {b : Nat} {w w' : World} {d : Doc} {A : Option Addr} {cc : Nat}
theorem DBox.lt (h : DBox w b d A cc) : b < w.heap.size := (Array.getElem?_eq_some_iff.1 h.blk).1
theorem DBox.of (h : DBox w b d A cc) (hk : w'.heap[b]? = w.heap[b]?) : DBox w' b d A cc := ⟨hk.trans h.blk⟩
theorem DBox.on (h : DBox w b d A cc) (hb : Below w.heap.size w w') : DBox w' b d A cc := h.of (hb.block _ h.lt)
theorem DBox.stay {T : Nat → Prop} (h : DBox w b d A cc) (hs : Stay T w w') (ht : T b) : DBox w' b d A cc := h.of (hs.block _ h.lt ht)
theorem DBox.box (h : DBox w b d A cc) : Box4 w b (.int .i64 d.kind) (.string d.text) (.int .i64 d.n) (.slice A d.kids.length cc) :=
  ⟨by rw [Lib.cell_of_heap h.blk]; rfl, by rw [Lib.cell_of_heap h.blk]; rfl, by rw [Lib.cell_of_heap h.blk]; rfl, by rw [Lib.cell_of_heap h.blk]; rfl, Lib.frozen_of_heap h.blk 0, Lib.frozen_of_heap h.blk 1, Lib.frozen_of_heap h.blk 2, Lib.frozen_of_heap h.blk 3⟩
end
theorem dbox_new (w : World) (d : Doc) (A : Option Addr) (cc : Nat) : DBox (w.alloc (.cells #[.int .i64 d.kind, .string d.text, .int .i64 d.n, .slice A d.kids.length cc] 24)) w.heap.size d A cc ∧ Below w.heap.size w (w.alloc (.cells #[.int .i64 d.kind, .string d.text, .int .i64 d.n, .slice A d.kids.length cc] 24)) ∧ (w.alloc (.cells #[.int .i64 d.kind, .string d.text, .int .i64 d.n, .slice A d.kids.length cc] 24)).heap.size = w.heap.size + 1 :=
  ⟨⟨heap_alloc_new w _⟩, (Below.refl _ _).alloc (Nat.le_refl _) _, by simp⟩
/-- A box that is made, and then laid full. -/
theorem dbox_store (w : World) (d : Doc) (A : Option Addr) (cc : Nat) : DBox (((((w.alloc (.cells #[.int .i64 0, .string ⟨#[]⟩, .int .i64 0, .slice none 0 0] 24)).setCell ⟨w.heap.size, 0, none⟩ (.int .i64 d.kind)).setCell ⟨w.heap.size, 1, none⟩ (.string d.text)).setCell ⟨w.heap.size, 2, none⟩ (.int .i64 d.n)).setCell ⟨w.heap.size, 3, none⟩ (.slice A d.kids.length cc)) w.heap.size d A cc ∧
    Below w.heap.size w (((((w.alloc (.cells #[.int .i64 0, .string ⟨#[]⟩, .int .i64 0, .slice none 0 0] 24)).setCell ⟨w.heap.size, 0, none⟩ (.int .i64 d.kind)).setCell ⟨w.heap.size, 1, none⟩ (.string d.text)).setCell ⟨w.heap.size, 2, none⟩ (.int .i64 d.n)).setCell ⟨w.heap.size, 3, none⟩ (.slice A d.kids.length cc)) ∧
    (((((w.alloc (.cells #[.int .i64 0, .string ⟨#[]⟩, .int .i64 0, .slice none 0 0] 24)).setCell ⟨w.heap.size, 0, none⟩ (.int .i64 d.kind)).setCell ⟨w.heap.size, 1, none⟩ (.string d.text)).setCell ⟨w.heap.size, 2, none⟩ (.int .i64 d.n)).setCell ⟨w.heap.size, 3, none⟩ (.slice A d.kids.length cc)).heap.size = w.heap.size + 1 :=
  ⟨⟨by rw [heap_set (heap_set (heap_set (heap_set (heap_alloc_new w _) _) _) _) _]; simp only [List.setIfInBounds_toArray, List.set_cons_zero, List.set_cons_succ]⟩,
    ((((((Below.refl w.heap.size w).alloc (Nat.le_refl _) _).setCell (p := ⟨w.heap.size, 0, none⟩) (Nat.le_refl _) _).setCell (p := ⟨w.heap.size, 1, none⟩) (Nat.le_refl _) _).setCell (p := ⟨w.heap.size, 2, none⟩) (Nat.le_refl _) _).setCell (p := ⟨w.heap.size, 3, none⟩) (Nat.le_refl _) _), by simp [World.setCell]⟩
section
variable {b g : Nat} {w : World} {d : Doc} {A : Option Addr} {cc : Nat} {V : Value} {f : PF}
theorem put_block (V' : Value) (f' : PF) (hg : g ≠ b) : ((((((((((w.setCell ⟨b, 0, none⟩ V').setCell ⟨b, 1, none⟩ (.int .i64 f'.cl)).setCell ⟨b, 2, none⟩ (.int .i64 f'.st)).setCell ⟨b, 3, none⟩ (.bool f'.op)).setCell ⟨b, 4, none⟩ (.int .i64 f'.ow)).setCell ⟨b, 5, none⟩ (.int .i64 f'.ln)).setCell ⟨b, 6, none⟩ (.bool f'.lg)).setCell ⟨b, 7, none⟩ (.int .i64 f'.wd)).setCell ⟨b, 8, none⟩ (.int .i64 f'.rb)).setCell ⟨b, 9, none⟩ (.int .i64 f'.md)).heap[g]? = w.heap[g]? := by
  have hc : ∀ (x : World) (i : Nat) (v : Value), (x.setCell ⟨b, i, none⟩ v).heap[g]? = x.heap[g]? := fun x i v => Below.heap_setCell _ _ _ _ hg
  simp only [hc]
theorem put_size (V' : Value) (f' : PF) : ((((((((((w.setCell ⟨b, 0, none⟩ V').setCell ⟨b, 1, none⟩ (.int .i64 f'.cl)).setCell ⟨b, 2, none⟩ (.int .i64 f'.st)).setCell ⟨b, 3, none⟩ (.bool f'.op)).setCell ⟨b, 4, none⟩ (.int .i64 f'.ow)).setCell ⟨b, 5, none⟩ (.int .i64 f'.ln)).setCell ⟨b, 6, none⟩ (.bool f'.lg)).setCell ⟨b, 7, none⟩ (.int .i64 f'.wd)).setCell ⟨b, 8, none⟩ (.int .i64 f'.rb)).setCell ⟨b, 9, none⟩ (.int .i64 f'.md)).heap.size = w.heap.size := by simp [World.setCell]
end
/-- The boxes of a loop: the pen's, the document's, the result's. -/
structure RSt (B : Nat) (w : World) (V0 : Value) (c : Cfg) (pb db rb : Nat) (d : Doc) (A : Option Addr) (cc : Nat) (M : Int) (wr : World) (Vk : Value) (qk : Pen) (lk : Bool) : Prop where
  own : wr.ownsRow B 5 1 Vk qk.out.length (Lib.byteCells qk.out)
  pbx : RBox wr pb Vk (pfOf c qk lk)
  rbx : RBox wr rb (.slice none 0 0) PF0
  dbx : DBox wr db d A cc
  stay : Stay (fun k => some k ≠ V0.ownBlock) w wr
  next : Next V0 w Vk
  inv : Inv M qk
  ord : w.heap.size ≤ pb ∧ pb < db ∧ db < rb ∧ rb < wr.heap.size ∧ B ≤ w.heap.size
section
variable {B : Nat} {w wr w2 : World} {V0 Vk : Value} {c : Cfg} {pb db rb : Nat} {d : Doc} {A : Option Addr} {cc : Nat} {M M' : Int} {qk : Pen} {lk : Bool}
theorem RSt.on (h : RSt B w V0 c pb db rb d A cc M wr Vk qk lk) (hb : Below wr.heap.size wr w2) : RSt B w V0 c pb db rb d A cc M w2 Vk qk lk :=
  ⟨own_on h.own hb, h.pbx.on hb, h.rbx.on hb, h.dbx.on hb, stay_on2 h.stay hb, h.next, h.inv, h.ord.1, h.ord.2.1, h.ord.2.2.1, Nat.lt_of_lt_of_le h.ord.2.2.2.1 hb.size, h.ord.2.2.2.2⟩
theorem RSt.ble (h : RSt B w V0 c pb db rb d A cc M wr Vk qk lk) : B ≤ wr.heap.size := Nat.le_trans h.ord.2.2.2.2 h.stay.size
theorem RSt.mono (h : RSt B w V0 c pb db rb d A cc M wr Vk qk lk) (hM : M ≤ M') : RSt B w V0 c pb db rb d A cc M' wr Vk qk lk := ⟨h.own, h.pbx, h.rbx, h.dbx, h.stay, h.next, h.inv.mono hM, h.ord⟩
/-- A step whose pen is laid back into the box. -/
theorem RSt.step (h : RSt B w V0 c pb db rb d A cc M wr Vk qk lk) {V' : Value} {q' : Pen} (lg' : Bool) (ho : w2.ownsRow B 5 1 V' q'.out.length (Lib.byteCells q'.out)) (hs : Stay (fun k => some k ≠ Vk.ownBlock) wr w2) (hn : Next Vk wr V') (hi : Inv M' q') :
    RSt B w V0 c pb db rb d A cc M' ((((((((((w2.setCell ⟨pb, 0, none⟩ V').setCell ⟨pb, 1, none⟩ (.int .i64 (pfOf c q' lg').cl)).setCell ⟨pb, 2, none⟩ (.int .i64 (pfOf c q' lg').st)).setCell ⟨pb, 3, none⟩ (.bool (pfOf c q' lg').op)).setCell ⟨pb, 4, none⟩ (.int .i64 (pfOf c q' lg').ow)).setCell ⟨pb, 5, none⟩ (.int .i64 (pfOf c q' lg').ln)).setCell ⟨pb, 6, none⟩ (.bool (pfOf c q' lg').lg)).setCell ⟨pb, 7, none⟩ (.int .i64 (pfOf c q' lg').wd)).setCell ⟨pb, 8, none⟩ (.int .i64 (pfOf c q' lg').rb)).setCell ⟨pb, 9, none⟩ (.int .i64 (pfOf c q' lg').md)) V' q' lg' := by
  have np : Vk.ownBlock ≠ some pb := Lib.ownBlock_ne h.own h.pbx.blk (by decide)
  have nr : Vk.ownBlock ≠ some rb := Lib.ownBlock_ne h.own h.rbx.blk (by decide)
  have nd : Vk.ownBlock ≠ some db := Lib.ownBlock_ne h.own h.dbx.blk (by decide)
  have hp2 := h.pbx.stay hs (fun e => np e.symm)
  have hr2 := h.rbx.stay hs (fun e => nr e.symm)
  have hd2 := h.dbx.stay hs (fun e => nd e.symm)
  have np2 : V'.ownBlock ≠ some pb := Lib.ownBlock_ne ho hp2.blk (by decide)
  obtain ⟨o1, o2, o3, o4, o5⟩ := h.ord
  have hst : Stay (fun k => some k ≠ V0.ownBlock) w w2 := h.stay.trans hs fun k hk ht => by
    rcases h.next with e | ⟨x, e, hx⟩
    · rw [e]; exact ht
    · rw [e]; intro he; simp only [Option.some.injEq] at he; omega
  exact ⟨own_put ho np2 V' _, hp2.put V' _, hr2.of (put_block V' _ (by omega)), hd2.of (put_block V' _ (by omega)), stay_put2 hst o1 V' _, next_trans h.next h.stay.size hn, hi, o1, o2, o3, by rw [put_size]; exact Nat.lt_of_lt_of_le o4 hs.size, o5⟩
/-- .. and what else lies in a box. -/
theorem RSt.kid (h : RSt B w V0 c pb db rb d A cc M wr Vk qk lk) {kb : Nat} {x : Doc} {A' : Option Addr} {c' : Nat} (hk : DBox wr kb x A' c') (hs : Stay (fun k => some k ≠ Vk.ownBlock) wr w2) (hne : kb ≠ pb) (V' : Value) (f' : PF) :
    DBox ((((((((((w2.setCell ⟨pb, 0, none⟩ V').setCell ⟨pb, 1, none⟩ (.int .i64 f'.cl)).setCell ⟨pb, 2, none⟩ (.int .i64 f'.st)).setCell ⟨pb, 3, none⟩ (.bool f'.op)).setCell ⟨pb, 4, none⟩ (.int .i64 f'.ow)).setCell ⟨pb, 5, none⟩ (.int .i64 f'.ln)).setCell ⟨pb, 6, none⟩ (.bool f'.lg)).setCell ⟨pb, 7, none⟩ (.int .i64 f'.wd)).setCell ⟨pb, 8, none⟩ (.int .i64 f'.rb)).setCell ⟨pb, 9, none⟩ (.int .i64 f'.md)) kb x A' c' := by
  have nk : Vk.ownBlock ≠ some kb := Lib.ownBlock_ne h.own hk.blk (by decide)
  exact (hk.stay hs (fun e => nk e.symm)).of (put_block V' _ hne)
/-- .. and what lies below. -/
theorem RSt.lowStep (h : RSt B w V0 c pb db rb d A cc M wr Vk qk lk) {n₀ : Nat} (hn : n₀ ≤ B) (hs : Stay (fun k => some k ≠ Vk.ownBlock) wr w2) (V' : Value) (f' : PF) : Below n₀ wr ((((((((((w2.setCell ⟨pb, 0, none⟩ V').setCell ⟨pb, 1, none⟩ (.int .i64 f'.cl)).setCell ⟨pb, 2, none⟩ (.int .i64 f'.st)).setCell ⟨pb, 3, none⟩ (.bool f'.op)).setCell ⟨pb, 4, none⟩ (.int .i64 f'.ow)).setCell ⟨pb, 5, none⟩ (.int .i64 f'.ln)).setCell ⟨pb, 6, none⟩ (.bool f'.lg)).setCell ⟨pb, 7, none⟩ (.int .i64 f'.wd)).setCell ⟨pb, 8, none⟩ (.int .i64 f'.rb)).setCell ⟨pb, 9, none⟩ (.int .i64 f'.md)) :=
  below_put (hs.below (Nat.le_trans hn h.ble) fun k hk e => by have := (h.own.lt k e.symm).1; omega) (Nat.le_trans hn (Nat.le_trans h.ord.2.2.2.2 h.ord.1)) V' f'
/-- What lies in the memory below the pen's rows stays. -/
theorem RSt.low (h : RSt B w V0 c pb db rb d A cc M wr Vk qk lk) (hV : ∀ g, V0.ownBlock = some g → B ≤ g) {n₀ : Nat} (hn : n₀ ≤ B) : Below n₀ w wr :=
  h.stay.below (Nat.le_trans hn h.ord.2.2.2.2) fun k hk e => by have := hV k e.symm; omega
end
/-- What the reference's lay does with a document, wherever it is. -/
def RLaySays (d : Doc) : Prop := ∀ (B n₀ : Nat) (V : Value) (c : Cfg) (q : Pen) (lg : Bool) (base M : Int) (fresh : Bool) (A : Option Addr) (cc : Nat) (w : World),
  w.ownsRow B 5 1 V q.out.length (Lib.byteCells q.out) → B ≤ w.heap.size → Inv M q → (lg = false → d.void = false → FOk c q (base + d.lead0) fresh) → -M ≤ base → base ≤ M → M + 4000 * (d.wt : Int) - 2000 ≤ 1099511627776 → n₀ ≤ B → (A = none → cc = 0) → d.kids.length ≤ cc → KidsAt n₀ w d.kids A →
  Calls Tryd.prog 57 #[.agg #[V, .int .i64 q.col, .int .i64 q.start, .bool q.op, .int .i64 q.owed, .int .i64 q.lines, .bool lg, .int .i64 c.width, .int .i64 c.ribbon, .int .i64 c.mode], .agg #[.int .i64 d.kind, .string d.text, .int .i64 d.n, .slice A d.kids.length cc], .int .i64 base, .bool fresh] w (RLaid B w V c (M + 4000 * (d.wt : Int) - 2000) (liveO lg (d.lay c q base fresh)))
theorem filter_first {ds : List Doc} {k : Nat} (h : k < ds.length) (h0 : (ds.take k).filter Doc.there = []) (hv : ds[k].void = false) : ∃ r, ds.filter Doc.there = ds[k] :: r := by
  refine ⟨(ds.drop (k + 1)).filter Doc.there, ?_⟩
  conv => lhs; rw [← List.take_append_drop (k + 1) ds]
  rw [List.filter_append, there_add h hv, h0]
  rfl
end Go.Proofs.YtnpaplfdmpjfgaaDoor
