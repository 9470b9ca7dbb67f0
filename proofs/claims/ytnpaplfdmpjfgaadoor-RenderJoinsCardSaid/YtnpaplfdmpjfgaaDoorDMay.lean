/- Which documents may be: the program's may. -/
import Derived.Test.YtnpaplfdmpjfgaaDoorDText
import Derived.Test.YtnpaplfdmpjfgaaDoorDCount
namespace Go.Proofs.YtnpaplfdmpjfgaaDoor
open Go.RowKit

/-- What is asked of a document itself. -/
def hereF (k : Int) (t : ByteArray) (n : Int) (L : Nat) : Bool :=
  decide (0 ≤ k) && decide (k < 11) && (decide (k = 1) || t.toList.isEmpty) && plainF t && (decide (k = 2) || decide (n = 0)) && decide (-1000 ≤ n) && decide (n ≤ 1000) && (decide (1 < k) || decide (L = 0)) && (decide (k ≠ 2) || decide (L = 1))
mutual
/-- May a document be? -/
def Doc.may : Doc → Bool
  | ⟨k, t, n, kids⟩ => hereF k t n kids.length && mays kids
def mays : List Doc → Bool
  | [] => true
  | d :: r => d.may && mays r
end
theorem mays_all (ds : List Doc) : mays ds = ds.all Doc.may := by
  induction ds with
  | nil => rfl
  | cons d r ih => simp [mays, ih]
theorem may_eq (d : Doc) : d.may = (hereF d.kind d.text d.n d.kids.length && d.kids.all Doc.may) := by
  cases d
  rw [← mays_all]
  rfl
/-- What a function tells of a document. -/
def MaySays (f : Nat) (d : Doc) : Prop := ∀ (A : Option Addr) (c : Nat) (w : World), Lib.Utf8Tabs 1 2 w → KidsAt w.heap.size w d.kids A →
  Calls Tryd.prog f #[.agg #[.int .i64 d.kind, .string d.text, .int .i64 d.n, .slice A d.kids.length c]] w fun e w' => e = .returned (.bool d.may) ∧ Below w.heap.size w w'

theorem may_a (k n : Int) (t : ByteArray) (A : Option Addr) (c L : Nat) (w : World) (_q0 : k < 0) : Calls Tryd.prog 45 #[.agg #[.int .i64 k, .string t, .int .i64 n, .slice A L c]] w fun e w' => e = .returned (.bool false) ∧ Below w.heap.size w w' := by
  obtain ⟨_, hb0, _⟩ := box_new w (.int .i64 k) (.string t) (.int .i64 n) (.slice A L c)
  have HB := Lib.hid hb0
  clear hb0
  go_enter Tryd.func45, Tryd.ntmps45
  go_wp2
  go_ret
  exact ⟨rfl, HB.out⟩

theorem may_b (k n : Int) (t : ByteArray) (A : Option Addr) (c L : Nat) (w : World) (_q0 : ¬ k < 0) (_q1 : 11 ≤ k) : Calls Tryd.prog 45 #[.agg #[.int .i64 k, .string t, .int .i64 n, .slice A L c]] w fun e w' => e = .returned (.bool false) ∧ Below w.heap.size w w' := by
  obtain ⟨_, hb0, _⟩ := box_new w (.int .i64 k) (.string t) (.int .i64 n) (.slice A L c)
  have HB := Lib.hid hb0
  clear hb0
  go_enter Tryd.func45, Tryd.ntmps45
  go_wp2
  go_ret
  exact ⟨rfl, HB.out⟩

theorem may_t0 (n : Int) (t : ByteArray) (A : Option Addr) (c L : Nat) (w : World) (_q0 : t.toList.isEmpty = false) : Calls Tryd.prog 45 #[.agg #[.int .i64 0, .string t, .int .i64 n, .slice A L c]] w fun e w' => e = .returned (.bool false) ∧ Below w.heap.size w w' := by
  obtain ⟨_, hb0, _⟩ := box_new w (.int .i64 0) (.string t) (.int .i64 n) (.slice A L c)
  have HB := Lib.hid hb0
  clear hb0
  go_enter Tryd.func45, Tryd.ntmps45
  go_wp2
  go_ret
  exact ⟨rfl, HB.out⟩

theorem may_t2 (n : Int) (t : ByteArray) (A : Option Addr) (c L : Nat) (w : World) (_q0 : t.toList.isEmpty = false) : Calls Tryd.prog 45 #[.agg #[.int .i64 2, .string t, .int .i64 n, .slice A L c]] w fun e w' => e = .returned (.bool false) ∧ Below w.heap.size w w' := by
  obtain ⟨_, hb0, _⟩ := box_new w (.int .i64 2) (.string t) (.int .i64 n) (.slice A L c)
  have HB := Lib.hid hb0
  clear hb0
  go_enter Tryd.func45, Tryd.ntmps45
  go_wp2
  go_ret
  exact ⟨rfl, HB.out⟩

theorem may_t3 (k n : Int) (t : ByteArray) (A : Option Addr) (c L : Nat) (w : World) (_q0 : 0 ≤ k) (_q1 : k < 11) (_q2 : 3 ≤ k) (_q3 : (k == 1) = false) (_q4 : (k == 2) = false) (_q5 : (k != 1) = true) (_q6 : (k != 2) = true) (_q7 : 1 < k) (_q8 : t.toList.isEmpty = false) : Calls Tryd.prog 45 #[.agg #[.int .i64 k, .string t, .int .i64 n, .slice A L c]] w fun e w' => e = .returned (.bool false) ∧ Below w.heap.size w w' := by
  obtain ⟨_, hb0, _⟩ := box_new w (.int .i64 k) (.string t) (.int .i64 n) (.slice A L c)
  have HB := Lib.hid hb0
  clear hb0
  go_enter Tryd.func45, Tryd.ntmps45
  go_wp2
  go_ret
  exact ⟨rfl, HB.out⟩

set_option maxHeartbeats 1000000 in
theorem may_p0 (n : Int) (t : ByteArray) (A : Option Addr) (c L : Nat) (w : World) (hs : t.size ≤ 16777216) (hT : Lib.Utf8Tabs 1 2 w) (hp : plainF t = false) (_q0 : t.toList.isEmpty = true) : Calls Tryd.prog 45 #[.agg #[.int .i64 0, .string t, .int .i64 n, .slice A L c]] w fun e w' => e = .returned (.bool false) ∧ Below w.heap.size w w' := by
  obtain ⟨hbx, hb0, hs0⟩ := box_new w (.int .i64 0) (.string t) (.int .i64 n) (.slice A L c)
  have HC := Lib.hid (plain_any t hs _ (Utf8Tabs_below hT hb0))
  have HX := Lib.hid hbx
  have HB := Lib.hid hb0
  have HS := Lib.hid hs0
  clear hbx hb0 hs0 hT
  go_enter Tryd.func45, Tryd.ntmps45
  go_wp2_with fail
  refine HC.out.mono ?_
  rintro e w1 ⟨rfl, hb1⟩
  rw [hp]
  have HB1 := Lib.hid (HB.out.trans (hb1.mono (by rw [HS.out]; omega)))
  obtain ⟨x0, x1, x2, x3, _, _, _, _⟩ := HX.out.below hb1 (by rw [HS.out]; omega)
  clear HX HB HC hb1
  go_wp2
  go_ret
  exact ⟨rfl, HB1.out⟩

set_option maxHeartbeats 1000000 in
theorem may_n0 (n : Int) (t : ByteArray) (A : Option Addr) (c L : Nat) (w : World) (hs : t.size ≤ 16777216) (hT : Lib.Utf8Tabs 1 2 w) (hp : plainF t = true) (_q0 : t.toList.isEmpty = true) (_q1 : (n != 0) = true) : Calls Tryd.prog 45 #[.agg #[.int .i64 0, .string t, .int .i64 n, .slice A L c]] w fun e w' => e = .returned (.bool false) ∧ Below w.heap.size w w' := by
  obtain ⟨hbx, hb0, hs0⟩ := box_new w (.int .i64 0) (.string t) (.int .i64 n) (.slice A L c)
  have HC := Lib.hid (plain_any t hs _ (Utf8Tabs_below hT hb0))
  have HX := Lib.hid hbx
  have HB := Lib.hid hb0
  have HS := Lib.hid hs0
  clear hbx hb0 hs0 hT
  go_enter Tryd.func45, Tryd.ntmps45
  go_wp2_with fail
  refine HC.out.mono ?_
  rintro e w1 ⟨rfl, hb1⟩
  rw [hp]
  have HB1 := Lib.hid (HB.out.trans (hb1.mono (by rw [HS.out]; omega)))
  obtain ⟨x0, x1, x2, x3, _, _, _, _⟩ := HX.out.below hb1 (by rw [HS.out]; omega)
  clear HX HB HC hb1
  go_wp2
  go_ret
  exact ⟨rfl, HB1.out⟩

set_option maxHeartbeats 1000000 in
theorem may_l0 (n : Int) (t : ByteArray) (A : Option Addr) (c L : Nat) (w : World) (hs : t.size ≤ 16777216) (hT : Lib.Utf8Tabs 1 2 w) (hp : plainF t = true) (_q0 : t.toList.isEmpty = true) (_q1 : (n != 0) = false) (_q2 : ¬ n < -1000) (_q3 : ¬ 1000 < n) (_q4 : 0 < L) (_q5 : ¬ (L : Int) = 0) : Calls Tryd.prog 45 #[.agg #[.int .i64 0, .string t, .int .i64 n, .slice A L c]] w fun e w' => e = .returned (.bool false) ∧ Below w.heap.size w w' := by
  obtain ⟨hbx, hb0, hs0⟩ := box_new w (.int .i64 0) (.string t) (.int .i64 n) (.slice A L c)
  have HC := Lib.hid (plain_any t hs _ (Utf8Tabs_below hT hb0))
  have HX := Lib.hid hbx
  have HB := Lib.hid hb0
  have HS := Lib.hid hs0
  clear hbx hb0 hs0 hT
  go_enter Tryd.func45, Tryd.ntmps45
  go_wp2_with fail
  refine HC.out.mono ?_
  rintro e w1 ⟨rfl, hb1⟩
  rw [hp]
  have HB1 := Lib.hid (HB.out.trans (hb1.mono (by rw [HS.out]; omega)))
  obtain ⟨x0, x1, x2, x3, _, _, _, _⟩ := HX.out.below hb1 (by rw [HS.out]; omega)
  clear HX HB HC hb1
  go_wp2
  go_ret
  exact ⟨rfl, HB1.out⟩

set_option maxHeartbeats 1000000 in
theorem may_p1 (n : Int) (t : ByteArray) (A : Option Addr) (c L : Nat) (w : World) (hs : t.size ≤ 16777216) (hT : Lib.Utf8Tabs 1 2 w) (hp : plainF t = false)  : Calls Tryd.prog 45 #[.agg #[.int .i64 1, .string t, .int .i64 n, .slice A L c]] w fun e w' => e = .returned (.bool false) ∧ Below w.heap.size w w' := by
  obtain ⟨hbx, hb0, hs0⟩ := box_new w (.int .i64 1) (.string t) (.int .i64 n) (.slice A L c)
  have HC := Lib.hid (plain_any t hs _ (Utf8Tabs_below hT hb0))
  have HX := Lib.hid hbx
  have HB := Lib.hid hb0
  have HS := Lib.hid hs0
  clear hbx hb0 hs0 hT
  go_enter Tryd.func45, Tryd.ntmps45
  go_wp2_with fail
  refine HC.out.mono ?_
  rintro e w1 ⟨rfl, hb1⟩
  rw [hp]
  have HB1 := Lib.hid (HB.out.trans (hb1.mono (by rw [HS.out]; omega)))
  obtain ⟨x0, x1, x2, x3, _, _, _, _⟩ := HX.out.below hb1 (by rw [HS.out]; omega)
  clear HX HB HC hb1
  go_wp2
  go_ret
  exact ⟨rfl, HB1.out⟩

set_option maxHeartbeats 1000000 in
theorem may_n1 (n : Int) (t : ByteArray) (A : Option Addr) (c L : Nat) (w : World) (hs : t.size ≤ 16777216) (hT : Lib.Utf8Tabs 1 2 w) (hp : plainF t = true) (_q0 : (n != 0) = true) : Calls Tryd.prog 45 #[.agg #[.int .i64 1, .string t, .int .i64 n, .slice A L c]] w fun e w' => e = .returned (.bool false) ∧ Below w.heap.size w w' := by
  obtain ⟨hbx, hb0, hs0⟩ := box_new w (.int .i64 1) (.string t) (.int .i64 n) (.slice A L c)
  have HC := Lib.hid (plain_any t hs _ (Utf8Tabs_below hT hb0))
  have HX := Lib.hid hbx
  have HB := Lib.hid hb0
  have HS := Lib.hid hs0
  clear hbx hb0 hs0 hT
  go_enter Tryd.func45, Tryd.ntmps45
  go_wp2_with fail
  refine HC.out.mono ?_
  rintro e w1 ⟨rfl, hb1⟩
  rw [hp]
  have HB1 := Lib.hid (HB.out.trans (hb1.mono (by rw [HS.out]; omega)))
  obtain ⟨x0, x1, x2, x3, _, _, _, _⟩ := HX.out.below hb1 (by rw [HS.out]; omega)
  clear HX HB HC hb1
  go_wp2
  go_ret
  exact ⟨rfl, HB1.out⟩

set_option maxHeartbeats 1000000 in
theorem may_l1 (n : Int) (t : ByteArray) (A : Option Addr) (c L : Nat) (w : World) (hs : t.size ≤ 16777216) (hT : Lib.Utf8Tabs 1 2 w) (hp : plainF t = true) (_q0 : (n != 0) = false) (_q1 : ¬ n < -1000) (_q2 : ¬ 1000 < n) (_q3 : 0 < L) (_q4 : ¬ (L : Int) = 0) : Calls Tryd.prog 45 #[.agg #[.int .i64 1, .string t, .int .i64 n, .slice A L c]] w fun e w' => e = .returned (.bool false) ∧ Below w.heap.size w w' := by
  obtain ⟨hbx, hb0, hs0⟩ := box_new w (.int .i64 1) (.string t) (.int .i64 n) (.slice A L c)
  have HC := Lib.hid (plain_any t hs _ (Utf8Tabs_below hT hb0))
  have HX := Lib.hid hbx
  have HB := Lib.hid hb0
  have HS := Lib.hid hs0
  clear hbx hb0 hs0 hT
  go_enter Tryd.func45, Tryd.ntmps45
  go_wp2_with fail
  refine HC.out.mono ?_
  rintro e w1 ⟨rfl, hb1⟩
  rw [hp]
  have HB1 := Lib.hid (HB.out.trans (hb1.mono (by rw [HS.out]; omega)))
  obtain ⟨x0, x1, x2, x3, _, _, _, _⟩ := HX.out.below hb1 (by rw [HS.out]; omega)
  clear HX HB HC hb1
  go_wp2
  go_ret
  exact ⟨rfl, HB1.out⟩

set_option maxHeartbeats 1000000 in
theorem may_p2 (n : Int) (t : ByteArray) (A : Option Addr) (c L : Nat) (w : World) (hs : t.size ≤ 16777216) (hT : Lib.Utf8Tabs 1 2 w) (hp : plainF t = false) (_q0 : t.toList.isEmpty = true) : Calls Tryd.prog 45 #[.agg #[.int .i64 2, .string t, .int .i64 n, .slice A L c]] w fun e w' => e = .returned (.bool false) ∧ Below w.heap.size w w' := by
  obtain ⟨hbx, hb0, hs0⟩ := box_new w (.int .i64 2) (.string t) (.int .i64 n) (.slice A L c)
  have HC := Lib.hid (plain_any t hs _ (Utf8Tabs_below hT hb0))
  have HX := Lib.hid hbx
  have HB := Lib.hid hb0
  have HS := Lib.hid hs0
  clear hbx hb0 hs0 hT
  go_enter Tryd.func45, Tryd.ntmps45
  go_wp2_with fail
  refine HC.out.mono ?_
  rintro e w1 ⟨rfl, hb1⟩
  rw [hp]
  have HB1 := Lib.hid (HB.out.trans (hb1.mono (by rw [HS.out]; omega)))
  obtain ⟨x0, x1, x2, x3, _, _, _, _⟩ := HX.out.below hb1 (by rw [HS.out]; omega)
  clear HX HB HC hb1
  go_wp2
  go_ret
  exact ⟨rfl, HB1.out⟩

set_option maxHeartbeats 1000000 in
theorem may_n2a (n : Int) (t : ByteArray) (A : Option Addr) (c L : Nat) (w : World) (hs : t.size ≤ 16777216) (hT : Lib.Utf8Tabs 1 2 w) (hp : plainF t = true) (_q0 : t.toList.isEmpty = true) (_q1 : n < -1000) : Calls Tryd.prog 45 #[.agg #[.int .i64 2, .string t, .int .i64 n, .slice A L c]] w fun e w' => e = .returned (.bool false) ∧ Below w.heap.size w w' := by
  obtain ⟨hbx, hb0, hs0⟩ := box_new w (.int .i64 2) (.string t) (.int .i64 n) (.slice A L c)
  have HC := Lib.hid (plain_any t hs _ (Utf8Tabs_below hT hb0))
  have HX := Lib.hid hbx
  have HB := Lib.hid hb0
  have HS := Lib.hid hs0
  clear hbx hb0 hs0 hT
  go_enter Tryd.func45, Tryd.ntmps45
  go_wp2_with fail
  refine HC.out.mono ?_
  rintro e w1 ⟨rfl, hb1⟩
  rw [hp]
  have HB1 := Lib.hid (HB.out.trans (hb1.mono (by rw [HS.out]; omega)))
  obtain ⟨x0, x1, x2, x3, _, _, _, _⟩ := HX.out.below hb1 (by rw [HS.out]; omega)
  clear HX HB HC hb1
  go_wp2
  go_ret
  exact ⟨rfl, HB1.out⟩

set_option maxHeartbeats 1000000 in
theorem may_n2b (n : Int) (t : ByteArray) (A : Option Addr) (c L : Nat) (w : World) (hs : t.size ≤ 16777216) (hT : Lib.Utf8Tabs 1 2 w) (hp : plainF t = true) (_q0 : t.toList.isEmpty = true) (_q1 : ¬ n < -1000) (_q2 : 1000 < n) : Calls Tryd.prog 45 #[.agg #[.int .i64 2, .string t, .int .i64 n, .slice A L c]] w fun e w' => e = .returned (.bool false) ∧ Below w.heap.size w w' := by
  obtain ⟨hbx, hb0, hs0⟩ := box_new w (.int .i64 2) (.string t) (.int .i64 n) (.slice A L c)
  have HC := Lib.hid (plain_any t hs _ (Utf8Tabs_below hT hb0))
  have HX := Lib.hid hbx
  have HB := Lib.hid hb0
  have HS := Lib.hid hs0
  clear hbx hb0 hs0 hT
  go_enter Tryd.func45, Tryd.ntmps45
  go_wp2_with fail
  refine HC.out.mono ?_
  rintro e w1 ⟨rfl, hb1⟩
  rw [hp]
  have HB1 := Lib.hid (HB.out.trans (hb1.mono (by rw [HS.out]; omega)))
  obtain ⟨x0, x1, x2, x3, _, _, _, _⟩ := HX.out.below hb1 (by rw [HS.out]; omega)
  clear HX HB HC hb1
  go_wp2
  go_ret
  exact ⟨rfl, HB1.out⟩

set_option maxHeartbeats 1000000 in
theorem may_l2 (n : Int) (t : ByteArray) (A : Option Addr) (c L : Nat) (w : World) (hs : t.size ≤ 16777216) (hT : Lib.Utf8Tabs 1 2 w) (hp : plainF t = true) (_q0 : t.toList.isEmpty = true) (_q1 : ¬ n < -1000) (_q2 : ¬ 1000 < n) (_q3 : ((L : Int) != 1) = true) : Calls Tryd.prog 45 #[.agg #[.int .i64 2, .string t, .int .i64 n, .slice A L c]] w fun e w' => e = .returned (.bool false) ∧ Below w.heap.size w w' := by
  obtain ⟨hbx, hb0, hs0⟩ := box_new w (.int .i64 2) (.string t) (.int .i64 n) (.slice A L c)
  have HC := Lib.hid (plain_any t hs _ (Utf8Tabs_below hT hb0))
  have HX := Lib.hid hbx
  have HB := Lib.hid hb0
  have HS := Lib.hid hs0
  clear hbx hb0 hs0 hT
  go_enter Tryd.func45, Tryd.ntmps45
  go_wp2_with fail
  refine HC.out.mono ?_
  rintro e w1 ⟨rfl, hb1⟩
  rw [hp]
  have HB1 := Lib.hid (HB.out.trans (hb1.mono (by rw [HS.out]; omega)))
  obtain ⟨x0, x1, x2, x3, _, _, _, _⟩ := HX.out.below hb1 (by rw [HS.out]; omega)
  clear HX HB HC hb1
  go_wp2
  go_ret
  exact ⟨rfl, HB1.out⟩

set_option maxHeartbeats 1000000 in
theorem may_p3 (k n : Int) (t : ByteArray) (A : Option Addr) (c L : Nat) (w : World) (hs : t.size ≤ 16777216) (hT : Lib.Utf8Tabs 1 2 w) (hp : plainF t = false) (_q0 : 0 ≤ k) (_q1 : k < 11) (_q2 : 3 ≤ k) (_q3 : (k == 1) = false) (_q4 : (k == 2) = false) (_q5 : (k != 1) = true) (_q6 : (k != 2) = true) (_q7 : 1 < k) (_q8 : t.toList.isEmpty = true) : Calls Tryd.prog 45 #[.agg #[.int .i64 k, .string t, .int .i64 n, .slice A L c]] w fun e w' => e = .returned (.bool false) ∧ Below w.heap.size w w' := by
  obtain ⟨hbx, hb0, hs0⟩ := box_new w (.int .i64 k) (.string t) (.int .i64 n) (.slice A L c)
  have HC := Lib.hid (plain_any t hs _ (Utf8Tabs_below hT hb0))
  have HX := Lib.hid hbx
  have HB := Lib.hid hb0
  have HS := Lib.hid hs0
  clear hbx hb0 hs0 hT
  go_enter Tryd.func45, Tryd.ntmps45
  go_wp2_with fail
  refine HC.out.mono ?_
  rintro e w1 ⟨rfl, hb1⟩
  rw [hp]
  have HB1 := Lib.hid (HB.out.trans (hb1.mono (by rw [HS.out]; omega)))
  obtain ⟨x0, x1, x2, x3, _, _, _, _⟩ := HX.out.below hb1 (by rw [HS.out]; omega)
  clear HX HB HC hb1
  go_wp2
  go_ret
  exact ⟨rfl, HB1.out⟩

set_option maxHeartbeats 1000000 in
theorem may_n3 (k n : Int) (t : ByteArray) (A : Option Addr) (c L : Nat) (w : World) (hs : t.size ≤ 16777216) (hT : Lib.Utf8Tabs 1 2 w) (hp : plainF t = true) (_q0 : 0 ≤ k) (_q1 : k < 11) (_q2 : 3 ≤ k) (_q3 : (k == 1) = false) (_q4 : (k == 2) = false) (_q5 : (k != 1) = true) (_q6 : (k != 2) = true) (_q7 : 1 < k) (_q8 : t.toList.isEmpty = true) (_q9 : (n != 0) = true) : Calls Tryd.prog 45 #[.agg #[.int .i64 k, .string t, .int .i64 n, .slice A L c]] w fun e w' => e = .returned (.bool false) ∧ Below w.heap.size w w' := by
  obtain ⟨hbx, hb0, hs0⟩ := box_new w (.int .i64 k) (.string t) (.int .i64 n) (.slice A L c)
  have HC := Lib.hid (plain_any t hs _ (Utf8Tabs_below hT hb0))
  have HX := Lib.hid hbx
  have HB := Lib.hid hb0
  have HS := Lib.hid hs0
  clear hbx hb0 hs0 hT
  go_enter Tryd.func45, Tryd.ntmps45
  go_wp2_with fail
  refine HC.out.mono ?_
  rintro e w1 ⟨rfl, hb1⟩
  rw [hp]
  have HB1 := Lib.hid (HB.out.trans (hb1.mono (by rw [HS.out]; omega)))
  obtain ⟨x0, x1, x2, x3, _, _, _, _⟩ := HX.out.below hb1 (by rw [HS.out]; omega)
  clear HX HB HC hb1
  go_wp2
  go_ret
  exact ⟨rfl, HB1.out⟩

set_option maxRecDepth 100000 in
set_option maxHeartbeats 2000000 in
theorem may_y0 (n : Int) (t : ByteArray) (A : Option Addr) (c : Nat) (w : World) (hs : t.size ≤ 16777216) (hT : Lib.Utf8Tabs 1 2 w) (hp : plainF t = true) (_q0 : t.toList.isEmpty = true) (_q1 : (n != 0) = false) (_q2 : ¬ n < -1000) (_q3 : ¬ 1000 < n) : Calls Tryd.prog 45 #[.agg #[.int .i64 0, .string t, .int .i64 n, .slice A 0 c]] w fun e w' => e = .returned (.bool true) ∧ Below w.heap.size w w' := by
  obtain ⟨hbx, hb0, hs0⟩ := box_new w (.int .i64 0) (.string t) (.int .i64 n) (.slice A 0 c)
  have HC := Lib.hid (plain_any t hs _ (Utf8Tabs_below hT hb0))
  have HX := Lib.hid hbx
  have HB := Lib.hid hb0
  have HS := Lib.hid hs0
  clear hbx hb0 hs0 hT
  go_enter Tryd.func45, Tryd.ntmps45
  go_wp2_with fail
  refine HC.out.mono ?_
  rintro e W ⟨rfl, hb1⟩
  rw [hp]
  have HB1 := Lib.hid (HB.out.trans (hb1.mono (by rw [HS.out]; omega)))
  obtain ⟨x0, x1, x2, x3, _, _, _, _⟩ := HX.out.below hb1 (by rw [HS.out]; omega)
  clear HX HB HC hb1
  go_upto_region 9 with (fail)
  go_wp2_with fail
  clear x0 x1 x2 x3
  go_loopw [72] (fun i wr => i = .int .i64 0 ∧ wr = W) (fun _ _ => 0)
  case atStart => exact ⟨rfl, rfl⟩
  case round =>
    obtain ⟨rfl, rfl⟩ := hrel
    go_wp2
    go_ret
    exact ⟨rfl, HB1.out⟩

set_option maxRecDepth 100000 in
set_option maxHeartbeats 2000000 in
theorem may_y1 (n : Int) (t : ByteArray) (A : Option Addr) (c : Nat) (w : World) (hs : t.size ≤ 16777216) (hT : Lib.Utf8Tabs 1 2 w) (hp : plainF t = true) (_q0 : (n != 0) = false) (_q1 : ¬ n < -1000) (_q2 : ¬ 1000 < n) : Calls Tryd.prog 45 #[.agg #[.int .i64 1, .string t, .int .i64 n, .slice A 0 c]] w fun e w' => e = .returned (.bool true) ∧ Below w.heap.size w w' := by
  obtain ⟨hbx, hb0, hs0⟩ := box_new w (.int .i64 1) (.string t) (.int .i64 n) (.slice A 0 c)
  have HC := Lib.hid (plain_any t hs _ (Utf8Tabs_below hT hb0))
  have HX := Lib.hid hbx
  have HB := Lib.hid hb0
  have HS := Lib.hid hs0
  clear hbx hb0 hs0 hT
  go_enter Tryd.func45, Tryd.ntmps45
  go_wp2_with fail
  refine HC.out.mono ?_
  rintro e W ⟨rfl, hb1⟩
  rw [hp]
  have HB1 := Lib.hid (HB.out.trans (hb1.mono (by rw [HS.out]; omega)))
  obtain ⟨x0, x1, x2, x3, _, _, _, _⟩ := HX.out.below hb1 (by rw [HS.out]; omega)
  clear HX HB HC hb1
  go_upto_region 9 with (fail)
  go_wp2_with fail
  clear x0 x1 x2 x3
  go_loopw [72] (fun i wr => i = .int .i64 0 ∧ wr = W) (fun _ _ => 0)
  case atStart => exact ⟨rfl, rfl⟩
  case round =>
    obtain ⟨rfl, rfl⟩ := hrel
    go_wp2
    go_ret
    exact ⟨rfl, HB1.out⟩

set_option maxRecDepth 100000 in
set_option maxHeartbeats 2000000 in
theorem may_y2 (n : Int) (t : ByteArray) (kids : List Doc) (A : Option Addr) (c : Nat) (w : World) (hs : t.size ≤ 16777216) (hlen : kids.length ≤ 16777216) (hT : Lib.Utf8Tabs 1 2 w) (hp : plainF t = true) (_q0 : t.toList.isEmpty = true) (_q1 : ¬ n < -1000) (_q2 : ¬ 1000 < n) (_q3 : ((kids.length : Int) != 1) = false) (hK : KidsAt w.heap.size w kids A)
    (ih : ∀ d ∈ kids, MaySays 45 d) : Calls Tryd.prog 45 #[.agg #[.int .i64 2, .string t, .int .i64 n, .slice A kids.length c]] w fun e w' => e = .returned (.bool (kids.all Doc.may)) ∧ Below w.heap.size w w' := by
  obtain ⟨hbx, hb0, hs0⟩ := box_new w (.int .i64 2) (.string t) (.int .i64 n) (.slice A kids.length c)
  have HC := Lib.hid (plain_any t hs _ (Utf8Tabs_below hT hb0))
  have HT := Lib.hid (Utf8Tabs_below hT hb0)
  have HK := Lib.hid (kidsAt_on hK hb0)
  have HX := Lib.hid hbx
  have HB := Lib.hid hb0
  have HS := Lib.hid hs0
  have HIH := Lib.hid ih
  clear hbx hb0 hs0 hT hK ih
  go_enter Tryd.func45, Tryd.ntmps45
  go_wp2_with fail
  refine HC.out.mono ?_
  rintro e W ⟨rfl, hb1⟩
  rw [hp]
  have hs' : w.heap.size < W.heap.size := by have := hb1.size; rw [HS.out] at this; omega
  have HBW := Lib.hid (HB.out.trans (hb1.mono (by rw [HS.out]; omega)))
  have HTW := Lib.hid (Utf8Tabs_below HT.out hb1)
  have HKW := Lib.hid (kidsAt_on HK.out hb1)
  obtain ⟨x0, x1, x2, x3, _, _, _, _⟩ := HX.out.below hb1 (by rw [HS.out]; omega)
  clear HX HB HC HT HK hb1 HS
  go_upto_region 9 with (fail)
  go_wp2_with fail
  clear x0 x1 x2 x3
  go_loopw [72] (fun i wr => ∃ k : Nat, k ≤ kids.length ∧ i = .int .i64 k ∧ (∀ j (hj : j < kids.length), j < k → kids[j].may = true) ∧ Below W.heap.size W wr) (fun i wr => kids.length - (intOf i).toNat)
  case atStart => exact ⟨0, by omega, rfl, fun j _ hj => by omega, Below.refl _ _⟩
  case round =>
    obtain ⟨k, hk, rfl, hall, hB1⟩ := hrel
    have HA := Lib.hid hall
    have HB1 := Lib.hid hB1
    have hsz := hB1.size
    have HKr := Lib.hid (kidsAt_on HKW.out hB1)
    have HTr := Lib.hid (Utf8Tabs_below HTW.out hB1)
    clear hall hB1
    by_cases hlt : k < kids.length
    · obtain ⟨b, o, rfl, hat⟩ := kidsAt_get HKr.out (kid_in hlt)
      obtain ⟨A', c', h1, h2, h3, h4, h5, h6, h7, h8⟩ := docAt_iff.1 hat
      obtain ⟨hbx, hb0, hs0⟩ := box_new wr (.int .i64 kids[k].kind) (.string kids[k].text) (.int .i64 kids[k].n) (.slice A' kids[k].kids.length c')
      have HC := Lib.hid (HIH.out kids[k] (List.getElem_mem hlt) A' c' _ (Utf8Tabs_below HTr.out hb0) (kidsAt_on h8 hb0))
      have HB2 := Lib.hid hb0
      have HS2 := Lib.hid hs0
      clear h8 hbx hb0 hs0 h6 h7 hat
      cases hv : kids[k].may with
      | false =>
        have HV := Lib.hid hv
        clear hv
        go_wp2_with fail
        refine HC.out.mono ?_
        rintro e w2 ⟨rfl, hb2⟩
        rw [HV.out]
        have hBB := Lib.hid (HBW.out.trans ((HB1.out.trans ((HB2.out.trans (hb2.mono (by rw [HS2.out]; omega))).mono hsz)).mono (Nat.le_of_lt hs')))
        clear hb2 HC HB2 HS2
        go_wp2
        go_ret
        exact ⟨ret_bool (by symm; rw [List.all_eq_false]; exact ⟨_, List.getElem_mem hlt, by rw [HV.out]; decide⟩), hBB.out⟩
      | true =>
        have HV := Lib.hid hv
        clear hv
        go_wp2_with fail
        refine HC.out.mono ?_
        rintro e w2 ⟨rfl, hb2⟩
        rw [HV.out]
        have hBB := Lib.hid (HB1.out.trans ((HB2.out.trans (hb2.mono (by rw [HS2.out]; omega))).mono hsz))
        clear hb2 HC HB2 HS2
        go_wp2
        go_roundw
        case rel =>
          refine ⟨k + 1, by omega, by go_num, fun j hj hjk => ?_, hBB.out⟩
          by_cases h : j < k
          · exact HA.out j hj h
          · obtain rfl : j = k := by omega
            exact HV.out
        case measure => simp [intOf]; omega
    · obtain rfl : k = kids.length := by omega
      go_wp2
      go_ret
      exact ⟨ret_bool (by symm; rw [List.all_eq_true]; intro d hd; obtain ⟨j, hj, rfl⟩ := List.mem_iff_getElem.1 hd; exact HA.out j hj hj), HBW.out.trans (HB1.out.mono (Nat.le_of_lt hs'))⟩

set_option maxRecDepth 100000 in
set_option maxHeartbeats 2000000 in
theorem may_y3 (k n : Int) (t : ByteArray) (kids : List Doc) (A : Option Addr) (c : Nat) (w : World) (hs : t.size ≤ 16777216) (hlen : kids.length ≤ 16777216) (hT : Lib.Utf8Tabs 1 2 w) (hp : plainF t = true) (_q0 : 0 ≤ k) (_q1 : k < 11) (_q2 : 3 ≤ k) (_q3 : (k == 1) = false) (_q4 : (k == 2) = false) (_q5 : (k != 1) = true) (_q6 : (k != 2) = true) (_q7 : 1 < k) (_q8 : t.toList.isEmpty = true) (_q9 : (n != 0) = false) (_q10 : ¬ n < -1000) (_q11 : ¬ 1000 < n) (hK : KidsAt w.heap.size w kids A)
    (ih : ∀ d ∈ kids, MaySays 45 d) : Calls Tryd.prog 45 #[.agg #[.int .i64 k, .string t, .int .i64 n, .slice A kids.length c]] w fun e w' => e = .returned (.bool (kids.all Doc.may)) ∧ Below w.heap.size w w' := by
  obtain ⟨hbx, hb0, hs0⟩ := box_new w (.int .i64 k) (.string t) (.int .i64 n) (.slice A kids.length c)
  have HC := Lib.hid (plain_any t hs _ (Utf8Tabs_below hT hb0))
  have HT := Lib.hid (Utf8Tabs_below hT hb0)
  have HK := Lib.hid (kidsAt_on hK hb0)
  have HX := Lib.hid hbx
  have HB := Lib.hid hb0
  have HS := Lib.hid hs0
  have HIH := Lib.hid ih
  clear hbx hb0 hs0 hT hK ih
  go_enter Tryd.func45, Tryd.ntmps45
  go_wp2_with fail
  refine HC.out.mono ?_
  rintro e W ⟨rfl, hb1⟩
  rw [hp]
  have hs' : w.heap.size < W.heap.size := by have := hb1.size; rw [HS.out] at this; omega
  have HBW := Lib.hid (HB.out.trans (hb1.mono (by rw [HS.out]; omega)))
  have HTW := Lib.hid (Utf8Tabs_below HT.out hb1)
  have HKW := Lib.hid (kidsAt_on HK.out hb1)
  obtain ⟨x0, x1, x2, x3, _, _, _, _⟩ := HX.out.below hb1 (by rw [HS.out]; omega)
  clear HX HB HC HT HK hb1 HS
  go_upto_region 9 with (fail)
  go_wp2_with fail
  clear x0 x1 x2 x3
  go_loopw [72] (fun i wr => ∃ k : Nat, k ≤ kids.length ∧ i = .int .i64 k ∧ (∀ j (hj : j < kids.length), j < k → kids[j].may = true) ∧ Below W.heap.size W wr) (fun i wr => kids.length - (intOf i).toNat)
  case atStart => exact ⟨0, by omega, rfl, fun j _ hj => by omega, Below.refl _ _⟩
  case round =>
    obtain ⟨k, hk, rfl, hall, hB1⟩ := hrel
    have HA := Lib.hid hall
    have HB1 := Lib.hid hB1
    have hsz := hB1.size
    have HKr := Lib.hid (kidsAt_on HKW.out hB1)
    have HTr := Lib.hid (Utf8Tabs_below HTW.out hB1)
    clear hall hB1
    by_cases hlt : k < kids.length
    · obtain ⟨b, o, rfl, hat⟩ := kidsAt_get HKr.out (kid_in hlt)
      obtain ⟨A', c', h1, h2, h3, h4, h5, h6, h7, h8⟩ := docAt_iff.1 hat
      obtain ⟨hbx, hb0, hs0⟩ := box_new wr (.int .i64 kids[k].kind) (.string kids[k].text) (.int .i64 kids[k].n) (.slice A' kids[k].kids.length c')
      have HC := Lib.hid (HIH.out kids[k] (List.getElem_mem hlt) A' c' _ (Utf8Tabs_below HTr.out hb0) (kidsAt_on h8 hb0))
      have HB2 := Lib.hid hb0
      have HS2 := Lib.hid hs0
      clear h8 hbx hb0 hs0 h6 h7 hat
      cases hv : kids[k].may with
      | false =>
        have HV := Lib.hid hv
        clear hv
        go_wp2_with fail
        refine HC.out.mono ?_
        rintro e w2 ⟨rfl, hb2⟩
        rw [HV.out]
        have hBB := Lib.hid (HBW.out.trans ((HB1.out.trans ((HB2.out.trans (hb2.mono (by rw [HS2.out]; omega))).mono hsz)).mono (Nat.le_of_lt hs')))
        clear hb2 HC HB2 HS2
        go_wp2
        go_ret
        exact ⟨ret_bool (by symm; rw [List.all_eq_false]; exact ⟨_, List.getElem_mem hlt, by rw [HV.out]; decide⟩), hBB.out⟩
      | true =>
        have HV := Lib.hid hv
        clear hv
        go_wp2_with fail
        refine HC.out.mono ?_
        rintro e w2 ⟨rfl, hb2⟩
        rw [HV.out]
        have hBB := Lib.hid (HB1.out.trans ((HB2.out.trans (hb2.mono (by rw [HS2.out]; omega))).mono hsz))
        clear hb2 HC HB2 HS2
        go_wp2
        go_roundw
        case rel =>
          refine ⟨k + 1, by omega, by go_num, fun j hj hjk => ?_, hBB.out⟩
          by_cases h : j < k
          · exact HA.out j hj h
          · obtain rfl : j = k := by omega
            exact HV.out
        case measure => simp [intOf]; omega
    · obtain rfl : k = kids.length := by omega
      go_wp2
      go_ret
      exact ⟨ret_bool (by symm; rw [List.all_eq_true]; intro d hd; obtain ⟨j, hj, rfl⟩ := List.mem_iff_getElem.1 hd; exact HA.out j hj hj), HBW.out.trans (HB1.out.mono (Nat.le_of_lt hs'))⟩

theorem here_no {k n : Int} {t : ByteArray} {L : Nat} (h : ¬ (0 ≤ k ∧ k < 11 ∧ (k = 1 ∨ t.toList.isEmpty = true) ∧ plainF t = true ∧ (k = 2 ∨ n = 0) ∧ -1000 ≤ n ∧ n ≤ 1000 ∧ (1 < k ∨ L = 0) ∧ (k ≠ 2 ∨ L = 1))) : hereF k t n L = false := by
  cases hh : hereF k t n L with
  | false => rfl
  | true =>
    exfalso
    simp only [hereF, Bool.and_eq_true, Bool.or_eq_true, decide_eq_true_eq] at hh
    obtain ⟨⟨⟨⟨⟨⟨⟨⟨h1, h2⟩, h3⟩, h4⟩, h5⟩, h6⟩, h7⟩, h8⟩, h9⟩ := hh
    exact h ⟨h1, h2, h3, h4, h5, h6, h7, h8, h9⟩
theorem here_yes {k n : Int} {t : ByteArray} {L : Nat} (h : 0 ≤ k ∧ k < 11 ∧ (k = 1 ∨ t.toList.isEmpty = true) ∧ plainF t = true ∧ (k = 2 ∨ n = 0) ∧ -1000 ≤ n ∧ n ≤ 1000 ∧ (1 < k ∨ L = 0) ∧ (k ≠ 2 ∨ L = 1)) : hereF k t n L = true := by
  obtain ⟨h1, h2, h3, h4, h5, h6, h7, h8, h9⟩ := h
  simp only [hereF, Bool.and_eq_true, Bool.or_eq_true, decide_eq_true_eq]
  exact ⟨⟨⟨⟨⟨⟨⟨⟨h1, h2⟩, h3⟩, h4⟩, h5⟩, h6⟩, h7⟩, h8⟩, h9⟩
theorem b_true {a b : Int} (h : a = b) : (a != b) = false := by simp [h]
theorem b_false {a b : Int} (h : ¬ a = b) : (a != b) = true := by simp [h]
theorem e_false {a b : Int} (h : ¬ a = b) : (a == b) = false := by simp [h]
theorem kcases {k : Int} (h0 : 0 ≤ k) (h1 : k < 11) : k = 0 ∨ k = 1 ∨ k = 2 ∨ (0 ≤ k ∧ k < 11 ∧ 3 ≤ k ∧ (k == 1) = false ∧ (k == 2) = false ∧ (k != 1) = true ∧ (k != 2) = true ∧ 1 < k) := by
  by_cases h : 3 ≤ k
  · exact .inr (.inr (.inr ⟨h0, h1, h, e_false (by omega), e_false (by omega), b_false (by omega), b_false (by omega), by omega⟩))
  · omega

theorem may_step (d : Doc) (hw : d.wt ≤ 16777216) (ih : ∀ k ∈ d.kids, MaySays 45 k) : MaySays 45 d := by
  intro A c w hT hK
  have hs : d.text.size ≤ 16777216 := by have := text_lt d; omega
  have hl : d.kids.length ≤ 16777216 := by have := kids_lt d; omega
  rw [may_eq]
  obtain ⟨k, t, n, kids⟩ := d
  simp only at *
  have no : ∀ {Q : Prop}, (Q → Calls Tryd.prog 45 #[.agg #[.int .i64 k, .string t, .int .i64 n, .slice A kids.length c]] w fun e w' => e = .returned (.bool false) ∧ Below w.heap.size w w') → Q → hereF k t n kids.length = false → Calls Tryd.prog 45 #[.agg #[.int .i64 k, .string t, .int .i64 n, .slice A kids.length c]] w fun e w' => e = .returned (.bool (hereF k t n kids.length && kids.all Doc.may)) ∧ Below w.heap.size w w' :=
    fun h q hh => by rw [hh, Bool.false_and]; exact h q
  by_cases a1 : k < 0
  · exact no (fun q => may_a k n t A c _ w q) a1 (here_no (by omega))
  by_cases a2 : 11 ≤ k
  · exact no (fun q => may_b k n t A c _ w a1 q) a2 (here_no (by omega))
  cases te : t.toList.isEmpty with
  | false =>
    rcases kcases (by omega) (by omega : k < 11) with rfl | rfl | rfl | ⟨f0, f1, f2, f3, f4, f5, f6, f7⟩
    · exact no (fun q => may_t0 n t A c _ w q) te (here_no (by simp [te]))
    · cases hp : plainF t with
      | false => exact no (fun q => may_p1 n t A c _ w hs hT q) hp (here_no (by simp [hp]))
      | true =>
        by_cases hn : n = 0
        · by_cases hL : kids.length = 0
          · rw [here_yes (by rw [hp, te]; exact ⟨by omega, by omega, by simp, rfl, by omega, by omega, by omega, by omega, by omega⟩), Bool.true_and]
            obtain rfl : kids = [] := List.eq_nil_of_length_eq_zero hL
            exact may_y1 n t A c w hs hT hp (b_true hn) (by omega) (by omega)
          · exact no (fun q => may_l1 n t A c _ w hs hT hp (b_true hn) (by omega) (by omega) (by omega) q) (by omega : ¬ (kids.length : Int) = 0) (here_no (by omega))
        · exact no (fun q => may_n1 n t A c _ w hs hT hp q) (b_false hn) (here_no (by omega))
    · exact no (fun q => may_t2 n t A c _ w q) te (here_no (by simp [te]))
    · exact no (fun q => may_t3 k n t A c _ w f0 f1 f2 f3 f4 f5 f6 f7 q) te (here_no (by rintro ⟨_, _, h3, _⟩; rw [te] at h3; rcases h3 with h3 | h3 <;> first | omega | cases h3))
  | true =>
    cases hp : plainF t with
    | false =>
      rcases kcases (by omega) (by omega : k < 11) with rfl | rfl | rfl | ⟨f0, f1, f2, f3, f4, f5, f6, f7⟩
      · exact no (fun q => may_p0 n t A c _ w hs hT q te) hp (here_no (by simp [hp]))
      · exact no (fun q => may_p1 n t A c _ w hs hT q) hp (here_no (by simp [hp]))
      · exact no (fun q => may_p2 n t A c _ w hs hT q te) hp (here_no (by simp [hp]))
      · exact no (fun q => may_p3 k n t A c _ w hs hT q f0 f1 f2 f3 f4 f5 f6 f7 te) hp (here_no (by simp [hp]))
    | true =>
      rcases kcases (by omega) (by omega : k < 11) with rfl | rfl | rfl | ⟨f0, f1, f2, f3, f4, f5, f6, f7⟩
      · by_cases hn : n = 0
        · by_cases hL : kids.length = 0
          · rw [here_yes (by rw [hp, te]; exact ⟨by omega, by omega, by simp, rfl, by omega, by omega, by omega, by omega, by omega⟩), Bool.true_and]
            obtain rfl : kids = [] := List.eq_nil_of_length_eq_zero hL
            exact may_y0 n t A c w hs hT hp te (b_true hn) (by omega) (by omega)
          · exact no (fun q => may_l0 n t A c _ w hs hT hp te (b_true hn) (by omega) (by omega) (by omega) q) (by omega : ¬ (kids.length : Int) = 0) (here_no (by omega))
        · exact no (fun q => may_n0 n t A c _ w hs hT hp te q) (b_false hn) (here_no (by omega))
      · by_cases hn : n = 0
        · by_cases hL : kids.length = 0
          · rw [here_yes (by rw [hp, te]; exact ⟨by omega, by omega, by simp, rfl, by omega, by omega, by omega, by omega, by omega⟩), Bool.true_and]
            obtain rfl : kids = [] := List.eq_nil_of_length_eq_zero hL
            exact may_y1 n t A c w hs hT hp (b_true hn) (by omega) (by omega)
          · exact no (fun q => may_l1 n t A c _ w hs hT hp (b_true hn) (by omega) (by omega) (by omega) q) (by omega : ¬ (kids.length : Int) = 0) (here_no (by omega))
        · exact no (fun q => may_n1 n t A c _ w hs hT hp q) (b_false hn) (here_no (by omega))
      · by_cases hn : n < -1000
        · exact no (fun q => may_n2a n t A c _ w hs hT hp te q) hn (here_no (by omega))
        · by_cases hn2 : 1000 < n
          · exact no (fun q => may_n2b n t A c _ w hs hT hp te hn q) hn2 (here_no (by omega))
          · by_cases hL : (kids.length : Int) = 1
            · rw [here_yes (by rw [hp, te]; exact ⟨by omega, by omega, by simp, rfl, by omega, by omega, by omega, by omega, by omega⟩), Bool.true_and]
              exact may_y2 n t kids A c w hs hl hT hp te hn hn2 (b_true hL) hK ih
            · exact no (fun q => may_l2 n t A c _ w hs hT hp te hn hn2 q) (b_false hL) (here_no (by omega))
      · by_cases hn : n = 0
        · rw [here_yes (by rw [hp, te]; exact ⟨by omega, by omega, by simp, rfl, by omega, by omega, by omega, by omega, by omega⟩), Bool.true_and]
          exact may_y3 k n t kids A c w hs hl hT hp f0 f1 f2 f3 f4 f5 f6 f7 te (b_true hn) (by omega) (by omega) hK ih
        · exact no (fun q => may_n3 k n t A c _ w hs hT hp f0 f1 f2 f3 f4 f5 f6 f7 te q) (b_false hn) (here_no (by omega))
theorem may_any (m : Nat) : ∀ d : Doc, d.wt ≤ m → d.wt ≤ 16777216 → MaySays 45 d := by
  induction m with
  | zero => intro d h; have := wt_pos d; omega
  | succ m ih =>
    intro d hm hB
    refine may_step d hB fun k hk => ih k ?_ ?_
    · have := kid_lt hk; omega
    · have := kid_lt hk; omega
end Go.Proofs.YtnpaplfdmpjfgaaDoor
