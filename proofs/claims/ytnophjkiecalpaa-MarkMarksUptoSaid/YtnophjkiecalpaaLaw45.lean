/- The laws MarkMarks and MarkBares, walked. -/
import Derived.Test.YtnophjkiecalpaaAwake8
import Derived.Test.YtnophjkiecalpaaMarkLaw
namespace Go.Proofs.Ytnophjkiecalpaa
open Go.RowKit



set_option maxHeartbeats 1000000 in
theorem markMarks_any (A : Option Addr) (l : List Tok) (c : Nat) (w : World) (hlen : l.length ≤ 1048576) (htx : ∀ t ∈ l, t.text.size ≤ 1099511627776) (hl : Lines l) (h : Toks w.heap.size w A l) :
    Calls Try.prog 4 #[.slice A l.length c] w fun e w' => e = .returned (.bool true) ∧ Below w.heap.size w w' := by
  have hT := Lib.hid h
  clear h
  have hle := progAll_le l
  go_enter Try.func4, Try.ntmps4
  go_wp2_with fail
  refine (awake8_any _).mono ?_
  rintro e w1 ⟨rfl, hb1⟩
  go_wp2_with fail
  have hT1 := (hT.out.below hb1).mono hb1.size
  refine (mark_any A l c w1 hlen htx hT1).mono ?_
  rintro e w2 ⟨v, rfl, hv, hb2⟩
  have hv2 := Lib.hid hv
  clear hv hT1
  have hT2 := (hT.out.below (hb1.trans (hb2.mono hb1.size))).mono (Nat.le_trans hb1.size hb2.size)
  go_wp2_with fail
  refine (refMark_any A l c w2 hlen htx hT2).mono ?_
  rintro e w3 ⟨v', rfl, hv3, hb3⟩
  obtain ⟨A2, c2, rfl, hv2'⟩ := hv2.out
  obtain ⟨A3, c3, rfl, hv3'⟩ := hv3
  rw [progAll_eq l hl] at hv2' hle ⊢
  go_wp2_with fail
  refine (same_any A2 A3 (markAll l) c2 c3 w3 (by omega) ((hv2'.below hb3).mono hb3.size) hv3').mono ?_
  rintro e w4 ⟨rfl, hb4⟩
  go_wp2
  go_ret
  exact ⟨rfl, ((hb1.trans (hb2.mono hb1.size)).trans (hb3.mono (Nat.le_trans hb1.size hb2.size))).trans (hb4.mono (Nat.le_trans (Nat.le_trans hb1.size hb2.size) hb3.size))⟩

set_option maxHeartbeats 1000000 in
theorem markBares_any (A : Option Addr) (l : List Tok) (c : Nat) (w : World) (hn : l.length * 40 ≤ 140737488351232) (h : Toks w.heap.size w A l) :
    Calls Try.prog 5 #[.slice A l.length c] w fun e w' => e = .returned (.bool true) ∧ Below w.heap.size w w' := by
  have hT := Lib.hid h
  clear h
  have hle : (bare l).length ≤ l.length := List.length_filter_le _ _
  go_enter Try.func5, Try.ntmps5
  go_wp2_with fail
  refine (awake8_any _).mono ?_
  rintro e w1 ⟨rfl, hb1⟩
  go_wp2_with fail
  have hT1 := (hT.out.below hb1).mono hb1.size
  refine (mBare_any A l c w1 hn hT1).mono ?_
  rintro e w2 ⟨v, rfl, hv, hb2⟩
  have hv2 := Lib.hid hv
  clear hv hT1
  have hT2 := (hT.out.below (hb1.trans (hb2.mono hb1.size))).mono (Nat.le_trans hb1.size hb2.size)
  go_wp2_with fail
  refine (refBare_any A l c w2 hn hT2).mono ?_
  rintro e w3 ⟨v', rfl, hv3, hb3⟩
  obtain ⟨A2, c2, rfl, hv2'⟩ := hv2.out
  obtain ⟨A3, c3, rfl, hv3'⟩ := hv3
  go_wp2_with fail
  refine (same_any A2 A3 (bare l) c2 c3 w3 (by omega) ((hv2'.below hb3).mono hb3.size) hv3').mono ?_
  rintro e w4 ⟨rfl, hb4⟩
  go_wp2
  go_ret
  exact ⟨rfl, ((hb1.trans (hb2.mono hb1.size)).trans (hb3.mono (Nat.le_trans hb1.size hb2.size))).trans (hb4.mono (Nat.le_trans (Nat.le_trans hb1.size hb2.size) hb3.size))⟩
end Go.Proofs.Ytnophjkiecalpaa
