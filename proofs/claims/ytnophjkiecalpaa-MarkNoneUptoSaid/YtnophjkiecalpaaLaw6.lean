/- The law MarkBack, walked. -/
import Derived.Test.YtnophjkiecalpaaAwake8
import Derived.Test.YtnophjkiecalpaaMarkLaw
namespace Go.Proofs.Ytnophjkiecalpaa
open Go.RowKit

theorem plain_of_upto {l : List Tok} (h : ∀ j, j < l.length → notMark (tk l j) = true) : Plain l := by
  intro t ht
  obtain ⟨j, hj, rfl⟩ := List.mem_iff_getElem.1 ht
  have := h j hj
  simpa [tk, List.getElem?_eq_getElem hj] using this

theorem mark_kinds (t : Tok) : notMark t = !((t.kind == 16) || (t.kind == 17)) := by simp [notMark, bne]

set_option maxHeartbeats 1000000 in
theorem markBack_any (A : Option Addr) (l : List Tok) (c : Nat) (w : World) (hlen : l.length ≤ 1048576) (htx : ∀ t ∈ l, t.text.size ≤ 1099511627776) (hl : Lines l) (h : Toks w.heap.size w A l) :
    Calls Try.prog 6 #[.slice A l.length c] w fun e w' => e = .returned (.bool true) ∧ Below w.heap.size w w' := by
  have hle := progAll_le l
  have hT := Lib.hid h
  clear h
  go_enter Try.func6, Try.ntmps6
  go_wp2_with fail
  refine (awake8_any _).mono ?_
  rintro e w1 ⟨rfl, hb1⟩
  go_wp2_with fail
  go_loopw [4] (fun i wr => ∃ k : Nat, k ≤ l.length ∧ i = .int .i64 k ∧ (∀ j, j < k → notMark (tk l j) = true) ∧ wr = w1) (fun i wr => l.length - (intOf i).toNat)
  case atStart => exact ⟨0, by omega, rfl, fun j hj => by omega, rfl⟩
  case round =>
    obtain ⟨k, hk, rfl, hpl, rfl⟩ := hrel
    by_cases hlt : k < l.length
    · obtain ⟨b, o, rfl, hb, hc⟩ := (hT.out.below hb1) k (tk l k) (tk_in hlt)
      obtain ⟨g1, g2, g3, g4⟩ := hc
      cases e16 : ((tk l k).kind == 16) with
      | true =>
        go_wp2
        go_ret
        exact ⟨rfl, hb1⟩
      | false =>
        cases e17 : ((tk l k).kind == 17) with
        | true =>
          go_wp2
          go_ret
          exact ⟨rfl, hb1⟩
        | false =>
          go_wp2
          go_roundw
          case rel =>
            refine ⟨k + 1, by omega, by go_num, fun j hj => ?_, trivial⟩
            by_cases hjk : j < k
            · exact hpl j hjk
            · obtain rfl : j = k := by omega
              simp [mark_kinds, e16, e17]
          case measure => simp [intOf]; omega
    · have hkl : k = l.length := by omega
      subst hkl
      have hP := plain_of_upto hpl
      have hT1 := (hT.out.below hb1).mono hb1.size
      go_wp2_with fail
      refine (mark_any A l c _ hlen htx hT1).mono ?_
      rintro e w2 ⟨v, rfl, hv, hb2⟩
      have hT2 := Lib.hid ((hT.out.below (hb1.trans (hb2.mono hb1.size))).mono (Nat.le_trans hb1.size hb2.size))
      obtain ⟨A2, c2, rfl, hv2⟩ := hv
      have hv2' := Lib.hid hv2
      clear hv2 hT1
      go_wp2_with fail
      refine (mBare_any A2 (progAll l) c2 w2 (by omega) hv2'.out).mono ?_
      rintro e w3 ⟨v', rfl, hv3, hb3⟩
      rw [progAll_eq l hl, bare_markAll l hP] at hv3
      obtain ⟨A3, c3, rfl, hv3'⟩ := hv3
      have hv3 := Lib.hid hv3'
      clear hv3'
      go_wp2_with fail
      refine (same_any A3 A l c3 c w3 (by omega) hv3.out ((hT2.out.below hb3).mono hb3.size)).mono ?_
      rintro e w4 ⟨rfl, hb4⟩
      go_wp2
      go_ret
      exact ⟨rfl, ((hb1.trans (hb2.mono hb1.size)).trans (hb3.mono (Nat.le_trans hb1.size hb2.size))).trans (hb4.mono (Nat.le_trans (Nat.le_trans hb1.size hb2.size) hb3.size))⟩
end Go.Proofs.Ytnophjkiecalpaa
