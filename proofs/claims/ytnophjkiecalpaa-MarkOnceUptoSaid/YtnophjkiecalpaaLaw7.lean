/- The law MarkOnce, walked. -/
import Derived.Test.YtnophjkiecalpaaLaw6
namespace Go.Proofs.Ytnophjkiecalpaa
open Go.RowKit

theorem wrap_in {x : Int} (h : -9223372036854775808 ≤ x ∧ x ≤ 9223372036854775807) : IntKind.i64.wrap x = x := by
  simp [IntKind.wrap, IntKind.bits, IntKind.signed]
  omega

set_option maxRecDepth 100000 in
set_option maxHeartbeats 4000000 in
theorem markOnce_any (A : Option Addr) (l : List Tok) (c : Nat) (w : World) (hlen : l.length ≤ 1048576) (htx : ∀ t ∈ l, t.text.size ≤ 1099511627776) (hl : Lines l) (h : Toks w.heap.size w A l) :
    Calls Try.prog 7 #[.slice A l.length c] w fun e w' => e = .returned (.bool true) ∧ Below w.heap.size w w' := by
  have hle := progAll_le l
  have hT := Lib.hid h
  clear h
  go_enter Try.func7, Try.ntmps7
  go_wp2_with fail
  refine (awake8_any _).mono ?_
  rintro e w1 ⟨rfl, hb1⟩
  go_wp2_with fail
  go_loopw [4] (fun i wr => ∃ k : Nat, k ≤ l.length ∧ i = .int .i64 k ∧ (∀ j, j < k → notMark (tk l j) = true) ∧ wr = w1) (fun i wr => l.length - (intOf i).toNat)
  case atStart => exact ⟨0, by omega, rfl, fun j hj => by omega, rfl⟩
  case round =>
    obtain ⟨k, hk, rfl, hpl, rfl⟩ := hrel
    by_cases hlt : k < l.length
    · obtain ⟨b, o, rfl, hb, hc⟩ := (hT.out.below hb1) k (tk l k) (tk_in hlt)
      obtain ⟨g1, g2, g3, g4⟩ := hc
      cases e16 : ((tk l k).kind == 16) with
      | true =>
        go_wp2
        go_ret
        exact ⟨rfl, hb1⟩
      | false =>
        cases e17 : ((tk l k).kind == 17) with
        | true =>
          go_wp2
          go_ret
          exact ⟨rfl, hb1⟩
        | false =>
          go_wp2
          go_roundw
          case rel =>
            refine ⟨k + 1, by omega, by go_num, fun j hj => ?_, trivial⟩
            by_cases hjk : j < k
            · exact hpl j hjk
            · obtain rfl : j = k := by omega
              simp [mark_kinds, e16, e17]
          case measure => simp [intOf]; omega
    · have hkl : k = l.length := by omega
      subst hkl
      have hP := plain_of_upto hpl
      have hT1 := (hT.out.below hb1).mono hb1.size
      go_wp2_with fail
      refine (mark_any A l c _ hlen htx hT1).mono ?_
      rintro e w2 ⟨v, rfl, hv, hb2⟩
      clear hT1
      obtain ⟨A2, c2, rfl, hv2⟩ := hv
      obtain ⟨hon, hpos⟩ := markAll_once l hP
      rw [progAll_eq l hl] at hv2 hle ⊢
      generalize markAll l = ys at *
      have hY := Lib.hid hv2
      have hON := Lib.hid hon
      clear hv2 hon hpl
      have hB2 := hb1.trans (hb2.mono hb1.size)
      go_wp2_with fail
      go_loopw [6] (fun i wr => ∃ k : Nat, k ≤ ys.length ∧ i = .int .i64 k ∧ Below w2.heap.size w2 wr) (fun i wr => ys.length - (intOf i).toNat)
      case atStart => exact ⟨0, by omega, rfl, Below.refl _ _⟩
      case round =>
        obtain ⟨k, hk, rfl, hB⟩ := hrel
        by_cases hlt : k < ys.length
        · have hTr := Lib.hid (hY.out.below hB)
          obtain ⟨b, o, rfl, hb, hc⟩ := hTr.out k (tk ys k) (tk_in hlt)
          obtain ⟨g1, g2, g3, g4⟩ := hc
          cases e16 : ((tk ys k).kind == 16) with
          | true =>
            have n16 : ((tk ys k).kind != 16) = false := by simp [bne, e16]
            have ht : (tk ys k).text = .empty := hON.out.text _ (tk_mem hlt) (by rw [mark_kinds, e16]; rfl)
            rw [ht] at g2
            clear ht
            cases e0 : decide (0 < k) with
            | true =>
              have hk0 : 0 < k := of_decide_eq_true e0
              have hi0 : decide ((0 : Int) < k) = true := decide_eq_true (by omega)
              have hv : IntKind.i64.wrap ((k : Int) - 1) = k - 1 := wrap_in (by omega)
              have hv1 : (k : Int) - 1 < ys.length := by omega
              have hv2 : ((k : Int) - 1).toNat = k - 1 := by omega
              have hv3 : (0 : Int) ≤ (k : Int) - 1 := by omega
              have hv4 : (1 : Int) ≤ k := by omega
              have hop : opens (tk ys (k - 1)) = true := (hON.out.next (k - 1) _ _ (tk_in (by omega)) (by rw [show k - 1 + 1 = k by omega]; exact tk_in hlt)).2 (by simpa using e16)
              obtain ⟨q1, q2, q3, q4⟩ := (hTr.out.at_ (tk_in (show k - 1 < ys.length by omega))).2
              go_wp2_with fail
              refine (mOpens_any (tk ys (k - 1)) _).mono ?_
              rintro e w3 ⟨rfl, hb3⟩
              rw [hop]
              have hTs := Lib.hid (hTr.out.below (hb3.mono (Nat.le_of_lt_succ (Nat.lt_succ_of_le hB.size))))
              obtain ⟨g1, g2', g3, g4⟩ := (hTs.out.at_ (tk_in hlt)).2
              have hB' := hB.trans (hb3.mono hB.size)
              clear hB
              have hB := hB'
              clear hB'
              cases e1 : decide (k + 1 < ys.length) with
              | true =>
                have hn1 : k + 1 < ys.length := of_decide_eq_true e1
                have hw : IntKind.i64.wrap ((k : Int) + 1) = k + 1 := wrap_in (by omega)
                have hw1 : (k : Int) + 1 < ys.length := by omega
                have hw2 : ((k : Int) + 1).toNat = k + 1 := by omega
                have hw3 : (0 : Int) ≤ (k : Int) + 1 := by omega
                have hw4 : decide ((k : Int) + 1 < ys.length) = true := decide_eq_true hw1
                obtain ⟨p1, p2, p3, p4⟩ := (hTs.out.at_ (tk_in hn1)).2
                have hnx := (hON.out.next k _ _ (tk_in hlt) (tk_in hn1)).1 (by rw [mark_kinds, e16]; rfl)
                rw [hnx.2.1] at p3
                rw [hnx.2.2] at p4
                have f16 : ((tk ys (k + 1)).kind == 16) = false := by simpa using (kind_plain hnx.1).1
                have f17 : ((tk ys (k + 1)).kind == 17) = false := by simpa using (kind_plain hnx.1).2
                clear hnx
                go_upto_region 14 with (fail)
                go_quiet (fail)
                go_wp2
                go_roundw
                case rel => exact ⟨k + 1, by omega, by go_num, below_drewN hB _⟩
                case measure => simp [intOf]; omega
              | false =>
                have hn1 : ¬ k + 1 < ys.length := of_decide_eq_false e1
                have hw : IntKind.i64.wrap ((k : Int) + 1) = k + 1 := wrap_in (by omega)
                have hw4 : decide ((k : Int) + 1 < ys.length) = false := decide_eq_false (by omega)
                go_upto_region 14 with (fail)
                go_quiet (fail)
                go_wp2
                go_roundw
                case rel => exact ⟨k + 1, by omega, by go_num, below_drewN hB _⟩
                case measure => simp [intOf]; omega
            | false =>
              have hk0 : k = 0 := by have := of_decide_eq_false e0; omega
              subst hk0
              simp only [Nat.zero_mul, Nat.add_zero] at g1 g2 g3 g4
              cases e1 : decide (1 < ys.length) with
              | true =>
                have hn1 : 1 < ys.length := of_decide_eq_true e1
                have hw1 : (1 : Int) < ys.length := by omega
                have hw4 : decide ((1 : Int) < ys.length) = true := decide_eq_true hw1
                obtain ⟨p1, p2, p3, p4⟩ := (hTr.out.at_ (tk_in hn1)).2
                have hnx := (hON.out.next 0 _ _ (tk_in hlt) (tk_in hn1)).1 (by rw [mark_kinds, e16]; rfl)
                rw [hnx.2.1] at p3
                rw [hnx.2.2] at p4
                simp only [Nat.one_mul] at p1 p2 p3 p4
                have f16 : ((tk ys 1).kind == 16) = false := by simpa using (kind_plain hnx.1).1
                have f17 : ((tk ys 1).kind == 17) = false := by simpa using (kind_plain hnx.1).2
                clear hnx
                go_upto_region 14 with (fail)
                go_quiet (fail)
                go_wp2
                go_roundw
                case rel => exact ⟨1, by omega, by go_num, below_drewN hB _⟩
                case measure => simp [intOf]; omega
              | false =>
                have hn1 : ¬ 1 < ys.length := of_decide_eq_false e1
                have hw4 : decide ((1 : Int) < ys.length) = false := decide_eq_false (by omega)
                go_upto_region 14 with (fail)
                go_quiet (fail)
                go_wp2
                go_roundw
                case rel => exact ⟨1, by omega, by go_num, below_drewN hB _⟩
                case measure => simp [intOf]; omega
          | false =>
            have n16 : ((tk ys k).kind != 16) = true := by simp [bne, e16]
            cases e17 : ((tk ys k).kind == 17) with
            | true =>
              have n17 : ((tk ys k).kind != 17) = false := by simp [bne, e17]
              have ht : (tk ys k).text = .empty := hON.out.text _ (tk_mem hlt) (by rw [mark_kinds, e16, e17]; rfl)
              rw [ht] at g2
              clear ht
              cases e1 : decide (k + 1 < ys.length) with
              | true =>
                have hn1 : k + 1 < ys.length := of_decide_eq_true e1
                have hw : IntKind.i64.wrap ((k : Int) + 1) = k + 1 := wrap_in (by omega)
                have hw1 : (k : Int) + 1 < ys.length := by omega
                have hw2 : ((k : Int) + 1).toNat = k + 1 := by omega
                have hw3 : (0 : Int) ≤ (k : Int) + 1 := by omega
                have hw4 : decide ((k : Int) + 1 < ys.length) = true := decide_eq_true hw1
                obtain ⟨p1, p2, p3, p4⟩ := (hTr.out.at_ (tk_in hn1)).2
                have hnx := (hON.out.next k _ _ (tk_in hlt) (tk_in hn1)).1 (by rw [mark_kinds, e16, e17]; rfl)
                rw [hnx.2.1] at p3
                rw [hnx.2.2] at p4
                have f16 : ((tk ys (k + 1)).kind == 16) = false := by simpa using (kind_plain hnx.1).1
                have f17 : ((tk ys (k + 1)).kind == 17) = false := by simpa using (kind_plain hnx.1).2
                clear hnx
                go_upto_region 14 with (fail)
                go_quiet (fail)
                go_wp2
                go_roundw
                case rel => exact ⟨k + 1, by omega, by go_num, below_drewN hB _⟩
                case measure => simp [intOf]; omega
              | false =>
                have hn1 : ¬ k + 1 < ys.length := of_decide_eq_false e1
                have hw : IntKind.i64.wrap ((k : Int) + 1) = k + 1 := wrap_in (by omega)
                have hw4 : decide ((k : Int) + 1 < ys.length) = false := decide_eq_false (by omega)
                go_upto_region 14 with (fail)
                go_quiet (fail)
                go_wp2
                go_roundw
                case rel => exact ⟨k + 1, by omega, by go_num, below_drewN hB _⟩
                case measure => simp [intOf]; omega
            | false =>
              have n17 : ((tk ys k).kind != 17) = true := by simp [bne, e17]
              go_wp2
              go_roundw
              case rel => exact ⟨k + 1, by omega, by go_num, hB⟩
              case measure => simp [intOf]; omega
        · obtain rfl : k = ys.length := by omega
          have hp : decide ((0 : Int) < ys.length) = true := decide_eq_true (by omega)
          go_wp2
          go_ret
          exact ⟨rfl, hB2.trans (hB.mono (Nat.le_trans hb1.size hb2.size))⟩
end Go.Proofs.Ytnophjkiecalpaa
