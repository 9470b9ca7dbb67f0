/- Which documents may be: the reference's formed. -/
import Derived.Test.YtnpaplfdmpjfgaaDoorDMay
namespace Go.Proofs.YtnpaplfdmpjfgaaDoor
open Go.RowKit

theorem for_a (k n : Int) (t : ByteArray) (A : Option Addr) (c L : Nat) (w : World) (_q0 : k < 0) : Calls Tryd.prog 47 #[.agg #[.int .i64 k, .string t, .int .i64 n, .slice A L c]] w fun e w' => e = .returned (.bool false) ∧ Below w.heap.size w w' := by
  obtain ⟨_, hb0, _⟩ := box_new w (.int .i64 k) (.string t) (.int .i64 n) (.slice A L c)
  have HB := Lib.hid hb0
  clear hb0
  go_enter Tryd.func47, Tryd.ntmps47
  go_wp2
  go_ret
  exact ⟨rfl, HB.out⟩

theorem for_b (k n : Int) (t : ByteArray) (A : Option Addr) (c L : Nat) (w : World) (_q0 : ¬ k < 0) (_q1 : 11 ≤ k) : Calls Tryd.prog 47 #[.agg #[.int .i64 k, .string t, .int .i64 n, .slice A L c]] w fun e w' => e = .returned (.bool false) ∧ Below w.heap.size w w' := by
  obtain ⟨_, hb0, _⟩ := box_new w (.int .i64 k) (.string t) (.int .i64 n) (.slice A L c)
  have HB := Lib.hid hb0
  clear hb0
  go_enter Tryd.func47, Tryd.ntmps47
  go_wp2
  go_ret
  exact ⟨rfl, HB.out⟩

theorem for_c (k n : Int) (t : ByteArray) (A : Option Addr) (c L : Nat) (w : World) (_q0 : ¬ k < 0) (_q1 : ¬ 11 ≤ k) (_q2 : n < -1000) : Calls Tryd.prog 47 #[.agg #[.int .i64 k, .string t, .int .i64 n, .slice A L c]] w fun e w' => e = .returned (.bool false) ∧ Below w.heap.size w w' := by
  obtain ⟨_, hb0, _⟩ := box_new w (.int .i64 k) (.string t) (.int .i64 n) (.slice A L c)
  have HB := Lib.hid hb0
  clear hb0
  go_enter Tryd.func47, Tryd.ntmps47
  go_wp2
  go_ret
  exact ⟨rfl, HB.out⟩

theorem for_d (k n : Int) (t : ByteArray) (A : Option Addr) (c L : Nat) (w : World) (_q0 : ¬ k < 0) (_q1 : ¬ 11 ≤ k) (_q2 : ¬ n < -1000) (_q3 : 1000 < n) : Calls Tryd.prog 47 #[.agg #[.int .i64 k, .string t, .int .i64 n, .slice A L c]] w fun e w' => e = .returned (.bool false) ∧ Below w.heap.size w w' := by
  obtain ⟨_, hb0, _⟩ := box_new w (.int .i64 k) (.string t) (.int .i64 n) (.slice A L c)
  have HB := Lib.hid hb0
  clear hb0
  go_enter Tryd.func47, Tryd.ntmps47
  go_wp2
  go_ret
  exact ⟨rfl, HB.out⟩

theorem for_t0 (n : Int) (t : ByteArray) (A : Option Addr) (c L : Nat) (w : World) (_q0 : ¬ n < -1000) (_q1 : ¬ 1000 < n) (_q2 : t.toList.isEmpty = false) : Calls Tryd.prog 47 #[.agg #[.int .i64 0, .string t, .int .i64 n, .slice A L c]] w fun e w' => e = .returned (.bool false) ∧ Below w.heap.size w w' := by
  obtain ⟨_, hb0, _⟩ := box_new w (.int .i64 0) (.string t) (.int .i64 n) (.slice A L c)
  have HB := Lib.hid hb0
  clear hb0
  go_enter Tryd.func47, Tryd.ntmps47
  go_wp2
  go_ret
  exact ⟨rfl, HB.out⟩

theorem for_t2 (n : Int) (t : ByteArray) (A : Option Addr) (c L : Nat) (w : World) (_q0 : ¬ n < -1000) (_q1 : ¬ 1000 < n) (_q2 : t.toList.isEmpty = false) : Calls Tryd.prog 47 #[.agg #[.int .i64 2, .string t, .int .i64 n, .slice A L c]] w fun e w' => e = .returned (.bool false) ∧ Below w.heap.size w w' := by
  obtain ⟨_, hb0, _⟩ := box_new w (.int .i64 2) (.string t) (.int .i64 n) (.slice A L c)
  have HB := Lib.hid hb0
  clear hb0
  go_enter Tryd.func47, Tryd.ntmps47
  go_wp2
  go_ret
  exact ⟨rfl, HB.out⟩

theorem for_t3 (k n : Int) (t : ByteArray) (A : Option Addr) (c L : Nat) (w : World) (_q0 : 0 ≤ k) (_q1 : k < 11) (_q2 : 3 ≤ k) (_q3 : (k == 1) = false) (_q4 : (k == 2) = false) (_q5 : (k != 1) = true) (_q6 : (k != 2) = true) (_q7 : 1 < k) (_q8 : ¬ n < -1000) (_q9 : ¬ 1000 < n) (_q10 : t.toList.isEmpty = false) : Calls Tryd.prog 47 #[.agg #[.int .i64 k, .string t, .int .i64 n, .slice A L c]] w fun e w' => e = .returned (.bool false) ∧ Below w.heap.size w w' := by
  obtain ⟨_, hb0, _⟩ := box_new w (.int .i64 k) (.string t) (.int .i64 n) (.slice A L c)
  have HB := Lib.hid hb0
  clear hb0
  go_enter Tryd.func47, Tryd.ntmps47
  go_wp2
  go_ret
  exact ⟨rfl, HB.out⟩

theorem for_n0 (n : Int) (t : ByteArray) (A : Option Addr) (c L : Nat) (w : World) (_q0 : ¬ n < -1000) (_q1 : ¬ 1000 < n) (_q2 : t.toList.isEmpty = true) (_q3 : (n != 0) = true) : Calls Tryd.prog 47 #[.agg #[.int .i64 0, .string t, .int .i64 n, .slice A L c]] w fun e w' => e = .returned (.bool false) ∧ Below w.heap.size w w' := by
  obtain ⟨_, hb0, _⟩ := box_new w (.int .i64 0) (.string t) (.int .i64 n) (.slice A L c)
  have HB := Lib.hid hb0
  clear hb0
  go_enter Tryd.func47, Tryd.ntmps47
  go_wp2
  go_ret
  exact ⟨rfl, HB.out⟩

theorem for_l0 (n : Int) (t : ByteArray) (A : Option Addr) (c L : Nat) (w : World) (_q0 : ¬ n < -1000) (_q1 : ¬ 1000 < n) (_q2 : t.toList.isEmpty = true) (_q3 : (n != 0) = false) (_q4 : 0 < L) (_q5 : ¬ (L : Int) = 0) : Calls Tryd.prog 47 #[.agg #[.int .i64 0, .string t, .int .i64 n, .slice A L c]] w fun e w' => e = .returned (.bool false) ∧ Below w.heap.size w w' := by
  obtain ⟨_, hb0, _⟩ := box_new w (.int .i64 0) (.string t) (.int .i64 n) (.slice A L c)
  have HB := Lib.hid hb0
  clear hb0
  go_enter Tryd.func47, Tryd.ntmps47
  go_wp2
  go_ret
  exact ⟨rfl, HB.out⟩

theorem for_n1 (n : Int) (t : ByteArray) (A : Option Addr) (c L : Nat) (w : World) (_q0 : ¬ n < -1000) (_q1 : ¬ 1000 < n) (_q2 : (n != 0) = true) : Calls Tryd.prog 47 #[.agg #[.int .i64 1, .string t, .int .i64 n, .slice A L c]] w fun e w' => e = .returned (.bool false) ∧ Below w.heap.size w w' := by
  obtain ⟨_, hb0, _⟩ := box_new w (.int .i64 1) (.string t) (.int .i64 n) (.slice A L c)
  have HB := Lib.hid hb0
  clear hb0
  go_enter Tryd.func47, Tryd.ntmps47
  go_wp2
  go_ret
  exact ⟨rfl, HB.out⟩

theorem for_l1 (n : Int) (t : ByteArray) (A : Option Addr) (c L : Nat) (w : World) (_q0 : ¬ n < -1000) (_q1 : ¬ 1000 < n) (_q2 : (n != 0) = false) (_q3 : 0 < L) (_q4 : ¬ (L : Int) = 0) : Calls Tryd.prog 47 #[.agg #[.int .i64 1, .string t, .int .i64 n, .slice A L c]] w fun e w' => e = .returned (.bool false) ∧ Below w.heap.size w w' := by
  obtain ⟨_, hb0, _⟩ := box_new w (.int .i64 1) (.string t) (.int .i64 n) (.slice A L c)
  have HB := Lib.hid hb0
  clear hb0
  go_enter Tryd.func47, Tryd.ntmps47
  go_wp2
  go_ret
  exact ⟨rfl, HB.out⟩

theorem for_l2 (n : Int) (t : ByteArray) (A : Option Addr) (c L : Nat) (w : World) (_q0 : ¬ n < -1000) (_q1 : ¬ 1000 < n) (_q2 : t.toList.isEmpty = true) (_q3 : ((L : Int) != 1) = true) : Calls Tryd.prog 47 #[.agg #[.int .i64 2, .string t, .int .i64 n, .slice A L c]] w fun e w' => e = .returned (.bool false) ∧ Below w.heap.size w w' := by
  obtain ⟨_, hb0, _⟩ := box_new w (.int .i64 2) (.string t) (.int .i64 n) (.slice A L c)
  have HB := Lib.hid hb0
  clear hb0
  go_enter Tryd.func47, Tryd.ntmps47
  go_wp2
  go_ret
  exact ⟨rfl, HB.out⟩

theorem for_n3 (k n : Int) (t : ByteArray) (A : Option Addr) (c L : Nat) (w : World) (_q0 : 0 ≤ k) (_q1 : k < 11) (_q2 : 3 ≤ k) (_q3 : (k == 1) = false) (_q4 : (k == 2) = false) (_q5 : (k != 1) = true) (_q6 : (k != 2) = true) (_q7 : 1 < k) (_q8 : ¬ n < -1000) (_q9 : ¬ 1000 < n) (_q10 : t.toList.isEmpty = true) (_q11 : (n != 0) = true) : Calls Tryd.prog 47 #[.agg #[.int .i64 k, .string t, .int .i64 n, .slice A L c]] w fun e w' => e = .returned (.bool false) ∧ Below w.heap.size w w' := by
  obtain ⟨_, hb0, _⟩ := box_new w (.int .i64 k) (.string t) (.int .i64 n) (.slice A L c)
  have HB := Lib.hid hb0
  clear hb0
  go_enter Tryd.func47, Tryd.ntmps47
  go_wp2
  go_ret
  exact ⟨rfl, HB.out⟩

set_option maxRecDepth 100000 in
set_option maxHeartbeats 2000000 in
theorem for_y0 (n : Int) (t : ByteArray) (A : Option Addr) (c : Nat) (w : World) (hs : t.size ≤ 16777216) (hT : Lib.Utf8Tabs 1 2 w) (_q0 : ¬ n < -1000) (_q1 : ¬ 1000 < n) (_q2 : t.toList.isEmpty = true) (_q3 : (n != 0) = false) : Calls Tryd.prog 47 #[.agg #[.int .i64 0, .string t, .int .i64 n, .slice A 0 c]] w fun e w' => e = .returned (.bool (plainF t)) ∧ Below w.heap.size w w' := by
  obtain ⟨hbx, hb0, hs0⟩ := box_new w (.int .i64 0) (.string t) (.int .i64 n) (.slice A 0 c)
  have HT := Lib.hid (Utf8Tabs_below hT hb0)
  have HX := Lib.hid hbx
  have HB := Lib.hid hb0
  have HS := Lib.hid hs0
  clear hbx hb0 hs0 hT
  go_enter Tryd.func47, Tryd.ntmps47
  go_upto_region 7 with (fail)
  obtain ⟨W, hW⟩ : ∃ W, w.alloc (.cells #[.int .i64 0, .string t, .int .i64 n, .slice A 0 c] 24) = W := ⟨_, rfl⟩
  have hx := HX.out
  have hb := HB.out
  have hs := HS.out
  have ht := HT.out
  rw [hW] at hx hb hs ht ⊢
  clear hW HX HB HS HT
  skip
  have HX := Lib.hid hx
  have HB := Lib.hid hb
  have HT := Lib.hid ht
  have hs' : w.heap.size < W.heap.size := by omega
  clear hx hb hs ht
  go_wp2_with fail
  go_loopw [3] (fun i wr => ∃ m : Nat, m ≤ t.size ∧ i = .int .i64 m ∧ (∀ j, j < m → 32 ≤ byteN t j) ∧ Below W.heap.size W wr) (fun i wr => t.size - (intOf i).toNat)
  case atStart => exact ⟨0, by omega, rfl, fun j hj => by omega, Below.refl _ _⟩
  case round =>
    obtain ⟨m, hm, rfl, hall, hB1⟩ := hrel
    obtain ⟨x0, x1, x2, x3, _, _, _, _⟩ := HX.out.below hB1 hs'
    have HA := Lib.hid hall
    have HW := Lib.hid hB1
    clear hall hB1
    by_cases hlt : m < t.size
    · have hgb := get_byte t m hlt
      by_cases hlow : byteN t m < 32
      · have hlow' : ((t[m]'hlt).toNat : Int) < 32 := by rw [hgb]; omega
        have HP := Lib.hid (show plainF t = false by rw [plainF, lowless, decide_eq_false (by intro h; have := h m hlt; omega), Bool.and_false])
        clear hgb
        go_wp2
        go_ret
        exact ⟨ret_bool (by rw [HP.out]), HB.out.trans (HW.out.mono (Nat.le_of_lt hs'))⟩
      · have hlow' : ¬ ((t[m]'hlt).toNat : Int) < 32 := by rw [hgb]; omega
        clear hgb
        go_wp2
        go_roundw
        case rel =>
          refine ⟨m + 1, by omega, by go_num, fun j hj => ?_, HW.out⟩
          by_cases h : j < m
          · exact HA.out j h
          · obtain rfl : j = m := by omega
            omega
        case measure => simp [intOf]; omega
    · obtain rfl : m = t.size := by omega
      have HC := Lib.hid (rcheck_any t (by omega) wr)
      have hll : lowless t = true := decide_eq_true (fun j hj => HA.out j hj)
      cases hg : good t with
      | false =>
        have HP := Lib.hid (show plainF t = false by rw [plainF, hg]; rfl)
        have HG := Lib.hid hg
        clear hg hll
        go_wp2_with fail
        refine HC.out.mono ?_
        rintro e w2 ⟨p, he, hb2⟩
        rw [HG.out] at he
        subst he
        go_wp2
        go_ret
        exact ⟨ret_bool (by rw [HP.out]), HB.out.trans ((HW.out.trans (hb2.mono HW.out.size)).mono (Nat.le_of_lt hs'))⟩
      | true =>
        have HP := Lib.hid (show plainF t = true by rw [plainF, hg, hll]; rfl)
        have HG := Lib.hid hg
        clear hg hll
        go_wp2_with fail
        · refine HC.out.mono ?_
          rintro e w2 ⟨p, he, hb2⟩
          rw [HG.out] at he
          subst he
          have hBW : Below W.heap.size W w2 := HW.out.trans (hb2.mono HW.out.size)
          have hx2 := HX.out.below hBW hs'
          clear x0 x1 x2 x3 hb2
          have HBW := Lib.hid (HB.out.trans (hBW.mono (Nat.le_of_lt hs')))
          obtain ⟨x0, x1, x2, x3, _, _, _, _⟩ := hx2
          clear hBW HC HB HX HW
          go_wp2_with fail
          go_loopw [6] (fun i wr => i = .int .i64 0 ∧ wr = w2) (fun _ _ => 0)
          case atStart => exact ⟨rfl, rfl⟩
          case round =>
            obtain ⟨rfl, rfl⟩ := hrel
            go_wp2
            go_ret
            exact ⟨ret_bool HP.out.symm, HBW.out⟩

set_option maxRecDepth 100000 in
set_option maxHeartbeats 2000000 in
theorem for_y1 (n : Int) (t : ByteArray) (A : Option Addr) (c : Nat) (w : World) (hs : t.size ≤ 16777216) (hT : Lib.Utf8Tabs 1 2 w) (_q0 : ¬ n < -1000) (_q1 : ¬ 1000 < n) (_q2 : (n != 0) = false) : Calls Tryd.prog 47 #[.agg #[.int .i64 1, .string t, .int .i64 n, .slice A 0 c]] w fun e w' => e = .returned (.bool (plainF t)) ∧ Below w.heap.size w w' := by
  obtain ⟨hbx, hb0, hs0⟩ := box_new w (.int .i64 1) (.string t) (.int .i64 n) (.slice A 0 c)
  have HT := Lib.hid (Utf8Tabs_below hT hb0)
  have HX := Lib.hid hbx
  have HB := Lib.hid hb0
  have HS := Lib.hid hs0
  clear hbx hb0 hs0 hT
  go_enter Tryd.func47, Tryd.ntmps47
  go_upto_region 7 with (fail)
  obtain ⟨W, hW⟩ : ∃ W, w.alloc (.cells #[.int .i64 1, .string t, .int .i64 n, .slice A 0 c] 24) = W := ⟨_, rfl⟩
  have hx := HX.out
  have hb := HB.out
  have hs := HS.out
  have ht := HT.out
  rw [hW] at hx hb hs ht ⊢
  clear hW HX HB HS HT
  skip
  have HX := Lib.hid hx
  have HB := Lib.hid hb
  have HT := Lib.hid ht
  have hs' : w.heap.size < W.heap.size := by omega
  clear hx hb hs ht
  go_wp2_with fail
  go_loopw [3] (fun i wr => ∃ m : Nat, m ≤ t.size ∧ i = .int .i64 m ∧ (∀ j, j < m → 32 ≤ byteN t j) ∧ Below W.heap.size W wr) (fun i wr => t.size - (intOf i).toNat)
  case atStart => exact ⟨0, by omega, rfl, fun j hj => by omega, Below.refl _ _⟩
  case round =>
    obtain ⟨m, hm, rfl, hall, hB1⟩ := hrel
    obtain ⟨x0, x1, x2, x3, _, _, _, _⟩ := HX.out.below hB1 hs'
    have HA := Lib.hid hall
    have HW := Lib.hid hB1
    clear hall hB1
    by_cases hlt : m < t.size
    · have hgb := get_byte t m hlt
      by_cases hlow : byteN t m < 32
      · have hlow' : ((t[m]'hlt).toNat : Int) < 32 := by rw [hgb]; omega
        have HP := Lib.hid (show plainF t = false by rw [plainF, lowless, decide_eq_false (by intro h; have := h m hlt; omega), Bool.and_false])
        clear hgb
        go_wp2
        go_ret
        exact ⟨ret_bool (by rw [HP.out]), HB.out.trans (HW.out.mono (Nat.le_of_lt hs'))⟩
      · have hlow' : ¬ ((t[m]'hlt).toNat : Int) < 32 := by rw [hgb]; omega
        clear hgb
        go_wp2
        go_roundw
        case rel =>
          refine ⟨m + 1, by omega, by go_num, fun j hj => ?_, HW.out⟩
          by_cases h : j < m
          · exact HA.out j h
          · obtain rfl : j = m := by omega
            omega
        case measure => simp [intOf]; omega
    · obtain rfl : m = t.size := by omega
      have HC := Lib.hid (rcheck_any t (by omega) wr)
      have hll : lowless t = true := decide_eq_true (fun j hj => HA.out j hj)
      cases hg : good t with
      | false =>
        have HP := Lib.hid (show plainF t = false by rw [plainF, hg]; rfl)
        have HG := Lib.hid hg
        clear hg hll
        go_wp2_with fail
        refine HC.out.mono ?_
        rintro e w2 ⟨p, he, hb2⟩
        rw [HG.out] at he
        subst he
        go_wp2
        go_ret
        exact ⟨ret_bool (by rw [HP.out]), HB.out.trans ((HW.out.trans (hb2.mono HW.out.size)).mono (Nat.le_of_lt hs'))⟩
      | true =>
        have HP := Lib.hid (show plainF t = true by rw [plainF, hg, hll]; rfl)
        have HG := Lib.hid hg
        clear hg hll
        go_wp2_with fail
        · refine HC.out.mono ?_
          rintro e w2 ⟨p, he, hb2⟩
          rw [HG.out] at he
          subst he
          have hBW : Below W.heap.size W w2 := HW.out.trans (hb2.mono HW.out.size)
          have hx2 := HX.out.below hBW hs'
          clear x0 x1 x2 x3 hb2
          have HBW := Lib.hid (HB.out.trans (hBW.mono (Nat.le_of_lt hs')))
          obtain ⟨x0, x1, x2, x3, _, _, _, _⟩ := hx2
          clear hBW HC HB HX HW
          go_wp2_with fail
          go_loopw [6] (fun i wr => i = .int .i64 0 ∧ wr = w2) (fun _ _ => 0)
          case atStart => exact ⟨rfl, rfl⟩
          case round =>
            obtain ⟨rfl, rfl⟩ := hrel
            go_wp2
            go_ret
            exact ⟨ret_bool HP.out.symm, HBW.out⟩

set_option maxRecDepth 100000 in
set_option maxHeartbeats 2000000 in
theorem for_y2 (n : Int) (t : ByteArray) (kids : List Doc) (A : Option Addr) (c : Nat) (w : World) (hs : t.size ≤ 16777216) (hT : Lib.Utf8Tabs 1 2 w) (_q0 : ¬ n < -1000) (_q1 : ¬ 1000 < n) (_q2 : t.toList.isEmpty = true) (_q3 : ((kids.length : Int) != 1) = false) (hlen : kids.length ≤ 16777216) (hK : KidsAt w.heap.size w kids A) (ih : ∀ d ∈ kids, MaySays 47 d) : Calls Tryd.prog 47 #[.agg #[.int .i64 2, .string t, .int .i64 n, .slice A kids.length c]] w fun e w' => e = .returned (.bool (plainF t && kids.all Doc.may)) ∧ Below w.heap.size w w' := by
  obtain ⟨hbx, hb0, hs0⟩ := box_new w (.int .i64 2) (.string t) (.int .i64 n) (.slice A kids.length c)
  have HT := Lib.hid (Utf8Tabs_below hT hb0)
  have HK := Lib.hid (kidsAt_on hK hb0)
  have HIH := Lib.hid ih
  have HX := Lib.hid hbx
  have HB := Lib.hid hb0
  have HS := Lib.hid hs0
  clear hbx hb0 hs0 hT hK ih
  go_enter Tryd.func47, Tryd.ntmps47
  go_upto_region 7 with (fail)
  obtain ⟨W, hW⟩ : ∃ W, w.alloc (.cells #[.int .i64 2, .string t, .int .i64 n, .slice A kids.length c] 24) = W := ⟨_, rfl⟩
  have hk := HK.out
  have hx := HX.out
  have hb := HB.out
  have hs := HS.out
  have ht := HT.out
  rw [hW] at hk hx hb hs ht ⊢
  clear hW HX HB HS HT HK
  have HK := Lib.hid hk
  have HX := Lib.hid hx
  have HB := Lib.hid hb
  have HT := Lib.hid ht
  have hs' : w.heap.size < W.heap.size := by omega
  clear hk hx hb hs ht
  go_wp2_with fail
  go_loopw [3] (fun i wr => ∃ m : Nat, m ≤ t.size ∧ i = .int .i64 m ∧ (∀ j, j < m → 32 ≤ byteN t j) ∧ Below W.heap.size W wr) (fun i wr => t.size - (intOf i).toNat)
  case atStart => exact ⟨0, by omega, rfl, fun j hj => by omega, Below.refl _ _⟩
  case round =>
    obtain ⟨m, hm, rfl, hall, hB1⟩ := hrel
    obtain ⟨x0, x1, x2, x3, _, _, _, _⟩ := HX.out.below hB1 hs'
    have HA := Lib.hid hall
    have HW := Lib.hid hB1
    clear hall hB1
    by_cases hlt : m < t.size
    · have hgb := get_byte t m hlt
      by_cases hlow : byteN t m < 32
      · have hlow' : ((t[m]'hlt).toNat : Int) < 32 := by rw [hgb]; omega
        have HP := Lib.hid (show plainF t = false by rw [plainF, lowless, decide_eq_false (by intro h; have := h m hlt; omega), Bool.and_false])
        clear hgb
        go_wp2
        go_ret
        exact ⟨ret_bool (by rw [HP.out]; rfl), HB.out.trans (HW.out.mono (Nat.le_of_lt hs'))⟩
      · have hlow' : ¬ ((t[m]'hlt).toNat : Int) < 32 := by rw [hgb]; omega
        clear hgb
        go_wp2
        go_roundw
        case rel =>
          refine ⟨m + 1, by omega, by go_num, fun j hj => ?_, HW.out⟩
          by_cases h : j < m
          · exact HA.out j h
          · obtain rfl : j = m := by omega
            omega
        case measure => simp [intOf]; omega
    · obtain rfl : m = t.size := by omega
      have HC := Lib.hid (rcheck_any t (by omega) wr)
      have hll : lowless t = true := decide_eq_true (fun j hj => HA.out j hj)
      cases hg : good t with
      | false =>
        have HP := Lib.hid (show plainF t = false by rw [plainF, hg]; rfl)
        have HG := Lib.hid hg
        clear hg hll
        go_wp2_with fail
        refine HC.out.mono ?_
        rintro e w2 ⟨p, he, hb2⟩
        rw [HG.out] at he
        subst he
        go_wp2
        go_ret
        exact ⟨ret_bool (by rw [HP.out]; rfl), HB.out.trans ((HW.out.trans (hb2.mono HW.out.size)).mono (Nat.le_of_lt hs'))⟩
      | true =>
        have HP := Lib.hid (show plainF t = true by rw [plainF, hg, hll]; rfl)
        have HG := Lib.hid hg
        clear hg hll
        go_wp2_with fail
        · refine HC.out.mono ?_
          rintro e w2 ⟨p, he, hb2⟩
          rw [HG.out] at he
          subst he
          have hBW : Below W.heap.size W w2 := HW.out.trans (hb2.mono HW.out.size)
          have hx2 := HX.out.below hBW hs'
          clear x0 x1 x2 x3 hb2
          have HKW := Lib.hid (kidsAt_on HK.out hBW)
          have HTW := Lib.hid (Utf8Tabs_below HT.out hBW)
          have hWs := Nat.lt_of_lt_of_le hs' hBW.size
          have HBW := Lib.hid (HB.out.trans (hBW.mono (Nat.le_of_lt hs')))
          have HX2 := Lib.hid hx2
          clear hBW hx2 HC HB HK HT HX HW
          go_wp2_with fail
          go_loopw [6] (fun i wr => ∃ k : Nat, k ≤ kids.length ∧ i = .int .i64 k ∧ (∀ j (hj : j < kids.length), j < k → kids[j].may = true) ∧ Below w2.heap.size w2 wr) (fun i wr => kids.length - (intOf i).toNat)
          case atStart => exact ⟨0, by omega, rfl, fun j _ hj => by omega, Below.refl _ _⟩
          case round =>
            obtain ⟨m, hk, rfl, hall, hB1⟩ := hrel
            obtain ⟨x0, x1, x2, x3, _, _, _, _⟩ := HX2.out.below hB1 hWs
            have HA := Lib.hid hall
            have HB1 := Lib.hid hB1
            have hsz := hB1.size
            have HKr := Lib.hid (kidsAt_on HKW.out hB1)
            have HTr := Lib.hid (Utf8Tabs_below HTW.out hB1)
            clear hall hB1
            by_cases hlt : m < kids.length
            · obtain ⟨b, o, rfl, hat⟩ := kidsAt_get HKr.out (kid_in hlt)
              obtain ⟨A', c', h1, h2, h3, h4, h5, h6, h7, h8⟩ := docAt_iff.1 hat
              have HC := Lib.hid (HIH.out kids[m] (List.getElem_mem hlt) A' c' _ HTr.out h8)
              clear h8 h6 h7 hat
              cases hv : kids[m].may with
              | false =>
                have HV := Lib.hid hv
                clear hv
                go_wp2_with fail
                refine HC.out.mono ?_
                rintro e w3 ⟨rfl, hb3⟩
                rw [HV.out]
                have hBB := Lib.hid (HBW.out.trans ((HB1.out.trans (hb3.mono hsz)).mono (Nat.le_of_lt hWs)))
                clear hb3 HC
                go_wp2
                go_ret
                exact ⟨ret_bool (by symm; rw [HP.out, Bool.true_and, List.all_eq_false]; exact ⟨_, List.getElem_mem hlt, by rw [HV.out]; decide⟩), hBB.out⟩
              | true =>
                have HV := Lib.hid hv
                clear hv
                go_wp2_with fail
                refine HC.out.mono ?_
                rintro e w3 ⟨rfl, hb3⟩
                rw [HV.out]
                have hBB := Lib.hid (HB1.out.trans (hb3.mono hsz))
                clear hb3 HC
                go_wp2
                go_roundw
                case rel =>
                  refine ⟨m + 1, by omega, by go_num, fun j hj hjk => ?_, hBB.out⟩
                  by_cases h : j < m
                  · exact HA.out j hj h
                  · obtain rfl : j = m := by omega
                    exact HV.out
                case measure => simp [intOf]; omega
            · obtain rfl : m = kids.length := by omega
              go_wp2
              go_ret
              exact ⟨ret_bool (by symm; rw [HP.out, Bool.true_and, List.all_eq_true]; intro d hd; obtain ⟨j, hj, rfl⟩ := List.mem_iff_getElem.1 hd; exact HA.out j hj hj), HBW.out.trans (HB1.out.mono (Nat.le_of_lt hWs))⟩

set_option maxRecDepth 100000 in
set_option maxHeartbeats 2000000 in
theorem for_y3 (k n : Int) (t : ByteArray) (kids : List Doc) (A : Option Addr) (c : Nat) (w : World) (hs : t.size ≤ 16777216) (hT : Lib.Utf8Tabs 1 2 w) (_q0 : 0 ≤ k) (_q1 : k < 11) (_q2 : 3 ≤ k) (_q3 : (k == 1) = false) (_q4 : (k == 2) = false) (_q5 : (k != 1) = true) (_q6 : (k != 2) = true) (_q7 : 1 < k) (_q8 : ¬ n < -1000) (_q9 : ¬ 1000 < n) (_q10 : t.toList.isEmpty = true) (_q11 : (n != 0) = false) (hlen : kids.length ≤ 16777216) (hK : KidsAt w.heap.size w kids A) (ih : ∀ d ∈ kids, MaySays 47 d) : Calls Tryd.prog 47 #[.agg #[.int .i64 k, .string t, .int .i64 n, .slice A kids.length c]] w fun e w' => e = .returned (.bool (plainF t && kids.all Doc.may)) ∧ Below w.heap.size w w' := by
  obtain ⟨hbx, hb0, hs0⟩ := box_new w (.int .i64 k) (.string t) (.int .i64 n) (.slice A kids.length c)
  have HT := Lib.hid (Utf8Tabs_below hT hb0)
  have HK := Lib.hid (kidsAt_on hK hb0)
  have HIH := Lib.hid ih
  have HX := Lib.hid hbx
  have HB := Lib.hid hb0
  have HS := Lib.hid hs0
  clear hbx hb0 hs0 hT hK ih
  go_enter Tryd.func47, Tryd.ntmps47
  go_upto_region 7 with (fail)
  obtain ⟨W, hW⟩ : ∃ W, w.alloc (.cells #[.int .i64 k, .string t, .int .i64 n, .slice A kids.length c] 24) = W := ⟨_, rfl⟩
  have hk := HK.out
  have hx := HX.out
  have hb := HB.out
  have hs := HS.out
  have ht := HT.out
  rw [hW] at hk hx hb hs ht ⊢
  clear hW HX HB HS HT HK
  have HK := Lib.hid hk
  have HX := Lib.hid hx
  have HB := Lib.hid hb
  have HT := Lib.hid ht
  have hs' : w.heap.size < W.heap.size := by omega
  clear hk hx hb hs ht
  go_wp2_with fail
  go_loopw [3] (fun i wr => ∃ m : Nat, m ≤ t.size ∧ i = .int .i64 m ∧ (∀ j, j < m → 32 ≤ byteN t j) ∧ Below W.heap.size W wr) (fun i wr => t.size - (intOf i).toNat)
  case atStart => exact ⟨0, by omega, rfl, fun j hj => by omega, Below.refl _ _⟩
  case round =>
    obtain ⟨m, hm, rfl, hall, hB1⟩ := hrel
    obtain ⟨x0, x1, x2, x3, _, _, _, _⟩ := HX.out.below hB1 hs'
    have HA := Lib.hid hall
    have HW := Lib.hid hB1
    clear hall hB1
    by_cases hlt : m < t.size
    · have hgb := get_byte t m hlt
      by_cases hlow : byteN t m < 32
      · have hlow' : ((t[m]'hlt).toNat : Int) < 32 := by rw [hgb]; omega
        have HP := Lib.hid (show plainF t = false by rw [plainF, lowless, decide_eq_false (by intro h; have := h m hlt; omega), Bool.and_false])
        clear hgb
        go_wp2
        go_ret
        exact ⟨ret_bool (by rw [HP.out]; rfl), HB.out.trans (HW.out.mono (Nat.le_of_lt hs'))⟩
      · have hlow' : ¬ ((t[m]'hlt).toNat : Int) < 32 := by rw [hgb]; omega
        clear hgb
        go_wp2
        go_roundw
        case rel =>
          refine ⟨m + 1, by omega, by go_num, fun j hj => ?_, HW.out⟩
          by_cases h : j < m
          · exact HA.out j h
          · obtain rfl : j = m := by omega
            omega
        case measure => simp [intOf]; omega
    · obtain rfl : m = t.size := by omega
      have HC := Lib.hid (rcheck_any t (by omega) wr)
      have hll : lowless t = true := decide_eq_true (fun j hj => HA.out j hj)
      cases hg : good t with
      | false =>
        have HP := Lib.hid (show plainF t = false by rw [plainF, hg]; rfl)
        have HG := Lib.hid hg
        clear hg hll
        go_wp2_with fail
        refine HC.out.mono ?_
        rintro e w2 ⟨p, he, hb2⟩
        rw [HG.out] at he
        subst he
        go_wp2
        go_ret
        exact ⟨ret_bool (by rw [HP.out]; rfl), HB.out.trans ((HW.out.trans (hb2.mono HW.out.size)).mono (Nat.le_of_lt hs'))⟩
      | true =>
        have HP := Lib.hid (show plainF t = true by rw [plainF, hg, hll]; rfl)
        have HG := Lib.hid hg
        clear hg hll
        go_wp2_with fail
        · refine HC.out.mono ?_
          rintro e w2 ⟨p, he, hb2⟩
          rw [HG.out] at he
          subst he
          have hBW : Below W.heap.size W w2 := HW.out.trans (hb2.mono HW.out.size)
          have hx2 := HX.out.below hBW hs'
          clear x0 x1 x2 x3 hb2
          have HKW := Lib.hid (kidsAt_on HK.out hBW)
          have HTW := Lib.hid (Utf8Tabs_below HT.out hBW)
          have hWs := Nat.lt_of_lt_of_le hs' hBW.size
          have HBW := Lib.hid (HB.out.trans (hBW.mono (Nat.le_of_lt hs')))
          have HX2 := Lib.hid hx2
          clear hBW hx2 HC HB HK HT HX HW
          go_wp2_with fail
          go_loopw [6] (fun i wr => ∃ k : Nat, k ≤ kids.length ∧ i = .int .i64 k ∧ (∀ j (hj : j < kids.length), j < k → kids[j].may = true) ∧ Below w2.heap.size w2 wr) (fun i wr => kids.length - (intOf i).toNat)
          case atStart => exact ⟨0, by omega, rfl, fun j _ hj => by omega, Below.refl _ _⟩
          case round =>
            obtain ⟨m, hk, rfl, hall, hB1⟩ := hrel
            obtain ⟨x0, x1, x2, x3, _, _, _, _⟩ := HX2.out.below hB1 hWs
            have HA := Lib.hid hall
            have HB1 := Lib.hid hB1
            have hsz := hB1.size
            have HKr := Lib.hid (kidsAt_on HKW.out hB1)
            have HTr := Lib.hid (Utf8Tabs_below HTW.out hB1)
            clear hall hB1
            by_cases hlt : m < kids.length
            · obtain ⟨b, o, rfl, hat⟩ := kidsAt_get HKr.out (kid_in hlt)
              obtain ⟨A', c', h1, h2, h3, h4, h5, h6, h7, h8⟩ := docAt_iff.1 hat
              have HC := Lib.hid (HIH.out kids[m] (List.getElem_mem hlt) A' c' _ HTr.out h8)
              clear h8 h6 h7 hat
              cases hv : kids[m].may with
              | false =>
                have HV := Lib.hid hv
                clear hv
                go_wp2_with fail
                refine HC.out.mono ?_
                rintro e w3 ⟨rfl, hb3⟩
                rw [HV.out]
                have hBB := Lib.hid (HBW.out.trans ((HB1.out.trans (hb3.mono hsz)).mono (Nat.le_of_lt hWs)))
                clear hb3 HC
                go_wp2
                go_ret
                exact ⟨ret_bool (by symm; rw [HP.out, Bool.true_and, List.all_eq_false]; exact ⟨_, List.getElem_mem hlt, by rw [HV.out]; decide⟩), hBB.out⟩
              | true =>
                have HV := Lib.hid hv
                clear hv
                go_wp2_with fail
                refine HC.out.mono ?_
                rintro e w3 ⟨rfl, hb3⟩
                rw [HV.out]
                have hBB := Lib.hid (HB1.out.trans (hb3.mono hsz))
                clear hb3 HC
                go_wp2
                go_roundw
                case rel =>
                  refine ⟨m + 1, by omega, by go_num, fun j hj hjk => ?_, hBB.out⟩
                  by_cases h : j < m
                  · exact HA.out j hj h
                  · obtain rfl : j = m := by omega
                    exact HV.out
                case measure => simp [intOf]; omega
            · obtain rfl : m = kids.length := by omega
              go_wp2
              go_ret
              exact ⟨ret_bool (by symm; rw [HP.out, Bool.true_and, List.all_eq_true]; intro d hd; obtain ⟨j, hj, rfl⟩ := List.mem_iff_getElem.1 hd; exact HA.out j hj hj), HBW.out.trans (HB1.out.mono (Nat.le_of_lt hWs))⟩

theorem for_step (d : Doc) (hw : d.wt ≤ 16777216) (ih : ∀ k ∈ d.kids, MaySays 47 k) : MaySays 47 d := by
  intro A c w hT hK
  have hs : d.text.size ≤ 16777216 := by have := text_lt d; omega
  have hl : d.kids.length ≤ 16777216 := by have := kids_lt d; omega
  rw [may_eq]
  obtain ⟨k, t, n, kids⟩ := d
  simp only at *
  have no : ∀ {Q : Prop}, (Q → Calls Tryd.prog 47 #[.agg #[.int .i64 k, .string t, .int .i64 n, .slice A kids.length c]] w fun e w' => e = .returned (.bool false) ∧ Below w.heap.size w w') → Q → hereF k t n kids.length = false → Calls Tryd.prog 47 #[.agg #[.int .i64 k, .string t, .int .i64 n, .slice A kids.length c]] w fun e w' => e = .returned (.bool (hereF k t n kids.length && kids.all Doc.may)) ∧ Below w.heap.size w w' :=
    fun h q hh => by rw [hh, Bool.false_and]; exact h q
  have yes : (0 ≤ k ∧ k < 11 ∧ (k = 1 ∨ t.toList.isEmpty = true) ∧ (k = 2 ∨ n = 0) ∧ -1000 ≤ n ∧ n ≤ 1000 ∧ (1 < k ∨ kids.length = 0) ∧ (k ≠ 2 ∨ kids.length = 1)) → (hereF k t n kids.length && kids.all Doc.may) = (plainF t && kids.all Doc.may) := by
    rintro ⟨h1, h2, h3, h5, h6, h7, h8, h9⟩
    cases hp : plainF t with
    | false => rw [here_no (by simp [hp])]
    | true => rw [here_yes ⟨h1, h2, h3, hp, h5, h6, h7, h8, h9⟩]
  by_cases a1 : k < 0
  · exact no (fun q => for_a k n t A c _ w q) a1 (here_no (by omega))
  by_cases a2 : 11 ≤ k
  · exact no (fun q => for_b k n t A c _ w a1 q) a2 (here_no (by omega))
  by_cases a3 : n < -1000
  · exact no (fun q => for_c k n t A c _ w a1 a2 q) a3 (here_no (by omega))
  by_cases a4 : 1000 < n
  · exact no (fun q => for_d k n t A c _ w a1 a2 a3 q) a4 (here_no (by omega))
  cases te : t.toList.isEmpty with
  | false =>
    rcases kcases (by omega) (by omega : k < 11) with rfl | rfl | rfl | ⟨f0, f1, f2, f3, f4, f5, f6, f7⟩
    · exact no (fun q => for_t0 n t A c _ w a3 a4 q) te (here_no (by simp [te]))
    · by_cases hn : n = 0
      · by_cases hL : kids.length = 0
        · rw [yes ⟨by omega, by omega, by simp, by omega, by omega, by omega, by omega, by omega⟩]
          obtain rfl : kids = [] := List.eq_nil_of_length_eq_zero hL
          rw [List.all_nil, Bool.and_true]
          exact for_y1 n t A c w hs hT a3 a4 (b_true hn)
        · exact no (fun q => for_l1 n t A c _ w a3 a4 (b_true hn) (by omega) q) (by omega : ¬ (kids.length : Int) = 0) (here_no (by omega))
      · exact no (fun q => for_n1 n t A c _ w a3 a4 q) (b_false hn) (here_no (by omega))
    · exact no (fun q => for_t2 n t A c _ w a3 a4 q) te (here_no (by simp [te]))
    · exact no (fun q => for_t3 k n t A c _ w f0 f1 f2 f3 f4 f5 f6 f7 a3 a4 q) te (here_no (by rintro ⟨_, _, h3, _⟩; rw [te] at h3; rcases h3 with h3 | h3 <;> first | omega | cases h3))
  | true =>
    rcases kcases (by omega) (by omega : k < 11) with rfl | rfl | rfl | ⟨f0, f1, f2, f3, f4, f5, f6, f7⟩
    · by_cases hn : n = 0
      · by_cases hL : kids.length = 0
        · rw [yes ⟨by omega, by omega, by simp [te], by omega, by omega, by omega, by omega, by omega⟩]
          obtain rfl : kids = [] := List.eq_nil_of_length_eq_zero hL
          rw [List.all_nil, Bool.and_true]
          exact for_y0 n t A c w hs hT a3 a4 te (b_true hn)
        · exact no (fun q => for_l0 n t A c _ w a3 a4 te (b_true hn) (by omega) q) (by omega : ¬ (kids.length : Int) = 0) (here_no (by omega))
      · exact no (fun q => for_n0 n t A c _ w a3 a4 te q) (b_false hn) (here_no (by omega))
    · by_cases hn : n = 0
      · by_cases hL : kids.length = 0
        · rw [yes ⟨by omega, by omega, by simp, by omega, by omega, by omega, by omega, by omega⟩]
          obtain rfl : kids = [] := List.eq_nil_of_length_eq_zero hL
          rw [List.all_nil, Bool.and_true]
          exact for_y1 n t A c w hs hT a3 a4 (b_true hn)
        · exact no (fun q => for_l1 n t A c _ w a3 a4 (b_true hn) (by omega) q) (by omega : ¬ (kids.length : Int) = 0) (here_no (by omega))
      · exact no (fun q => for_n1 n t A c _ w a3 a4 q) (b_false hn) (here_no (by omega))
    · by_cases hL : (kids.length : Int) = 1
      · rw [yes ⟨by omega, by omega, by simp [te], by omega, by omega, by omega, by omega, by omega⟩]
        exact for_y2 n t kids A c w hs hT a3 a4 te (b_true hL) hl hK ih
      · exact no (fun q => for_l2 n t A c _ w a3 a4 te q) (b_false hL) (here_no (by omega))
    · by_cases hn : n = 0
      · rw [yes ⟨by omega, by omega, by simp [te], by omega, by omega, by omega, by omega, by omega⟩]
        exact for_y3 k n t kids A c w hs hT f0 f1 f2 f3 f4 f5 f6 f7 a3 a4 te (b_true hn) hl hK ih
      · exact no (fun q => for_n3 k n t A c _ w f0 f1 f2 f3 f4 f5 f6 f7 a3 a4 te q) (b_false hn) (here_no (by omega))
theorem for_any (m : Nat) : ∀ d : Doc, d.wt ≤ m → d.wt ≤ 16777216 → MaySays 47 d := by
  induction m with
  | zero => intro d h; have := wt_pos d; omega
  | succ m ih =>
    intro d hm hB
    refine for_step d hB fun k hk => ih k ?_ ?_
    · have := kid_lt hk; omega
    · have := kid_lt hk; omega
end Go.Proofs.YtnpaplfdmpjfgaaDoor
