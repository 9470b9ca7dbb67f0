/- May a state be: by the program and by its reference. -/
import Derived.Test.YtnophjkiecalpaaLaySt
import Derived.Test.YtnophjkiecalpaaLayPlain
namespace Go.Proofs.Ytnophjkiecalpaa
open Go.RowKit

theorem neg_any (z : Int) (w : World) : Calls Try.prog 52 #[.int .i64 z] w fun e w' => e = .returned (.bool (decide (z < 0))) ∧ w = w' := by
  go_enter Try.func52, Try.ntmps52
  go_wp2
  all_goals go_ret
  all_goals exact ⟨rfl, rfl⟩

/-- No number is below 0. -/
def noneNeg (zs : List Int) : Bool := zs.all fun z => decide (0 ≤ z)

theorem noneNeg_mem {zs : List Int} {k : Nat} {z : Int} (h : zs[k]? = some z) (hz : z < 0) : noneNeg zs = false := by
  unfold noneNeg
  rw [List.all_eq_false]
  exact ⟨z, List.mem_of_getElem? h, by simpa using hz⟩
theorem noneNeg_all {zs : List Int} (h : ∀ (k : Nat) (z : Int), zs[k]? = some z → 0 ≤ z) : noneNeg zs = true := by
  unfold noneNeg
  rw [List.all_eq_true]
  intro z hz
  obtain ⟨k, hk⟩ := List.getElem?_of_mem hz
  exact decide_eq_true (h k z hk)

/-- What IndexFunc answers. -/
def Found (zs : List Int) (w : World) (e : Ending) (w' : World) : Prop := ∃ r : Int, e = .returned (.int .i64 r) ∧ decide (0 ≤ r) = !(noneNeg zs) ∧ w = w'

set_option maxHeartbeats 400000 in
theorem indexFunc_any (A : Option Addr) (zs : List Int) (c : Nat) (w : World) (hn : zs.length ≤ 1048576) (h : Ints w.heap.size w A zs) :
    Calls Try.prog 58 #[.slice A zs.length c, .func (.func 52) #[] #[]] w (Found zs w) := by
  have HI := Lib.hid h
  clear h
  go_enter Try.func58, Try.ntmps58
  go_wp2
  go_loop [8] (fun i => ∃ k : Nat, k ≤ zs.length ∧ i = .int .i64 k ∧ (∀ j z, j < k → zs[j]? = some z → 0 ≤ z)) (fun i => zs.length - (intOf i).toNat)
  case atStart => exact ⟨0, by omega, rfl, fun j z hj => by omega⟩
  case round =>
    obtain ⟨k, hk, rfl, hall⟩ := hrel
    have HA := Lib.hid hall
    clear hall
    by_cases hlt : k < zs.length
    · obtain ⟨b, o, rfl, hb, hc⟩ := HI.out k zs[k] (by simp [hlt])
      cases hz : decide (zs[k] < 0) with
      | true =>
        have hz' : zs[k] < 0 := of_decide_eq_true hz
        have HZ := Lib.hid hz'
        clear hz'
        go_wp2_with fail
        refine (neg_any zs[k] _).mono ?_
        rintro e w' ⟨rfl, rfl⟩
        go_wp2
        go_ret
        exact ⟨k, rfl, by rw [noneNeg_mem (List.getElem?_eq_getElem hlt) HZ.out]; simp, rfl⟩
      | false =>
        have hz' : ¬ zs[k] < 0 := of_decide_eq_false hz
        have HZ := Lib.hid hz'
        clear hz'
        go_wp2_with fail
        refine (neg_any zs[k] _).mono ?_
        rintro e w' ⟨rfl, rfl⟩
        go_wp2
        go_round
        case rel =>
          refine ⟨k + 1, by omega, by go_num, fun j z hj hjz => ?_⟩
          by_cases hjk : j < k
          · exact HA.out j z hjk hjz
          · obtain rfl : j = k := by omega
            rw [List.getElem?_eq_getElem hlt] at hjz
            have := HZ.out
            simp at hjz
            omega
        case measure => simp [intOf]; omega
    · obtain rfl : k = zs.length := by omega
      go_wp2
      go_ret
      exact ⟨-1, rfl, by rw [noneNeg_all (fun j z hj => HA.out j z (List.getElem?_eq_some_iff.1 hj).1 hj)]; simp, rfl⟩

set_option maxHeartbeats 400000 in
theorem contains_any (A : Option Addr) (zs : List Int) (c : Nat) (w : World) (hn : zs.length ≤ 1048576) (h : Ints w.heap.size w A zs) :
    Calls Try.prog 51 #[.slice A zs.length c, .func (.func 52) #[] #[]] w fun e w' => e = .returned (.bool !(noneNeg zs)) ∧ w = w' := by
  have HI := Lib.hid h
  clear h
  go_enter Try.func51, Try.ntmps51
  go_wp2_with fail
  refine (indexFunc_any A zs c _ hn HI.out).mono ?_
  rintro e w' ⟨r, rfl, hr, rfl⟩
  have HR := Lib.hid hr
  clear hr
  cases hd : decide (0 ≤ r)
  all_goals
    go_wp2
    go_ret
    exact ⟨ret_bool (by rw [← HR.out, hd]), rfl⟩

/-- The tests of a state, one after the other. -/
theorem may_cases (l : List Tok) (p wt : Int) (zs : List Int) :
    LSt.may ⟨l, p, zs, wt⟩ = (!(decide (p < 0)) && !(decide ((l.length : Int) < p)) && !(decide (wt < 0)) && !(decide (2 < wt)) && !(decide (0 < wt) && ((p == (l.length : Int)) || ((tk l p.toNat).kind != 16))) && noneNeg zs) := by
  unfold LSt.may noneNeg
  simp only
  congr 1
  generalize (tk l p.toNat).kind = q
  cases h : (q == 16) with
  | true =>
    have h' : (q != 16) = false := by simp [bne, h]
    rw [h', Bool.eq_iff_iff]
    simp
    omega
  | false =>
    have h' : (q != 16) = true := by simp [bne, h]
    rw [h', Bool.eq_iff_iff]
    simp

set_option maxHeartbeats 1600000 in
theorem may_any (A0 A : Option Addr) (l : List Tok) (n0 n : Nat) (p wt : Int) (zs : List Int) (w : World) (_hl : l.length ≤ 1000000) (hn : zs.length ≤ 1000000) (ht : Toks w.heap.size w A0 l) (h : Ints w.heap.size w A zs) :
    Calls Try.prog 35 #[.agg #[.slice A0 l.length n0, .int .i64 p, .slice A zs.length n, .int .i64 wt]] w fun e w' => e = .returned (.bool (LSt.may ⟨l, p, zs, wt⟩)) ∧ Below w.heap.size w w' := by
  have hB0 : Below w.heap.size w (w.alloc (.cells #[.slice A0 l.length n0, .int .i64 p, .slice A zs.length n, .int .i64 wt] 34)) := (Below.refl _ _).alloc (Nat.le_refl _) _
  have HT := Lib.hid (ht.below hB0)
  have HI := Lib.hid ((h.below hB0).mono hB0.size)
  have HB := Lib.hid hB0
  have HM := Lib.hid (may_cases l p wt zs)
  clear ht h hB0
  cases t1 : decide (p < 0) with
  | true =>
    go_enter Try.func35, Try.ntmps35
    go_wp2
    go_ret
    exact ⟨ret_bool (by rw [HM.out]; simp_all), HB.out⟩
  | false =>
    cases t2 : decide ((l.length : Int) < p) with
    | true =>
      go_enter Try.func35, Try.ntmps35
      go_wp2
      go_ret
      exact ⟨ret_bool (by rw [HM.out]; simp_all), HB.out⟩
    | false =>
      cases t3 : decide (wt < 0) with
      | true =>
        go_enter Try.func35, Try.ntmps35
        go_wp2
        go_ret
        exact ⟨ret_bool (by rw [HM.out]; simp_all), HB.out⟩
      | false =>
        cases t4 : decide (2 < wt) with
        | true =>
          go_enter Try.func35, Try.ntmps35
          go_wp2
          go_ret
          exact ⟨ret_bool (by rw [HM.out]; simp_all), HB.out⟩
        | false =>
          cases t5 : decide (0 < wt) with
          | false =>
            go_enter Try.func35, Try.ntmps35
            go_wp2_with fail
            refine (contains_any A zs n _ (by omega) HI.out).mono ?_
            rintro e w' ⟨rfl, rfl⟩
            go_wp2
            go_ret
            exact ⟨ret_bool (by rw [HM.out]; simp_all), HB.out⟩
          | true =>
            cases t6 : (p == (l.length : Int)) with
            | true =>
              go_enter Try.func35, Try.ntmps35
              go_wp2
              go_ret
              exact ⟨ret_bool (by rw [HM.out]; simp_all), HB.out⟩
            | false =>
              have hp0 : 0 ≤ p := by have := of_decide_eq_false t1; omega
              have hp1 : p < (l.length : Int) := by have := of_decide_eq_false t2; have := beq_eq_false_iff_ne.1 t6; omega
              obtain ⟨b, o, rfl, hb, hc⟩ := HT.out p.toNat (tk l p.toNat) (tk_in (by omega))
              obtain ⟨g1, g2, g3, g4⟩ := hc
              cases t7 : ((tk l p.toNat).kind != 16) with
              | true =>
                go_enter Try.func35, Try.ntmps35
                go_wp2
                go_ret
                exact ⟨ret_bool (by rw [HM.out]; simp_all), HB.out⟩
              | false =>
                go_enter Try.func35, Try.ntmps35
                go_wp2_with fail
                refine (contains_any A zs n _ (by omega) HI.out).mono ?_
                rintro e w' ⟨rfl, rfl⟩
                go_wp2
                go_ret
                exact ⟨ret_bool (by rw [HM.out]; simp_all), HB.out⟩

set_option maxHeartbeats 1600000 in
theorem right_any (A0 A : Option Addr) (l : List Tok) (n0 n : Nat) (p wt : Int) (zs : List Int) (w : World) (_hl : l.length ≤ 1000000) (hn : zs.length ≤ 1000000) (ht : Toks w.heap.size w A0 l) (h : Ints w.heap.size w A zs) :
    Calls Try.prog 40 #[.agg #[.slice A0 l.length n0, .int .i64 p, .slice A zs.length n, .int .i64 wt]] w fun e w' => e = .returned (.bool (LSt.may ⟨l, p, zs, wt⟩)) ∧ Below w.heap.size w w' := by
  have hB0 : Below w.heap.size w (w.alloc (.cells #[.slice A0 l.length n0, .int .i64 p, .slice A zs.length n, .int .i64 wt] 34)) := (Below.refl _ _).alloc (Nat.le_refl _) _
  have HT := Lib.hid (ht.below hB0)
  have HI := Lib.hid ((h.below hB0).mono hB0.size)
  have HB := Lib.hid hB0
  have HM := Lib.hid (may_cases l p wt zs)
  clear ht h hB0
  cases t1 : decide (p < 0) with
  | true =>
    go_enter Try.func40, Try.ntmps40
    go_wp2
    go_ret
    exact ⟨ret_bool (by rw [HM.out]; simp_all), HB.out⟩
  | false =>
    cases t2 : decide ((l.length : Int) < p) with
    | true =>
      go_enter Try.func40, Try.ntmps40
      go_wp2
      go_ret
      exact ⟨ret_bool (by rw [HM.out]; simp_all), HB.out⟩
    | false =>
      cases t3 : decide (wt < 0) with
      | true =>
        go_enter Try.func40, Try.ntmps40
        go_wp2
        go_ret
        exact ⟨ret_bool (by rw [HM.out]; simp_all), HB.out⟩
      | false =>
        cases t4 : decide (2 < wt) with
        | true =>
          go_enter Try.func40, Try.ntmps40
          go_wp2
          go_ret
          exact ⟨ret_bool (by rw [HM.out]; simp_all), HB.out⟩
        | false =>
          cases t5 : decide (0 < wt) with
          | false =>
            go_enter Try.func40, Try.ntmps40
            go_wp2
            go_loop [3] (fun i => ∃ k : Nat, k ≤ zs.length ∧ i = .int .i64 k ∧ (∀ j z, j < k → zs[j]? = some z → 0 ≤ z)) (fun i => zs.length - (intOf i).toNat)
            case atStart => exact ⟨0, by omega, rfl, fun j z hj => by omega⟩
            case round =>
              obtain ⟨k, hk, rfl, hall⟩ := hrel
              have HA := Lib.hid hall
              clear hall
              by_cases hlt : k < zs.length
              · obtain ⟨b, o, rfl, hb, hc⟩ := HI.out k zs[k] (by simp [hlt])
                cases hz : decide (zs[k] < 0) with
                | true =>
                  have HZ := Lib.hid (noneNeg_mem (List.getElem?_eq_getElem hlt) (of_decide_eq_true hz))
                  go_wp2
                  go_ret
                  exact ⟨ret_bool (by rw [HM.out, HZ.out]; simp), HB.out⟩
                | false =>
                  have HZ := Lib.hid (of_decide_eq_false hz)
                  go_wp2
                  go_round
                  case rel =>
                    refine ⟨k + 1, by omega, by go_num, fun j z hj hjz => ?_⟩
                    by_cases hjk : j < k
                    · exact HA.out j z hjk hjz
                    · obtain rfl : j = k := by omega
                      rw [List.getElem?_eq_getElem hlt] at hjz
                      have := HZ.out
                      simp at hjz
                      omega
                  case measure => simp [intOf]; omega
              · obtain rfl : k = zs.length := by omega
                have HN := Lib.hid (noneNeg_all (fun j z hj => HA.out j z (List.getElem?_eq_some_iff.1 hj).1 hj))
                go_wp2
                go_ret
                exact ⟨ret_bool (by rw [HM.out, HN.out]; simp_all), HB.out⟩
          | true =>
            cases t6 : (p == (l.length : Int)) with
            | true =>
              go_enter Try.func40, Try.ntmps40
              go_wp2
              go_ret
              exact ⟨ret_bool (by rw [HM.out]; simp_all), HB.out⟩
            | false =>
              have hp0 : 0 ≤ p := by have := of_decide_eq_false t1; omega
              have hp1 : p < (l.length : Int) := by have := of_decide_eq_false t2; have := beq_eq_false_iff_ne.1 t6; omega
              obtain ⟨b, o, rfl, hb, hc⟩ := HT.out p.toNat (tk l p.toNat) (tk_in (by omega))
              obtain ⟨g1, g2, g3, g4⟩ := hc
              cases t7 : ((tk l p.toNat).kind != 16) with
              | true =>
                go_enter Try.func40, Try.ntmps40
                go_wp2
                go_ret
                exact ⟨ret_bool (by rw [HM.out]; simp_all), HB.out⟩
              | false =>
                go_enter Try.func40, Try.ntmps40
                go_wp2
                go_loop [3] (fun i => ∃ k : Nat, k ≤ zs.length ∧ i = .int .i64 k ∧ (∀ j z, j < k → zs[j]? = some z → 0 ≤ z)) (fun i => zs.length - (intOf i).toNat)
                case atStart => exact ⟨0, by omega, rfl, fun j z hj => by omega⟩
                case round =>
                  obtain ⟨k, hk, rfl, hall⟩ := hrel
                  have HA := Lib.hid hall
                  clear hall
                  by_cases hlt : k < zs.length
                  · obtain ⟨b, o, rfl, hb, hc⟩ := HI.out k zs[k] (by simp [hlt])
                    cases hz : decide (zs[k] < 0) with
                    | true =>
                      have HZ := Lib.hid (noneNeg_mem (List.getElem?_eq_getElem hlt) (of_decide_eq_true hz))
                      go_wp2
                      go_ret
                      exact ⟨ret_bool (by rw [HM.out, HZ.out]; simp), HB.out⟩
                    | false =>
                      have HZ := Lib.hid (of_decide_eq_false hz)
                      go_wp2
                      go_round
                      case rel =>
                        refine ⟨k + 1, by omega, by go_num, fun j z hj hjz => ?_⟩
                        by_cases hjk : j < k
                        · exact HA.out j z hjk hjz
                        · obtain rfl : j = k := by omega
                          rw [List.getElem?_eq_getElem hlt] at hjz
                          have := HZ.out
                          simp at hjz
                          omega
                      case measure => simp [intOf]; omega
                  · obtain rfl : k = zs.length := by omega
                    have HN := Lib.hid (noneNeg_all (fun j z hj => HA.out j z (List.getElem?_eq_some_iff.1 hj).1 hj))
                    go_wp2
                    go_ret
                    exact ⟨ret_bool (by rw [HM.out, HN.out]; simp_all), HB.out⟩
end Go.Proofs.Ytnophjkiecalpaa
