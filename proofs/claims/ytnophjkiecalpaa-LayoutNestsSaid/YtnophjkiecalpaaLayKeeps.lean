/- The law LayoutKeeps, walked. -/
import Derived.Test.YtnophjkiecalpaaLayAlls
import Derived.Test.YtnophjkiecalpaaLayLaw2
namespace Go.Proofs.Ytnophjkiecalpaa
open Go.RowKit

theorem filter_keep {l : List Tok} {k : Nat} (h : k < l.length) (hm : written (tk l k) = false) : (l.take (k + 1)).filter written = (l.take k).filter written := by
  have e : tk l k = l[k] := by simp [tk, List.getElem?_eq_getElem h]
  rw [take_snoc h, List.filter_append, ← e]
  simp [hm]
theorem filter_add {l : List Tok} {k : Nat} (h : k < l.length) (hm : written (tk l k) = true) : (l.take (k + 1)).filter written = (l.take k).filter written ++ [tk l k] := by
  have e : tk l k = l[k] := by simp [tk, List.getElem?_eq_getElem h]
  rw [take_snoc h, List.filter_append, ← e]
  simp [hm]
theorem low_of {l : List Tok} (h : ∀ j, j < l.length → (tk l j).kind < 18) : Low l := by
  intro t ht
  obtain ⟨j, hj, rfl⟩ := List.mem_iff_getElem.1 ht
  have := h j hj
  simpa [tk, List.getElem?_eq_getElem hj] using this

set_option maxRecDepth 100000 in
set_option maxHeartbeats 4000000 in
theorem layoutKeeps_any (A : Option Addr) (l : List Tok) (c : Nat) (w : World) (hlen : l.length * 40 ≤ 140737488351232) (h : Toks w.heap.size w A l) :
    Calls Try.prog 11 #[.slice A l.length c] w fun e w' => e = .returned (.bool true) ∧ Below w.heap.size w w' := by
  have HT := Lib.hid h
  clear h
  by_cases hs : l.length ≤ 3000
  · have hd := Lib.hid (show decide (l.length ≤ 3000) = true by simpa using hs)
    go_enter Try.func11, Try.ntmps11
    go_wp2_with fail
    refine (awake9_any _).mono ?_
    rintro e w1 ⟨rfl, hb1⟩
    have HB1 := Lib.hid hb1
    have hs1 := hb1.size
    clear hb1
    go_wp2_with fail
    refine (small_any A l.length c _ (by omega)).mono ?_
    rintro e w2 ⟨rfl, rfl⟩
    rw [hd.out]
    go_wp2_with fail
    go_loopw [4] (fun i wr => ∃ k : Nat, k ≤ l.length ∧ i = .int .i64 k ∧ (∀ j, j < k → (tk l j).kind < 18) ∧ wr = w1) (fun i wr => l.length - (intOf i).toNat)
    case atStart => exact ⟨0, by omega, rfl, fun j hj => by omega, rfl⟩
    case round =>
      obtain ⟨k, hk, rfl, hlow, rfl⟩ := hrel
      have HLOW := Lib.hid hlow
      clear hlow
      by_cases hlt : k < l.length
      · obtain ⟨b, o, rfl, hb, hc⟩ := (HT.out.below HB1.out) k (tk l k) (tk_in hlt)
        obtain ⟨g1, g2, g3, g4⟩ := hc
        cases e18 : decide (18 ≤ (tk l k).kind) with
        | true =>
          go_wp2
          go_ret
          exact ⟨rfl, HB1.out⟩
        | false =>
          have hkk := Lib.hid (of_decide_eq_false e18)
          go_wp2
          go_roundw
          case rel =>
            refine ⟨k + 1, by omega, by go_num, fun j hj => ?_, trivial⟩
            by_cases hjk : j < k
            · exact HLOW.out j hjk
            · obtain rfl : j = k := by omega
              have := hkk.out
              omega
          case measure => simp [intOf]; omega
      · obtain rfl : k = l.length := by omega
        have hL := Lib.hid (low_of HLOW.out)
        go_wp2_with fail
        refine (all_lay A l c _ hs ((HT.out.below HB1.out).mono hs1)).mono ?_
        rintro e w2 ⟨A1, c1, rfl, hA1, hl1, hb2⟩
        obtain ⟨all, err, hR⟩ : ∃ all err, allS l = (all, err) := ⟨_, _, rfl⟩
        have herr : err ≠ 0 → all = [] := fun h0 => by
          have := allF_err (pot l 0 [] 0 + 1) ⟨l, 0, [], 0⟩ [] (by show (allS l).2 ≠ 0; rw [hR]; exact h0)
          have h2 : (allS l).1 = [] := this
          rw [hR] at h2
          exact h2
        rw [hR] at hA1 hl1 ⊢
        simp only at hA1 hl1 ⊢
        have HA1 := Lib.hid hA1
        have HB2 := Lib.hid (HB1.out.trans (hb2.mono hs1))
        have hb2s := hb2.size
        have HERR := Lib.hid herr
        have HR := Lib.hid hR
        clear hA1 hb2 hR herr
        cases hE : (err != 0) with
        | true =>
          have hall := HERR.out (by simpa using hE)
          subst hall
          go_wp2
          go_ret
          exact ⟨rfl, HB2.out⟩
        | false =>
          have he0 : err = 0 := by simpa [bne] using hE
          have hlaw := Lib.hid (allS_law l hL.out all (by rw [HR.out, he0])).1
          clear he0 HERR
          go_wp2_with fail
          go_loopw [7, 8] (fun out i wr => ∃ k : Nat, k ≤ all.length ∧ i = .int .i64 k ∧ wr.ownsRow w2.heap.size 23 4 out ((all.take k).filter written).length (flat ((all.take k).filter written)) ∧ Below w2.heap.size w2 wr) (fun _ i wr => all.length - (intOf i).toNat)
          case atStart => exact ⟨0, by omega, rfl, World.ownsRow_nil _ _ _ _, Below.refl _ _⟩
          case round =>
            obtain ⟨k, hk, rfl, hown, hB⟩ := hrel
            have hsz := hB.size
            by_cases hlt : k < all.length
            · obtain ⟨b, o, rfl, hb, hc⟩ := (HA1.out.below hB) k (tk all k) (tk_in hlt)
              obtain ⟨g1, g2, g3, g4⟩ := hc
              have hfl : ((all.take k).filter written).length ≤ k := by have := List.length_filter_le written (all.take k); rw [List.length_take] at this; omega
              cases n18 : ((tk all k).kind != 18) with
              | false =>
                have hw := Lib.hid (show written (tk all k) = false by simp [written, n18])
                go_wp2
                go_roundw
                case rel => exact ⟨k + 1, by omega, by go_num, by rw [filter_keep hlt hw.out]; exact hown, hB⟩
                case measure => simp [intOf]; omega
              | true =>
                cases n19 : ((tk all k).kind != 19) with
                | false =>
                  have hw := Lib.hid (show written (tk all k) = false by simp [written, n19])
                  go_wp2
                  go_roundw
                  case rel => exact ⟨k + 1, by omega, by go_num, by rw [filter_keep hlt hw.out]; exact hown, hB⟩
                  case measure => simp [intOf]; omega
                | true =>
                  cases n20 : ((tk all k).kind != 20) with
                  | false =>
                    have hw := Lib.hid (show written (tk all k) = false by simp [written, n20])
                    go_wp2
                    go_roundw
                    case rel => exact ⟨k + 1, by omega, by go_num, by rw [filter_keep hlt hw.out]; exact hown, hB⟩
                    case measure => simp [intOf]; omega
                  | true =>
                    have hw := Lib.hid (filter_add hlt (show written (tk all k) = true by simp [written, n18, n19, n20]))
                    go_wp2_with (at_builtin; refine wpList_app1 rfl _ _ 26 rfl 23 _ 4 40 Try.underlying26 info23 rfl (by decide) wr (tk all k).cells rfl _ rfl w2.heap.size _ _ _ rfl hown rfl rfl (by simp [Tok.cells, Value.oneCell']) (by unfold maxLen; omega) (by omega) hsz ?_; intro g cc w4 hown4 hB4 _ _)
                    go_roundw
                    case rel => exact ⟨k + 1, by omega, by go_num, own_add hown4 hw.out, hB.trans hB4⟩
                    case measure => simp [intOf]; omega
            · obtain rfl : k = all.length := by omega
              rw [List.take_length, hlaw.out] at hown
              obtain ⟨A3, c3, e3, hA3⟩ := isToks_of_own hown
              rw [e3]
              have HA3 := Lib.hid hA3
              have HB3 := Lib.hid (HB2.out.trans (hB.mono (by omega)))
              clear hown hA3 e3
              have hbl : (bare l).length ≤ l.length := bare_len l
              go_wp2_with fail
              refine (refBare_any A l c _ hlen ((HT.out.below HB3.out).mono (by omega))).mono ?_
              rintro e w5 ⟨v, rfl, hv, hb5⟩
              obtain ⟨A5, c5, rfl, hv5⟩ := hv
              have hA35 := Lib.hid ((HA3.out.below hb5).mono hb5.size)
              have hV5 := Lib.hid hv5
              have HB5 := Lib.hid (HB3.out.trans (hb5.mono (by omega)))
              have hs5 := hb5.size
              clear hv5 hb5
              go_wp2_with fail
              refine (same_len A3 A5 (bare l) _ _ _ _ _ (by omega) rfl rfl hA35.out hV5.out).mono ?_
              rintro e w6 ⟨rfl, hb6⟩
              go_wp2
              go_ret
              exact ⟨rfl, HB5.out.trans (hb6.mono (by omega))⟩
  · have hd := Lib.hid (show decide (l.length ≤ 3000) = false by simpa using hs)
    go_enter Try.func11, Try.ntmps11
    go_wp2_with fail
    refine (awake9_any _).mono ?_
    rintro e w1 ⟨rfl, hb1⟩
    go_wp2_with fail
    refine (small_any A l.length c _ (by omega)).mono ?_
    rintro e w2 ⟨rfl, rfl⟩
    rw [hd.out]
    go_wp2
    go_ret
    exact ⟨rfl, hb1⟩
end Go.Proofs.Ytnophjkiecalpaa
