/- The law LayoutNests, walked. -/
import Derived.Test.YtnophjkiecalpaaLayKeeps
namespace Go.Proofs.Ytnophjkiecalpaa
open Go.RowKit

theorem info4 : (Try.prog.info? 4).map (fun i => (i.zero, i.size, i.bytes)) = some (some (.bool false), 1, 1) := by kernel_rfl

theorem nests_app (a b : List Tok) : ∀ st, nests st (a ++ b) = (nests st a).bind fun st' => nests st' b := by
  induction a with
  | nil => intro st; rfl
  | cons t a ih =>
    intro st
    simp only [List.cons_append, nests]
    cases nest st t with
    | none => rfl
    | some st' => simp only [Option.bind_some]; exact ih st'
theorem nests_upto {all : List Tok} {x : List Bool} (h : nests [] all = some x) (k : Nat) : ∃ st, nests [] (all.take k) = some st := by
  rw [← List.take_append_drop k all, nests_app] at h
  cases h2 : nests [] (all.take k) with
  | none => rw [h2] at h; cases h
  | some st => exact ⟨st, rfl⟩
theorem nests_on {all : List Tok} {x st : List Bool} (h : nests [] all = some x) {k : Nat} (hk : k < all.length) (hst : nests [] (all.take k) = some st) : ∃ st', nest st (tk all k) = some st' ∧ nests [] (all.take (k + 1)) = some st' := by
  obtain ⟨st', h'⟩ := nests_upto h (k + 1)
  have e : tk all k = all[k] := by simp [tk, List.getElem?_eq_getElem hk]
  rw [take_snoc hk, nests_snoc, hst, ← e] at h'
  refine ⟨st', h', ?_⟩
  rw [take_snoc hk, nests_snoc, hst, ← e]
  exact h'

theorem own_shrink {w : World} {B e size n cap g : Nat} {xs : List Value} (h : w.ownsRow B e size (.slice (some ⟨g, 0, none⟩) n cap) n xs) (m : Nat) (hm : m ≤ n) : w.ownsRow B e size (.slice (some ⟨g, 0, none⟩) m cap) m (xs.take (m * size)) := by
  refine ⟨?_, ?_⟩
  · rw [List.length_take, h.1]
    exact Nat.min_eq_left (Nat.mul_le_mul_right _ hm)
  · rcases h.2 with ⟨e, _⟩ | ⟨g', cap', cur, e, hb, hg, hc, hcm, hcs, hx⟩
    · cases e
    · cases e
      refine .inr ⟨g, cap, cur, rfl, hb, hg, by omega, hcm, hcs, ?_⟩
      rw [← hx, List.take_take, Nat.min_eq_left (Nat.mul_le_mul_right _ hm)]
theorem own_some {w : World} {B e size n : Nat} {v : Value} {xs : List Value} (h : w.ownsRow B e size v n xs) (hn : 0 < n) : ∃ g cap, v = .slice (some ⟨g, 0, none⟩) n cap ∧ n ≤ cap := by
  rcases h.2 with ⟨_, e⟩ | ⟨g, cap, cur, rfl, _, _, hc, _⟩
  · omega
  · exact ⟨g, cap, rfl, hc⟩

/-- The blocks that LayoutNests keeps. -/
def Bools (base : Nat) (w : World) (v : Value) (st : List Bool) : Prop := w.ownsRow base 4 1 v st.length (st.map Value.bool)
theorem Bools.last {base : Nat} {w : World} {v : Value} {st : List Bool} {b : Bool} (h : Bools base w v st) (hl : st.getLast? = some b) :
    ∃ g cap, v = .slice (some ⟨g, 0, none⟩) st.length cap ∧ st.length ≤ cap ∧ 0 < st.length ∧ w.cell? ⟨g, st.length - 1, none⟩ = some (.bool b) ∧ Bools base w (.slice (some ⟨g, 0, none⟩) (st.length - 1) cap) st.dropLast := by
  have hpos : 0 < st.length := by
    rcases Nat.eq_zero_or_pos st.length with e | e
    · rw [List.eq_nil_of_length_eq_zero e] at hl; cases hl
    · exact e
  obtain ⟨g, cap, rfl, hc⟩ := own_some h hpos
  refine ⟨g, cap, rfl, hc, hpos, ?_, ?_⟩
  · have h1 := World.ownsRow.cellAt h (st.length - 1) (by omega)
    rw [List.getLast?_eq_getElem?] at hl
    rw [h1, List.getElem?_map, hl]
    rfl
  · have h1 := own_shrink h (st.length - 1) (by omega)
    unfold Bools
    rw [List.length_dropLast, List.dropLast_eq_take, List.map_take]
    simpa using h1
theorem Bools.add {base : Nat} {w : World} {v : Value} {st : List Bool} {b : Bool} (h : w.ownsRow base 4 1 v (st.length + 1) (st.map Value.bool ++ [.bool b])) : Bools base w v (st ++ [b]) := by
  unfold Bools
  rw [List.length_append, List.map_append]
  exact h

theorem nest_pop {st st' : List Bool} {b : Bool} (h : (if st.getLast? == some b then some st.dropLast else none) = some st') : st.getLast? = some b ∧ st' = st.dropLast := by
  split at h
  · rename_i h1
    exact ⟨beq_iff_eq.1 h1, (Option.some.inj h).symm⟩
  · cases h

set_option maxRecDepth 100000 in
set_option maxHeartbeats 8000000 in
theorem layoutNests_any (A : Option Addr) (l : List Tok) (c : Nat) (w : World) (hlen : l.length * 40 ≤ 140737488351232) (h : Toks w.heap.size w A l) :
    Calls Try.prog 12 #[.slice A l.length c] w fun e w' => e = .returned (.bool true) ∧ Below w.heap.size w w' := by
  have HT := Lib.hid h
  clear h
  by_cases hs : l.length ≤ 3000
  · have hd := Lib.hid (show decide (l.length ≤ 3000) = true by simpa using hs)
    go_enter Try.func12, Try.ntmps12
    go_wp2_with fail
    refine (awake9_any _).mono ?_
    rintro e w1 ⟨rfl, hb1⟩
    have HB1 := Lib.hid hb1
    have hs1 := hb1.size
    clear hb1
    go_wp2_with fail
    refine (small_any A l.length c _ (by omega)).mono ?_
    rintro e w2 ⟨rfl, rfl⟩
    rw [hd.out]
    go_wp2_with fail
    go_loopw [4] (fun i wr => ∃ k : Nat, k ≤ l.length ∧ i = .int .i64 k ∧ (∀ j, j < k → (tk l j).kind < 18) ∧ wr = w1) (fun i wr => l.length - (intOf i).toNat)
    case atStart => exact ⟨0, by omega, rfl, fun j hj => by omega, rfl⟩
    case round =>
      obtain ⟨k, hk, rfl, hlow, rfl⟩ := hrel
      have HLOW := Lib.hid hlow
      clear hlow
      by_cases hlt : k < l.length
      · obtain ⟨b, o, rfl, hb, hc⟩ := (HT.out.below HB1.out) k (tk l k) (tk_in hlt)
        obtain ⟨g1, g2, g3, g4⟩ := hc
        cases e18 : decide (18 ≤ (tk l k).kind) with
        | true =>
          go_wp2
          go_ret
          exact ⟨rfl, HB1.out⟩
        | false =>
          have hkk := Lib.hid (of_decide_eq_false e18)
          go_wp2
          go_roundw
          case rel =>
            refine ⟨k + 1, by omega, by go_num, fun j hj => ?_, trivial⟩
            by_cases hjk : j < k
            · exact HLOW.out j hjk
            · obtain rfl : j = k := by omega
              have := hkk.out
              omega
          case measure => simp [intOf]; omega
      · obtain rfl : k = l.length := by omega
        have hL := Lib.hid (low_of HLOW.out)
        go_wp2_with fail
        refine (all_lay A l c _ hs ((HT.out.below HB1.out).mono hs1)).mono ?_
        rintro e w2 ⟨A1, c1, rfl, hA1, hl1, hb2⟩
        obtain ⟨all, err, hR⟩ : ∃ all err, allS l = (all, err) := ⟨_, _, rfl⟩
        have herr : err ≠ 0 → all = [] := fun h0 => by
          have := allF_err (pot l 0 [] 0 + 1) ⟨l, 0, [], 0⟩ [] (by show (allS l).2 ≠ 0; rw [hR]; exact h0)
          have h2 : (allS l).1 = [] := this
          rw [hR] at h2
          exact h2
        rw [hR] at hA1 hl1 ⊢
        simp only at hA1 hl1 ⊢
        have HA1 := Lib.hid hA1
        have HB2 := Lib.hid (HB1.out.trans (hb2.mono hs1))
        have hb2s := hb2.size
        have HERR := Lib.hid herr
        have HR := Lib.hid hR
        clear hA1 hb2 hR herr
        cases hE : (err != 0) with
        | true =>
          have hall := HERR.out (by simpa using hE)
          subst hall
          go_wp2
          go_ret
          exact ⟨rfl, HB2.out⟩
        | false =>
          have he0 : err = 0 := by simpa [bne] using hE
          have hlaw := Lib.hid (allS_law l hL.out all (by rw [HR.out, he0])).2
          clear he0 HERR
          go_wp2_with fail
          go_loopw [7, 8] (fun out i wr => ∃ (k : Nat) (st : List Bool), k ≤ all.length ∧ i = .int .i64 k ∧ nests [] (all.take k) = some st ∧ st.length ≤ k ∧ Bools w2.heap.size wr out st ∧ Below w2.heap.size w2 wr) (fun _ i wr => all.length - (intOf i).toNat)
          case atStart => exact ⟨0, [], by omega, rfl, rfl, by simp, World.ownsRow_nil _ _ _ _, Below.refl _ _⟩
          case round =>
            obtain ⟨k, st, hk, rfl, hst, hsk, hown, hB⟩ := hrel
            have hsz := hB.size
            by_cases hlt : k < all.length
            · obtain ⟨b, o, rfl, hb, hc⟩ := (HA1.out.below hB) k (tk all k) (tk_in hlt)
              obtain ⟨g1, g2, g3, g4⟩ := hc
              obtain ⟨st', hn1, hn2⟩ := nests_on hlaw.out hlt hst
              have HN2 := Lib.hid hn2
              have HOWN := Lib.hid hown
              obtain ⟨Av, cv, rfl⟩ := own_form hown
              have hst0 : st.length ≤ 1000000 := by omega
              unfold nest at hn1
              clear hst hn2
              cases k18 : ((tk all k).kind == 18) with
              | true =>
                have k15 : ((tk all k).kind == 15) = false := by rw [beq_iff_eq.1 k18]; rfl
                have hst' : st' = st ++ [false] := by rw [k18, k15] at hn1; simpa using hn1.symm
                have HST := Lib.hid hst'
                clear hn1 hst'
                go_wp2_with (at_builtin; refine wpList_app1 rfl _ _ 42 rfl 4 _ 1 1 Try.underlying42 info4 rfl (by decide) wr [.bool false] rfl _ rfl w2.heap.size _ _ _ rfl hown rfl rfl (by simp [Value.oneCell']) (by unfold maxLen; omega) (by omega) hsz ?_; intro g cc w4 hown4 hB4 _ _)
                go_roundw
                case rel => exact ⟨k + 1, st', by omega, by go_num, HN2.out, by rw [HST.out]; simp; omega, by rw [HST.out]; exact Bools.add hown4, hB.trans hB4⟩
                case measure => simp [intOf]; omega
              | false =>
                cases k15 : ((tk all k).kind == 15) with
                | true =>
                  have k20 : ((tk all k).kind == 20) = false := by rw [beq_iff_eq.1 k15]; rfl
                  have k19 : ((tk all k).kind == 19) = false := by rw [beq_iff_eq.1 k15]; rfl
                  cases b1 : ((tk all k).text.toList == [123]) with
                  | true =>
                    have hst' : st' = st ++ [true] := by simp only [k18, k15, b1, Bool.or_true, Bool.and_self, if_true] at hn1; simpa using hn1.symm
                    have HST := Lib.hid hst'
                    clear hn1 hst'
                    go_wp2_with (at_builtin; refine wpList_app1 rfl _ _ 42 rfl 4 _ 1 1 Try.underlying42 info4 rfl (by decide) wr [.bool true] rfl _ rfl w2.heap.size _ _ _ rfl hown rfl rfl (by simp [Value.oneCell']) (by unfold maxLen; omega) (by omega) hsz ?_; intro g cc w4 hown4 hB4 _ _)
                    go_roundw
                    case rel => exact ⟨k + 1, st', by omega, by go_num, HN2.out, by rw [HST.out]; simp; omega, by rw [HST.out]; exact Bools.add hown4, hB.trans hB4⟩
                    case measure => simp [intOf]; omega
                  | false =>
                    cases b2 : ((tk all k).text.toList == [125]) with
                    | true =>
                      have hpp : st.getLast? = some true ∧ st' = st.dropLast := nest_pop (by simpa [k18, k15, k20, b1, b2] using hn1)
                      obtain ⟨gg, cap, e1, hcap, hpos, hcell, hdrop⟩ := Bools.last HOWN.out hpp.1
                      simp only [Value.slice.injEq, true_and] at e1
                      obtain ⟨rfl, rfl⟩ := e1
                      have HST := Lib.hid hpp.2
                      have HDROP := Lib.hid hdrop
                      have i0 : ((st.length : Int) == 0) = false := by rw [beq_eq_false_iff_ne]; omega
                      have i1 : IntKind.i64.wrap ((st.length : Int) - 1) = (st.length : Int) - 1 := IntWalk.i64_in _ (by omega)
                      have i2 : (0 : Int) ≤ (st.length : Int) - 1 := by omega
                      have i3 : (st.length : Int) - 1 < (st.length : Int) := by omega
                      have i4 : ((st.length : Int) - 1).toNat = st.length - 1 := by omega
                      clear hn1 hpp hdrop hown
                      go_wp2
                      go_roundw
                      case rel => exact ⟨k + 1, st', by omega, by go_num, HN2.out, by rw [HST.out]; simp; omega, by rw [HST.out]; exact HDROP.out, hB⟩
                      case measure => simp [intOf]; omega
                    | false =>
                      have hst' : st' = st := by simp only [k18, k15, k20, k19, b1, b2, Bool.and_false, Bool.or_self, Bool.false_eq_true, if_false] at hn1; simpa using hn1.symm
                      have HST := Lib.hid hst'
                      clear hn1 hst'
                      go_wp2
                      go_roundw
                      case rel => exact ⟨k + 1, st', by omega, by go_num, HN2.out, by rw [HST.out]; omega, by rw [HST.out]; exact hown, hB⟩
                      case measure => simp [intOf]; omega
                | false =>
                  cases k20 : ((tk all k).kind == 20) with
                  | true =>
                    have hpp : st.getLast? = some false ∧ st' = st.dropLast := nest_pop (by simpa [k18, k15, k20] using hn1)
                    obtain ⟨gg, cap, e1, hcap, hpos, hcell, hdrop⟩ := Bools.last HOWN.out hpp.1
                    simp only [Value.slice.injEq, true_and] at e1
                    obtain ⟨rfl, rfl⟩ := e1
                    have HST := Lib.hid hpp.2
                    have HDROP := Lib.hid hdrop
                    have i0 : ((st.length : Int) == 0) = false := by rw [beq_eq_false_iff_ne]; omega
                    have i1 : IntKind.i64.wrap ((st.length : Int) - 1) = (st.length : Int) - 1 := IntWalk.i64_in _ (by omega)
                    have i2 : (0 : Int) ≤ (st.length : Int) - 1 := by omega
                    have i3 : (st.length : Int) - 1 < (st.length : Int) := by omega
                    have i4 : ((st.length : Int) - 1).toNat = st.length - 1 := by omega
                    clear hn1 hpp hdrop hown
                    go_wp2
                    go_roundw
                    case rel => exact ⟨k + 1, st', by omega, by go_num, HN2.out, by rw [HST.out]; simp; omega, by rw [HST.out]; exact HDROP.out, hB⟩
                    case measure => simp [intOf]; omega
                  | false =>
                    cases k19 : ((tk all k).kind == 19) with
                    | true =>
                      have hpp : st.getLast? = some false ∧ st' = st := by
                        simp only [k18, k15, k20, k19, Bool.false_and, Bool.or_self, Bool.false_eq_true, if_false, if_true] at hn1
                        split at hn1
                        · rename_i h1
                          exact ⟨beq_iff_eq.1 h1, (Option.some.inj hn1).symm⟩
                        · cases hn1
                      obtain ⟨gg, cap, e1, hcap, hpos, hcell, hdrop⟩ := Bools.last HOWN.out hpp.1
                      simp only [Value.slice.injEq, true_and] at e1
                      obtain ⟨rfl, rfl⟩ := e1
                      have HST := Lib.hid hpp.2
                      have i0 : ((st.length : Int) == 0) = false := by rw [beq_eq_false_iff_ne]; omega
                      have i1 : IntKind.i64.wrap ((st.length : Int) - 1) = (st.length : Int) - 1 := IntWalk.i64_in _ (by omega)
                      have i2 : (0 : Int) ≤ (st.length : Int) - 1 := by omega
                      have i3 : (st.length : Int) - 1 < (st.length : Int) := by omega
                      have i4 : ((st.length : Int) - 1).toNat = st.length - 1 := by omega
                      clear hn1 hpp hdrop hown
                      go_wp2
                      go_roundw
                      case rel => exact ⟨k + 1, st', by omega, by go_num, HN2.out, by rw [HST.out]; omega, by rw [HST.out]; exact HOWN.out, hB⟩
                      case measure => simp [intOf]; omega
                    | false =>
                      have hst' : st' = st := by simp only [k18, k15, k20, k19, Bool.false_and, Bool.or_self, Bool.false_eq_true, if_false] at hn1; simpa using hn1.symm
                      have HST := Lib.hid hst'
                      clear hn1 hst'
                      go_wp2
                      go_roundw
                      case rel => exact ⟨k + 1, st', by omega, by go_num, HN2.out, by rw [HST.out]; omega, by rw [HST.out]; exact hown, hB⟩
                      case measure => simp [intOf]; omega
            · obtain rfl : k = all.length := by omega
              have hl0 : st = [] := by
                rw [List.take_length] at hst
                exact (Option.some.inj (hlaw.out.symm.trans hst)).symm
              subst hl0
              obtain ⟨Av, cv, rfl⟩ := own_form hown
              have HB3 := Lib.hid (HB2.out.trans (hB.mono (by omega)))
              clear hown hst
              simp only [List.length_nil]
              go_wp2
              go_ret
              exact ⟨rfl, HB3.out⟩
  · have hd := Lib.hid (show decide (l.length ≤ 3000) = false by simpa using hs)
    go_enter Try.func12, Try.ntmps12
    go_wp2_with fail
    refine (awake9_any _).mono ?_
    rintro e w1 ⟨rfl, hb1⟩
    go_wp2_with fail
    refine (small_any A l.length c _ (by omega)).mono ?_
    rintro e w2 ⟨rfl, rfl⟩
    rw [hd.out]
    go_wp2
    go_ret
    exact ⟨rfl, hb1⟩
end Go.Proofs.Ytnophjkiecalpaa
