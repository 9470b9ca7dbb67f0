/- What has one line that fits stands in that: plain, and the law RenderFlats, walked. -/
import Derived.Test.YtnpaplfdmpjfgaaDoorDOnes
namespace Go.Proofs.YtnpaplfdmpjfgaaDoor
open Go.RowKit

theorem plain_blanks (n : Nat) : plainF ⟨(List.replicate n (32 : UInt8)).toArray⟩ = true := by
  induction n with
  | zero => exact plain_no
  | succ n ih =>
    have h : (⟨(List.replicate (n + 1) (32 : UInt8)).toArray⟩ : ByteArray) = blankB ++ ⟨(List.replicate n (32 : UInt8)).toArray⟩ := bytes_eq (by rw [data_app]; rfl)
    rw [h]
    exact plainF_app plain_blank ih
theorem plainF_good {s : ByteArray} (h : plainF s = true) : good s = true := by
  unfold plainF at h
  rw [Bool.and_eq_true] at h
  exact h.1
theorem cols_blanks (n : Nat) : cols ⟨(List.replicate n (32 : UInt8)).toArray⟩ = n := by
  induction n with
  | zero => rfl
  | succ n ih =>
    have h : (⟨(List.replicate (n + 1) (32 : UInt8)).toArray⟩ : ByteArray) = blankB ++ ⟨(List.replicate n (32 : UInt8)).toArray⟩ := bytes_eq (by rw [data_app]; rfl)
    rw [h, cols_app good_blank, ih]
    have : cols blankB = 1 := by kernel_rfl
    omega
theorem widest_plain {s : ByteArray} (h : plainF s = true) : widest s = cols s := by
  have hno : ∀ j, j < s.size → byteN s j ≠ 10 := by
    intro j hj e
    unfold plainF lowless at h
    rw [Bool.and_eq_true, decide_eq_true_eq] at h
    have := h.2 j hj
    omega
  unfold widest
  rw [lines_miss hno]
  show max 0 (cols s) = cols s
  have := cols_nn s
  omega
/-- What is laid of a document that has one line that fits. -/
theorem flats_law {d : Doc} {wd rb : Int} {s : ByteArray} (hc : checkN d = 0) (hb : badArg wd rb 0 = false) (hfl : d.flat = some s) (h1 : max 0 d.lead0 + cols s ≤ wd) (h2 : cols s ≤ wd * rb / 1000) :
    ((renderV d wd rb 0).2 = 3 ∧ 16777216 < (max 0 d.lead0).toNat + s.size) ∨ ((renderV d wd rb 0).2 = 0 ∧ ((s.size = 0 ∧ (renderV d wd rb 0).1 = noB) ∨ (s.size ≠ 0 ∧ (renderV d wd rb 0).1 = ⟨(List.replicate (max 0 d.lead0).toNat (32 : UInt8)).toArray⟩ ++ s))) := by
  have hmay := check_may hc
  have hr : renderV d wd rb 0 = laidV (d.lay ⟨wd, wd * rb / 1000, 0⟩ pen0 0 true) := by
    unfold renderV
    rw [hb, hc]
    rfl
  rw [hr]
  cases hv : d.void with
  | true =>
    rw [lay_void hv]
    have hs : s = noB := by
      have h0 : d.kind ≠ 1 := by
        intro e
        rw [void_eq, e] at hv
        cases hv
      rw [flat_kids h0] at hfl
      have : voids d.kids = true := by
        rw [void_eq, Bool.and_eq_true] at hv
        exact hv.2
      have hfv : ∀ (ds : List Doc) (acc : ByteArray), voids ds = true → flats d.kind true acc ds = some acc := by
        intro ds
        induction ds with
        | nil => intro acc _; rfl
        | cons x r ih =>
          intro acc h
          simp only [voids, Bool.and_eq_true] at h
          rw [flats_void h.1]
          exact ih acc h.2
      rw [hfv _ _ this] at hfl
      exact (Option.some.inj hfl).symm
    subst hs
    exact .inr ⟨rfl, .inl ⟨rfl, rfl⟩⟩
  | false =>
    have hb0 : begins ⟨wd, wd * rb / 1000, 0⟩ pen0 (0 + d.lead0) true = max 0 d.lead0 := by
      unfold begins
      rw [Int.zero_add]
      rfl
    have hfit : fitsB ⟨wd, wd * rb / 1000, 0⟩ pen0 s (0 + d.lead0) true = true := by
      unfold fitsB firstC
      rw [hb0, Bool.or_eq_true, Bool.and_eq_true, decide_eq_true_eq, decide_eq_true_eq]
      right
      refine ⟨h1, ?_⟩
      show max 0 d.lead0 + cols s - max 0 d.lead0 ≤ wd * rb / 1000
      omega
    rw [lay_flat hmay hv s hfl _ _ _ _ hfit]
    have how : (opened ⟨wd, wd * rb / 1000, 0⟩ pen0 (0 + d.lead0) true).owed = max 0 d.lead0 := by
      unfold opened
      rw [hb0]
      show (0 : Int) + max 0 d.lead0 - 0 = _
      omega
    unfold put
    rw [how]
    by_cases h0 : s.size = 0
    · rw [if_pos h0]
      exact .inr ⟨rfl, .inl ⟨h0, rfl⟩⟩
    · rw [if_neg h0]
      by_cases hbig : 16777216 < pen0.out.length + (max 0 d.lead0).toNat + s.size
      · rw [if_pos hbig]
        exact .inl ⟨rfl, by simpa [pen0] using hbig⟩
      · rw [if_neg hbig]
        refine .inr ⟨rfl, .inr ⟨h0, ?_⟩⟩
        refine bytes_eq ?_
        rw [data_app]
        rfl
theorem blanks_extract (n : Nat) (s : ByteArray) : ((⟨(List.replicate n (32 : UInt8)).toArray⟩ : ByteArray) ++ s).extract n ((⟨(List.replicate n (32 : UInt8)).toArray⟩ : ByteArray) ++ s).size = s := by
  have hb : (⟨(List.replicate n (32 : UInt8)).toArray⟩ : ByteArray).size = n := by
    show (List.replicate n (32 : UInt8)).toArray.size = n
    rw [List.size_toArray, List.length_replicate]
  have := ByteArray.extract_append_eq_right (a := ⟨(List.replicate n (32 : UInt8)).toArray⟩) (b := s) (i := n) (j := n + s.size) (by rw [hb]) (by rw [hb])
  rw [size_app, hb]
  exact this

set_option maxRecDepth 100000 in
set_option maxHeartbeats 16000000 in
theorem renderFlats_any (d : Doc) (A : Option Addr) (cc : Nat) (wd rb : Int) (w : World) (hO : d.Ok) (hT : Lib.Utf8Tabs 1 2 w) (hm : MaxI w) (hnil : A = none → cc = 0) (hcap : d.kids.length ≤ cc) (hK : KidsAt w.heap.size w d.kids A) :
    Calls Tryd.prog 13 #[.agg #[.int .i64 d.kind, .string d.text, .int .i64 d.n, .slice A d.kids.length cc], .int .i64 wd, .int .i64 rb] w fun e w' => e = .returned (.bool true) ∧ Below w.heap.size w w' := by
  obtain ⟨hbx, hb0, hs0⟩ := box_new w (.int .i64 d.kind) (.string d.text) (.int .i64 d.n) (.slice A d.kids.length cc)
  obtain ⟨W, hW⟩ : ∃ W, w.alloc (.cells #[.int .i64 d.kind, .string d.text, .int .i64 d.n, .slice A d.kids.length cc] 24) = W := ⟨_, rfl⟩
  rw [hW] at hbx hb0 hs0
  have HT := Lib.hid (Utf8Tabs_below hT hb0)
  have HK := Lib.hid (kidsAt_on hK hb0)
  have HB := Lib.hid hb0
  have HX := Lib.hid hbx
  have HNIL := Lib.hid hnil
  have hs' : w.heap.size < W.heap.size := by omega
  have HC := Lib.hid (awake19_any W HT.out (hm.below hb0))
  clear hT hm hK hb0 hs0 hbx hnil
  go_enter Tryd.func13, Tryd.ntmps13
  go_wp2_with fail
  clear hW
  refine HC.out.mono ?_
  rintro e w1 ⟨rfl, hb1⟩
  have HB1 := Lib.hid hb1
  obtain ⟨x0, x1, x2, x3, _, _, _, _⟩ := HX.out.below hb1 hs'
  have HC1 := Lib.hid (much_ok d A cc 400 w1 hO (kidsAt_on HK.out hb1))
  clear hb1 HC
  go_wp2_with fail
  refine HC1.out.mono ?_
  rintro e w2 ⟨rfl, hb2⟩
  have HB2 := Lib.hid (HB1.out.trans (hb2.mono HB1.out.size))
  clear hb2 HC1 x0 x1 x2 x3
  by_cases hmu : 400 < d.cnt 0
  · have g1 : decide (400 < d.cnt 0) = true := decide_eq_true hmu
    go_wp2
    go_ret
    exact ⟨rfl, HB.out.trans (HB2.out.mono (Nat.le_of_lt hs'))⟩
  · have g1 : decide (400 < d.cnt 0) = false := decide_eq_false hmu
    have hB : d.wt ≤ 4194304 := by have := small_wt (by decide) hmu; omega
    obtain ⟨y0, y1, y2, y3, _, _, _, _⟩ := HX.out.below HB2.out hs'
    have HC3 := Lib.hid (pcheck_any d A cc w2 (by omega) (Utf8Tabs_below HT.out HB2.out) (kidsAt_on HK.out HB2.out))
    clear hmu
    go_wp2_with fail
    refine HC3.out.mono ?_
    rintro e w3 ⟨rfl, hb3⟩
    have HB3 := Lib.hid (HB2.out.trans (hb3.mono HB2.out.size))
    have HBE := Lib.hid (HB.out.trans (HB3.out.mono (Nat.le_of_lt hs')))
    clear hb3 HC3 y0 y1 y2 y3
    cases hc0 : (checkN d == 0) with
    | false =>
      have hc1 : (checkN d != 0) = true := by simp [bne, hc0]
      go_wp2
      go_ret
      exact ⟨rfl, HBE.out⟩
    | true =>
      have hc1 : (checkN d != 0) = false := by simp [bne, hc0]
      have hck : checkN d = 0 := by simpa using hc0
      have HCK := Lib.hid hck
      clear hck
      by_cases b0 : wd < 1
      · have e0 : decide (wd < 1) = true := decide_eq_true b0
        clear b0
        go_wp2
        go_ret
        exact ⟨rfl, HBE.out⟩
      · have e0 : decide (wd < 1) = false := decide_eq_false b0
        by_cases b1 : 10000 < wd
        · have e1 : decide (10000 < wd) = true := decide_eq_true b1
          clear b0 b1
          go_wp2
          go_ret
          exact ⟨rfl, HBE.out⟩
        · have e1 : decide (10000 < wd) = false := decide_eq_false b1
          by_cases b2 : rb < 1
          · have e2 : decide (rb < 1) = true := decide_eq_true b2
            clear b0 b1 b2
            go_wp2
            go_ret
            exact ⟨rfl, HBE.out⟩
          · have e2 : decide (rb < 1) = false := decide_eq_false b2
            by_cases b3 : 1000 < rb
            · have e3 : decide (1000 < rb) = true := decide_eq_true b3
              clear b0 b1 b2 b3
              go_wp2
              go_ret
              exact ⟨rfl, HBE.out⟩
            · have e3 : decide (1000 < rb) = false := decide_eq_false b3
              have HBA := Lib.hid (show badArg wd rb 0 = false by unfold badArg; rw [e0, e1, e2, e3]; rfl)
              have hmul : wd * rb ≤ 10000000 := by
                have h1 : wd * rb ≤ 10000 * rb := Int.mul_le_mul_of_nonneg_right (by omega) (by omega)
                omega
              have hmul0 : 0 ≤ wd * rb := Int.mul_nonneg (by omega) (by omega)
              have hfm := check_form HCK.out
              have hls := lead0_small hfm
              have HFM := Lib.hid hfm
              obtain ⟨z0, z1, z2, z3, _, _, _, _⟩ := HX.out.below HB3.out hs'
              have hfl3 := flat_any d.wt d A cc w3 (Nat.le_refl _) (by omega) (kidsAt_on HK.out HB3.out)
              unfold FlatSaid at hfl3
              cases hfl : d.flat with
              | none =>
                rw [hfl] at hfl3
                simp only [flatV] at hfl3
                have HFL := Lib.hid hfl3
                clear hfl3 hfm
                go_wp2_with fail
                refine HFL.out.mono ?_
                rintro e w4 ⟨rfl, hb4⟩
                have HB4 := Lib.hid (HB3.out.trans (hb4.mono HB3.out.size))
                obtain ⟨v0, v1, v2, v3, _, _, _, _⟩ := HX.out.below HB4.out hs'
                have HC5 := Lib.hid (plead_any d A cc w4 HFM.out (by omega) (kidsAt_on HK.out HB4.out))
                clear hb4 z0 z1 z2 z3
                go_wp2_with fail
                refine HC5.out.mono ?_
                rintro e w5 ⟨rfl, hb5⟩
                have HB5 := Lib.hid (HB4.out.trans (hb5.mono HB4.out.size))
                clear hb5 v0 v1 v2 v3
                go_wp2_with fail
                refine (columns_any ⟨#[]⟩ (by decide) w5).mono ?_
                rintro e w6 ⟨rfl, hb6⟩
                have HB6 := Lib.hid (HB5.out.trans (hb6.mono HB5.out.size))
                clear hb6
                go_wp2
                go_ret
                exact ⟨rfl, HB.out.trans (HB6.out.mono (Nat.le_of_lt hs'))⟩
              | some s =>
                have hfs := flat_size hfl
                have HFLD := Lib.hid hfl
                have HPL := Lib.hid (plain_flat (check_may HCK.out) hfl)
                rw [hfl] at hfl3
                simp only [flatV] at hfl3
                have HFL := Lib.hid hfl3
                have hcn := cols_nn s
                have hcl := cols_le s
                clear hfl3 hfm hfl
                go_wp2_with fail
                refine HFL.out.mono ?_
                rintro e w4 ⟨rfl, hb4⟩
                have HB4 := Lib.hid (HB3.out.trans (hb4.mono HB3.out.size))
                obtain ⟨v0, v1, v2, v3, _, _, _, _⟩ := HX.out.below HB4.out hs'
                have HC5 := Lib.hid (plead_any d A cc w4 HFM.out (by omega) (kidsAt_on HK.out HB4.out))
                clear hb4 z0 z1 z2 z3
                go_wp2_with fail
                refine HC5.out.mono ?_
                rintro e w5 ⟨rfl, hb5⟩
                have HB5 := Lib.hid (HB4.out.trans (hb5.mono HB4.out.size))
                clear hb5 v0 v1 v2 v3
                have HLAW := Lib.hid (fun h1 h2 => flats_law (wd := wd) (rb := rb) HCK.out HBA.out HFLD.out h1 h2)
                go_wp2_with fail
                obtain ⟨L, hL⟩ : ∃ L : Nat, max 0 d.lead0 = (L : Int) := ⟨(max 0 d.lead0).toNat, by omega⟩
                rw [hL] at HLAW ⊢
                have hLs : (L : Int) ≤ 1000 * (d.wt : Int) := by omega
                rw [Int.toNat_natCast] at HLAW
                clear hL hls
                refine (columns_any s (by omega) w5).mono ?_
                rintro e w6 ⟨rfl, hb6⟩
                have HB6 := Lib.hid (HB5.out.trans (hb6.mono HB5.out.size))
                have HBF := Lib.hid (HB.out.trans (HB6.out.mono (Nat.le_of_lt hs')))
                clear hb6
                by_cases f1 : wd < (L : Int) + cols s
                · have g2 : decide (wd < (L : Int) + cols s) = true := decide_eq_true f1
                  clear f1
                  go_wp2
                  go_ret
                  exact ⟨rfl, HBF.out⟩
                · have g2 : decide (wd < (L : Int) + cols s) = false := decide_eq_false f1
                  by_cases f2 : wd * rb / 1000 < cols s
                  · have g3 : decide (wd * rb / 1000 < cols s) = true := decide_eq_true f2
                    clear f1 f2
                    go_wp2
                    go_ret
                    exact ⟨rfl, HBF.out⟩
                  · have g3 : decide (wd * rb / 1000 < cols s) = false := decide_eq_false f2
                    obtain ⟨v0, v1, v2, v3, _, _, _, _⟩ := HX.out.below HB6.out hs'
                    have HC7 := Lib.hid (render_any d A cc wd rb 0 w6 (by omega) (Utf8Tabs_below HT.out HB6.out) HNIL.out hcap (kidsAt_on HK.out HB6.out))
                    have hlaw := HLAW.out (by omega) (by omega)
                    have hsz := render_size d wd rb 0
                    clear f1 f2
                    go_wp2_with fail
                    refine HC7.out.mono ?_
                    rintro e w7 ⟨rfl, hb7⟩
                    have HB7 := Lib.hid (HB6.out.trans (hb7.mono HB6.out.size))
                    have HBG := Lib.hid (HB.out.trans (HB7.out.mono (Nat.le_of_lt hs')))
                    clear hb7 v0 v1 v2 v3 HC7
                    generalize (renderV d wd rb 0).1 = t at hlaw hsz ⊢
                    generalize (renderV d wd rb 0).2 = er at hlaw ⊢
                    rcases hlaw with ⟨rfl, hbig⟩ | ⟨rfl, ⟨h0, rfl⟩ | ⟨h0, ht⟩⟩
                    · have g4 : decide ((16777216 : Int) < (L : Int) + (s.size : Int)) = true := decide_eq_true (by omega)
                      clear hbig
                      go_wp2
                      go_ret
                      exact ⟨rfl, HBG.out⟩
                    · have g4 : s.toList.isEmpty = true := by rw [isEmpty_size, h0]; rfl
                      have g5 : noB.toList.isEmpty = true := by rw [isEmpty_size]; rfl
                      clear h0
                      go_wp2
                      go_ret
                      exact ⟨rfl, HBG.out⟩
                    · have g4 : s.toList.isEmpty = false := by rw [isEmpty_size]; simpa using h0
                      have ht1 : t.size = L + s.size := by
                        rw [ht, size_app]
                        congr 1
                        show (List.replicate L (32 : UInt8)).toArray.size = L
                        rw [List.size_toArray, List.length_replicate]
                      have ht2 : t.extract L t.size = s := by rw [ht]; exact blanks_extract L s
                      have ht3 : widest t = (L : Int) + cols s := by
                        rw [widest_plain (by rw [ht]; exact plainF_app (plain_blanks L) HPL.out), ht, cols_app (plainF_good (plain_blanks L)), cols_blanks]
                      have HW3 := Lib.hid ht3
                      have g5 : ((t.size : Int) == (L : Int) + (s.size : Int)) = true := by rw [ht1]; simp
                      have g6 : (t.size == L + s.size) = true := by rw [ht1]; simp
                      have hle1 : L ≤ t.size := by omega
                      clear ht ht1 ht3 h0
                      go_wp2_with fail
                      refine (rwidest_any t hsz w7).mono ?_
                      rintro e w8 ⟨rfl, hb8⟩
                      rw [HW3.out]
                      go_wp2
                      go_ret
                      exact ⟨rfl, HBG.out.trans (hb8.mono (by have := HB7.out.size; omega))⟩
end Go.Proofs.YtnpaplfdmpjfgaaDoor
