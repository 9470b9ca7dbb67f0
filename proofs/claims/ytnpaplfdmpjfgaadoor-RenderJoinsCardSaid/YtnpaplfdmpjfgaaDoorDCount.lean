/- How many documents there are: the program's count, the reference's size. -/
import Derived.Test.YtnpaplfdmpjfgaaDoorDVoid
namespace Go.Proofs.YtnpaplfdmpjfgaaDoor
open Go.RowKit

mutual
/-- How many documents there are. -/
def Doc.num : Doc → Nat
  | ⟨_, _, _, kids⟩ => 1 + nums kids
def nums : List Doc → Nat
  | [] => 0
  | d :: r => d.num + nums r
end
theorem num_eq (d : Doc) : d.num = 1 + nums d.kids := by cases d; rfl
theorem num_le (m : Nat) : ∀ d : Doc, d.wt ≤ m → d.num ≤ d.wt := by
  induction m with
  | zero => intro d h; have := wt_pos d; omega
  | succ m ih =>
    intro d h
    have hs : ∀ ds : List Doc, wts ds ≤ m → nums ds ≤ wts ds := by
      intro ds
      induction ds with
      | nil => intro _; simp [nums]
      | cons a r ihr =>
        intro h
        simp only [wts, nums] at h ⊢
        have := ih a (by omega)
        have := ihr (by omega)
        omega
    rw [wt_eq] at h ⊢
    rw [num_eq]
    have := hs d.kids (by omega)
    omega
theorem nums_take {ds : List Doc} {k : Nat} (h : k < ds.length) : nums (ds.take (k + 1)) = nums (ds.take k) + ds[k].num := by
  have hp : ∀ a b : List Doc, nums (a ++ b) = nums a + nums b := by
    intro a b
    induction a with
    | nil => simp [nums]
    | cons x r ih => simp only [List.cons_append, nums, ih]; omega
  rw [List.take_succ_eq_append_getElem h, hp]
  simp [nums]
theorem nums_take_le (ds : List Doc) (k : Nat) : nums (ds.take k) ≤ nums ds := by
  induction ds generalizing k with
  | nil => simp
  | cons a r ih =>
    cases k with
    | zero => simp [nums]
    | succ k => simp only [List.take_succ_cons, nums]; have := ih k; omega

/-- What a count hands back, from n on. -/
def CountSaid (n : Nat) (d : Doc) (w : World) (e : Ending) (w' : World) : Prop := ∃ r : Nat, e = .returned (.int .i64 r) ∧ r ≤ n + d.num ∧ ((n + d.num ≤ 65536 → r = n + d.num) ∧ (65536 < n + d.num → 65536 < r)) ∧ Below w.heap.size w w'

set_option maxRecDepth 100000 in
set_option maxHeartbeats 2000000 in
theorem count_any (m : Nat) : ∀ (d : Doc) (A : Option Addr) (c : Nat) (w : World), d.wt ≤ m → d.wt ≤ 16777216 → KidsAt w.heap.size w d.kids A →
    Calls Tryd.prog 44 #[.agg #[.int .i64 d.kind, .string d.text, .int .i64 d.n, .slice A d.kids.length c]] w (CountSaid 0 d w) := by
  induction m with
  | zero => intro d A c w h; have := wt_pos d; omega
  | succ m ih =>
    intro d A c w hm hB hK
    obtain ⟨hbx, hb0, hs0⟩ := box_new w (.int .i64 d.kind) (.string d.text) (.int .i64 d.n) (.slice A d.kids.length c)
    have hkl := kids_lt d
    have hnum := num_le _ d (Nat.le_refl _)
    have hne := num_eq d
    have HK := Lib.hid (kidsAt_on hK hb0)
    have HB := Lib.hid hb0
    have HS := Lib.hid hs0
    have HIH := Lib.hid ih
    clear hK hbx hb0 hs0 ih
    go_enter Tryd.func44, Tryd.ntmps44
    go_upto_region 3 with (fail)
    obtain ⟨W, hW⟩ : ∃ W, w.alloc (.cells #[.int .i64 d.kind, .string d.text, .int .i64 d.n, .slice A d.kids.length c] 24) = W := ⟨_, rfl⟩
    have hk := HK.out
    have hb := HB.out
    have hs := HS.out
    rw [hW] at hk hb hs ⊢
    clear hW HK HB HS
    have HK := Lib.hid hk
    have HB := Lib.hid hb
    have hs' : w.heap.size < W.heap.size := by omega
    clear hk hb hs
    go_wp2_with fail
    go_loopw [3, 9] (fun n i wr => ∃ (k r : Nat), k ≤ d.kids.length ∧ i = .int .i64 k ∧ n = .int .i64 r ∧ r ≤ 1 + nums (d.kids.take k) ∧ ((1 + nums (d.kids.take k) ≤ 65536 → r = 1 + nums (d.kids.take k)) ∧ (65536 < 1 + nums (d.kids.take k) → 65536 < r)) ∧ Below W.heap.size W wr) (fun _ i wr => d.kids.length - (intOf i).toNat)
    case atStart => exact ⟨0, 1, by omega, rfl, rfl, by simp [nums], by simp [nums], Below.refl _ _⟩
    case round =>
      obtain ⟨k, r, hk, rfl, rfl, hr, hr2, hB1⟩ := hrel
      have HB1 := Lib.hid hB1
      have HR2 := Lib.hid hr2
      have hsz := hB1.size
      have hle := nums_take_le d.kids k
      have HKr := Lib.hid (kidsAt_on HK.out hB1)
      clear hB1 hr2
      by_cases hlt : k < d.kids.length
      · obtain ⟨b, o, rfl, hat⟩ := kidsAt_get HKr.out (kid_in hlt)
        obtain ⟨A', c', h1, h2, h3, h4, h5, h6, h7, h8⟩ := docAt_iff.1 hat
        have hwt := kid_lt (List.getElem_mem hlt)
        have hnt := nums_take hlt
        have hnk := num_le _ d.kids[k] (Nat.le_refl _)
        obtain ⟨hbx, hb0, hs0⟩ := box_new wr (.int .i64 d.kids[k].kind) (.string d.kids[k].text) (.int .i64 d.kids[k].n) (.slice A' d.kids[k].kids.length c')
        have hk8 := kidsAt_on h8 hb0
        have HC := Lib.hid (HIH.out d.kids[k] A' c' _ (by omega) (by omega) hk8)
        have HBX := Lib.hid hbx
        have HB2 := Lib.hid hb0
        have HS2 := Lib.hid hs0
        clear h8 hbx hb0 hs0 hk8 h6 h7 hat
        cases hgt : decide (65536 < r) with
        | true =>
          have hgt' := of_decide_eq_true hgt
          have h1' : 65536 < (r : Int) := by omega
          go_wp2
          go_ret
          exact ⟨r, rfl, by omega, by have := HR2.out; omega, HB.out.trans ((HB1.out.trans (HB2.out.mono hsz)).mono (Nat.le_of_lt hs'))⟩
        | false =>
          have hgt' := of_decide_eq_false hgt
          have h1' : ¬ 65536 < (r : Int) := by omega
          go_wp2_with fail
          obtain ⟨W2, hW2⟩ : ∃ W2, wr.alloc (.cells #[.int .i64 d.kids[k].kind, .string d.kids[k].text, .int .i64 d.kids[k].n, .slice A' d.kids[k].kids.length c'] 24) = W2 := ⟨_, rfl⟩
          have hc := HC.out
          have hb := HB2.out
          have hs := HS2.out
          rw [hW2] at hc hb hs ⊢
          clear hW2 HC HBX HB2 HS2 h1 h2 h3 h4 h5
          have hs2 : wr.heap.size < W2.heap.size := by omega
          have HWB := Lib.hid hb
          clear hs hb
          refine hc.mono ?_
          rintro e w2 ⟨r2, rfl, hr3, hr4, hb2⟩
          have hB2 := Lib.hid (HB1.out.trans ((HWB.out.trans (hb2.mono (Nat.le_of_lt hs2))).mono hsz))
          have HR4 := Lib.hid hr4
          clear hc hb2 hr4
          go_wp2
          go_roundw
          case rel => exact ⟨k + 1, r + r2, by omega, by go_num, by go_num, by omega, by have := HR2.out; have := HR4.out; omega, hB2.out⟩
          case measure => simp [intOf]; omega
      · obtain rfl : k = d.kids.length := by omega
        go_wp2
        go_ret
        rw [List.take_length] at hr
        exact ⟨r, rfl, by omega, by have := HR2.out; rw [List.take_length] at this; omega, HB.out.trans (HB1.out.mono (by omega))⟩

set_option maxRecDepth 100000 in
set_option maxHeartbeats 2000000 in
theorem size_any (m : Nat) : ∀ (d : Doc) (n : Nat) (A : Option Addr) (c : Nat) (w : World), d.wt ≤ m → d.wt ≤ 16777216 → n ≤ 65536 → KidsAt w.heap.size w d.kids A →
    Calls Tryd.prog 46 #[.int .i64 n, .agg #[.int .i64 d.kind, .string d.text, .int .i64 d.n, .slice A d.kids.length c]] w (CountSaid n d w) := by
  induction m with
  | zero => intro d n A c w h; have := wt_pos d; omega
  | succ m ih =>
    intro d n A c w hm hB hn hK
    obtain ⟨hbx, hb0, hs0⟩ := box_new w (.int .i64 d.kind) (.string d.text) (.int .i64 d.n) (.slice A d.kids.length c)
    have hkl := kids_lt d
    have hnum := num_le _ d (Nat.le_refl _)
    have hne := num_eq d
    have HK := Lib.hid (kidsAt_on hK hb0)
    have HX := Lib.hid hbx
    have HB := Lib.hid hb0
    have HS := Lib.hid hs0
    have HIH := Lib.hid ih
    clear hK hbx hb0 hs0 ih
    go_enter Tryd.func46, Tryd.ntmps46
    go_upto_region 2 with (fail)
    obtain ⟨W, hW⟩ : ∃ W, w.alloc (.cells #[.int .i64 d.kind, .string d.text, .int .i64 d.n, .slice A d.kids.length c] 24) = W := ⟨_, rfl⟩
    have hk := HK.out
    have hx := HX.out
    have hb := HB.out
    have hs := HS.out
    rw [hW] at hk hx hb hs ⊢
    clear hW HK HB HS HX
    have HK := Lib.hid hk
    have HX := Lib.hid hx
    have HB := Lib.hid hb
    have hs' : w.heap.size < W.heap.size := by omega
    clear hk hx hb hs
    go_wp2_with fail
    go_loopw [0, 5] (fun v i wr => ∃ (k r : Nat), k ≤ d.kids.length ∧ i = .int .i64 k ∧ v = .int .i64 r ∧ r ≤ n + 1 + nums (d.kids.take k) ∧ ((n + 1 + nums (d.kids.take k) ≤ 65536 → r = n + 1 + nums (d.kids.take k)) ∧ (65536 < n + 1 + nums (d.kids.take k) → 65536 < r)) ∧ Below W.heap.size W wr) (fun _ i wr => d.kids.length - (intOf i).toNat)
    case atStart => exact ⟨0, n + 1, by omega, rfl, by go_num, by simp [nums], by simp [nums], Below.refl _ _⟩
    case round =>
      obtain ⟨k, r, hk, rfl, rfl, hr, hr2, hB1⟩ := hrel
      obtain ⟨x0, x1, x2, x3, _, _, _, _⟩ := HX.out.below hB1 hs'
      have HB1 := Lib.hid hB1
      have HR2 := Lib.hid hr2
      have hsz := hB1.size
      have hle := nums_take_le d.kids k
      have HKr := Lib.hid (kidsAt_on HK.out hB1)
      clear hB1 hr2
      by_cases hlt : k < d.kids.length
      · obtain ⟨b, o, rfl, hat⟩ := kidsAt_get HKr.out (kid_in hlt)
        obtain ⟨A', c', h1, h2, h3, h4, h5, h6, h7, h8⟩ := docAt_iff.1 hat
        have HK8 := Lib.hid h8
        have hwt := kid_lt (List.getElem_mem hlt)
        have hnt := nums_take hlt
        have hnk := num_le _ d.kids[k] (Nat.le_refl _)
        clear h6 h7 h8 hat
        cases hgt : decide (65536 < r) with
        | true =>
          have hgt' := of_decide_eq_true hgt
          have h1' : ¬ (r : Int) ≤ 65536 := by omega
          go_wp2
          go_ret
          exact ⟨r, rfl, by omega, by have := HR2.out; omega, HB.out.trans (HB1.out.mono (by omega))⟩
        | false =>
          have hgt' := of_decide_eq_false hgt
          have h1' : (r : Int) ≤ 65536 := by omega
          go_wp2_with fail
          refine (HIH.out d.kids[k] r A' c' _ (by omega) (by omega) (by omega) HK8.out).mono ?_
          rintro e w2 ⟨r2, rfl, hr3, hr4, hb2⟩
          have hB2 := Lib.hid (HB1.out.trans (hb2.mono hsz))
          have HR4 := Lib.hid hr4
          clear hb2 hr4
          go_wp2
          go_roundw
          case rel => exact ⟨k + 1, r2, by omega, by go_num, rfl, by omega, by have := HR2.out; have := HR4.out; omega, hB2.out⟩
          case measure => simp [intOf]; omega
      · obtain rfl : k = d.kids.length := by omega
        go_wp2
        go_ret
        rw [List.take_length] at hr
        exact ⟨r, rfl, by omega, by have := HR2.out; rw [List.take_length] at this; omega, HB.out.trans (HB1.out.mono (by omega))⟩
end Go.Proofs.YtnpaplfdmpjfgaaDoor
