/- The law DocKeeps, walked. -/
import Derived.Test.YtnpaplfdmpjfgaaDoorDTidyL
import Derived.Test.YtnpaplfdmpjfgaaDoorDLaw5
namespace Go.Proofs.YtnpaplfdmpjfgaaDoor
open Go.RowKit

/-- No byte below 32. -/
def LowB (s : ByteArray) : Prop := ∀ b ∈ s.data.toList, 32 ≤ b.toNat
theorem low_app {a b : ByteArray} (ha : LowB a) (hb : LowB b) : LowB (a ++ b) := by
  intro x hx
  rw [data_app] at hx
  rcases List.mem_append.1 hx with h | h
  · exact ha x h
  · exact hb x h
theorem byteN_get (s : ByteArray) (j : Nat) (h : j < s.size) : byteN s j = (s.data[j]'h).toNat := by rw [← get_byte s j h]; rfl
theorem low_of {s : ByteArray} (h : lowless s = true) : LowB s := by
  intro b hb
  obtain ⟨j, hj, rfl⟩ := List.mem_iff_getElem.1 hb
  have hj' : j < s.size := by simpa using hj
  have := of_decide_eq_true h j hj'
  rw [byteN_get s j hj'] at this
  simpa using this
theorem low_byte {s : ByteArray} (h : LowB s) {j : Nat} (hj : j < s.size) : 32 ≤ byteN s j := by
  rw [byteN_get s j hj]
  exact h _ (by simp)
theorem flats_low (k : Int) (ds : List Doc) : ∀ f acc s, LowB acc → (∀ d ∈ ds, ∀ t, d.flat = some t → LowB t) → flats k f acc ds = some s → LowB s := by
  induction ds with
  | nil => intro f acc s ha _ h; simp [flats] at h; subst h; exact ha
  | cons d r ih =>
    intro f acc s ha hd h
    have hr := fun x hx => hd x (List.mem_cons_of_mem d hx)
    simp only [flats] at h
    split at h
    · exact ih _ _ _ ha hr h
    · split at h
      · cases h
      · rename_i t ht
        have hlt := hd d List.mem_cons_self t ht
        split at h
        · cases h
        · refine ih _ _ _ ?_ hr h
          split
          · exact low_app (low_app ha (by intro b hb; simp at hb; subst hb; decide)) hlt
          · exact low_app ha hlt
theorem flat_low_aux (m : Nat) : ∀ d : Doc, d.wt ≤ m → d.may = true → ∀ s, d.flat = some s → LowB s := by
  induction m with
  | zero => intro d h; have := wt_pos d; omega
  | succ m ih =>
    intro d hm h s hs
    rw [may_eq, here_form, Bool.and_eq_true, Bool.and_eq_true, List.all_eq_true] at h
    by_cases h1 : d.kind = 1
    · rw [flat_str h1] at hs
      cases hs
      have hp := h.1.2
      unfold plainF at hp
      rw [Bool.and_eq_true] at hp
      exact low_of hp.2
    · rw [flat_kids h1] at hs
      exact flats_low _ _ _ _ _ (by intro b hb; simp at hb) (fun k hk => ih k (by have := kid_lt hk; omega) (h.2 k hk)) hs
theorem flat_low {d : Doc} (h : d.may = true) {s : ByteArray} {b : Bool} (hs : flatV d.flat = .tuple #[.string s, .bool b]) : LowB s := by
  cases hf : d.flat with
  | none =>
    rw [hf] at hs
    simp only [flatV, Value.tuple.injEq] at hs
    have : s = ⟨#[]⟩ := by
      have := congrArg (·[0]?) hs
      simpa using this.symm
    subst this
    intro b hb
    simp at hb
  | some t =>
    rw [hf] at hs
    simp only [flatV, Value.tuple.injEq] at hs
    have : s = t := by
      have := congrArg (·[0]?) hs
      simpa using this.symm
    subst this
    exact flat_low_aux d.wt d (Nat.le_refl _) h s hf
theorem check_may {d : Doc} (h : checkN d = 0) : d.may = true := by
  unfold checkN at h
  split at h
  · exact absurd h (by decide)
  · split at h
    · rename_i h1; exact h1
    · exact absurd h (by decide)

theorem held8x {w0 wx w1 : World} {a0 a1 a2 a3 a4 a5 a6 a7 : Addr} {u0 u1 u2 u3 u4 u5 u6 u7 : Value} (h : wx.cell? a0 = some u0 ∧ wx.cell? a1 = some u1 ∧ wx.cell? a2 = some u2 ∧ wx.cell? a3 = some u3 ∧ wx.cell? a4 = some u4 ∧ wx.cell? a5 = some u5 ∧ wx.cell? a6 = some u6 ∧ wx.cell? a7 = some u7 ∧ Below w0.heap.size w0 wx) (hb : Below wx.heap.size wx w1) (l0 : a0.block < w0.heap.size) (l1 : a4.block < w0.heap.size) (e1 : a1.block = a0.block) (e2 : a2.block = a0.block) (e3 : a3.block = a0.block) (e5 : a5.block = a4.block) (e6 : a6.block = a4.block) (e7 : a7.block = a4.block) : w1.cell? a0 = some u0 ∧ w1.cell? a1 = some u1 ∧ w1.cell? a2 = some u2 ∧ w1.cell? a3 = some u3 ∧ w1.cell? a4 = some u4 ∧ w1.cell? a5 = some u5 ∧ w1.cell? a6 = some u6 ∧ w1.cell? a7 = some u7 ∧ Below w0.heap.size w0 w1 :=
  held8 h hb l0 (by omega) (by omega) (by omega) l1 (by omega) (by omega) (by omega)

theorem void_val (x : Doc) (b : Bool) (A : Option Addr) (c : Nat) (w : World) (hv : x.void = b) (hB : x.wt ≤ 16777216) (hK : KidsAt w.heap.size w x.kids A) :
    Calls Tryd.prog 21 #[.agg #[.int .i64 x.kind, .string x.text, .int .i64 x.n, .slice A x.kids.length c]] w fun e w' => e = .returned (.bool b) ∧ Below w.heap.size w w' := hv ▸ void_any x A c w hB hK
theorem lead_val (x : Doc) (n : Int) (A : Option Addr) (c : Nat) (w : World) (hv : x.lead = n) (hB : x.wt ≤ 16777216) (hK : KidsAt w.heap.size w x.kids A) :
    Calls Tryd.prog 23 #[.agg #[.int .i64 x.kind, .string x.text, .int .i64 x.n, .slice A x.kids.length c]] w fun e w' => e = .returned (.int .i64 n) ∧ Below w.heap.size w w' := hv ▸ lead_any x.wt x A c w (Nat.le_refl _) hB hK

set_option maxRecDepth 100000 in
set_option maxHeartbeats 16000000 in
theorem docKeeps_any (d : Doc) (A : Option Addr) (c : Nat) (w : World) (hB : d.wt ≤ 8388608) (hT : Lib.Utf8Tabs 1 2 w) (hnil : A = none → c = 0) (hK : KidsAt w.heap.size w d.kids A) :
    Calls Tryd.prog 6 #[.agg #[.int .i64 d.kind, .string d.text, .int .i64 d.n, .slice A d.kids.length c]] w fun e w' => e = .returned (.bool true) ∧ Below w.heap.size w w' := by
  obtain ⟨hbx, hb0, hs0⟩ := box_new w (.int .i64 d.kind) (.string d.text) (.int .i64 d.n) (.slice A d.kids.length c)
  obtain ⟨W, hW⟩ : ∃ W, w.alloc (.cells #[.int .i64 d.kind, .string d.text, .int .i64 d.n, .slice A d.kids.length c] 24) = W := ⟨_, rfl⟩
  rw [hW] at hbx hb0 hs0
  have HT := Lib.hid (Utf8Tabs_below hT hb0)
  have HK := Lib.hid (kidsAt_on hK hb0)
  have HB := Lib.hid hb0
  have HX := Lib.hid hbx
  have HNIL := Lib.hid hnil
  have hs' : w.heap.size < W.heap.size := by omega
  have hwt := tidy_wt d
  clear hT hK hb0 hs0 hnil hbx
  go_enter Tryd.func6, Tryd.ntmps6
  go_wp2_with fail
  refine (awake_any W HT.out).mono ?_
  rintro e w1 ⟨rfl, hb1⟩
  clear hW
  have H1 := Lib.hid hb1
  have HC := Lib.hid (pcheck_any d A c w1 (by omega) (Utf8Tabs_below HT.out hb1) (kidsAt_on HK.out hb1))
  obtain ⟨x0, x1, x2, x3, _, _, _, _⟩ := HX.out.below hb1 hs'
  clear hb1
  go_wp2_with fail
  refine HC.out.mono ?_
  rintro e w2 ⟨rfl, hb2⟩
  have H2 := Lib.hid (H1.out.trans (hb2.mono H1.out.size))
  clear x0 x1 x2 x3 hb2 HC
  obtain ⟨x0, x1, x2, x3, _, _, _, _⟩ := HX.out.below H2.out hs'
  cases hc0 : (checkN d == 0) with
  | false =>
    have hc1 : (checkN d != 0) = true := by simp [bne, hc0]
    go_wp2_with fail
    go_ret
    exact ⟨rfl, HB.out.trans (H2.out.mono (Nat.le_of_lt hs'))⟩
  | true =>
    have hc1 : (checkN d != 0) = false := by simp [bne, hc0]
    have hck : checkN d = 0 := by simpa using hc0
    have HMAY := Lib.hid (check_may hck)
    have hform := check_form hck
    have HFL := Lib.hid (tidy_flat hform)
    have HVO := Lib.hid (tidy_void_eq hform)
    have HLE := Lib.hid (tidy_lead hform)
    have HTV := Lib.hid (show d.tidyV = d.tidy by simp [Doc.tidyV, hc0])
    have HC3 := Lib.hid (ptidy_any d A c w2 (by omega) (Utf8Tabs_below HT.out H2.out) HNIL.out (kidsAt_on HK.out H2.out))
    obtain ⟨s, b, hfv⟩ : ∃ s b, flatV d.flat = .tuple #[.string s, .bool b] := by cases d.flat <;> exact ⟨_, _, rfl⟩
    have HFV := Lib.hid hfv
    have HLOW := Lib.hid (flat_low HMAY.out hfv)
    have hss : s.size ≤ 16777216 := by
      cases hf : d.flat with
      | none =>
        rw [hf] at hfv
        simp only [flatV, Value.tuple.injEq] at hfv
        have : s = ⟨#[]⟩ := by have := congrArg (·[0]?) hfv; simpa using this.symm
        rw [this]; decide
      | some t =>
        rw [hf] at hfv
        simp only [flatV, Value.tuple.injEq] at hfv
        have : s = t := by have := congrArg (·[0]?) hfv; simpa using this.symm
        have h2 := flat_size hf
        rw [this]; omega
    clear hfv hform hck
    go_wp2_with fail
    refine HC3.out.mono ?_
    rintro e w3 ⟨A3, c3, rfl, hin, hb3⟩
    rw [HTV.out] at hin
    rw [HTV.out]
    clear x0 x1 x2 x3 HC3
    obtain ⟨t, ht⟩ : ∃ t, d.tidy = t := ⟨_, rfl⟩
    have HTT := Lib.hid ht
    rw [ht] at hin hwt
    rw [ht]
    obtain ⟨hbk, hbk1, hbk2⟩ := box_new w3 (.int .i64 t.kind) (.string t.text) (.int .i64 t.n) (.slice A3 t.kids.length c3)
    obtain ⟨W4, hW4⟩ : ∃ W4, w3.alloc (.cells #[.int .i64 t.kind, .string t.text, .int .i64 t.n, .slice A3 t.kids.length c3] 24) = W4 := ⟨_, rfl⟩
    rw [hW4] at hbk hbk1 hbk2
    have H4 := Lib.hid ((H2.out.trans (hb3.mono H2.out.size)).trans (hbk1.mono (Nat.le_trans H2.out.size hb3.size)))
    have HKT := Lib.hid (kidsAt_on (kin_now hin) hbk1)
    have HBK := Lib.hid hbk
    have HBK2 := Lib.hid (show w3.heap.size < W4.heap.size by omega)
    have hs4 := H4.out.size
    obtain ⟨x0, x1, x2, x3, _, _, _, _⟩ := HX.out.below H4.out hs'
    have hf1 := flat_any d.wt d A c W4 (Nat.le_refl _) (by omega) (kidsAt_on HK.out H4.out)
    unfold FlatSaid at hf1
    rw [HFV.out] at hf1
    have HF1 := Lib.hid hf1
    clear hin hb3 hbk hbk1 hbk2 ht H2 hf1
    go_wp2_with fail
    refine HF1.out.mono ?_
    rintro e w5 ⟨rfl, hb5⟩
    clear x0 x1 x2 x3 HF1 hW4
    have hf2 := flat_any t.wt t A3 c3 w5 (Nat.le_refl _) (by omega) (kidsAt_on HKT.out hb5)
    unfold FlatSaid at hf2
    rw [← HTT.out, HFL.out, HFV.out] at hf2
    rw [HTT.out] at hf2
    have HF2 := Lib.hid hf2
    have H5 := Lib.hid hb5
    obtain ⟨z0, z1, z2, z3, _, _, _, _⟩ := HBK.out.below hb5 HBK2.out
    clear hf2 hb5
    go_wp2_with fail
    refine HF2.out.mono ?_
    rintro e w6 ⟨rfl, hb6⟩
    clear z0 z1 z2 z3 HF2
    have H6 := Lib.hid (H5.out.trans (hb6.mono H5.out.size))
    clear hb6
    go_wp2_with fail
    go_loopw [9] (fun i wr => ∃ k : Nat, k ≤ s.size ∧ i = .int .i64 k ∧ wr = w6) (fun i wr => s.size - (intOf i).toNat)
    case atStart => exact ⟨0, by omega, rfl, rfl⟩
    case round =>
      obtain ⟨k, hk, rfl, rfl⟩ := hrel
      by_cases hlt : k < s.size
      · have hbyte := low_byte HLOW.out hlt
        have hget := get_byte s k hlt
        have hge : ¬ ((byteN s k : Nat) : Int) < 32 := by omega
        go_wp2
        go_roundw
        case rel => exact ⟨k + 1, by omega, by go_num, by first | rfl | trivial⟩
        case measure => simp [intOf]; omega
      · obtain rfl : k = s.size := by omega
        have h46 := H6.out.size
        have hx6 := HX.out.below (H4.out.trans (H6.out.mono hs4)) hs'
        have hb6 := HBK.out.below H6.out HBK2.out
        have HKD := Lib.hid (kidsAt_on (kidsAt_on HK.out H4.out) H6.out)
        have HKT6 := Lib.hid (kidsAt_on HKT.out H6.out)
        have hw46 : w3.heap.size < wr.heap.size := by have := HBK2.out; omega
        have hww : w.heap.size < wr.heap.size := by omega
        obtain ⟨b0, hb0⟩ : ∃ b0, d.void = b0 := ⟨_, rfl⟩
        obtain ⟨n0, hn0⟩ : ∃ n0, d.lead = n0 := ⟨_, rfl⟩
        have HD0 := Lib.hid hb0
        have HL0 := Lib.hid hn0
        have HEQ1 := Lib.hid (show t.void = b0 by rw [← HTT.out, HVO.out, hb0])
        have HEQ2 := Lib.hid (show t.lead = n0 by rw [← HTT.out, HLE.out, hn0])
        have hwd : d.wt ≤ 16777216 := by omega
        have hwtt : t.wt ≤ 16777216 := by omega
        clear hb0 hn0
        obtain ⟨x0, x1, x2, x3, _, _, _, _⟩ := hx6
        obtain ⟨z0, z1, z2, z3, _, _, _, _⟩ := hb6
        go_upto_region 12 with (fail)
        go_region_held3 (fun w' : World => w'.cell? ⟨w.heap.size, 0, none⟩ = some (.int .i64 d.kind) ∧ w'.cell? ⟨w.heap.size, 1, none⟩ = some (.string d.text) ∧ w'.cell? ⟨w.heap.size, 2, none⟩ = some (.int .i64 d.n) ∧ w'.cell? ⟨w.heap.size, 3, none⟩ = some (.slice A d.kids.length c) ∧ w'.cell? ⟨w3.heap.size, 0, none⟩ = some (.int .i64 t.kind) ∧ w'.cell? ⟨w3.heap.size, 1, none⟩ = some (.string t.text) ∧ w'.cell? ⟨w3.heap.size, 2, none⟩ = some (.int .i64 t.n) ∧ w'.cell? ⟨w3.heap.size, 3, none⟩ = some (.slice A3 t.kids.length c3) ∧ Below wr.heap.size wr w')
          (first | (exact ⟨x0, x1, x2, x3, z0, z1, z2, z3, (Below.refl _ _).drew⟩) | (exact held8x (by assumption) hbf hww hw46 rfl rfl rfl rfl rfl rfl) | assumption)
          (first | (go_at_call 21; refine (void_val _ b0 _ _ _ (by first | exact HD0.out | exact HEQ1.out) (by first | exact hwd | exact hwtt) (by first | exact kidsAt_on HKD.out (keep8 (by assumption)) | exact kidsAt_on HKT6.out (keep8 (by assumption)))).mono ?_; rintro e w9 ⟨rfl, hbf⟩) | (go_at_call 23; refine (lead_val _ n0 _ _ _ (by first | exact HL0.out | exact HEQ2.out) (by first | exact hwd | exact hwtt) (by first | exact kidsAt_on HKD.out (keep8 (by assumption)) | exact kidsAt_on HKT6.out (keep8 (by assumption)))).mono ?_; rintro e w9 ⟨rfl, hbf⟩))
        all_goals (rename_i hH; have hq := keep8 hH; go_wp2_with fail; go_ret; exact ⟨rfl, HB.out.trans ((H4.out.trans ((H6.out.trans (hq.mono h46)).mono hs4)).mono (Nat.le_of_lt hs'))⟩)
end Go.Proofs.YtnpaplfdmpjfgaaDoor
