/- Check and Tidy of the program, Check of the reference. -/
import Derived.Test.YtnpaplfdmpjfgaaDoorDNestP
import Derived.Test.YtnpaplfdmpjfgaaDoorDFormed
namespace Go.Proofs.YtnpaplfdmpjfgaaDoor
open Go.RowKit

theorem toList_loop (bs : ByteArray) (n : Nat) : ∀ i r, bs.size - i = n → (ByteArray.toList.loop bs i r).length = n + r.length := by
  induction n with
  | zero =>
    intro i r h
    unfold ByteArray.toList.loop
    rw [if_neg (by omega)]
    simp
  | succ n ih =>
    intro i r h
    unfold ByteArray.toList.loop
    rw [if_pos (by omega), ih (i + 1) _ (by omega)]
    simp only [List.length_cons]
    omega
theorem toList_size (t : ByteArray) : t.toList.length = t.size := by
  have := toList_loop t t.size 0 [] (by omega)
  simpa [ByteArray.toList] using this
theorem isEmpty_size (t : ByteArray) : t.toList.isEmpty = (t.size == 0) := by
  rw [← toList_size]
  cases t.toList <;> rfl
theorem here_form (k : Int) (t : ByteArray) (n : Int) (L : Nat) : hereF k t n L = (formF k t n L && plainF t) := by
  rw [Bool.eq_iff_iff, Bool.and_eq_true, formF_iff]
  unfold hereF
  rw [isEmpty_size]
  simp only [Bool.and_eq_true, Bool.or_eq_true, decide_eq_true_eq, beq_iff_eq]
  constructor
  · rintro ⟨⟨⟨⟨⟨⟨⟨⟨a, b⟩, c⟩, p⟩, d⟩, e⟩, f⟩, g⟩, h⟩
    exact ⟨⟨a, b, c, d, e, f, g, h⟩, p⟩
  · rintro ⟨⟨a, b, c, d, e, f, g, h⟩, p⟩
    exact ⟨⟨⟨⟨⟨⟨⟨⟨a, b⟩, c⟩, p⟩, d⟩, e⟩, f⟩, g⟩, h⟩
theorem may_form_aux (m : Nat) : ∀ d : Doc, d.wt ≤ m → d.may = true → d.form = true := by
  induction m with
  | zero => intro d h; have := wt_pos d; omega
  | succ m ih =>
    intro d hm h
    rw [may_eq, here_form, Bool.and_eq_true, Bool.and_eq_true, List.all_eq_true] at h
    rw [form_eq, Bool.and_eq_true, forms_iff]
    exact ⟨h.1.1, fun k hk => ih k (by have := kid_lt hk; omega) (h.2 k hk)⟩
theorem may_form {d : Doc} (h : d.may = true) : d.form = true := may_form_aux d.wt d (Nat.le_refl _) h

theorem tidy_says (m : Nat) : ∀ d : Doc, d.wt ≤ m → d.wt ≤ 16777216 → d.form = true → TidySays 52 d := by
  induction m with
  | zero => intro d h; have := wt_pos d; omega
  | succ m ih =>
    intro d hm hw hf
    have ih' : ∀ k ∈ d.kids, TidySays 52 k := fun k hk => ih k (by have := kid_lt hk; omega) (by have := kid_lt hk; omega) ((form_at.1 hf).kids k hk)
    cases hv : d.void with
    | true => exact tidy_void_w d hw hv
    | false => exact tidy_there d hw hf hv ih' fun A c w _ hK k2 => tidy_nest d hw hf hv ih' A c w hK k2

/-- What Check tells. -/
def checkN (d : Doc) : Int := if 65536 < d.num then 3 else if d.may then 0 else 1
theorem check_long {d : Doc} (h : 65536 < d.num) : checkN d = 3 := if_pos h
theorem check_ok {d : Doc} (h : ¬ 65536 < d.num) (h1 : d.may = true) : checkN d = 0 := by simp [checkN, h, h1]
theorem check_arg {d : Doc} (h : ¬ 65536 < d.num) (h1 : d.may = false) : checkN d = 1 := by simp [checkN, h, h1]
theorem check_form {d : Doc} (h : checkN d = 0) : d.form = true := by
  unfold checkN at h
  split at h
  · exact absurd h (by decide)
  · split at h
    · rename_i h1; exact may_form h1
    · exact absurd h (by decide)

set_option maxHeartbeats 2000000 in
theorem pcheck_any (d : Doc) (A : Option Addr) (c : Nat) (w : World) (hB : d.wt ≤ 16777216) (hT : Lib.Utf8Tabs 1 2 w) (hK : KidsAt w.heap.size w d.kids A) :
    Calls Tryd.prog 17 #[.agg #[.int .i64 d.kind, .string d.text, .int .i64 d.n, .slice A d.kids.length c]] w fun e w' => e = .returned (.int .i64 (checkN d)) ∧ Below w.heap.size w w' := by
  obtain ⟨hbx, hb0, hs0⟩ := box_new w (.int .i64 d.kind) (.string d.text) (.int .i64 d.n) (.slice A d.kids.length c)
  obtain ⟨W, hW⟩ : ∃ W, w.alloc (.cells #[.int .i64 d.kind, .string d.text, .int .i64 d.n, .slice A d.kids.length c] 24) = W := ⟨_, rfl⟩
  rw [hW] at hbx hb0 hs0
  have hKW := kidsAt_on hK hb0
  have HC := Lib.hid (count_any d.wt d A c W (Nat.le_refl _) hB hKW)
  have HM := Lib.hid fun W1 (hb : Below W.heap.size W W1) => may_any d.wt d (Nat.le_refl _) hB A c W1 (Utf8Tabs_below (Utf8Tabs_below hT hb0) hb) (kidsAt_on hKW hb)
  have HX := Lib.hid hbx
  have HB := Lib.hid hb0
  have hs' : w.heap.size < W.heap.size := by omega
  obtain ⟨x0, x1, x2, x3, _, _, _, _⟩ := hbx
  clear hT hK hKW hb0 hs0
  by_cases hn : 65536 < d.num
  · have HR := Lib.hid (check_long hn)
    go_enter Tryd.func17, Tryd.ntmps17
    go_wp2_with fail
    refine HC.out.mono ?_
    rintro e w1 ⟨r, rfl, h1, ⟨h2, h3⟩, hb⟩
    have hr := h3 (by omega)
    have HB2 := Lib.hid (HB.out.trans (hb.mono (by omega)))
    clear h2 h3 h1 hb hW
    go_wp2
    go_ret
    exact ⟨ret_int HR.out.symm, HB2.out⟩
  · cases hm : d.may with
    | true =>
      have HR := Lib.hid (check_ok hn hm)
      have HMM := Lib.hid hm
      clear hm
      go_enter Tryd.func17, Tryd.ntmps17
      go_wp2_with fail
      refine HC.out.mono ?_
      rintro e w1 ⟨r, rfl, h1, ⟨h2, h3⟩, hb⟩
      have hr : ¬ 65536 < r := by have := h2 (by omega); omega
      have HMC := Lib.hid (HM.out w1 hb)
      have HB2 := Lib.hid (HB.out.trans (hb.mono (by omega)))
      obtain ⟨y0, y1, y2, y3, _, _, _, _⟩ := HX.out.below hb hs'
      have hsz := hb.size
      clear h2 h3 h1 hb hW x0 x1 x2 x3
      go_wp2_with fail
      refine HMC.out.mono ?_
      rintro e w2 ⟨rfl, hb2⟩
      rw [HMM.out]
      go_wp2
      go_ret
      exact ⟨ret_int HR.out.symm, HB2.out.trans (hb2.mono (by omega))⟩
    | false =>
      have HR := Lib.hid (check_arg hn hm)
      have HMM := Lib.hid hm
      clear hm
      go_enter Tryd.func17, Tryd.ntmps17
      go_wp2_with fail
      refine HC.out.mono ?_
      rintro e w1 ⟨r, rfl, h1, ⟨h2, h3⟩, hb⟩
      have hr : ¬ 65536 < r := by have := h2 (by omega); omega
      have HMC := Lib.hid (HM.out w1 hb)
      have HB2 := Lib.hid (HB.out.trans (hb.mono (by omega)))
      obtain ⟨y0, y1, y2, y3, _, _, _, _⟩ := HX.out.below hb hs'
      have hsz := hb.size
      clear h2 h3 h1 hb hW x0 x1 x2 x3
      go_wp2_with fail
      refine HMC.out.mono ?_
      rintro e w2 ⟨rfl, hb2⟩
      rw [HMM.out]
      go_wp2
      go_ret
      exact ⟨ret_int HR.out.symm, HB2.out.trans (hb2.mono (by omega))⟩

set_option maxHeartbeats 2000000 in
theorem rcheck_d (d : Doc) (A : Option Addr) (c : Nat) (w : World) (hB : d.wt ≤ 16777216) (hT : Lib.Utf8Tabs 1 2 w) (hK : KidsAt w.heap.size w d.kids A) :
    Calls Tryd.prog 18 #[.agg #[.int .i64 d.kind, .string d.text, .int .i64 d.n, .slice A d.kids.length c]] w fun e w' => e = .returned (.int .i64 (checkN d)) ∧ Below w.heap.size w w' := by
  obtain ⟨hbx, hb0, hs0⟩ := box_new w (.int .i64 d.kind) (.string d.text) (.int .i64 d.n) (.slice A d.kids.length c)
  obtain ⟨W, hW⟩ : ∃ W, w.alloc (.cells #[.int .i64 d.kind, .string d.text, .int .i64 d.n, .slice A d.kids.length c] 24) = W := ⟨_, rfl⟩
  rw [hW] at hbx hb0 hs0
  have hKW := kidsAt_on hK hb0
  have HC := Lib.hid (size_any d.wt d 0 A c W (Nat.le_refl _) hB (by omega) hKW)
  have HM := Lib.hid fun W1 (hb : Below W.heap.size W W1) => for_any d.wt d (Nat.le_refl _) hB A c W1 (Utf8Tabs_below (Utf8Tabs_below hT hb0) hb) (kidsAt_on hKW hb)
  have HX := Lib.hid hbx
  have HB := Lib.hid hb0
  have hs' : w.heap.size < W.heap.size := by omega
  obtain ⟨x0, x1, x2, x3, _, _, _, _⟩ := hbx
  clear hT hK hKW hb0 hs0
  by_cases hn : 65536 < d.num
  · have HR := Lib.hid (check_long hn)
    go_enter Tryd.func18, Tryd.ntmps18
    go_wp2_with fail
    refine HC.out.mono ?_
    rintro e w1 ⟨r, rfl, h1, ⟨h2, h3⟩, hb⟩
    have hr := h3 (by omega)
    have HB2 := Lib.hid (HB.out.trans (hb.mono (by omega)))
    clear h2 h3 h1 hb hW
    go_wp2
    go_ret
    exact ⟨ret_int HR.out.symm, HB2.out⟩
  · cases hm : d.may with
    | true =>
      have HR := Lib.hid (check_ok hn hm)
      have HMM := Lib.hid hm
      clear hm
      go_enter Tryd.func18, Tryd.ntmps18
      go_wp2_with fail
      refine HC.out.mono ?_
      rintro e w1 ⟨r, rfl, h1, ⟨h2, h3⟩, hb⟩
      have hr : ¬ 65536 < r := by have := h2 (by omega); omega
      have HMC := Lib.hid (HM.out w1 hb)
      have HB2 := Lib.hid (HB.out.trans (hb.mono (by omega)))
      obtain ⟨y0, y1, y2, y3, _, _, _, _⟩ := HX.out.below hb hs'
      have hsz := hb.size
      clear h2 h3 h1 hb hW x0 x1 x2 x3
      go_wp2_with fail
      refine HMC.out.mono ?_
      rintro e w2 ⟨rfl, hb2⟩
      rw [HMM.out]
      go_wp2
      go_ret
      exact ⟨ret_int HR.out.symm, HB2.out.trans (hb2.mono (by omega))⟩
    | false =>
      have HR := Lib.hid (check_arg hn hm)
      have HMM := Lib.hid hm
      clear hm
      go_enter Tryd.func18, Tryd.ntmps18
      go_wp2_with fail
      refine HC.out.mono ?_
      rintro e w1 ⟨r, rfl, h1, ⟨h2, h3⟩, hb⟩
      have hr : ¬ 65536 < r := by have := h2 (by omega); omega
      have HMC := Lib.hid (HM.out w1 hb)
      have HB2 := Lib.hid (HB.out.trans (hb.mono (by omega)))
      obtain ⟨y0, y1, y2, y3, _, _, _, _⟩ := HX.out.below hb hs'
      have hsz := hb.size
      clear h2 h3 h1 hb hW x0 x1 x2 x3
      go_wp2_with fail
      refine HMC.out.mono ?_
      rintro e w2 ⟨rfl, hb2⟩
      rw [HMM.out]
      go_wp2
      go_ret
      exact ⟨ret_int HR.out.symm, HB2.out.trans (hb2.mono (by omega))⟩

end Go.Proofs.YtnpaplfdmpjfgaaDoor
