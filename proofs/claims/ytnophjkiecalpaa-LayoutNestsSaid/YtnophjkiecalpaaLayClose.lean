/- Close; two states alike; a number of tokens. -/
import Derived.Test.YtnophjkiecalpaaLayRNext
namespace Go.Proofs.Ytnophjkiecalpaa
open Go.RowKit
attribute [local go_sem ↓] Go.wp_at_zero Go.wp_at_succ

/-- What Close tells. -/
def CloseSaid (A0 : Option Addr) (m n0 : Nat) (R : LSt × Bool) (w : World) (e : Ending) (w' : World) : Prop :=
  ∃ A c, e = .returned (.tuple #[.agg #[if R.2 then .slice A0 m n0 else .slice none 0 0, .int .i64 R.1.pos, .slice A R.1.opens.length c, .int .i64 R.1.wait], .bool R.2]) ∧
    R.1.opens.length ≤ c ∧ (A = none → c = 0) ∧ Ints w'.heap.size w' A R.1.opens ∧ Below w.heap.size w w'
theorem close_no {A0 : Option Addr} {m n0 : Nat} {R : LSt × Bool} {w w' : World} (hR : R = (st0, false)) (hb : Below w.heap.size w w') :
    CloseSaid A0 m n0 R w (.returned (.tuple #[.agg #[.slice none 0 0, .int .i64 0, .slice none 0 0, .int .i64 0], .bool false])) w' := by
  subst hR
  exact ⟨none, 0, rfl, Nat.le_refl _, fun _ => rfl, Ints.nil, hb⟩
theorem close_yes {A0 A : Option Addr} {m n0 c base : Nat} {R : LSt × Bool} {w w' : World} {p wt : Int} {zs : List Int} {l : List Tok} (hR : R = (⟨l, p, zs, wt⟩, true)) (hF : Fresh base w' (.slice A zs.length c) zs) (hb : Below w.heap.size w w') :
    CloseSaid A0 m n0 R w (.returned (.tuple #[.agg #[.slice A0 m n0, .int .i64 p, .slice A zs.length c, .int .i64 wt], .bool true])) w' := by
  subst hR
  obtain ⟨A', c', e, h1, h2, h3⟩ := hF.isInts
  simp only [Value.slice.injEq, true_and] at e
  obtain ⟨rfl, rfl⟩ := e
  exact ⟨A, c, rfl, h1, h2, h3, hb⟩

set_option maxRecDepth 100000 in
set_option maxHeartbeats 4000000 in
theorem close_lay (A0 A : Option Addr) (l : List Tok) (n0 n : Nat) (p wt : Int) (zs : List Int) (w : World) (hl : l.length ≤ 999999) (hn : zs.length ≤ 1000000) (hcap : zs.length ≤ n) (ht : Toks w.heap.size w A0 l) (h : Ints w.heap.size w A zs) :
    Calls Try.prog 30 #[.agg #[.slice A0 l.length n0, .int .i64 p, .slice A zs.length n, .int .i64 wt]] w (CloseSaid A0 l.length n0 (closeS ⟨l, p, zs, wt⟩) w) := by
  have h2 := Two.new w (.slice A0 l.length n0) (.int .i64 p) (.slice A zs.length n) (.int .i64 wt)
  have HT := Lib.hid ((ht.below h2.below).mono h2.below.size)
  have HI := Lib.hid ((h.below h2.below).mono h2.below.size)
  have H2 := Lib.hid h2
  obtain ⟨R, hR⟩ : ∃ R, closeS ⟨l, p, zs, wt⟩ = R := ⟨_, rfl⟩
  rw [hR]
  have HR := Lib.hid hR
  clear h2 ht h hR
  go_enter Try.func30, Try.ntmps30
  go_wp2_with fail
  obtain ⟨W, hW⟩ : ∃ W, (w.alloc (.cells #[.slice A0 l.length n0, .int .i64 p, .slice A zs.length n, .int .i64 wt] 34)).alloc (.cells #[.slice none 0 0, .int .i64 0, .slice none 0 0, .int .i64 0] 34) = W := ⟨_, rfl⟩
  have h4 := H2.out
  have hT := HT.out
  have hI := HI.out
  rw [hW] at h4 hT hI ⊢
  clear H2 HT HI hW
  refine (may_any A0 A l n0 n p wt zs _ (by omega) hn hT hI).mono ?_
  rintro e w1 ⟨rfl, hb1⟩
  obtain ⟨x0, x1, x2, x3, _, _, _, _⟩ := h4.x.below hb1 (by rw [h4.size]; omega)
  obtain ⟨y0, y1, y2, y3, g0, g1, g2, g3⟩ := h4.y.below hb1 (by rw [h4.size]; omega)
  have HX := Lib.hid h4
  have HB := Lib.hid (h4.below.trans (hb1.mono (by rw [h4.size]; omega)))
  have HI1 := Lib.hid ((hI.below hb1).mono hb1.size)
  have HQ1 := Lib.hid hb1
  have hs1 := hb1.size
  rw [h4.size] at hs1
  clear h4 hT hI hb1
  cases hm : LSt.may ⟨l, p, zs, wt⟩ with
  | false =>
    have hres : R = (st0, false) := by rw [← HR.out]; simp [closeS, hm]
    have HRES := Lib.hid hres
    clear hres HR hm
    go_wp2
    exact bodyPost_ret (v := .tuple #[.agg #[.slice none 0 0, .int .i64 0, .slice none 0 0, .int .i64 0], .bool false]) (by simp [results, Try.results30, go_sem, y0, y1, y2, y3]) rfl
      (close_no HRES.out (put4_below HB.out (by omega) _ _ _ _))
  | true =>
    cases hw1 : (wt == 1) with
    | true =>
      have hres : R = (st0, false) := by rw [← HR.out]; simp [closeS, beq_iff_eq.1 hw1]
      have HRES := Lib.hid hres
      clear hres HR hm
      go_wp2
      exact bodyPost_ret (v := .tuple #[.agg #[.slice none 0 0, .int .i64 0, .slice none 0 0, .int .i64 0], .bool false]) (by simp [results, Try.results30, go_sem, y0, y1, y2, y3]) rfl
        (close_no HRES.out (put4_below HB.out (by omega) _ _ _ _))
    | false =>
      go_wp2_with fail
      refine (ltop_any _ _ _ A zs n _ (by omega) HI1.out).mono ?_
      rintro e w2 ⟨rfl, hb2⟩
      have hq2 := HQ1.out.trans (hb2.mono HQ1.out.size)
      have HB2 := Lib.hid (HB.out.trans (hb2.mono (by omega)))
      have HI2 := Lib.hid ((HI1.out.below hb2).mono hb2.size)
      have hs2 := hb2.size
      clear x0 x1 x2 x3 y0 y1 y2 y3 g0 g1 g2 g3
      obtain ⟨x0, x1, x2, x3, _, _, _, _⟩ := HX.out.x.below hq2 (by rw [HX.out.size]; omega)
      obtain ⟨y0, y1, y2, y3, g0, g1, g2, g3⟩ := HX.out.y.below hq2 (by rw [HX.out.size]; omega)
      have HQ2 := Lib.hid hq2
      clear hq2 hb2
      cases htp : (topOf zs == 0) with
      | true =>
        have hres : R = (st0, false) := by rw [← HR.out]; simp [closeS, beq_iff_eq.1 htp]
        have HRES := Lib.hid hres
        clear hres HR hm
        go_wp2
        exact bodyPost_ret (v := .tuple #[.agg #[.slice none 0 0, .int .i64 0, .slice none 0 0, .int .i64 0], .bool false]) (by simp [results, Try.results30, go_sem, y0, y1, y2, y3]) rfl
          (close_no HRES.out (put4_below HB2.out (by omega) _ _ _ _))
      | false =>
        have hzl : 0 < zs.length := by
          rcases Nat.eq_zero_or_pos zs.length with e | e
          · rw [List.eq_nil_of_length_eq_zero e, topOf_nil] at htp; simp at htp
          · exact e
        have hres : R = (⟨l, p, zs.dropLast, wt⟩, true) := by rw [← HR.out]; simp [closeS, hm, beq_eq_false_iff_ne.1 hw1, beq_eq_false_iff_ne.1 htp]
        have HRES := Lib.hid hres
        clear hres HR hm
        go_wp2_with fail
        refine (closed_any A0 A l.length n0 p wt zs n _ hn hzl hcap HI2.out).mono ?_
        rintro e w3 ⟨v, rfl, hfr, hb3⟩
        obtain ⟨A', c', rfl⟩ := hfr.form
        have hq3 := HQ2.out.trans (hb3.mono HQ2.out.size)
        have HB3 := Lib.hid (HB2.out.trans (hb3.mono (by omega)))
        clear x0 x1 x2 x3 y0 y1 y2 y3 g0 g1 g2 g3
        obtain ⟨y0, y1, y2, y3, g0, g1, g2, g3⟩ := HX.out.y.below hq3 (by rw [HX.out.size]; omega)
        have HF := Lib.hid hfr
        clear hfr hb3 hq3
        go_wp2
        exact bodyPost_ret (v := .tuple #[.agg #[.slice A0 l.length n0, .int .i64 p, .slice A' zs.dropLast.length c', .int .i64 wt], .bool true]) (by simp [results, Try.results30, go_sem, y0, y1, y2, y3]) rfl
          (close_yes HRES.out (put4_fresh HF.out (by omega) _ _ _ _) (put4_below HB3.out (by omega) _ _ _ _))

set_option maxRecDepth 100000 in
set_option maxHeartbeats 4000000 in
theorem rclose_lay (A0 A : Option Addr) (l : List Tok) (n0 n : Nat) (p wt : Int) (zs : List Int) (w : World) (hl : l.length ≤ 999999) (hn : zs.length ≤ 1000000) (hcap : zs.length ≤ n) (ht : Toks w.heap.size w A0 l) (h : Ints w.heap.size w A zs) :
    Calls Try.prog 31 #[.agg #[.slice A0 l.length n0, .int .i64 p, .slice A zs.length n, .int .i64 wt]] w (CloseSaid A0 l.length n0 (closeS ⟨l, p, zs, wt⟩) w) := by
  have h2 := Two.new w (.slice A0 l.length n0) (.int .i64 p) (.slice A zs.length n) (.int .i64 wt)
  have HT := Lib.hid ((ht.below h2.below).mono h2.below.size)
  have HI := Lib.hid ((h.below h2.below).mono h2.below.size)
  have H2 := Lib.hid h2
  obtain ⟨R, hR⟩ : ∃ R, closeS ⟨l, p, zs, wt⟩ = R := ⟨_, rfl⟩
  rw [hR]
  have HR := Lib.hid hR
  clear h2 ht h hR
  go_enter Try.func31, Try.ntmps31
  go_wp2_with fail
  obtain ⟨W, hW⟩ : ∃ W, (w.alloc (.cells #[.slice A0 l.length n0, .int .i64 p, .slice A zs.length n, .int .i64 wt] 34)).alloc (.cells #[.slice none 0 0, .int .i64 0, .slice none 0 0, .int .i64 0] 34) = W := ⟨_, rfl⟩
  have h4 := H2.out
  have hT := HT.out
  have hI := HI.out
  rw [hW] at h4 hT hI ⊢
  clear H2 HT HI hW
  refine (right_any A0 A l n0 n p wt zs _ (by omega) hn hT hI).mono ?_
  rintro e w1 ⟨rfl, hb1⟩
  obtain ⟨x0, x1, x2, x3, _, _, _, _⟩ := h4.x.below hb1 (by rw [h4.size]; omega)
  obtain ⟨y0, y1, y2, y3, g0, g1, g2, g3⟩ := h4.y.below hb1 (by rw [h4.size]; omega)
  have HX := Lib.hid h4
  have HB := Lib.hid (h4.below.trans (hb1.mono (by rw [h4.size]; omega)))
  have HI1 := Lib.hid ((hI.below hb1).mono hb1.size)
  have HQ1 := Lib.hid hb1
  have hs1 := hb1.size
  rw [h4.size] at hs1
  clear h4 hT hI hb1
  cases hm : LSt.may ⟨l, p, zs, wt⟩ with
  | false =>
    have hres : R = (st0, false) := by rw [← HR.out]; simp [closeS, hm]
    have HRES := Lib.hid hres
    clear hres HR hm
    go_wp2
    exact bodyPost_ret (v := .tuple #[.agg #[.slice none 0 0, .int .i64 0, .slice none 0 0, .int .i64 0], .bool false]) (by simp [results, Try.results31, go_sem, y0, y1, y2, y3]) rfl
      (close_no HRES.out (put4_below HB.out (by omega) _ _ _ _))
  | true =>
    cases hw1 : (wt == 1) with
    | true =>
      have hres : R = (st0, false) := by rw [← HR.out]; simp [closeS, beq_iff_eq.1 hw1]
      have HRES := Lib.hid hres
      clear hres HR hm
      go_wp2
      exact bodyPost_ret (v := .tuple #[.agg #[.slice none 0 0, .int .i64 0, .slice none 0 0, .int .i64 0], .bool false]) (by simp [results, Try.results31, go_sem, y0, y1, y2, y3]) rfl
        (close_no HRES.out (put4_below HB.out (by omega) _ _ _ _))
    | false =>
      go_wp2_with fail
      refine (rtop_any _ _ _ A zs n _ (by omega) HI1.out).mono ?_
      rintro e w2 ⟨rfl, hb2⟩
      have hq2 := HQ1.out.trans (hb2.mono HQ1.out.size)
      have HB2 := Lib.hid (HB.out.trans (hb2.mono (by omega)))
      have HI2 := Lib.hid ((HI1.out.below hb2).mono hb2.size)
      have hs2 := hb2.size
      clear x0 x1 x2 x3 y0 y1 y2 y3 g0 g1 g2 g3
      obtain ⟨x0, x1, x2, x3, _, _, _, _⟩ := HX.out.x.below hq2 (by rw [HX.out.size]; omega)
      obtain ⟨y0, y1, y2, y3, g0, g1, g2, g3⟩ := HX.out.y.below hq2 (by rw [HX.out.size]; omega)
      have HQ2 := Lib.hid hq2
      clear hq2 hb2
      cases htp : (topOf zs == 0) with
      | true =>
        have hres : R = (st0, false) := by rw [← HR.out]; simp [closeS, beq_iff_eq.1 htp]
        have HRES := Lib.hid hres
        clear hres HR hm
        go_wp2
        exact bodyPost_ret (v := .tuple #[.agg #[.slice none 0 0, .int .i64 0, .slice none 0 0, .int .i64 0], .bool false]) (by simp [results, Try.results31, go_sem, y0, y1, y2, y3]) rfl
          (close_no HRES.out (put4_below HB2.out (by omega) _ _ _ _))
      | false =>
        have hzl : 0 < zs.length := by
          rcases Nat.eq_zero_or_pos zs.length with e | e
          · rw [List.eq_nil_of_length_eq_zero e, topOf_nil] at htp; simp at htp
          · exact e
        have hres : R = (⟨l, p, zs.dropLast, wt⟩, true) := by rw [← HR.out]; simp [closeS, hm, beq_eq_false_iff_ne.1 hw1, beq_eq_false_iff_ne.1 htp]
        have HRES := Lib.hid hres
        clear hres HR hm
        go_wp2_with fail
        refine (pop_any A0 A l.length n0 p wt zs n _ hn hzl hcap HI2.out).mono ?_
        rintro e w3 ⟨v, rfl, hfr, hb3⟩
        obtain ⟨A', c', rfl⟩ := hfr.form
        have hq3 := HQ2.out.trans (hb3.mono HQ2.out.size)
        have HB3 := Lib.hid (HB2.out.trans (hb3.mono (by omega)))
        clear x0 x1 x2 x3 y0 y1 y2 y3 g0 g1 g2 g3
        obtain ⟨y0, y1, y2, y3, g0, g1, g2, g3⟩ := HX.out.y.below hq3 (by rw [HX.out.size]; omega)
        have HF := Lib.hid hfr
        clear hfr hb3 hq3
        go_wp2
        exact bodyPost_ret (v := .tuple #[.agg #[.slice A0 l.length n0, .int .i64 p, .slice A' zs.dropLast.length c', .int .i64 wt], .bool true]) (by simp [results, Try.results31, go_sem, y0, y1, y2, y3]) rfl
          (close_yes HRES.out (put4_fresh HF.out (by omega) _ _ _ _) (put4_below HB3.out (by omega) _ _ _ _))

theorem small_any (A : Option Addr) (n c : Nat) (w : World) (_hn : n ≤ 9223372036854775807) :
    Calls Try.prog 23 #[.slice A n c] w fun e w' => e = .returned (.bool (decide (n ≤ 3000))) ∧ w = w' := by
  by_cases h : n ≤ 3000
  · have hd : decide ((n : Int) ≤ 3000) = true := by simp; omega
    have HD := Lib.hid (show decide (n ≤ 3000) = true by simpa using h)
    clear h
    go_enter Try.func23, Try.ntmps23
    go_wp2
    go_ret
    exact ⟨ret_bool HD.out.symm, rfl⟩
  · have hd : decide ((n : Int) ≤ 3000) = false := by simp; omega
    have HD := Lib.hid (show decide (n ≤ 3000) = false by simpa using h)
    clear h
    go_enter Try.func23, Try.ntmps23
    go_wp2
    go_ret
    exact ⟨ret_bool HD.out.symm, rfl⟩

theorem two_boxes (w : World) (u0 u1 u2 u3 v0 v1 v2 v3 : Value) : Box4 ((w.alloc (.cells #[u0, u1, u2, u3] 34)).alloc (.cells #[v0, v1, v2, v3] 34)) w.heap.size u0 u1 u2 u3 ∧
    Box4 ((w.alloc (.cells #[u0, u1, u2, u3] 34)).alloc (.cells #[v0, v1, v2, v3] 34)) (w.heap.size + 1) v0 v1 v2 v3 ∧ Below w.heap.size w ((w.alloc (.cells #[u0, u1, u2, u3] 34)).alloc (.cells #[v0, v1, v2, v3] 34)) :=
  ⟨(Box4.new w u0 u1 u2 u3 34).alloc _ (by simp), by simpa using Box4.new (w.alloc (.cells #[u0, u1, u2, u3] 34)) v0 v1 v2 v3 34, ((Below.refl _ _).alloc (Nat.le_refl _) _).alloc (by simp) _⟩

set_option maxRecDepth 100000 in
set_option maxHeartbeats 2000000 in
theorem sameState_any (A A' B B' : Option Addr) (l : List Tok) (zs : List Int) (c c' d d' : Nat) (p wt : Int) (w : World) (hl : l.length ≤ 1000000) (hn : zs.length ≤ 1000000) (h1 : Toks w.heap.size w A l) (h2 : Toks w.heap.size w A' l) (h3 : Ints w.heap.size w B zs) (h4 : Ints w.heap.size w B' zs) :
    Calls Try.prog 27 #[.agg #[.slice A l.length c, .int .i64 p, .slice B zs.length d, .int .i64 wt], .agg #[.slice A' l.length c', .int .i64 p, .slice B' zs.length d', .int .i64 wt]] w fun e w' => e = .returned (.bool true) ∧ Below w.heap.size w w' := by
  obtain ⟨hx, hy, hb⟩ := two_boxes w (.slice A l.length c) (.int .i64 p) (.slice B zs.length d) (.int .i64 wt) (.slice A' l.length c') (.int .i64 p) (.slice B' zs.length d') (.int .i64 wt)
  have H1 := Lib.hid (h1.below hb)
  have H2 := Lib.hid (h2.below hb)
  have H3 := Lib.hid (h3.below hb)
  have H4 := Lib.hid (h4.below hb)
  have HX := Lib.hid hx
  have HY := Lib.hid hy
  have HB := Lib.hid hb
  clear h1 h2 h3 h4 hx hy hb
  have n1 : (p != p) = false := by simp
  have n2 : (wt != wt) = false := by simp
  have n3 : ((l.length : Int) != (l.length : Int)) = false := by simp
  have n4 : ((zs.length : Int) != (zs.length : Int)) = false := by simp
  go_enter Try.func27, Try.ntmps27
  go_upto_region 1 with (fail)
  obtain ⟨W, hW⟩ : ∃ W, (w.alloc (.cells #[.slice A l.length c, .int .i64 p, .slice B zs.length d, .int .i64 wt] 34)).alloc (.cells #[.slice A' l.length c', .int .i64 p, .slice B' zs.length d', .int .i64 wt] 34) = W := ⟨_, rfl⟩
  have hx := HX.out
  have hy := HY.out
  have hb := HB.out
  have h1 := H1.out
  have h2 := H2.out
  have h3 := H3.out
  have h4 := H4.out
  rw [hW] at hx hy hb h1 h2 h3 h4 ⊢
  clear HX HY HB H1 H2 H3 H4 hW
  have H1 := Lib.hid h1
  have H2 := Lib.hid h2
  have H3 := Lib.hid h3
  have H4 := Lib.hid h4
  have HB := Lib.hid hb
  clear h1 h2 h3 h4 hb
  obtain ⟨x0, x1, x2, x3, _, _, _, _⟩ := hx
  obtain ⟨y0, y1, y2, y3, _, _, _, _⟩ := hy
  go_wp2_with fail
  go_loopw [5] (fun i wr => ∃ k nq : Nat, k ≤ l.length ∧ i = .int .i64 k ∧ wr = W.drewN nq) (fun i wr => l.length - (intOf i).toNat)
  case atStart => exact ⟨0, 0, by omega, rfl, rfl⟩
  case round =>
    obtain ⟨k, nq, hk, rfl, rfl⟩ := hrel
    by_cases hlt : k < l.length
    · obtain ⟨b, o, rfl, hb, ht⟩ := H1.out k (tk l k) (tk_in hlt)
      obtain ⟨b', o', rfl, hb', ht'⟩ := H2.out k (tk l k) (tk_in hlt)
      obtain ⟨g1, g2, g3, g4⟩ := ht
      obtain ⟨g5, g6, g7, g8⟩ := ht'
      go_wp2
      go_quiet (fail)
      go_wp2
      go_roundw
      case rel => exact ⟨k + 1, _, by omega, by go_num, rfl⟩
      case measure => simp [intOf]; omega
    · go_wp2
      go_loopw [6] (fun i wr => ∃ k nq : Nat, k ≤ zs.length ∧ i = .int .i64 k ∧ wr = W.drewN nq) (fun i wr => zs.length - (intOf i).toNat)
      case atStart => exact ⟨0, nq, by omega, rfl, rfl⟩
      case round =>
        obtain ⟨k2, nq2, hk2, rfl, rfl⟩ := hrel
        by_cases hlt2 : k2 < zs.length
        · obtain ⟨b, o, rfl, hb, ht⟩ := H3.out k2 zs[k2] (by simp [hlt2])
          obtain ⟨b', o', rfl, hb', ht'⟩ := H4.out k2 zs[k2] (by simp [hlt2])
          have n5 : (zs[k2] != zs[k2]) = false := by simp
          go_wp2
          go_quiet (fail)
          go_wp2
          go_roundw
          case rel => exact ⟨k2 + 1, _, by omega, by go_num, rfl⟩
          case measure => simp [intOf]; omega
        · go_wp2
          go_ret
          exact ⟨rfl, below_drewN HB.out _⟩
end Go.Proofs.Ytnophjkiecalpaa
