/- The law LayoutGoes, walked. -/
import Derived.Test.YtnophjkiecalpaaLayLaw9
namespace Go.Proofs.Ytnophjkiecalpaa
open Go.RowKit
attribute [local go_sem ↓] Go.wp_at_zero Go.wp_at_succ

theorem closeS_bad {l : List Tok} {p wt : Int} {zs : List Int} (h : LSt.may ⟨l, p, zs, wt⟩ = false) : closeS ⟨l, p, zs, wt⟩ = (st0, false) := by simp [closeS, h]
/-- What Close tells of a state that may be: none, or one that may be, with one block fewer. -/
theorem closeS_ok {l : List Tok} {k : Nat} {wt : Int} {zs : List Int} (h : May l k zs wt) : closeS ⟨l, (k : Int), zs, wt⟩ = (st0, false) ∨ (closeS ⟨l, (k : Int), zs, wt⟩ = (⟨l, (k : Int), zs.dropLast, wt⟩, true) ∧ 0 < zs.length) := by
  unfold closeS
  split
  · rename_i h1
    simp only [Bool.and_eq_true, Bool.not_eq_true', beq_eq_false_iff_ne] at h1
    refine .inr ⟨rfl, top_len ?_⟩
    have := h.top
    have := h1.2
    omega
  · exact .inl rfl

theorem two_more34 (w : World) (u0 u1 u2 u3 s0 s1 s2 s3 : Value) : Box4 ((w.alloc (.cells #[u0, u1, u2, u3] 23)).alloc (.cells #[s0, s1, s2, s3] 34)) w.heap.size u0 u1 u2 u3 ∧
    Box4 ((w.alloc (.cells #[u0, u1, u2, u3] 23)).alloc (.cells #[s0, s1, s2, s3] 34)) (w.heap.size + 1) s0 s1 s2 s3 ∧ Below w.heap.size w ((w.alloc (.cells #[u0, u1, u2, u3] 23)).alloc (.cells #[s0, s1, s2, s3] 34)) ∧
    ((w.alloc (.cells #[u0, u1, u2, u3] 23)).alloc (.cells #[s0, s1, s2, s3] 34)).heap.size = w.heap.size + 1 + 1 := two_more w u0 u1 u2 u3 s0 s1 s2 s3

set_option maxRecDepth 100000 in
set_option maxHeartbeats 4000000 in
theorem layoutGoes_bad (A0 A : Option Addr) (l : List Tok) (n0 n : Nat) (p wt : Int) (zs : List Int) (w : World) (hl : l.length ≤ 3000) (hn : zs.length ≤ 3000) (hcap : zs.length ≤ n) (ht : Toks w.heap.size w A0 l) (h : Ints w.heap.size w A zs) (hmay : LSt.may ⟨l, p, zs, wt⟩ = false) :
    Calls Try.prog 14 #[.agg #[.slice A0 l.length n0, .int .i64 p, .slice A zs.length n, .int .i64 wt]] w fun e w' => e = .returned (.bool true) ∧ Below w.heap.size w w' := by
  obtain ⟨bx, hb0, hs0⟩ := one_box w (.slice A0 l.length n0) (.int .i64 p) (.slice A zs.length n) (.int .i64 wt)
  have HT := Lib.hid ((ht.below hb0).mono hb0.size)
  have HI := Lib.hid ((h.below hb0).mono hb0.size)
  have BX := Lib.hid bx
  have HB0 := Lib.hid hb0
  have HS0 := Lib.hid hs0
  have hd1 := Lib.hid (show decide (l.length ≤ 3000) = true by simpa using hl)
  have hd2 : decide ((3000 : Int) < zs.length) = false := by simp; omega
  have HM := Lib.hid hmay
  have hq : eqTok 0 ⟨#[]⟩ 0 0 0 ⟨#[]⟩ 0 0 = true := eqTok_self _ _ _ _
  clear ht h bx hb0 hs0 hmay
  go_enter Try.func14, Try.ntmps14
  go_wp2_with fail
  obtain ⟨W, hW⟩ : ∃ W, w.alloc (.cells #[.slice A0 l.length n0, .int .i64 p, .slice A zs.length n, .int .i64 wt] 34) = W := ⟨_, rfl⟩
  have hT := HT.out
  have hI := HI.out
  have hbx := BX.out
  have hB0 := HB0.out
  have hS0 := HS0.out
  rw [hW] at hT hI hbx hB0 hS0 ⊢
  clear HT HI BX HB0 HS0 hW
  refine (awake9_any _).mono ?_
  rintro e w1 ⟨rfl, hb1⟩
  have hbx1 := hbx.below hb1 (by omega)
  have hT1 := (hT.below hb1).mono hb1.size
  have hI1 := (hI.below hb1).mono hb1.size
  have HB1 := Lib.hid (hB0.trans (hb1.mono (by omega)))
  have hs1 := hb1.size
  have HT1 := Lib.hid hT1
  have HI1 := Lib.hid hI1
  clear hT hI hbx hB0 hb1 hT1 hI1
  obtain ⟨x0, x1, x2, x3, _, _, _, _⟩ := id hbx1
  go_wp2_with fail
  refine (small_any A0 l.length n0 _ (by omega)).mono ?_
  rintro e w2 ⟨rfl, rfl⟩
  rw [hd1.out]
  go_wp2_with fail
  refine (next_bad A0 A l n0 n p wt zs _ (by omega) (by omega) HT1.out HI1.out HM.out).mono ?_
  rintro e w2 ⟨rfl, hb2⟩
  have hbx2 := hbx1.below hb2 (by omega)
  have HB2 := Lib.hid (HB1.out.trans (hb2.mono (by omega)))
  have HQ2 := Lib.hid hb2
  have hs2 := hb2.size
  clear hbx1 hb2 x0 x1 x2 x3
  go_upto_region 5 with (fail)
  obtain ⟨bt, bs, hb3, hs3⟩ := two_more w2 (.int .i64 0) (.string ⟨#[]⟩) (.int .i64 0) (.int .i64 0) (.slice none 0 0) (.int .i64 0) (.slice none 0 0) (.int .i64 0)
  obtain ⟨W3, hW3⟩ : ∃ W3, (w2.alloc (.cells #[.int .i64 0, .string ⟨#[]⟩, .int .i64 0, .int .i64 0] 23)).alloc (.cells #[.slice none 0 0, .int .i64 0, .slice none 0 0, .int .i64 0] 34) = W3 := ⟨_, rfl⟩
  rw [hW3] at bt bs hb3 hs3 ⊢
  clear hW3
  obtain ⟨x0, x1, x2, x3, _, _, _, _⟩ := hbx2.below hb3 (by omega)
  have HB3 := Lib.hid (HB2.out.trans (hb3.mono (by omega)))
  have hq3 := HQ2.out.trans (hb3.mono hs2)
  have HT3 := Lib.hid ((HT1.out.below hq3).mono hq3.size)
  have HI3 := Lib.hid ((HI1.out.below hq3).mono hq3.size)
  clear hb3 hbx2 hq3
  go_wp2_with fail
  refine (close_lay A0 A l n0 n p wt zs _ (by omega) (by omega) hcap HT3.out HI3.out).mono ?_
  rw [closeS_bad HM.out]
  rintro e w4 ⟨A2, c2, rfl, hc2, hn2, hI2, hb4⟩
  have ht4 := bt.below hb4 (by omega)
  have hs4' := bs.below hb4 (by omega)
  have HB4 := Lib.hid (HB3.out.trans (hb4.mono (by omega)))
  have hs4 := hb4.size
  clear hI2 hb4 hn2 x0 x1 x2 x3 bt bs
  simp only [st0, List.length_nil, Bool.false_eq_true, if_false]
  go_upto_region 6 with (fail)
  obtain ⟨bb, hb5, hs5⟩ := one_box w4 (.slice none 0 0) (.int .i64 0) (.slice A2 0 c2) (.int .i64 0)
  obtain ⟨W5, hW5⟩ : ∃ W5, w4.alloc (.cells #[.slice none 0 0, .int .i64 0, .slice A2 0 c2, .int .i64 0] 34) = W5 := ⟨_, rfl⟩
  rw [hW5] at bb hb5 hs5 ⊢
  clear hW5
  obtain ⟨t0, t1, t2, t3, _, _, _, _⟩ := ht4.below hb5 (by omega)
  obtain ⟨s0, s1, s2, s3, _, _, _, _⟩ := hs4'.below hb5 (by omega)
  have HB5 := Lib.hid (HB4.out.trans (hb5.mono (by omega)))
  clear ht4 hs4' hb5 bb hs5 hs3
  go_wp2
  go_ret
  exact ⟨rfl, HB5.out⟩

set_option maxRecDepth 100000 in
set_option maxHeartbeats 8000000 in
theorem layoutGoes_good (A0 A : Option Addr) (l : List Tok) (n0 n : Nat) (k : Nat) (wt : Int) (zs : List Int) (w : World) (hl : l.length ≤ 3000) (hn : zs.length ≤ 3000) (hcap : zs.length ≤ n) (hc : A = none → n = 0) (ht : Toks w.heap.size w A0 l) (h : Ints w.heap.size w A zs) (hmay : May l k zs wt) :
    Calls Try.prog 14 #[.agg #[.slice A0 l.length n0, .int .i64 (k : Int), .slice A zs.length n, .int .i64 wt]] w fun e w' => e = .returned (.bool true) ∧ Below w.heap.size w w' := by
  obtain ⟨bx, hb0, hs0⟩ := one_box w (.slice A0 l.length n0) (.int .i64 (k : Int)) (.slice A zs.length n) (.int .i64 wt)
  have HT := Lib.hid ((ht.below hb0).mono hb0.size)
  have HI := Lib.hid ((h.below hb0).mono hb0.size)
  have BX := Lib.hid bx
  have HB0 := Lib.hid hb0
  have HS0 := Lib.hid hs0
  have hd1 := Lib.hid (show decide (l.length ≤ 3000) = true by simpa using hl)
  have hd2 : decide ((3000 : Int) < zs.length) = false := by simp; omega
  have HM := Lib.hid hmay
  have HC := Lib.hid hc
  have hpos := hmay.pos
  obtain ⟨t, s', err, hRR⟩ : ∃ t s' err, nextF l zs (l.length - k) k wt = (t, s', err) := ⟨_, _, _, rfl⟩
  have hok := nextF_ok l zs (l.length - k) k wt (by omega) hmay
  rw [hRR] at hok
  obtain ⟨k', zs', wt', hs', hmay', hkk, hzz, herr, _⟩ := hok
  simp only at hs' herr
  subst hs'
  have hpos' := hmay'.pos
  obtain ⟨t2, s2, err2, hRR2⟩ : ∃ t s' err, nextF l zs' (l.length - k') k' wt' = (t, s', err) := ⟨_, _, _, rfl⟩
  have hok2 := nextF_ok l zs' (l.length - k') k' wt' (by omega) hmay'
  rw [hRR2] at hok2
  obtain ⟨k2, zs2, wt2, hs2', hmay2, hkk2, hzz2, herr2, _⟩ := hok2
  simp only at hs2' herr2
  subst hs2'
  have e1 : (err == 1) = false := by rcases herr with h | h <;> rw [h] <;> rfl
  have e2 : (err2 == 1) = false := by rcases herr2 with h | h <;> rw [h] <;> rfl
  have HRR := Lib.hid hRR
  have HRR2 := Lib.hid hRR2
  have HM' := Lib.hid hmay'
  have HERR := Lib.hid herr
  clear ht h bx hb0 hs0 hmay hc hRR hRR2 hmay' hmay2 herr herr2
  go_enter Try.func14, Try.ntmps14
  go_wp2_with fail
  obtain ⟨W, hW⟩ : ∃ W, w.alloc (.cells #[.slice A0 l.length n0, .int .i64 (k : Int), .slice A zs.length n, .int .i64 wt] 34) = W := ⟨_, rfl⟩
  have hT := HT.out
  have hI := HI.out
  have hbx := BX.out
  have hB0 := HB0.out
  have hS0 := HS0.out
  rw [hW] at hT hI hbx hB0 hS0 ⊢
  clear HT HI BX HB0 HS0 hW
  refine (awake9_any _).mono ?_
  rintro e w1 ⟨rfl, hb1⟩
  have hbx1 := hbx.below hb1 (by omega)
  have hT1 := (hT.below hb1).mono hb1.size
  have hI1 := (hI.below hb1).mono hb1.size
  have HB1 := Lib.hid (hB0.trans (hb1.mono (by omega)))
  have hs1 := hb1.size
  have HT1 := Lib.hid hT1
  have HI1 := Lib.hid hI1
  clear hT hI hbx hB0 hb1 hT1 hI1
  obtain ⟨x0, x1, x2, x3, _, _, _, _⟩ := id hbx1
  go_wp2_with fail
  refine (small_any A0 l.length n0 _ (by omega)).mono ?_
  rintro e w2 ⟨rfl, rfl⟩
  rw [hd1.out]
  go_wp2_with fail
  refine (next_lay A0 A l n0 n k wt zs _ (by omega) (by omega) hcap HC.out HT1.out HI1.out (may_iff.2 HM.out) hpos).mono ?_
  rw [HRR.out]
  rintro e w2 ⟨A', c', rfl, hcap', hnil', hI', _, hb2⟩
  simp only at hcap' hI' ⊢
  have hbx2 := hbx1.below hb2 (by omega)
  have HB2 := Lib.hid (HB1.out.trans (hb2.mono (by omega)))
  have HQ2 := Lib.hid hb2
  have hs2 := hb2.size
  have HI' := Lib.hid hI'
  have HN' := Lib.hid hnil'
  clear hbx1 hb2 hI' hnil' x0 x1 x2 x3
  go_upto_region 5 with (fail)
  obtain ⟨bt, bs, hb3, hs3⟩ := two_more w2 (.int .i64 t.kind) (.string t.text) (.int .i64 t.line) (.int .i64 t.col) (.slice A0 l.length n0) (.int .i64 (k' : Int)) (.slice A' zs'.length c') (.int .i64 wt')
  obtain ⟨W3, hW3⟩ : ∃ W3, (w2.alloc (.cells #[.int .i64 t.kind, .string t.text, .int .i64 t.line, .int .i64 t.col] 23)).alloc (.cells #[.slice A0 l.length n0, .int .i64 (k' : Int), .slice A' zs'.length c', .int .i64 wt'] 34) = W3 := ⟨_, rfl⟩
  rw [hW3] at bt bs hb3 hs3 ⊢
  clear hW3
  have hbx3 := hbx2.below hb3 (by omega)
  obtain ⟨x0, x1, x2, x3, _, _, _, _⟩ := id hbx3
  have HB3 := Lib.hid (HB2.out.trans (hb3.mono (by omega)))
  have hq3 := HQ2.out.trans (hb3.mono hs2)
  have HT3 := Lib.hid ((HT1.out.below hq3).mono hq3.size)
  have HI3 := Lib.hid ((HI1.out.below hq3).mono hq3.size)
  have HI3' := Lib.hid ((HI'.out.below hb3).mono hb3.size)
  have hl3 : w2.heap.size + 1 < W3.heap.size := by omega
  clear hb3 hbx2 hq3 bt hs3
  go_wp2_with fail
  refine (close_lay A0 A l n0 n k wt zs _ (by omega) (by omega) hcap HT3.out HI3.out).mono ?_
  rcases closeS_ok HM.out with hcl | ⟨hcl, hzpos⟩
  · rw [hcl]
    rintro e w4 ⟨A2, c2, rfl, hc2, hn2, hI2, hb4⟩
    have HB4 := Lib.hid (HB3.out.trans (hb4.mono (by omega)))
    have HT4 := Lib.hid ((HT3.out.below hb4).mono hb4.size)
    have HI4 := Lib.hid ((HI3'.out.below hb4).mono hb4.size)
    have bs4 := bs.below hb4 hl3
    have hs4 := hb4.size
    clear hI2 hb4 hn2 x0 x1 x2 x3 bs hbx3 hcl
    simp only [st0, List.length_nil, Bool.false_eq_true, if_false]
    go_upto_region 6 with (fail)
    obtain ⟨bb, hb5, hs5⟩ := one_box w4 (.slice none 0 0) (.int .i64 0) (.slice A2 0 c2) (.int .i64 0)
    obtain ⟨W5, hW5⟩ : ∃ W5, w4.alloc (.cells #[.slice none 0 0, .int .i64 0, .slice A2 0 c2, .int .i64 0] 34) = W5 := ⟨_, rfl⟩
    rw [hW5] at bb hb5 hs5 ⊢
    clear hW5
    obtain ⟨s0, s1, s2, s3, _, _, _, _⟩ := bs4.below hb5 (by omega)
    have HB5 := Lib.hid (HB4.out.trans (hb5.mono (by omega)))
    have HT5 := Lib.hid ((HT4.out.below hb5).mono hb5.size)
    have HI5 := Lib.hid ((HI4.out.below hb5).mono hb5.size)
    have hl5 : w4.heap.size < W5.heap.size := by omega
    clear bs4 hb5 hs5
    go_wp2_with fail
    refine (next_lay A0 A' l n0 c' k' wt' zs' _ (by omega) (by omega) hcap' HN'.out HT5.out HI5.out (may_iff.2 HM'.out) hpos').mono ?_
    rw [HRR2.out]
    rintro e w6 ⟨A6, c6, rfl, hcap6, hnil6, hI6, _, hb6⟩
    simp only at hcap6 hI6 ⊢
    have hbb6 := bb.below hb6 hl5
    have HB6 := Lib.hid (HB5.out.trans (hb6.mono (by omega)))
    have hs6 := hb6.size
    clear hI6 hb6 hnil6 s0 s1 s2 s3 bb
    go_upto_region 9 with (fail)
    obtain ⟨_, _, hb7, hs7⟩ := two_more w6 (.int .i64 t2.kind) (.string t2.text) (.int .i64 t2.line) (.int .i64 t2.col) (.slice A0 l.length n0) (.int .i64 (k2 : Int)) (.slice A6 zs2.length c6) (.int .i64 wt2)
    obtain ⟨W7, hW7⟩ : ∃ W7, (w6.alloc (.cells #[.int .i64 t2.kind, .string t2.text, .int .i64 t2.line, .int .i64 t2.col] 23)).alloc (.cells #[.slice A0 l.length n0, .int .i64 (k2 : Int), .slice A6 zs2.length c6, .int .i64 wt2] 34) = W7 := ⟨_, rfl⟩
    rw [hW7] at hb7 hs7 ⊢
    clear hW7
    obtain ⟨s0, s1, s2, s3, _, _, _, _⟩ := hbb6.below hb7 (by omega)
    have HB7 := Lib.hid (HB6.out.trans (hb7.mono (by omega)))
    clear hb7 hs7 hbb6
    rcases HERR.out with he | he
    · have h0 : (err != 0) = false := by rw [he]; rfl
      clear HERR he
      go_wp2
      go_ret
      exact ⟨rfl, HB7.out⟩
    · have h0 : (err != 0) = true := by rw [he]; rfl
      have h9 : (err != 90) = false := by rw [he]; rfl
      clear HERR he
      go_wp2
      go_ret
      exact ⟨rfl, HB7.out⟩
  · rw [hcl]
    rintro e w4 ⟨A2, c2, rfl, hc2, hn2, hI2, hb4⟩
    simp only [if_true] at hc2 hI2 ⊢
    have HB4 := Lib.hid (HB3.out.trans (hb4.mono (by omega)))
    have HT4 := Lib.hid ((HT3.out.below hb4).mono hb4.size)
    have HI4 := Lib.hid ((HI3'.out.below hb4).mono hb4.size)
    have HI2 := Lib.hid hI2
    have HN2 := Lib.hid hn2
    have bs4 := bs.below hb4 hl3
    have bx4 := hbx3.below hb4 (by omega)
    have hs4 := hb4.size
    have hdl : zs.dropLast.length = zs.length - 1 := by simp
    have HDL := Lib.hid hdl
    clear hI2 hb4 hn2 x0 x1 x2 x3 bs hbx3 hcl hdl
    obtain ⟨ds, hds⟩ : ∃ ds, zs.dropLast = ds := ⟨_, rfl⟩
    have HMD := Lib.hid HM.out.drop
    rw [hds] at HDL HI2 hc2 HMD ⊢
    clear hds
    obtain ⟨t3, s3, err3, hRR3⟩ : ∃ t s' err, nextF l ds (l.length - k) k wt = (t, s', err) := ⟨_, _, _, rfl⟩
    have hok3 := nextF_ok l ds (l.length - k) k wt (by omega) HMD.out
    rw [hRR3] at hok3
    obtain ⟨k3, zs3, wt3, hs3', hmay3, _, _, herr3, _⟩ := hok3
    simp only at hs3' herr3
    subst hs3'
    have e3 : (err3 != 1) = true := by rcases herr3 with h | h <;> rw [h] <;> rfl
    have HRR3 := Lib.hid hRR3
    clear hRR3 hmay3 herr3
    go_upto_region 6 with (fail)
    obtain ⟨bb, hb5, hs5⟩ := one_box w4 (.slice A0 l.length n0) (.int .i64 (k : Int)) (.slice A2 ds.length c2) (.int .i64 wt)
    obtain ⟨W5, hW5⟩ : ∃ W5, w4.alloc (.cells #[.slice A0 l.length n0, .int .i64 (k : Int), .slice A2 ds.length c2, .int .i64 wt] 34) = W5 := ⟨_, rfl⟩
    rw [hW5] at bb hb5 hs5 ⊢
    clear hW5
    obtain ⟨s0, s1, s2, s3, _, _, _, _⟩ := bs4.below hb5 (by omega)
    have bx5 := bx4.below hb5 (by omega)
    have HB5 := Lib.hid (HB4.out.trans (hb5.mono (by omega)))
    have HT5 := Lib.hid ((HT4.out.below hb5).mono hb5.size)
    have HI5 := Lib.hid ((HI4.out.below hb5).mono hb5.size)
    have HI25 := Lib.hid ((HI2.out.below hb5).mono hb5.size)
    have hl5 : w4.heap.size < W5.heap.size := by omega
    clear bs4 hb5 hs5 bx4
    go_wp2_with fail
    refine (next_lay A0 A' l n0 c' k' wt' zs' _ (by omega) (by omega) hcap' HN'.out HT5.out HI5.out (may_iff.2 HM'.out) hpos').mono ?_
    rw [HRR2.out]
    rintro e w6 ⟨A6, c6, rfl, hcap6, hnil6, hI6, _, hb6⟩
    simp only at hcap6 hI6 ⊢
    have hbb6 := bb.below hb6 hl5
    have bx6 := bx5.below hb6 (by omega)
    have HB6 := Lib.hid (HB5.out.trans (hb6.mono (by omega)))
    have HT6 := Lib.hid ((HT5.out.below hb6).mono hb6.size)
    have HI26 := Lib.hid ((HI25.out.below hb6).mono hb6.size)
    have hs6 := hb6.size
    clear hI6 hb6 hnil6 s0 s1 s2 s3 bb bx5
    go_upto_region 9 with (fail)
    obtain ⟨_, _, hb7, hs7⟩ := two_more w6 (.int .i64 t2.kind) (.string t2.text) (.int .i64 t2.line) (.int .i64 t2.col) (.slice A0 l.length n0) (.int .i64 (k2 : Int)) (.slice A6 zs2.length c6) (.int .i64 wt2)
    obtain ⟨W7, hW7⟩ : ∃ W7, (w6.alloc (.cells #[.int .i64 t2.kind, .string t2.text, .int .i64 t2.line, .int .i64 t2.col] 23)).alloc (.cells #[.slice A0 l.length n0, .int .i64 (k2 : Int), .slice A6 zs2.length c6, .int .i64 wt2] 34) = W7 := ⟨_, rfl⟩
    rw [hW7] at hb7 hs7 ⊢
    clear hW7
    have hbb7 := hbb6.below hb7 (by omega)
    have bx7 := bx6.below hb7 (by omega)
    obtain ⟨s0, s1, s2, s3, _, _, _, _⟩ := id hbb7
    have HB7 := Lib.hid (HB6.out.trans (hb7.mono (by omega)))
    have HT7 := Lib.hid ((HT6.out.below hb7).mono hb7.size)
    have HI27 := Lib.hid ((HI26.out.below hb7).mono hb7.size)
    have hl7 : w4.heap.size < W7.heap.size := by omega
    have hl8 : w.heap.size < W7.heap.size := by omega
    have hl9 : ds.length ≤ 3000 := by have := HDL.out; omega
    clear hb7 hs7 hbb6 bx6
    have hv : IntKind.i64.wrap ((zs.length : Int) - 1) = (zs.length : Int) - 1 := IntWalk.i64_in _ (by omega)
    have hv2 : ((ds.length : Int) == (zs.length : Int) - 1) = true := by have := HDL.out; rw [beq_iff_eq]; omega
    rcases HERR.out with he | he
    · have h0 : (err != 0) = false := by rw [he]; rfl
      clear HERR he
      go_wp2_with fail
      refine (next_lay A0 A2 l n0 c2 k wt ds _ (by omega) (by omega) hc2 HN2.out HT7.out HI27.out (may_iff.2 HMD.out) hpos).mono ?_
      rw [HRR3.out]
      rintro e w8 ⟨A8, c8, rfl, hcap8, hnil8, hI8, _, hb8⟩
      simp only at hcap8 hI8 ⊢
      have hbb8 := hbb7.below hb8 hl7
      have bx8 := bx7.below hb8 hl8
      have HB8 := Lib.hid (HB7.out.trans (hb8.mono (by omega)))
      have hs8 := hb8.size
      clear hI8 hb8 hnil8 s0 s1 s2 s3 hbb7 bx7
      go_upto_region 14 with (fail)
      obtain ⟨_, _, hb9, hs9⟩ := two_more w8 (.int .i64 t3.kind) (.string t3.text) (.int .i64 t3.line) (.int .i64 t3.col) (.slice A0 l.length n0) (.int .i64 (k3 : Int)) (.slice A8 zs3.length c8) (.int .i64 wt3)
      obtain ⟨W9, hW9⟩ : ∃ W9, (w8.alloc (.cells #[.int .i64 t3.kind, .string t3.text, .int .i64 t3.line, .int .i64 t3.col] 23)).alloc (.cells #[.slice A0 l.length n0, .int .i64 (k3 : Int), .slice A8 zs3.length c8, .int .i64 wt3] 34) = W9 := ⟨_, rfl⟩
      rw [hW9] at hb9 hs9 ⊢
      clear hW9
      obtain ⟨s0, s1, s2, s3, _, _, _, _⟩ := hbb8.below hb9 (by omega)
      obtain ⟨x0, x1, x2, x3, _, _, _, _⟩ := bx8.below hb9 (by omega)
      have HB9 := Lib.hid (HB8.out.trans (hb9.mono (by omega)))
      clear hb9 hs9 hbb8 bx8
      go_wp2
      go_ret
      exact ⟨rfl, HB9.out⟩
    · have h0 : (err != 0) = true := by rw [he]; rfl
      have h9 : (err != 90) = false := by rw [he]; rfl
      clear HERR he
      go_wp2_with fail
      refine (next_lay A0 A2 l n0 c2 k wt ds _ (by omega) (by omega) hc2 HN2.out HT7.out HI27.out (may_iff.2 HMD.out) hpos).mono ?_
      rw [HRR3.out]
      rintro e w8 ⟨A8, c8, rfl, hcap8, hnil8, hI8, _, hb8⟩
      simp only at hcap8 hI8 ⊢
      have hbb8 := hbb7.below hb8 hl7
      have bx8 := bx7.below hb8 hl8
      have HB8 := Lib.hid (HB7.out.trans (hb8.mono (by omega)))
      have hs8 := hb8.size
      clear hI8 hb8 hnil8 s0 s1 s2 s3 hbb7 bx7
      go_upto_region 14 with (fail)
      obtain ⟨_, _, hb9, hs9⟩ := two_more w8 (.int .i64 t3.kind) (.string t3.text) (.int .i64 t3.line) (.int .i64 t3.col) (.slice A0 l.length n0) (.int .i64 (k3 : Int)) (.slice A8 zs3.length c8) (.int .i64 wt3)
      obtain ⟨W9, hW9⟩ : ∃ W9, (w8.alloc (.cells #[.int .i64 t3.kind, .string t3.text, .int .i64 t3.line, .int .i64 t3.col] 23)).alloc (.cells #[.slice A0 l.length n0, .int .i64 (k3 : Int), .slice A8 zs3.length c8, .int .i64 wt3] 34) = W9 := ⟨_, rfl⟩
      rw [hW9] at hb9 hs9 ⊢
      clear hW9
      obtain ⟨s0, s1, s2, s3, _, _, _, _⟩ := hbb8.below hb9 (by omega)
      obtain ⟨x0, x1, x2, x3, _, _, _, _⟩ := bx8.below hb9 (by omega)
      have HB9 := Lib.hid (HB8.out.trans (hb9.mono (by omega)))
      clear hb9 hs9 hbb8 bx8
      go_wp2
      go_ret
      exact ⟨rfl, HB9.out⟩

set_option maxHeartbeats 1000000 in
theorem layoutGoes_big1 (A0 A : Option Addr) (l : List Tok) (n0 n : Nat) (p wt : Int) (zs : List Int) (w : World) (hl : l.length * 40 ≤ 140737488351232) (hs : ¬ l.length ≤ 3000) :
    Calls Try.prog 14 #[.agg #[.slice A0 l.length n0, .int .i64 p, .slice A zs.length n, .int .i64 wt]] w fun e w' => e = .returned (.bool true) ∧ Below w.heap.size w w' := by
  obtain ⟨bx0, hb0, hs0⟩ := one_box w (.slice A0 l.length n0) (.int .i64 p) (.slice A zs.length n) (.int .i64 wt)
  have HB0 := Lib.hid hb0
  have HS0 := Lib.hid hs0
  have hd1 := Lib.hid (show decide (l.length ≤ 3000) = false by simpa using hs)
  have HX0 := Lib.hid bx0
  clear hb0 hs0 bx0
  go_enter Try.func14, Try.ntmps14
  go_wp2_with fail
  refine (awake9_any _).mono ?_
  rintro e w3 ⟨rfl, hb3⟩
  obtain ⟨x0, x1, x2, x3, _, _, _, _⟩ := HX0.out.below hb3 (by rw [HS0.out]; omega)
  go_wp2_with fail
  refine (small_any A0 l.length n0 _ (by omega)).mono ?_
  rintro e w1 ⟨rfl, rfl⟩
  rw [hd1.out]
  go_wp2
  go_ret
  exact ⟨rfl, HB0.out.trans (hb3.mono (by rw [HS0.out]; omega))⟩

set_option maxHeartbeats 1000000 in
theorem layoutGoes_big2 (A0 A : Option Addr) (l : List Tok) (n0 n : Nat) (p wt : Int) (zs : List Int) (w : World) (hl : l.length ≤ 3000) (hn : zs.length * 8 ≤ 140737488351232) (hs : ¬ zs.length ≤ 3000) :
    Calls Try.prog 14 #[.agg #[.slice A0 l.length n0, .int .i64 p, .slice A zs.length n, .int .i64 wt]] w fun e w' => e = .returned (.bool true) ∧ Below w.heap.size w w' := by
  obtain ⟨bx0, hb0, hs0⟩ := one_box w (.slice A0 l.length n0) (.int .i64 p) (.slice A zs.length n) (.int .i64 wt)
  have HB0 := Lib.hid hb0
  have HS0 := Lib.hid hs0
  have hd1 := Lib.hid (show decide (l.length ≤ 3000) = true by simpa using hl)
  have hd2 : decide ((3000 : Int) < zs.length) = true := by simp; omega
  have HX0 := Lib.hid bx0
  clear hb0 hs0 bx0
  go_enter Try.func14, Try.ntmps14
  go_wp2_with fail
  refine (awake9_any _).mono ?_
  rintro e w3 ⟨rfl, hb3⟩
  obtain ⟨x0, x1, x2, x3, _, _, _, _⟩ := HX0.out.below hb3 (by rw [HS0.out]; omega)
  go_wp2_with fail
  refine (small_any A0 l.length n0 _ (by omega)).mono ?_
  rintro e w1 ⟨rfl, rfl⟩
  rw [hd1.out]
  go_wp2
  go_ret
  exact ⟨rfl, HB0.out.trans (hb3.mono (by rw [HS0.out]; omega))⟩

theorem layoutGoes_any (A0 A : Option Addr) (l : List Tok) (n0 n : Nat) (p wt : Int) (zs : List Int) (w : World) (hl : l.length * 40 ≤ 140737488351232) (hn : zs.length * 8 ≤ 140737488351232) (hcap : zs.length ≤ n) (hc : A = none → n = 0) (ht : Toks w.heap.size w A0 l) (h : Ints w.heap.size w A zs) :
    Calls Try.prog 14 #[.agg #[.slice A0 l.length n0, .int .i64 p, .slice A zs.length n, .int .i64 wt]] w fun e w' => e = .returned (.bool true) ∧ Below w.heap.size w w' := by
  by_cases h1 : l.length ≤ 3000
  · by_cases h2 : zs.length ≤ 3000
    · cases hm : LSt.may ⟨l, p, zs, wt⟩ with
      | false => exact layoutGoes_bad A0 A l n0 n p wt zs w h1 h2 hcap ht h hm
      | true =>
        obtain ⟨k, rfl, _⟩ := may_pos hm
        exact layoutGoes_good A0 A l n0 n k wt zs w h1 h2 hcap hc ht h (may_iff.1 hm)
    · exact layoutGoes_big2 A0 A l n0 n p wt zs w h1 hn h2
  · exact layoutGoes_big1 A0 A l n0 n p wt zs w hl h1
end Go.Proofs.Ytnophjkiecalpaa
