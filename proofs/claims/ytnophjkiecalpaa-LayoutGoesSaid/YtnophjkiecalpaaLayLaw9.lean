/- The laws LayoutNexts and LayoutCloses, walked. -/
import Derived.Test.YtnophjkiecalpaaLayNexts
namespace Go.Proofs.Ytnophjkiecalpaa
open Go.RowKit

theorem toks_told {n : Nat} {w : World} {A0 A1 : Option Addr} {n0 m1 : Nat} {l ts : List Tok} (h : Toks n w A0 l) (h1 : (A1 = A0 ∧ m1 = n0) ∨ ts = []) (h2 : ts = l ∨ ts = []) : Toks n w A1 ts := by
  rcases h2 with rfl | rfl
  · rcases h1 with ⟨rfl, _⟩ | rfl
    · exact h
    · exact Toks.nil
  · exact Toks.nil

theorem one_box (w : World) (v0 v1 v2 v3 : Value) : Box4 (w.alloc (.cells #[v0, v1, v2, v3] 34)) w.heap.size v0 v1 v2 v3 ∧ Below w.heap.size w (w.alloc (.cells #[v0, v1, v2, v3] 34)) ∧ (w.alloc (.cells #[v0, v1, v2, v3] 34)).heap.size = w.heap.size + 1 :=
  ⟨Box4.new w v0 v1 v2 v3 34, (Below.refl _ _).alloc (Nat.le_refl _) _, by simp⟩

set_option maxRecDepth 100000 in
set_option maxHeartbeats 4000000 in
theorem layoutNexts_small (A0 A : Option Addr) (l : List Tok) (n0 n : Nat) (p wt : Int) (zs : List Int) (w : World) (hl : l.length ≤ 3000) (hn : zs.length ≤ 3000) (hcap : zs.length ≤ n) (hc : A = none → n = 0) (ht : Toks w.heap.size w A0 l) (h : Ints w.heap.size w A zs) :
    Calls Try.prog 9 #[.agg #[.slice A0 l.length n0, .int .i64 p, .slice A zs.length n, .int .i64 wt]] w fun e w' => e = .returned (.bool true) ∧ Below w.heap.size w w' := by
  obtain ⟨bx, hb0, hs0⟩ := one_box w (.slice A0 l.length n0) (.int .i64 p) (.slice A zs.length n) (.int .i64 wt)
  have HT := Lib.hid ((ht.below hb0).mono hb0.size)
  have HI := Lib.hid ((h.below hb0).mono hb0.size)
  have BX := Lib.hid bx
  have HB0 := Lib.hid hb0
  have HS0 := Lib.hid hs0
  have HC := Lib.hid hc
  have hd1 := Lib.hid (show decide (l.length ≤ 3000) = true by simpa using hl)
  have hd2 : decide ((3000 : Int) < zs.length) = false := by simp; omega
  have hR := nextS_len l p wt zs
  obtain ⟨R, hRR⟩ : ∃ R, nextS ⟨l, p, zs, wt⟩ = R := ⟨_, rfl⟩
  rw [hRR] at hR
  obtain ⟨hR1, hR2⟩ := hR
  have HR := Lib.hid hRR
  have HR2 := Lib.hid hR2
  clear ht h hc bx hb0 hs0 hRR hR2
  go_enter Try.func9, Try.ntmps9
  go_wp2_with fail
  refine (small_any A0 l.length n0 _ (by omega)).mono ?_
  rintro e w1 ⟨rfl, rfl⟩
  rw [hd1.out]
  go_wp2_with fail
  obtain ⟨W, hW⟩ : ∃ W, w.alloc (.cells #[.slice A0 l.length n0, .int .i64 p, .slice A zs.length n, .int .i64 wt] 34) = W := ⟨_, rfl⟩
  have hT := HT.out
  have hI := HI.out
  have hbx := BX.out
  have hB0 := HB0.out
  have hS0 := HS0.out
  rw [hW] at hT hI hbx hB0 hS0 ⊢
  clear HT HI BX HB0 HS0 hW
  refine (next_whole A0 A l n0 n p wt zs _ (by omega) (by omega) hcap HC.out hT hI).mono ?_
  rw [HR.out]
  rintro e w2 ⟨A1, m1, A2, c2, rfl, ha1, hc2, hn2, hI2, hb2⟩
  have HT := Lib.hid hT
  have HI := Lib.hid hI
  have HA1 := Lib.hid ha1
  have HI2 := Lib.hid hI2
  have HB2 := Lib.hid hb2
  have hs2 := hb2.size
  have HB0 := Lib.hid hB0
  have hbx2 := hbx.below hb2 (by omega)
  clear hT hI ha1 hI2 hb2 hn2 hB0 hbx
  obtain ⟨x0, x1, x2, x3, _, _, _, _⟩ := id hbx2
  go_upto_region 4 with (fail)
  obtain ⟨bt, bs, hb3, hs3⟩ := two_more w2 (.int .i64 R.1.kind) (.string R.1.text) (.int .i64 R.1.line) (.int .i64 R.1.col) (.slice A1 R.2.1.toks.length m1) (.int .i64 R.2.1.pos) (.slice A2 R.2.1.opens.length c2) (.int .i64 R.2.1.wait)
  obtain ⟨W3, hW3⟩ : ∃ W3, (w2.alloc (.cells #[.int .i64 R.1.kind, .string R.1.text, .int .i64 R.1.line, .int .i64 R.1.col] 23)).alloc (.cells #[.slice A1 R.2.1.toks.length m1, .int .i64 R.2.1.pos, .slice A2 R.2.1.opens.length c2, .int .i64 R.2.1.wait] 34) = W3 := ⟨_, rfl⟩
  rw [hW3] at bt bs hb3 hs3 ⊢
  clear hW3 x0 x1 x2 x3
  have hbx3 := hbx2.below hb3 (by omega)
  have HB3 := Lib.hid hb3
  have HBT := Lib.hid bt
  have HBS := Lib.hid bs
  have hB23 := HB2.out.trans (hb3.mono hs2)
  have HB23 := Lib.hid hB23
  clear hb3 bt bs hbx2 hB23
  obtain ⟨x0, x1, x2, x3, _, _, _, _⟩ := hbx3
  go_wp2_with fail
  refine (rnext_whole A0 A l n0 n p wt zs _ (by omega) (by omega) hcap HC.out ((HT.out.below HB23.out).mono (by omega)) ((HI.out.below HB23.out).mono (by omega))).mono ?_
  rw [HR.out]
  rintro e w4 ⟨A1', m1', A2', c2', rfl, ha1', hc2', hn2', hI2', hb4⟩
  have HA1' := Lib.hid ha1'
  have HI2' := Lib.hid hI2'
  have HB4 := Lib.hid hb4
  have hs4 := hb4.size
  clear ha1' hI2' hb4 hn2' x0 x1 x2 x3
  go_upto_region 5 with (fail)
  obtain ⟨bt, bs, hb5, hs5⟩ := two_more w4 (.int .i64 R.1.kind) (.string R.1.text) (.int .i64 R.1.line) (.int .i64 R.1.col) (.slice A1' R.2.1.toks.length m1') (.int .i64 R.2.1.pos) (.slice A2' R.2.1.opens.length c2') (.int .i64 R.2.1.wait)
  obtain ⟨W5, hW5⟩ : ∃ W5, (w4.alloc (.cells #[.int .i64 R.1.kind, .string R.1.text, .int .i64 R.1.line, .int .i64 R.1.col] 23)).alloc (.cells #[.slice A1' R.2.1.toks.length m1', .int .i64 R.2.1.pos, .slice A2' R.2.1.opens.length c2', .int .i64 R.2.1.wait] 34) = W5 := ⟨_, rfl⟩
  rw [hW5] at bt bs hb5 hs5 ⊢
  clear hW5
  have HB5 := Lib.hid hb5
  have HBT' := Lib.hid bt
  have HBS' := Lib.hid bs
  clear hb5 bt bs
  go_wp2_with fail
  refine (awake9_any _).mono ?_
  rintro e w6 ⟨rfl, hb6⟩
  have hs6 := hb6.size
  have h36 : Below W3.heap.size W3 w6 := (HB4.out.trans (HB5.out.mono hs4)).trans (hb6.mono (by omega))
  obtain ⟨t0, t1, t2, t3, _, _, _, _⟩ := HBT.out.below h36 (by omega)
  obtain ⟨s0, s1, s2, s3, _, _, _, _⟩ := HBS.out.below h36 (by omega)
  obtain ⟨u0, u1, u2, u3, _, _, _, _⟩ := HBT'.out.below hb6 (by omega)
  obtain ⟨v0, v1, v2, v3, _, _, _, _⟩ := HBS'.out.below hb6 (by omega)
  have hW6 : Below W.heap.size W w6 := HB23.out.trans (h36.mono (by omega))
  have HW6 := Lib.hid hW6
  have hTT := (HT.out.below hW6).mono (by omega : W.heap.size ≤ w6.heap.size)
  have HT1 := Lib.hid (toks_told hTT HA1.out HR2.out)
  have HT2 := Lib.hid (toks_told hTT HA1'.out HR2.out)
  have hI6 := Lib.hid ((HI2.out.below (HB3.out.trans (h36.mono (by omega)))).mono (by omega : w2.heap.size ≤ w6.heap.size))
  have hI6' := Lib.hid ((HI2'.out.below (HB5.out.trans (hb6.mono (by omega)))).mono (by omega : w4.heap.size ≤ w6.heap.size))
  have hRl : R.2.1.toks.length ≤ 1000000 := by rcases HR2.out with h | h <;> rw [h] <;> first | omega | simp
  have he : (R.2.2 == R.2.2) = true := by simp
  clear h36 hW6 hTT hb6
  go_wp2_with fail
  refine (sameState_any A1 A1' A2 A2' R.2.1.toks R.2.1.opens m1 m1' c2 c2' R.2.1.pos R.2.1.wait _ hRl (by omega) HT1.out HT2.out hI6.out hI6'.out).mono ?_
  rintro e w7 ⟨rfl, hb7⟩
  go_wp2
  go_ret
  exact ⟨rfl, HB0.out.trans ((HW6.out.trans (hb7.mono (by omega))).mono (by omega))⟩

set_option maxHeartbeats 1000000 in
theorem layoutNexts_big1 (A0 A : Option Addr) (l : List Tok) (n0 n : Nat) (p wt : Int) (zs : List Int) (w : World) (hl : l.length * 40 ≤ 140737488351232) (hs : ¬ l.length ≤ 3000) :
    Calls Try.prog 9 #[.agg #[.slice A0 l.length n0, .int .i64 p, .slice A zs.length n, .int .i64 wt]] w fun e w' => e = .returned (.bool true) ∧ Below w.heap.size w w' := by
  obtain ⟨_, hb0, hs0⟩ := one_box w (.slice A0 l.length n0) (.int .i64 p) (.slice A zs.length n) (.int .i64 wt)
  have HB0 := Lib.hid hb0
  have HS0 := Lib.hid hs0
  have hd1 := Lib.hid (show decide (l.length ≤ 3000) = false by simpa using hs)
  clear hb0 hs0
  go_enter Try.func9, Try.ntmps9
  go_wp2_with fail
  refine (small_any A0 l.length n0 _ (by omega)).mono ?_
  rintro e w1 ⟨rfl, rfl⟩
  rw [hd1.out]
  go_wp2_with fail
  refine (awake9_any _).mono ?_
  rintro e w3 ⟨rfl, hb3⟩
  go_wp2
  go_ret
  exact ⟨rfl, HB0.out.trans (hb3.mono (by rw [HS0.out]; omega))⟩

set_option maxHeartbeats 1000000 in
theorem layoutNexts_big2 (A0 A : Option Addr) (l : List Tok) (n0 n : Nat) (p wt : Int) (zs : List Int) (w : World) (hl : l.length ≤ 3000) (hn : zs.length * 8 ≤ 140737488351232) (hs : ¬ zs.length ≤ 3000) :
    Calls Try.prog 9 #[.agg #[.slice A0 l.length n0, .int .i64 p, .slice A zs.length n, .int .i64 wt]] w fun e w' => e = .returned (.bool true) ∧ Below w.heap.size w w' := by
  obtain ⟨_, hb0, hs0⟩ := one_box w (.slice A0 l.length n0) (.int .i64 p) (.slice A zs.length n) (.int .i64 wt)
  have HB0 := Lib.hid hb0
  have HS0 := Lib.hid hs0
  have hd1 := Lib.hid (show decide (l.length ≤ 3000) = true by simpa using hl)
  have hd2 : decide ((3000 : Int) < zs.length) = true := by simp; omega
  clear hb0 hs0
  go_enter Try.func9, Try.ntmps9
  go_wp2_with fail
  refine (small_any A0 l.length n0 _ (by omega)).mono ?_
  rintro e w1 ⟨rfl, rfl⟩
  rw [hd1.out]
  go_wp2_with fail
  refine (awake9_any _).mono ?_
  rintro e w3 ⟨rfl, hb3⟩
  go_wp2
  go_ret
  exact ⟨rfl, HB0.out.trans (hb3.mono (by rw [HS0.out]; omega))⟩

theorem layoutNexts_any (A0 A : Option Addr) (l : List Tok) (n0 n : Nat) (p wt : Int) (zs : List Int) (w : World) (hl : l.length * 40 ≤ 140737488351232) (hn : zs.length * 8 ≤ 140737488351232) (hcap : zs.length ≤ n) (hc : A = none → n = 0) (ht : Toks w.heap.size w A0 l) (h : Ints w.heap.size w A zs) :
    Calls Try.prog 9 #[.agg #[.slice A0 l.length n0, .int .i64 p, .slice A zs.length n, .int .i64 wt]] w fun e w' => e = .returned (.bool true) ∧ Below w.heap.size w w' := by
  by_cases h1 : l.length ≤ 3000
  · by_cases h2 : zs.length ≤ 3000
    · exact layoutNexts_small A0 A l n0 n p wt zs w h1 h2 hcap hc ht h
    · exact layoutNexts_big2 A0 A l n0 n p wt zs w h1 hn h2
  · exact layoutNexts_big1 A0 A l n0 n p wt zs w hl h1

theorem close_len (l : List Tok) (p wt : Int) (zs : List Int) : (closeS ⟨l, p, zs, wt⟩).1.opens.length ≤ zs.length ∧ (closeS ⟨l, p, zs, wt⟩).1.toks = (if (closeS ⟨l, p, zs, wt⟩).2 then l else []) := by
  unfold closeS
  split
  · simp
  · simp [st0]

set_option maxRecDepth 100000 in
set_option maxHeartbeats 4000000 in
theorem layoutCloses_small (A0 A : Option Addr) (l : List Tok) (n0 n : Nat) (p wt : Int) (zs : List Int) (w : World) (hl : l.length ≤ 3000) (hn : zs.length ≤ 3000) (hcap : zs.length ≤ n) (_hc : A = none → n = 0) (ht : Toks w.heap.size w A0 l) (h : Ints w.heap.size w A zs) :
    Calls Try.prog 13 #[.agg #[.slice A0 l.length n0, .int .i64 p, .slice A zs.length n, .int .i64 wt]] w fun e w' => e = .returned (.bool true) ∧ Below w.heap.size w w' := by
  obtain ⟨bx, hb0, hs0⟩ := one_box w (.slice A0 l.length n0) (.int .i64 p) (.slice A zs.length n) (.int .i64 wt)
  have HT := Lib.hid ((ht.below hb0).mono hb0.size)
  have HI := Lib.hid ((h.below hb0).mono hb0.size)
  have BX := Lib.hid bx
  have HB0 := Lib.hid hb0
  have HS0 := Lib.hid hs0
  have hd1 := Lib.hid (show decide (l.length ≤ 3000) = true by simpa using hl)
  have hd2 : decide ((3000 : Int) < zs.length) = false := by simp; omega
  have hR := close_len l p wt zs
  obtain ⟨R, hRR⟩ : ∃ R, closeS ⟨l, p, zs, wt⟩ = R := ⟨_, rfl⟩
  rw [hRR] at hR
  obtain ⟨hR1, hR2⟩ := hR
  have HR := Lib.hid hRR
  obtain ⟨A1, hA1⟩ : ∃ A1, A1 = if R.2 then A0 else none := ⟨_, rfl⟩
  obtain ⟨m1, hm1⟩ : ∃ m1, m1 = if R.2 then n0 else 0 := ⟨_, rfl⟩
  have hsv : (if R.2 then Value.slice A0 l.length n0 else .slice none 0 0) = .slice A1 R.1.toks.length m1 := by
    rw [hR2, hA1, hm1]
    cases R.2 <;> rfl
  have htk : ∀ (n : Nat) (w : World), Toks n w A0 l → Toks n w A1 R.1.toks := by
    intro n w h
    rw [hR2, hA1]
    cases R.2
    · exact Toks.nil
    · exact h
  have hRl : R.1.toks.length ≤ 1000000 := by
    rw [hR2]
    cases R.2 <;> simp
    omega
  have HSV := Lib.hid hsv
  have HTK := Lib.hid htk
  clear ht h bx hb0 hs0 hRR hR2 hA1 hm1 hsv htk _hc
  go_enter Try.func13, Try.ntmps13
  go_wp2_with fail
  refine (small_any A0 l.length n0 _ (by omega)).mono ?_
  rintro e w1 ⟨rfl, rfl⟩
  rw [hd1.out]
  go_wp2_with fail
  obtain ⟨W, hW⟩ : ∃ W, w.alloc (.cells #[.slice A0 l.length n0, .int .i64 p, .slice A zs.length n, .int .i64 wt] 34) = W := ⟨_, rfl⟩
  have hT := HT.out
  have hI := HI.out
  have hbx := BX.out
  have hB0 := HB0.out
  have hS0 := HS0.out
  rw [hW] at hT hI hbx hB0 hS0 ⊢
  clear HT HI BX HB0 HS0 hW
  refine (close_lay A0 A l n0 n p wt zs _ (by omega) (by omega) hcap hT hI).mono ?_
  rw [HR.out]
  rintro e w2 ⟨A2, c2, rfl, hc2, hn2, hI2, hb2⟩
  rw [HSV.out]
  have HT := Lib.hid hT
  have HI := Lib.hid hI
  have HI2 := Lib.hid hI2
  have HB2 := Lib.hid hb2
  have hs2 := hb2.size
  have HB0 := Lib.hid hB0
  have hbx2 := hbx.below hb2 (by omega)
  clear hT hI hI2 hb2 hn2 hB0 hbx
  obtain ⟨x0, x1, x2, x3, _, _, _, _⟩ := id hbx2
  go_upto_region 4 with (fail)
  obtain ⟨bs, hb3, hs3⟩ := one_box w2 (.slice A1 R.1.toks.length m1) (.int .i64 R.1.pos) (.slice A2 R.1.opens.length c2) (.int .i64 R.1.wait)
  obtain ⟨W3, hW3⟩ : ∃ W3, w2.alloc (.cells #[.slice A1 R.1.toks.length m1, .int .i64 R.1.pos, .slice A2 R.1.opens.length c2, .int .i64 R.1.wait] 34) = W3 := ⟨_, rfl⟩
  rw [hW3] at bs hb3 hs3 ⊢
  clear hW3 x0 x1 x2 x3
  have hbx3 := hbx2.below hb3 (by omega)
  have HB3 := Lib.hid hb3
  have HBS := Lib.hid bs
  have hB23 := HB2.out.trans (hb3.mono hs2)
  have HB23 := Lib.hid hB23
  clear hb3 bs hbx2 hB23
  obtain ⟨x0, x1, x2, x3, _, _, _, _⟩ := hbx3
  go_wp2_with fail
  refine (rclose_lay A0 A l n0 n p wt zs _ (by omega) (by omega) hcap ((HT.out.below HB23.out).mono (by omega)) ((HI.out.below HB23.out).mono (by omega))).mono ?_
  rw [HR.out]
  rintro e w4 ⟨A2', c2', rfl, hc2', hn2', hI2', hb4⟩
  rw [HSV.out]
  have HI2' := Lib.hid hI2'
  have HB4 := Lib.hid hb4
  have hs4 := hb4.size
  clear hI2' hb4 hn2' x0 x1 x2 x3
  go_upto_region 5 with (fail)
  obtain ⟨bs, hb5, hs5⟩ := one_box w4 (.slice A1 R.1.toks.length m1) (.int .i64 R.1.pos) (.slice A2' R.1.opens.length c2') (.int .i64 R.1.wait)
  obtain ⟨W5, hW5⟩ : ∃ W5, w4.alloc (.cells #[.slice A1 R.1.toks.length m1, .int .i64 R.1.pos, .slice A2' R.1.opens.length c2', .int .i64 R.1.wait] 34) = W5 := ⟨_, rfl⟩
  rw [hW5] at bs hb5 hs5 ⊢
  clear hW5
  have HB5 := Lib.hid hb5
  have HBS' := Lib.hid bs
  clear hb5 bs
  go_wp2_with fail
  refine (awake9_any _).mono ?_
  rintro e w6 ⟨rfl, hb6⟩
  have hs6 := hb6.size
  have h36 : Below W3.heap.size W3 w6 := (HB4.out.trans (HB5.out.mono hs4)).trans (hb6.mono (by omega))
  obtain ⟨s0, s1, s2, s3, _, _, _, _⟩ := HBS.out.below h36 (by omega)
  obtain ⟨v0, v1, v2, v3, _, _, _, _⟩ := HBS'.out.below hb6 (by omega)
  have hW6 : Below W.heap.size W w6 := HB23.out.trans (h36.mono (by omega))
  have HW6 := Lib.hid hW6
  have HT1 := Lib.hid (HTK.out _ _ ((HT.out.below hW6).mono (by omega : W.heap.size ≤ w6.heap.size)))
  have hI6 := Lib.hid ((HI2.out.below (HB3.out.trans (h36.mono (by omega)))).mono (by omega : w2.heap.size ≤ w6.heap.size))
  have hI6' := Lib.hid ((HI2'.out.below (HB5.out.trans (hb6.mono (by omega)))).mono (by omega : w4.heap.size ≤ w6.heap.size))
  have he : (R.2 == R.2) = true := by simp
  clear h36 hW6 hb6
  go_wp2_with fail
  refine (sameState_any A1 A1 A2 A2' R.1.toks R.1.opens m1 m1 c2 c2' R.1.pos R.1.wait _ hRl (by omega) HT1.out HT1.out hI6.out hI6'.out).mono ?_
  rintro e w7 ⟨rfl, hb7⟩
  go_wp2
  go_ret
  exact ⟨rfl, HB0.out.trans ((HW6.out.trans (hb7.mono (by omega))).mono (by omega))⟩

set_option maxHeartbeats 1000000 in
theorem layoutCloses_big1 (A0 A : Option Addr) (l : List Tok) (n0 n : Nat) (p wt : Int) (zs : List Int) (w : World) (hl : l.length * 40 ≤ 140737488351232) (hs : ¬ l.length ≤ 3000) :
    Calls Try.prog 13 #[.agg #[.slice A0 l.length n0, .int .i64 p, .slice A zs.length n, .int .i64 wt]] w fun e w' => e = .returned (.bool true) ∧ Below w.heap.size w w' := by
  obtain ⟨_, hb0, hs0⟩ := one_box w (.slice A0 l.length n0) (.int .i64 p) (.slice A zs.length n) (.int .i64 wt)
  have HB0 := Lib.hid hb0
  have HS0 := Lib.hid hs0
  have hd1 := Lib.hid (show decide (l.length ≤ 3000) = false by simpa using hs)
  clear hb0 hs0
  go_enter Try.func13, Try.ntmps13
  go_wp2_with fail
  refine (small_any A0 l.length n0 _ (by omega)).mono ?_
  rintro e w1 ⟨rfl, rfl⟩
  rw [hd1.out]
  go_wp2_with fail
  refine (awake9_any _).mono ?_
  rintro e w3 ⟨rfl, hb3⟩
  go_wp2
  go_ret
  exact ⟨rfl, HB0.out.trans (hb3.mono (by rw [HS0.out]; omega))⟩

set_option maxHeartbeats 1000000 in
theorem layoutCloses_big2 (A0 A : Option Addr) (l : List Tok) (n0 n : Nat) (p wt : Int) (zs : List Int) (w : World) (hl : l.length ≤ 3000) (hn : zs.length * 8 ≤ 140737488351232) (hs : ¬ zs.length ≤ 3000) :
    Calls Try.prog 13 #[.agg #[.slice A0 l.length n0, .int .i64 p, .slice A zs.length n, .int .i64 wt]] w fun e w' => e = .returned (.bool true) ∧ Below w.heap.size w w' := by
  obtain ⟨_, hb0, hs0⟩ := one_box w (.slice A0 l.length n0) (.int .i64 p) (.slice A zs.length n) (.int .i64 wt)
  have HB0 := Lib.hid hb0
  have HS0 := Lib.hid hs0
  have hd1 := Lib.hid (show decide (l.length ≤ 3000) = true by simpa using hl)
  have hd2 : decide ((3000 : Int) < zs.length) = true := by simp; omega
  clear hb0 hs0
  go_enter Try.func13, Try.ntmps13
  go_wp2_with fail
  refine (small_any A0 l.length n0 _ (by omega)).mono ?_
  rintro e w1 ⟨rfl, rfl⟩
  rw [hd1.out]
  go_wp2_with fail
  refine (awake9_any _).mono ?_
  rintro e w3 ⟨rfl, hb3⟩
  go_wp2
  go_ret
  exact ⟨rfl, HB0.out.trans (hb3.mono (by rw [HS0.out]; omega))⟩

theorem layoutCloses_any (A0 A : Option Addr) (l : List Tok) (n0 n : Nat) (p wt : Int) (zs : List Int) (w : World) (hl : l.length * 40 ≤ 140737488351232) (hn : zs.length * 8 ≤ 140737488351232) (hcap : zs.length ≤ n) (hc : A = none → n = 0) (ht : Toks w.heap.size w A0 l) (h : Ints w.heap.size w A zs) :
    Calls Try.prog 13 #[.agg #[.slice A0 l.length n0, .int .i64 p, .slice A zs.length n, .int .i64 wt]] w fun e w' => e = .returned (.bool true) ∧ Below w.heap.size w w' := by
  by_cases h1 : l.length ≤ 3000
  · by_cases h2 : zs.length ≤ 3000
    · exact layoutCloses_small A0 A l n0 n p wt zs w h1 h2 hcap hc ht h
    · exact layoutCloses_big2 A0 A l n0 n p wt zs w h1 hn h2
  · exact layoutCloses_big1 A0 A l n0 n p wt zs w hl h1
end Go.Proofs.Ytnophjkiecalpaa
