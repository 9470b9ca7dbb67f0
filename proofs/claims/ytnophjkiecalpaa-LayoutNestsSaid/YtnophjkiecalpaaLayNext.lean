/- The next token of a state, told by the program. -/
import Derived.Test.YtnophjkiecalpaaLayBrace
import Derived.Deep.LoopGhost
namespace Go.Proofs.Ytnophjkiecalpaa
open Go.RowKit
attribute [local go_sem ↓] Go.wp_at_zero Go.wp_at_succ

/-- The three boxes of Next, in the midst of it: N is where they begin. -/
structure Trip (N : Nat) (W : World) (v0 v1 v2 v3 : Value) : Prop where
  x : Box4 W N v0 v1 v2 v3
  y : Box4 W (N + 1) (.int .i64 0) (.string ⟨#[]⟩) (.int .i64 0) (.int .i64 0)
  z : Box4 W (N + 1 + 1) (.slice none 0 0) (.int .i64 0) (.slice none 0 0) (.int .i64 0)
  size : N + 1 + 1 < W.heap.size
theorem Three.trip {w W : World} {v0 v1 v2 v3 : Value} (h : Three w W v0 v1 v2 v3) : Trip w.heap.size W v0 v1 v2 v3 := ⟨h.x, h.y, h.z, by rw [h.size]; omega⟩
theorem Trip.below {N : Nat} {W W' : World} {v0 v1 v2 v3 : Value} (h : Trip N W v0 v1 v2 v3) (hb : Below W.heap.size W W') : Trip N W' v0 v1 v2 v3 := by
  have hs := h.size
  exact ⟨h.x.below hb (by omega), h.y.below hb (by omega), h.z.below hb hs, Nat.lt_of_lt_of_le hs hb.size⟩
theorem Trip.alloc {N : Nat} {W : World} {v0 v1 v2 v3 : Value} (h : Trip N W v0 v1 v2 v3) (o : Obj) : Trip N (W.alloc o) v0 v1 v2 v3 := h.below ((Below.refl _ _).alloc (Nat.le_refl _) o)
theorem Trip.put {N : Nat} {W : World} {v0 v1 v2 v3 : Value} (h : Trip N W v0 v1 v2 v3) (u0 u1 u2 u3 : Value) : Trip N (put4 W N u0 u1 u2 u3) u0 u1 u2 u3 :=
  ⟨h.x.put _ _ _ _, h.y.put_other (by omega) _ _ _ _, h.z.put_other (by omega) _ _ _ _, by rw [put4_size]; exact h.size⟩
theorem Trip.put_other {N b : Nat} {W : World} {v0 v1 v2 v3 : Value} (h : Trip N W v0 v1 v2 v3) (hb : N + 1 + 1 < b) (u0 u1 u2 u3 : Value) : Trip N (put4 W b u0 u1 u2 u3) v0 v1 v2 v3 :=
  ⟨h.x.put_other (by omega) _ _ _ _, h.y.put_other (by omega) _ _ _ _, h.z.put_other (by omega) _ _ _ _, by rw [put4_size]; exact h.size⟩

/-- What Next tells: R. -/
def NextSaid (A0 A1 : Option Addr) (m n0 : Nat) (R : Tok × LSt × Int) (w : World) (e : Ending) (w' : World) : Prop :=
  ∃ A c, e = .returned (.tuple #[.agg #[.int .i64 R.1.kind, .string R.1.text, .int .i64 R.1.line, .int .i64 R.1.col], .agg #[.slice A0 m n0, .int .i64 R.2.1.pos, .slice A R.2.1.opens.length c, .int .i64 R.2.1.wait], .int .i64 R.2.2]) ∧
    R.2.1.opens.length ≤ c ∧ (A = none → c = 0) ∧ Ints w'.heap.size w' A R.2.1.opens ∧ (A = A1 ∨ ∀ a, A = some a → w.heap.size ≤ a.block ∧ a.block < w'.heap.size) ∧ Below w.heap.size w w'

theorem said_new {A0 A A1 : Option Addr} {m n0 c base : Nat} {R : Tok × LSt × Int} {w w' : World} {t : Tok} {p wt err : Int} {zs : List Int} {l : List Tok} (hR : R = (t, ⟨l, p, zs, wt⟩, err)) (hF : Fresh base w' (.slice A zs.length c) zs) (hb : Below w.heap.size w w') (hbase : w.heap.size ≤ base) :
    NextSaid A0 A1 m n0 R w (.returned (.tuple #[.agg #[.int .i64 t.kind, .string t.text, .int .i64 t.line, .int .i64 t.col], .agg #[.slice A0 m n0, .int .i64 p, .slice A zs.length c, .int .i64 wt], .int .i64 err])) w' := by
  subst hR
  obtain ⟨A', c', e, h1, h2, h3⟩ := hF.isInts
  simp only [Value.slice.injEq, true_and] at e
  obtain ⟨rfl, rfl⟩ := e
  refine ⟨A, c, rfl, h1, h2, h3, .inr fun a ha => ?_, hb⟩
  subst ha
  exact ⟨Nat.le_trans hbase (hF.lt a.block rfl).1, (hF.lt a.block rfl).2⟩
theorem said_same {A0 A : Option Addr} {m n0 c : Nat} {R : Tok × LSt × Int} {w w' : World} {t : Tok} {p wt err : Int} {zs : List Int} {l : List Tok} (hR : R = (t, ⟨l, p, zs, wt⟩, err)) (h1 : zs.length ≤ c) (h2 : A = none → c = 0) (hI : Ints w.heap.size w A zs) (hb : Below w.heap.size w w') :
    NextSaid A0 A m n0 R w (.returned (.tuple #[.agg #[.int .i64 t.kind, .string t.text, .int .i64 t.line, .int .i64 t.col], .agg #[.slice A0 m n0, .int .i64 p, .slice A zs.length c, .int .i64 wt], .int .i64 err])) w' := by
  subst hR
  exact ⟨A, c, rfl, h1, h2, (hI.below hb).mono hb.size, .inl rfl, hb⟩

theorem topOf_nonneg {l : List Tok} {p wt : Int} {zs : List Int} (h : LSt.may ⟨l, p, zs, wt⟩ = true) : 0 ≤ topOf zs := by
  unfold LSt.may at h
  simp only [Bool.and_eq_true] at h
  have h2 := h.2
  rw [List.all_eq_true] at h2
  rcases Nat.eq_zero_or_pos zs.length with e | e
  · rw [List.eq_nil_of_length_eq_zero e]; exact Int.le_refl _
  · exact of_decide_eq_true (h2 _ (List.mem_of_getElem? (topOf_at e)))
theorem trip2 {N : Nat} {w : World} {v0 v1 v2 v3 : Value} (h : Trip N w v0 v1 v2 v3) (u0 u1 u2 u3 s0 s1 s2 s3 : Value) :
    Trip N ((w.alloc (.cells #[u0, u1, u2, u3] 23)).alloc (.cells #[s0, s1, s2, s3] 34)) v0 v1 v2 v3 ∧ Box4 ((w.alloc (.cells #[u0, u1, u2, u3] 23)).alloc (.cells #[s0, s1, s2, s3] 34)) w.heap.size u0 u1 u2 u3 ∧
      Box4 ((w.alloc (.cells #[u0, u1, u2, u3] 23)).alloc (.cells #[s0, s1, s2, s3] 34)) (w.heap.size + 1) s0 s1 s2 s3 ∧ Below w.heap.size w ((w.alloc (.cells #[u0, u1, u2, u3] 23)).alloc (.cells #[s0, s1, s2, s3] 34)) :=
  ⟨(h.alloc _).alloc _, (Box4.new w u0 u1 u2 u3 23).alloc _ (by simp), by simpa using Box4.new (w.alloc (.cells #[u0, u1, u2, u3] 23)) s0 s1 s2 s3 34, ((Below.refl _ _).alloc (Nat.le_refl _) _).alloc (by simp) _⟩

set_option maxRecDepth 100000 in
set_option maxHeartbeats 16000000 in
theorem next_lay (A0 A : Option Addr) (l : List Tok) (n0 n k0 : Nat) (wt0 : Int) (zs : List Int) (w : World) (hl : l.length ≤ 999999) (hn : zs.length ≤ 1000000) (hcap : zs.length ≤ n) (hc : A = none → n = 0) (ht : Toks w.heap.size w A0 l) (h : Ints w.heap.size w A zs)
    (hmay : LSt.may ⟨l, k0, zs, wt0⟩ = true) (hk0 : k0 ≤ l.length) :
    Calls Try.prog 25 #[.agg #[.slice A0 l.length n0, .int .i64 k0, .slice A zs.length n, .int .i64 wt0]] w (NextSaid A0 A l.length n0 (nextF l zs (l.length - k0) k0 wt0) w) := by
  have h3 := Three.new w (.slice A0 l.length n0) (.int .i64 k0) (.slice A zs.length n) (.int .i64 wt0)
  have HT := Lib.hid ht
  have HI := Lib.hid h
  have H3 := Lib.hid h3
  have HC := Lib.hid hc
  have HM := Lib.hid hmay
  obtain ⟨R, hR⟩ : ∃ R, nextF l zs (l.length - k0) k0 wt0 = R := ⟨_, rfl⟩
  rw [hR]
  have HR := Lib.hid hR
  clear h3 ht h hc hmay hR
  go_enter Try.func25, Try.ntmps25
  go_wp2_with fail
  go_step3
  go_wp2_with fail
  obtain ⟨W, hW⟩ : ∃ W, ((w.alloc (.cells #[.slice A0 l.length n0, .int .i64 k0, .slice A zs.length n, .int .i64 wt0] 34)).alloc (.cells #[.int .i64 0, .string ⟨#[]⟩, .int .i64 0, .int .i64 0] 23)).alloc (.cells #[.slice none 0 0, .int .i64 0, .slice none 0 0, .int .i64 0] 34) = W := ⟨_, rfl⟩
  have h4 := H3.out
  rw [hW] at h4 ⊢
  clear H3 hW
  refine (may_any A0 A l n0 n k0 wt0 zs _ (by omega) hn ((HT.out.below h4.below).mono h4.below.size) ((HI.out.below h4.below).mono h4.below.size)).mono ?_
  rintro e w1 ⟨rfl, hb1⟩
  rw [HM.out]
  have hQ := Lib.hid (h4.trip.below hb1)
  have HB := Lib.hid (h4.below.trans (hb1.mono (by rw [h4.size]; omega)))
  clear h4 hb1
  go_wp2_with fail
  go_step3
  go_wp2_with fail
  have hw02 : 0 ≤ wt0 ∧ wt0 ≤ 2 := by have h := HM.out; simp [LSt.may] at h; omega
  have hnn : 0 ≤ topOf zs := topOf_nonneg HM.out
  clear HM
  go_loopg [5] (l.length - k0) (fun f _ wr => ∃ (k : Nat) (wt : Int), k + f = l.length ∧ 0 ≤ wt ∧ wt ≤ 2 ∧ Trip w.heap.size wr (.slice A0 l.length n0) (.int .i64 k) (.slice A zs.length n) (.int .i64 wt) ∧ Below w.heap.size w wr ∧ nextF l zs f k wt = R)
  case atStart => exact ⟨k0, wt0, by omega, hw02.1, hw02.2, hQ.out, HB.out, HR.out⟩
  case round =>
    obtain ⟨k, wt, hkf, hwt0, hwt2, hT, hBr, hRk⟩ := hrel
    clear hw02 hQ HB HR
    have HRK := Lib.hid hRk
    have HBR := Lib.hid hBr
    clear hRk
    have hQr := hT
    obtain ⟨⟨x0, x1, x2, x3, _, _, _, _⟩, _, _, hsl⟩ := hT
    have HQR := Lib.hid hQr
    clear hQr
    by_cases hlt : k < l.length
    · obtain ⟨f, rfl⟩ : ∃ f, gk = f + 1 := ⟨gk - 1, by omega⟩
      obtain ⟨b, o, rfl, hb, hcc⟩ := (HT.out.below hBr) k (tk l k) (tk_in hlt)
      obtain ⟨t0, t1, t2, t3⟩ := hcc
      clear hBr
      go_upto_region 5 with (fail)
      have hQ5 := Lib.hid (HQR.out.alloc (.cells #[.int .i64 (tk l k).kind, .string (tk l k).text, .int .i64 (tk l k).line, .int .i64 (tk l k).col] 23))
      have hT5 := Box4.new wr (.int .i64 (tk l k).kind) (.string (tk l k).text) (.int .i64 (tk l k).line) (.int .i64 (tk l k).col) 23
      have hB5 := Lib.hid (HBR.out.alloc (by omega) (.cells #[.int .i64 (tk l k).kind, .string (tk l k).text, .int .i64 (tk l k).line, .int .i64 (tk l k).col] 23))
      have hs5 : (wr.alloc (.cells #[.int .i64 (tk l k).kind, .string (tk l k).text, .int .i64 (tk l k).line, .int .i64 (tk l k).col] 23)).heap.size = wr.heap.size + 1 := by simp
      obtain ⟨W5, hW5⟩ : ∃ W5, wr.alloc (.cells #[.int .i64 (tk l k).kind, .string (tk l k).text, .int .i64 (tk l k).line, .int .i64 (tk l k).col] 23) = W5 := ⟨_, rfl⟩
      rw [hW5] at hQ5 hT5 hB5 hs5 ⊢
      clear hW5 HQR HBR x0 x1 x2 x3 t0 t1 t2 t3
      have HS5 := Lib.hid hs5
      have hs5' : wr.heap.size < W5.heap.size := by omega
      clear hs5
      have HI5 := Lib.hid ((HI.out.below hB5.out).mono (by omega : w.heap.size ≤ W5.heap.size))
      obtain ⟨⟨x0, x1, x2, x3, _, _, _, _⟩, _, _, _⟩ := id hQ5.out
      obtain ⟨t0, t1, t2, t3, _, _, _, _⟩ := id hT5
      cases e16 : ((tk l k).kind == 16) with
      | true =>
        have hk16 : ((tk l k).kind != 16) = false := by simp [bne, e16]
        by_cases hw0 : wt = 0
        · subst hw0
          by_cases htop : topOf zs < (tk l k).col
          · have hres : R = (markTok 18 (tk l k), ⟨l, (k : Int) + 1, zs ++ [(tk l k).col], 0⟩, 0) := by rw [← HRK.out]; simp [nextF, e16, htop]
            have HRES := Lib.hid hres
            clear hres HRK
            go_wp2_with fail
            refine (begin2_lay (tk l k) (some ⟨b, o, none⟩) A l.length n0 n k 0 zs _ (by omega) hn HC.out HI5.out rfl htop).mono ?_
            rintro e w6 ⟨v, hfr, rfl, hb6⟩
            obtain ⟨A', c', rfl⟩ := hfr.form
            have HF := Lib.hid hfr
            clear hfr
            have hQ6 := hQ5.out.below hb6
            have HB6 := Lib.hid (hB5.out.trans (hb6.mono (by omega)))
            have hs6 := hb6.size
            clear x0 x1 x2 x3 t0 t1 t2 t3 hb6
            go_upto_region 7 with (fail)
            obtain ⟨hQ7, hU7, hS7, hb7⟩ := trip2 hQ6 (.int .i64 18) (.string ⟨#[]⟩) (.int .i64 (tk l k).line) (.int .i64 (tk l k).col) (.slice (some ⟨b, o, none⟩) l.length n0) (.int .i64 ((k : Int) + 1)) (.slice A' (zs.length + 1) c') (.int .i64 0)
            have HB7 := Lib.hid (HB6.out.trans (hb7.mono (by omega)))
            have HF7 := Lib.hid (HF.out.below hb7)
            have hs7 := hb7.size
            obtain ⟨W7, hW7⟩ : ∃ W7, (w6.alloc (.cells #[.int .i64 18, .string ⟨#[]⟩, .int .i64 (tk l k).line, .int .i64 (tk l k).col] 23)).alloc (.cells #[.slice (some ⟨b, o, none⟩) l.length n0, .int .i64 ((k : Int) + 1), .slice A' (zs.length + 1) c', .int .i64 0] 34) = W7 := ⟨_, rfl⟩
            rw [hW7] at hQ7 hU7 hS7 HB7 hs7 HF7 ⊢
            clear hW7 hb7
            obtain ⟨_, ⟨y0, y1, y2, y3, g0, g1, g2, g3⟩, ⟨z0, z1, z2, z3, f0, f1, f2, f3⟩, _⟩ := hQ7
            obtain ⟨u0, u1, u2, u3, _, _, _, _⟩ := hU7
            obtain ⟨s0, s1, s2, s3, _, _, _, _⟩ := hS7
            go_region
            all_goals
              go_wp2
              exact bodyPost_ret (v := .tuple #[.agg #[.int .i64 18, .string ⟨#[]⟩, .int .i64 (tk l k).line, .int .i64 (tk l k).col], .agg #[.slice (some ⟨b, o, none⟩) l.length n0, .int .i64 ((k : Int) + 1), .slice A' (zs ++ [(tk l k).col]).length c', .int .i64 0], .int .i64 0]) (by simp [results, Try.results25, go_sem, y0, y1, y2, y3, z0, z1, z2, z3]) rfl
                (said_new HRES.out (Fresh.drew (put4_fresh (put4_fresh HF7.out (by omega) _ _ _ _) (by omega) _ _ _ _)) (put4_below (put4_below HB7.out (by omega) _ _ _ _) (by omega) _ _ _ _).drew (by omega))
          · have hres : R = (markTok 18 (tk l k), ⟨l, (k : Int), zs, 1⟩, 0) := by rw [← HRK.out]; simp [nextF, e16, htop]
            have HRES := Lib.hid hres
            clear hres HRK
            go_wp2_with fail
            refine (begin3_lay (tk l k) (some ⟨b, o, none⟩) A l.length n0 n k 0 zs _ hn HI5.out rfl (by omega)).mono ?_
            rintro e w6 ⟨rfl, hb6⟩
            have hQ6 := hQ5.out.below hb6
            have HB6 := Lib.hid (hB5.out.trans (hb6.mono (by omega)))
            have hs6 := hb6.size
            clear x0 x1 x2 x3 t0 t1 t2 t3 hb6
            go_upto_region 7 with (fail)
            obtain ⟨hQ7, hU7, hS7, hb7⟩ := trip2 hQ6 (.int .i64 18) (.string ⟨#[]⟩) (.int .i64 (tk l k).line) (.int .i64 (tk l k).col) (.slice (some ⟨b, o, none⟩) l.length n0) (.int .i64 (k : Int)) (.slice A zs.length n) (.int .i64 1)
            have HB7 := Lib.hid (HB6.out.trans (hb7.mono (by omega)))
            have hs7 := hb7.size
            obtain ⟨W7, hW7⟩ : ∃ W7, (w6.alloc (.cells #[.int .i64 18, .string ⟨#[]⟩, .int .i64 (tk l k).line, .int .i64 (tk l k).col] 23)).alloc (.cells #[.slice (some ⟨b, o, none⟩) l.length n0, .int .i64 (k : Int), .slice A zs.length n, .int .i64 1] 34) = W7 := ⟨_, rfl⟩
            rw [hW7] at hQ7 hU7 hS7 HB7 hs7 ⊢
            clear hW7 hb7
            obtain ⟨_, ⟨y0, y1, y2, y3, g0, g1, g2, g3⟩, ⟨z0, z1, z2, z3, f0, f1, f2, f3⟩, _⟩ := hQ7
            obtain ⟨u0, u1, u2, u3, _, _, _, _⟩ := hU7
            obtain ⟨s0, s1, s2, s3, _, _, _, _⟩ := hS7
            go_region
            all_goals
              go_wp2
              exact bodyPost_ret (v := .tuple #[.agg #[.int .i64 18, .string ⟨#[]⟩, .int .i64 (tk l k).line, .int .i64 (tk l k).col], .agg #[.slice (some ⟨b, o, none⟩) l.length n0, .int .i64 (k : Int), .slice A zs.length n, .int .i64 1], .int .i64 0]) (by simp [results, Try.results25, go_sem, y0, y1, y2, y3, z0, z1, z2, z3]) rfl
                (said_same HRES.out hcap HC.out HI.out (put4_below (put4_below HB7.out (by omega) _ _ _ _) (by omega) _ _ _ _).drew)
        · by_cases hw1 : wt = 1
          · subst hw1
            have hres : R = (markTok 20 (tk l k), ⟨l, (k : Int), zs, 2⟩, 0) := by rw [← HRK.out]; simp [nextF, e16]
            have HRES := Lib.hid hres
            clear hres HRK
            go_wp2_with fail
            refine (begin1_lay (tk l k) (some ⟨b, o, none⟩) A l.length n0 n k zs _).mono ?_
            rintro e w6 ⟨rfl, hb6⟩
            have hQ6 := hQ5.out.below hb6
            have HB6 := Lib.hid (hB5.out.trans (hb6.mono (by omega)))
            have hs6 := hb6.size
            clear x0 x1 x2 x3 t0 t1 t2 t3 hb6
            go_upto_region 7 with (fail)
            obtain ⟨hQ7, hU7, hS7, hb7⟩ := trip2 hQ6 (.int .i64 20) (.string ⟨#[]⟩) (.int .i64 (tk l k).line) (.int .i64 (tk l k).col) (.slice (some ⟨b, o, none⟩) l.length n0) (.int .i64 (k : Int)) (.slice A zs.length n) (.int .i64 2)
            have HB7 := Lib.hid (HB6.out.trans (hb7.mono (by omega)))
            have hs7 := hb7.size
            obtain ⟨W7, hW7⟩ : ∃ W7, (w6.alloc (.cells #[.int .i64 20, .string ⟨#[]⟩, .int .i64 (tk l k).line, .int .i64 (tk l k).col] 23)).alloc (.cells #[.slice (some ⟨b, o, none⟩) l.length n0, .int .i64 (k : Int), .slice A zs.length n, .int .i64 2] 34) = W7 := ⟨_, rfl⟩
            rw [hW7] at hQ7 hU7 hS7 HB7 hs7 ⊢
            clear hW7 hb7
            obtain ⟨_, ⟨y0, y1, y2, y3, g0, g1, g2, g3⟩, ⟨z0, z1, z2, z3, f0, f1, f2, f3⟩, _⟩ := hQ7
            obtain ⟨u0, u1, u2, u3, _, _, _, _⟩ := hU7
            obtain ⟨s0, s1, s2, s3, _, _, _, _⟩ := hS7
            go_region
            all_goals
              go_wp2
              exact bodyPost_ret (v := .tuple #[.agg #[.int .i64 20, .string ⟨#[]⟩, .int .i64 (tk l k).line, .int .i64 (tk l k).col], .agg #[.slice (some ⟨b, o, none⟩) l.length n0, .int .i64 (k : Int), .slice A zs.length n, .int .i64 2], .int .i64 0]) (by simp [results, Try.results25, go_sem, y0, y1, y2, y3, z0, z1, z2, z3]) rfl
                (said_same HRES.out hcap HC.out HI.out (put4_below (put4_below HB7.out (by omega) _ _ _ _) (by omega) _ _ _ _).drew)
          · have hw2 : wt = 2 := by omega
            subst hw2
            clear hw0 hw1
            by_cases hpos : 0 < topOf zs
            · by_cases hlt' : (tk l k).col < topOf zs
              · have hres : R = (markTok 20 (tk l k), ⟨l, (k : Int), zs.dropLast, 2⟩, 0) := by rw [← HRK.out]; simp [nextF, e16, hpos, hlt']
                have HRES := Lib.hid hres
                clear hres HRK
                go_upto_region 11 with (fail)
                obtain ⟨W8, hW8⟩ : ∃ W8, W5.alloc (.cells #[.int .i64 0, .string ⟨#[]⟩, .int .i64 0, .int .i64 0] 23) = W8 := ⟨_, rfl⟩
                have hQ8 := hQ5.out.alloc (.cells #[.int .i64 0, .string ⟨#[]⟩, .int .i64 0, .int .i64 0] 23)
                have hT8 := Box4.new W5 (.int .i64 0) (.string ⟨#[]⟩) (.int .i64 0) (.int .i64 0) 23
                have hb8 := (Below.refl W5.heap.size W5).alloc (Nat.le_refl _) (.cells #[.int .i64 0, .string ⟨#[]⟩, .int .i64 0, .int .i64 0] 23)
                have hs8 : (W5.alloc (.cells #[.int .i64 0, .string ⟨#[]⟩, .int .i64 0, .int .i64 0] 23)).heap.size = W5.heap.size + 1 := by simp
                have ht8 := hT5.alloc (.cells #[.int .i64 0, .string ⟨#[]⟩, .int .i64 0, .int .i64 0] 23) hs5'
                rw [hW8] at hQ8 hT8 hb8 hs8 ht8 ⊢
                clear hW8 x0 x1 x2 x3 t0 t1 t2 t3 hT5
                have HB8 := Lib.hid (hB5.out.trans (hb8.mono (by omega)))
                have HI8 := Lib.hid ((HI5.out.below hb8).mono hb8.size)
                have HS8 := Lib.hid hs8
                have hs8' : W5.heap.size < W8.heap.size := by omega
                clear hs8 hb8
                obtain ⟨⟨x0, x1, x2, x3, _, _, _, _⟩, _, _, _⟩ := id hQ8
                obtain ⟨t0, t1, t2, t3, _, _, _, _⟩ := id ht8
                have hsN := hQ5.out.size
                go_wp2_with fail
                refine (line1_lay (tk l k) (some ⟨b, o, none⟩) A l.length n0 n k 2 zs _ hn hcap HI8.out hpos hlt').mono ?_
                rintro e w6 ⟨v, hfr, rfl, hb6⟩
                obtain ⟨A', c', rfl⟩ := hfr.form
                have HF := Lib.hid hfr
                have hQ6 := hQ8.below hb6
                have hT6 := hT8.below hb6 (by omega)
                have HB6 := Lib.hid (HB8.out.trans (hb6.mono (by omega)))
                have hs6 := hb6.size
                clear x0 x1 x2 x3 t0 t1 t2 t3 hb6 hQ8 hT8 ht8 hfr
                obtain ⟨⟨x0, x1, x2, x3, e0, e1, e2, e3⟩, _, _, _⟩ := id hQ6
                obtain ⟨t0, t1, t2, t3, f0, f1, f2, f3⟩ := id hT6
                go_upto_region 13 with (fail)
                have hQ9 := (hQ6.put_other (b := W5.heap.size) (by omega) (.int .i64 20) (.string ⟨#[]⟩) (.int .i64 (tk l k).line) (.int .i64 (tk l k).col)).put (.slice (some ⟨b, o, none⟩) l.length n0) (.int .i64 (k : Int)) (.slice A' (zs.length - 1) c') (.int .i64 2)
                have hT9 := (hT6.put (.int .i64 20) (.string ⟨#[]⟩) (.int .i64 (tk l k).line) (.int .i64 (tk l k).col)).put_other (b' := w.heap.size) (by omega) (.slice (some ⟨b, o, none⟩) l.length n0) (.int .i64 (k : Int)) (.slice A' (zs.length - 1) c') (.int .i64 2)
                have HB9 := Lib.hid (put4_below (put4_below HB6.out (b := W5.heap.size) (by omega) (.int .i64 20) (.string ⟨#[]⟩) (.int .i64 (tk l k).line) (.int .i64 (tk l k).col)) (b := w.heap.size) (by omega) (.slice (some ⟨b, o, none⟩) l.length n0) (.int .i64 (k : Int)) (.slice A' (zs.length - 1) c') (.int .i64 2))
                have HF9 := Lib.hid (put4_fresh (put4_fresh HF.out (b := W5.heap.size) (by omega) (.int .i64 20) (.string ⟨#[]⟩) (.int .i64 (tk l k).line) (.int .i64 (tk l k).col)) (b := w.heap.size) (by omega) (.slice (some ⟨b, o, none⟩) l.length n0) (.int .i64 (k : Int)) (.slice A' (zs.length - 1) c') (.int .i64 2))
                clear x0 x1 x2 x3 e0 e1 e2 e3 t0 t1 t2 t3 f0 f1 f2 f3 hQ6 hT6 HB6 HF
                obtain ⟨W9, hW9⟩ : ∃ W9, put4 (put4 w6 W5.heap.size (.int .i64 20) (.string ⟨#[]⟩) (.int .i64 (tk l k).line) (.int .i64 (tk l k).col)) w.heap.size (.slice (some ⟨b, o, none⟩) l.length n0) (.int .i64 (k : Int)) (.slice A' (zs.length - 1) c') (.int .i64 2) = W9 := ⟨_, rfl⟩
                rw [hW9] at hQ9 hT9 HB9 HF9
                unfold put4 at hW9
                rw [hW9]
                clear hW9
                have hs9 := hQ9.size
                obtain ⟨⟨s0, s1, s2, s3, _, _, _, _⟩, ⟨y0, y1, y2, y3, g0, g1, g2, g3⟩, ⟨z0, z1, z2, z3, f0, f1, f2, f3⟩, _⟩ := hQ9
                obtain ⟨u0, u1, u2, u3, _, _, _, _⟩ := hT9
                go_region
                all_goals
                  go_wp2
                  exact bodyPost_ret (v := .tuple #[.agg #[.int .i64 20, .string ⟨#[]⟩, .int .i64 (tk l k).line, .int .i64 (tk l k).col], .agg #[.slice (some ⟨b, o, none⟩) l.length n0, .int .i64 (k : Int), .slice A' zs.dropLast.length c', .int .i64 2], .int .i64 0]) (by simp [results, Try.results25, go_sem, y0, y1, y2, y3, z0, z1, z2, z3]) rfl
                    (said_new HRES.out (Fresh.drew (put4_fresh (put4_fresh HF9.out (by omega) _ _ _ _) (by omega) _ _ _ _)) (put4_below (put4_below HB9.out (by omega) _ _ _ _) (by omega) _ _ _ _).drew (by omega))
              · cases heq : ((tk l k).col == topOf zs) with
                | true =>
                  have hres : R = (markTok 19 (tk l k), ⟨l, (k : Int) + 1, zs, 0⟩, 0) := by rw [← HRK.out]; simp [nextF, e16, hpos, beq_iff_eq.1 heq]
                  have HRES := Lib.hid hres
                  clear hres HRK
                  go_upto_region 11 with (fail)
                  obtain ⟨W8, hW8⟩ : ∃ W8, W5.alloc (.cells #[.int .i64 0, .string ⟨#[]⟩, .int .i64 0, .int .i64 0] 23) = W8 := ⟨_, rfl⟩
                  have hQ8 := hQ5.out.alloc (.cells #[.int .i64 0, .string ⟨#[]⟩, .int .i64 0, .int .i64 0] 23)
                  have hT8 := Box4.new W5 (.int .i64 0) (.string ⟨#[]⟩) (.int .i64 0) (.int .i64 0) 23
                  have hb8 := (Below.refl W5.heap.size W5).alloc (Nat.le_refl _) (.cells #[.int .i64 0, .string ⟨#[]⟩, .int .i64 0, .int .i64 0] 23)
                  have hs8 : (W5.alloc (.cells #[.int .i64 0, .string ⟨#[]⟩, .int .i64 0, .int .i64 0] 23)).heap.size = W5.heap.size + 1 := by simp
                  have ht8 := hT5.alloc (.cells #[.int .i64 0, .string ⟨#[]⟩, .int .i64 0, .int .i64 0] 23) hs5'
                  rw [hW8] at hQ8 hT8 hb8 hs8 ht8 ⊢
                  clear hW8 x0 x1 x2 x3 t0 t1 t2 t3 hT5
                  have HB8 := Lib.hid (hB5.out.trans (hb8.mono (by omega)))
                  have HI8 := Lib.hid ((HI5.out.below hb8).mono hb8.size)
                  have HS8 := Lib.hid hs8
                  have hs8' : W5.heap.size < W8.heap.size := by omega
                  clear hs8 hb8
                  obtain ⟨⟨x0, x1, x2, x3, _, _, _, _⟩, _, _, _⟩ := id hQ8
                  obtain ⟨t0, t1, t2, t3, _, _, _, _⟩ := id ht8
                  have hsN := hQ5.out.size
                  go_wp2_with fail
                  refine (line2_lay (tk l k) (some ⟨b, o, none⟩) A l.length n0 n k 2 zs _ (by omega) hn HI8.out hpos (by omega) heq).mono ?_
                  rintro e w6 ⟨rfl, hb6⟩
                  have hQ6 := hQ8.below hb6
                  have hT6 := hT8.below hb6 (by omega)
                  have HB6 := Lib.hid (HB8.out.trans (hb6.mono (by omega)))
                  have hs6 := hb6.size
                  clear x0 x1 x2 x3 t0 t1 t2 t3 hb6 hQ8 hT8 ht8 
                  obtain ⟨⟨x0, x1, x2, x3, e0, e1, e2, e3⟩, _, _, _⟩ := id hQ6
                  obtain ⟨t0, t1, t2, t3, f0, f1, f2, f3⟩ := id hT6
                  go_upto_region 13 with (fail)
                  have hQ9 := (hQ6.put_other (b := W5.heap.size) (by omega) (.int .i64 19) (.string ⟨#[]⟩) (.int .i64 (tk l k).line) (.int .i64 (tk l k).col)).put (.slice (some ⟨b, o, none⟩) l.length n0) (.int .i64 ((k : Int) + 1)) (.slice A zs.length n) (.int .i64 0)
                  have hT9 := (hT6.put (.int .i64 19) (.string ⟨#[]⟩) (.int .i64 (tk l k).line) (.int .i64 (tk l k).col)).put_other (b' := w.heap.size) (by omega) (.slice (some ⟨b, o, none⟩) l.length n0) (.int .i64 ((k : Int) + 1)) (.slice A zs.length n) (.int .i64 0)
                  have HB9 := Lib.hid (put4_below (put4_below HB6.out (b := W5.heap.size) (by omega) (.int .i64 19) (.string ⟨#[]⟩) (.int .i64 (tk l k).line) (.int .i64 (tk l k).col)) (b := w.heap.size) (by omega) (.slice (some ⟨b, o, none⟩) l.length n0) (.int .i64 ((k : Int) + 1)) (.slice A zs.length n) (.int .i64 0))
                  clear x0 x1 x2 x3 e0 e1 e2 e3 t0 t1 t2 t3 f0 f1 f2 f3 hQ6 hT6 HB6 
                  obtain ⟨W9, hW9⟩ : ∃ W9, put4 (put4 w6 W5.heap.size (.int .i64 19) (.string ⟨#[]⟩) (.int .i64 (tk l k).line) (.int .i64 (tk l k).col)) w.heap.size (.slice (some ⟨b, o, none⟩) l.length n0) (.int .i64 ((k : Int) + 1)) (.slice A zs.length n) (.int .i64 0) = W9 := ⟨_, rfl⟩
                  rw [hW9] at hQ9 hT9 HB9 
                  unfold put4 at hW9
                  rw [hW9]
                  clear hW9
                  have hs9 := hQ9.size
                  obtain ⟨⟨s0, s1, s2, s3, _, _, _, _⟩, ⟨y0, y1, y2, y3, g0, g1, g2, g3⟩, ⟨z0, z1, z2, z3, f0, f1, f2, f3⟩, _⟩ := hQ9
                  obtain ⟨u0, u1, u2, u3, _, _, _, _⟩ := hT9
                  go_region
                  all_goals
                    go_wp2
                    exact bodyPost_ret (v := .tuple #[.agg #[.int .i64 19, .string ⟨#[]⟩, .int .i64 (tk l k).line, .int .i64 (tk l k).col], .agg #[.slice (some ⟨b, o, none⟩) l.length n0, .int .i64 ((k : Int) + 1), .slice A zs.length n, .int .i64 0], .int .i64 0]) (by simp [results, Try.results25, go_sem, y0, y1, y2, y3, z0, z1, z2, z3]) rfl
                      (said_same HRES.out hcap HC.out HI.out (put4_below (put4_below HB9.out (by omega) _ _ _ _) (by omega) _ _ _ _).drew)
                | false =>
                  have hnx : nextF l zs f (k + 1) 0 = R := by rw [← HRK.out]; simp [nextF, e16, hpos, hlt', beq_eq_false_iff_ne.1 heq]
                  have HNX := Lib.hid hnx
                  clear hnx HRK
                  go_upto_region 11 with (fail)
                  obtain ⟨W8, hW8⟩ : ∃ W8, W5.alloc (.cells #[.int .i64 0, .string ⟨#[]⟩, .int .i64 0, .int .i64 0] 23) = W8 := ⟨_, rfl⟩
                  have hQ8 := hQ5.out.alloc (.cells #[.int .i64 0, .string ⟨#[]⟩, .int .i64 0, .int .i64 0] 23)
                  have hT8 := Box4.new W5 (.int .i64 0) (.string ⟨#[]⟩) (.int .i64 0) (.int .i64 0) 23
                  have hb8 := (Below.refl W5.heap.size W5).alloc (Nat.le_refl _) (.cells #[.int .i64 0, .string ⟨#[]⟩, .int .i64 0, .int .i64 0] 23)
                  have hs8 : (W5.alloc (.cells #[.int .i64 0, .string ⟨#[]⟩, .int .i64 0, .int .i64 0] 23)).heap.size = W5.heap.size + 1 := by simp
                  have ht8 := hT5.alloc (.cells #[.int .i64 0, .string ⟨#[]⟩, .int .i64 0, .int .i64 0] 23) hs5'
                  rw [hW8] at hQ8 hT8 hb8 hs8 ht8 ⊢
                  clear hW8 x0 x1 x2 x3 t0 t1 t2 t3 hT5
                  have HB8 := Lib.hid (hB5.out.trans (hb8.mono (by omega)))
                  have HI8 := Lib.hid ((HI5.out.below hb8).mono hb8.size)
                  have HS8 := Lib.hid hs8
                  have hs8' : W5.heap.size < W8.heap.size := by omega
                  clear hs8 hb8
                  obtain ⟨⟨x0, x1, x2, x3, _, _, _, _⟩, _, _, _⟩ := id hQ8
                  obtain ⟨t0, t1, t2, t3, _, _, _, _⟩ := id ht8
                  have hsN := hQ5.out.size
                  go_wp2_with fail
                  refine (line3_lay (tk l k) (some ⟨b, o, none⟩) A l.length n0 n k 2 zs _ (by omega) hn HI8.out hpos (by omega) heq).mono ?_
                  rintro e w6 ⟨rfl, hb6⟩
                  have hQ6 := hQ8.below hb6
                  have hT6 := hT8.below hb6 (by omega)
                  have HB6 := Lib.hid (HB8.out.trans (hb6.mono (by omega)))
                  have hs6 := hb6.size
                  clear x0 x1 x2 x3 t0 t1 t2 t3 hb6 hQ8 hT8 ht8 
                  obtain ⟨⟨x0, x1, x2, x3, e0, e1, e2, e3⟩, _, _, _⟩ := id hQ6
                  obtain ⟨t0, t1, t2, t3, f0, f1, f2, f3⟩ := id hT6
                  go_wp2_with fail
                  have hQ9 := (hQ6.put_other (b := W5.heap.size) (by omega) (.int .i64 0) (.string ⟨#[]⟩) (.int .i64 0) (.int .i64 0)).put (.slice (some ⟨b, o, none⟩) l.length n0) (.int .i64 ((k : Int) + 1)) (.slice A zs.length n) (.int .i64 0)
                  have hT9 := (hT6.put (.int .i64 0) (.string ⟨#[]⟩) (.int .i64 0) (.int .i64 0)).put_other (b' := w.heap.size) (by omega) (.slice (some ⟨b, o, none⟩) l.length n0) (.int .i64 ((k : Int) + 1)) (.slice A zs.length n) (.int .i64 0)
                  have HB9 := Lib.hid (put4_below (put4_below HB6.out (b := W5.heap.size) (by omega) (.int .i64 0) (.string ⟨#[]⟩) (.int .i64 0) (.int .i64 0)) (b := w.heap.size) (by omega) (.slice (some ⟨b, o, none⟩) l.length n0) (.int .i64 ((k : Int) + 1)) (.slice A zs.length n) (.int .i64 0))
                  clear x0 x1 x2 x3 e0 e1 e2 e3 t0 t1 t2 t3 f0 f1 f2 f3 hQ6 hT6 HB6 
                  obtain ⟨W9, hW9⟩ : ∃ W9, put4 (put4 w6 W5.heap.size (.int .i64 0) (.string ⟨#[]⟩) (.int .i64 0) (.int .i64 0)) w.heap.size (.slice (some ⟨b, o, none⟩) l.length n0) (.int .i64 ((k : Int) + 1)) (.slice A zs.length n) (.int .i64 0) = W9 := ⟨_, rfl⟩
                  rw [hW9] at hQ9 hT9 HB9 
                  unfold put4 at hW9
                  rw [hW9]
                  clear hW9
                  go_roundg f
                  case measure => omega
                  case rel => exact ⟨k + 1, 0, by omega, by omega, by omega, hQ9, HB9.out, HNX.out⟩
            · have hnx : nextF l zs f (k + 1) 0 = R := by rw [← HRK.out]; simp [nextF, e16, hpos]
              have HNX := Lib.hid hnx
              clear hnx HRK
              go_upto_region 11 with (fail)
              obtain ⟨W8, hW8⟩ : ∃ W8, W5.alloc (.cells #[.int .i64 0, .string ⟨#[]⟩, .int .i64 0, .int .i64 0] 23) = W8 := ⟨_, rfl⟩
              have hQ8 := hQ5.out.alloc (.cells #[.int .i64 0, .string ⟨#[]⟩, .int .i64 0, .int .i64 0] 23)
              have hT8 := Box4.new W5 (.int .i64 0) (.string ⟨#[]⟩) (.int .i64 0) (.int .i64 0) 23
              have hb8 := (Below.refl W5.heap.size W5).alloc (Nat.le_refl _) (.cells #[.int .i64 0, .string ⟨#[]⟩, .int .i64 0, .int .i64 0] 23)
              have hs8 : (W5.alloc (.cells #[.int .i64 0, .string ⟨#[]⟩, .int .i64 0, .int .i64 0] 23)).heap.size = W5.heap.size + 1 := by simp
              have ht8 := hT5.alloc (.cells #[.int .i64 0, .string ⟨#[]⟩, .int .i64 0, .int .i64 0] 23) hs5'
              rw [hW8] at hQ8 hT8 hb8 hs8 ht8 ⊢
              clear hW8 x0 x1 x2 x3 t0 t1 t2 t3 hT5
              have HB8 := Lib.hid (hB5.out.trans (hb8.mono (by omega)))
              have HI8 := Lib.hid ((HI5.out.below hb8).mono hb8.size)
              have HS8 := Lib.hid hs8
              have hs8' : W5.heap.size < W8.heap.size := by omega
              clear hs8 hb8
              obtain ⟨⟨x0, x1, x2, x3, _, _, _, _⟩, _, _, _⟩ := id hQ8
              obtain ⟨t0, t1, t2, t3, _, _, _, _⟩ := id ht8
              have hsN := hQ5.out.size
              go_wp2_with fail
              refine (line4_lay (tk l k) (some ⟨b, o, none⟩) A l.length n0 n k 2 zs _ (by omega) hn HI8.out (by omega)).mono ?_
              rintro e w6 ⟨rfl, hb6⟩
              have hQ6 := hQ8.below hb6
              have hT6 := hT8.below hb6 (by omega)
              have HB6 := Lib.hid (HB8.out.trans (hb6.mono (by omega)))
              have hs6 := hb6.size
              clear x0 x1 x2 x3 t0 t1 t2 t3 hb6 hQ8 hT8 ht8 
              obtain ⟨⟨x0, x1, x2, x3, e0, e1, e2, e3⟩, _, _, _⟩ := id hQ6
              obtain ⟨t0, t1, t2, t3, f0, f1, f2, f3⟩ := id hT6
              go_wp2_with fail
              have hQ9 := (hQ6.put_other (b := W5.heap.size) (by omega) (.int .i64 0) (.string ⟨#[]⟩) (.int .i64 0) (.int .i64 0)).put (.slice (some ⟨b, o, none⟩) l.length n0) (.int .i64 ((k : Int) + 1)) (.slice A zs.length n) (.int .i64 0)
              have hT9 := (hT6.put (.int .i64 0) (.string ⟨#[]⟩) (.int .i64 0) (.int .i64 0)).put_other (b' := w.heap.size) (by omega) (.slice (some ⟨b, o, none⟩) l.length n0) (.int .i64 ((k : Int) + 1)) (.slice A zs.length n) (.int .i64 0)
              have HB9 := Lib.hid (put4_below (put4_below HB6.out (b := W5.heap.size) (by omega) (.int .i64 0) (.string ⟨#[]⟩) (.int .i64 0) (.int .i64 0)) (b := w.heap.size) (by omega) (.slice (some ⟨b, o, none⟩) l.length n0) (.int .i64 ((k : Int) + 1)) (.slice A zs.length n) (.int .i64 0))
              clear x0 x1 x2 x3 e0 e1 e2 e3 t0 t1 t2 t3 f0 f1 f2 f3 hQ6 hT6 HB6 
              obtain ⟨W9, hW9⟩ : ∃ W9, put4 (put4 w6 W5.heap.size (.int .i64 0) (.string ⟨#[]⟩) (.int .i64 0) (.int .i64 0)) w.heap.size (.slice (some ⟨b, o, none⟩) l.length n0) (.int .i64 ((k : Int) + 1)) (.slice A zs.length n) (.int .i64 0) = W9 := ⟨_, rfl⟩
              rw [hW9] at hQ9 hT9 HB9 
              unfold put4 at hW9
              rw [hW9]
              clear hW9
              go_roundg f
              case measure => omega
              case rel => exact ⟨k + 1, 0, by omega, by omega, by omega, hQ9, HB9.out, HNX.out⟩
      | false =>
        cases e17 : ((tk l k).kind == 17) with
        | true =>
          by_cases hpos : 0 < topOf zs
          · by_cases hlt' : (tk l k).col < topOf zs
            · have hres : R = (markTok 20 (tk l k), ⟨l, (k : Int), zs.dropLast, wt⟩, 0) := by rw [← HRK.out]; simp [nextF, e16, e17, hpos, hlt']
              have HRES := Lib.hid hres
              clear hres HRK
              go_upto_region 11 with (fail)
              obtain ⟨W8, hW8⟩ : ∃ W8, W5.alloc (.cells #[.int .i64 0, .string ⟨#[]⟩, .int .i64 0, .int .i64 0] 23) = W8 := ⟨_, rfl⟩
              have hQ8 := hQ5.out.alloc (.cells #[.int .i64 0, .string ⟨#[]⟩, .int .i64 0, .int .i64 0] 23)
              have hT8 := Box4.new W5 (.int .i64 0) (.string ⟨#[]⟩) (.int .i64 0) (.int .i64 0) 23
              have hb8 := (Below.refl W5.heap.size W5).alloc (Nat.le_refl _) (.cells #[.int .i64 0, .string ⟨#[]⟩, .int .i64 0, .int .i64 0] 23)
              have hs8 : (W5.alloc (.cells #[.int .i64 0, .string ⟨#[]⟩, .int .i64 0, .int .i64 0] 23)).heap.size = W5.heap.size + 1 := by simp
              have ht8 := hT5.alloc (.cells #[.int .i64 0, .string ⟨#[]⟩, .int .i64 0, .int .i64 0] 23) hs5'
              rw [hW8] at hQ8 hT8 hb8 hs8 ht8 ⊢
              clear hW8 x0 x1 x2 x3 t0 t1 t2 t3 hT5
              have HB8 := Lib.hid (hB5.out.trans (hb8.mono (by omega)))
              have HI8 := Lib.hid ((HI5.out.below hb8).mono hb8.size)
              have HS8 := Lib.hid hs8
              have hs8' : W5.heap.size < W8.heap.size := by omega
              clear hs8 hb8
              obtain ⟨⟨x0, x1, x2, x3, _, _, _, _⟩, _, _, _⟩ := id hQ8
              obtain ⟨t0, t1, t2, t3, _, _, _, _⟩ := id ht8
              have hsN := hQ5.out.size
              go_wp2_with fail
              refine (line1_lay (tk l k) (some ⟨b, o, none⟩) A l.length n0 n k wt zs _ hn hcap HI8.out hpos hlt').mono ?_
              rintro e w6 ⟨v, hfr, rfl, hb6⟩
              obtain ⟨A', c', rfl⟩ := hfr.form
              have HF := Lib.hid hfr
              have hQ6 := hQ8.below hb6
              have hT6 := hT8.below hb6 (by omega)
              have HB6 := Lib.hid (HB8.out.trans (hb6.mono (by omega)))
              have hs6 := hb6.size
              clear x0 x1 x2 x3 t0 t1 t2 t3 hb6 hQ8 hT8 ht8 hfr
              obtain ⟨⟨x0, x1, x2, x3, e0, e1, e2, e3⟩, _, _, _⟩ := id hQ6
              obtain ⟨t0, t1, t2, t3, f0, f1, f2, f3⟩ := id hT6
              go_upto_region 13 with (fail)
              have hQ9 := (hQ6.put_other (b := W5.heap.size) (by omega) (.int .i64 20) (.string ⟨#[]⟩) (.int .i64 (tk l k).line) (.int .i64 (tk l k).col)).put (.slice (some ⟨b, o, none⟩) l.length n0) (.int .i64 (k : Int)) (.slice A' (zs.length - 1) c') (.int .i64 wt)
              have hT9 := (hT6.put (.int .i64 20) (.string ⟨#[]⟩) (.int .i64 (tk l k).line) (.int .i64 (tk l k).col)).put_other (b' := w.heap.size) (by omega) (.slice (some ⟨b, o, none⟩) l.length n0) (.int .i64 (k : Int)) (.slice A' (zs.length - 1) c') (.int .i64 wt)
              have HB9 := Lib.hid (put4_below (put4_below HB6.out (b := W5.heap.size) (by omega) (.int .i64 20) (.string ⟨#[]⟩) (.int .i64 (tk l k).line) (.int .i64 (tk l k).col)) (b := w.heap.size) (by omega) (.slice (some ⟨b, o, none⟩) l.length n0) (.int .i64 (k : Int)) (.slice A' (zs.length - 1) c') (.int .i64 wt))
              have HF9 := Lib.hid (put4_fresh (put4_fresh HF.out (b := W5.heap.size) (by omega) (.int .i64 20) (.string ⟨#[]⟩) (.int .i64 (tk l k).line) (.int .i64 (tk l k).col)) (b := w.heap.size) (by omega) (.slice (some ⟨b, o, none⟩) l.length n0) (.int .i64 (k : Int)) (.slice A' (zs.length - 1) c') (.int .i64 wt))
              clear x0 x1 x2 x3 e0 e1 e2 e3 t0 t1 t2 t3 f0 f1 f2 f3 hQ6 hT6 HB6 HF
              obtain ⟨W9, hW9⟩ : ∃ W9, put4 (put4 w6 W5.heap.size (.int .i64 20) (.string ⟨#[]⟩) (.int .i64 (tk l k).line) (.int .i64 (tk l k).col)) w.heap.size (.slice (some ⟨b, o, none⟩) l.length n0) (.int .i64 (k : Int)) (.slice A' (zs.length - 1) c') (.int .i64 wt) = W9 := ⟨_, rfl⟩
              rw [hW9] at hQ9 hT9 HB9 HF9
              unfold put4 at hW9
              rw [hW9]
              clear hW9
              have hs9 := hQ9.size
              obtain ⟨⟨s0, s1, s2, s3, _, _, _, _⟩, ⟨y0, y1, y2, y3, g0, g1, g2, g3⟩, ⟨z0, z1, z2, z3, f0, f1, f2, f3⟩, _⟩ := hQ9
              obtain ⟨u0, u1, u2, u3, _, _, _, _⟩ := hT9
              go_region
              all_goals
                go_wp2
                exact bodyPost_ret (v := .tuple #[.agg #[.int .i64 20, .string ⟨#[]⟩, .int .i64 (tk l k).line, .int .i64 (tk l k).col], .agg #[.slice (some ⟨b, o, none⟩) l.length n0, .int .i64 (k : Int), .slice A' zs.dropLast.length c', .int .i64 wt], .int .i64 0]) (by simp [results, Try.results25, go_sem, y0, y1, y2, y3, z0, z1, z2, z3]) rfl
                  (said_new HRES.out (Fresh.drew (put4_fresh (put4_fresh HF9.out (by omega) _ _ _ _) (by omega) _ _ _ _)) (put4_below (put4_below HB9.out (by omega) _ _ _ _) (by omega) _ _ _ _).drew (by omega))
            · cases heq : ((tk l k).col == topOf zs) with
              | true =>
                have hres : R = (markTok 19 (tk l k), ⟨l, (k : Int) + 1, zs, 0⟩, 0) := by rw [← HRK.out]; simp [nextF, e16, e17, hpos, beq_iff_eq.1 heq]
                have HRES := Lib.hid hres
                clear hres HRK
                go_upto_region 11 with (fail)
                obtain ⟨W8, hW8⟩ : ∃ W8, W5.alloc (.cells #[.int .i64 0, .string ⟨#[]⟩, .int .i64 0, .int .i64 0] 23) = W8 := ⟨_, rfl⟩
                have hQ8 := hQ5.out.alloc (.cells #[.int .i64 0, .string ⟨#[]⟩, .int .i64 0, .int .i64 0] 23)
                have hT8 := Box4.new W5 (.int .i64 0) (.string ⟨#[]⟩) (.int .i64 0) (.int .i64 0) 23
                have hb8 := (Below.refl W5.heap.size W5).alloc (Nat.le_refl _) (.cells #[.int .i64 0, .string ⟨#[]⟩, .int .i64 0, .int .i64 0] 23)
                have hs8 : (W5.alloc (.cells #[.int .i64 0, .string ⟨#[]⟩, .int .i64 0, .int .i64 0] 23)).heap.size = W5.heap.size + 1 := by simp
                have ht8 := hT5.alloc (.cells #[.int .i64 0, .string ⟨#[]⟩, .int .i64 0, .int .i64 0] 23) hs5'
                rw [hW8] at hQ8 hT8 hb8 hs8 ht8 ⊢
                clear hW8 x0 x1 x2 x3 t0 t1 t2 t3 hT5
                have HB8 := Lib.hid (hB5.out.trans (hb8.mono (by omega)))
                have HI8 := Lib.hid ((HI5.out.below hb8).mono hb8.size)
                have HS8 := Lib.hid hs8
                have hs8' : W5.heap.size < W8.heap.size := by omega
                clear hs8 hb8
                obtain ⟨⟨x0, x1, x2, x3, _, _, _, _⟩, _, _, _⟩ := id hQ8
                obtain ⟨t0, t1, t2, t3, _, _, _, _⟩ := id ht8
                have hsN := hQ5.out.size
                go_wp2_with fail
                refine (line2_lay (tk l k) (some ⟨b, o, none⟩) A l.length n0 n k wt zs _ (by omega) hn HI8.out hpos (by omega) heq).mono ?_
                rintro e w6 ⟨rfl, hb6⟩
                have hQ6 := hQ8.below hb6
                have hT6 := hT8.below hb6 (by omega)
                have HB6 := Lib.hid (HB8.out.trans (hb6.mono (by omega)))
                have hs6 := hb6.size
                clear x0 x1 x2 x3 t0 t1 t2 t3 hb6 hQ8 hT8 ht8 
                obtain ⟨⟨x0, x1, x2, x3, e0, e1, e2, e3⟩, _, _, _⟩ := id hQ6
                obtain ⟨t0, t1, t2, t3, f0, f1, f2, f3⟩ := id hT6
                go_upto_region 13 with (fail)
                have hQ9 := (hQ6.put_other (b := W5.heap.size) (by omega) (.int .i64 19) (.string ⟨#[]⟩) (.int .i64 (tk l k).line) (.int .i64 (tk l k).col)).put (.slice (some ⟨b, o, none⟩) l.length n0) (.int .i64 ((k : Int) + 1)) (.slice A zs.length n) (.int .i64 0)
                have hT9 := (hT6.put (.int .i64 19) (.string ⟨#[]⟩) (.int .i64 (tk l k).line) (.int .i64 (tk l k).col)).put_other (b' := w.heap.size) (by omega) (.slice (some ⟨b, o, none⟩) l.length n0) (.int .i64 ((k : Int) + 1)) (.slice A zs.length n) (.int .i64 0)
                have HB9 := Lib.hid (put4_below (put4_below HB6.out (b := W5.heap.size) (by omega) (.int .i64 19) (.string ⟨#[]⟩) (.int .i64 (tk l k).line) (.int .i64 (tk l k).col)) (b := w.heap.size) (by omega) (.slice (some ⟨b, o, none⟩) l.length n0) (.int .i64 ((k : Int) + 1)) (.slice A zs.length n) (.int .i64 0))
                clear x0 x1 x2 x3 e0 e1 e2 e3 t0 t1 t2 t3 f0 f1 f2 f3 hQ6 hT6 HB6 
                obtain ⟨W9, hW9⟩ : ∃ W9, put4 (put4 w6 W5.heap.size (.int .i64 19) (.string ⟨#[]⟩) (.int .i64 (tk l k).line) (.int .i64 (tk l k).col)) w.heap.size (.slice (some ⟨b, o, none⟩) l.length n0) (.int .i64 ((k : Int) + 1)) (.slice A zs.length n) (.int .i64 0) = W9 := ⟨_, rfl⟩
                rw [hW9] at hQ9 hT9 HB9 
                unfold put4 at hW9
                rw [hW9]
                clear hW9
                have hs9 := hQ9.size
                obtain ⟨⟨s0, s1, s2, s3, _, _, _, _⟩, ⟨y0, y1, y2, y3, g0, g1, g2, g3⟩, ⟨z0, z1, z2, z3, f0, f1, f2, f3⟩, _⟩ := hQ9
                obtain ⟨u0, u1, u2, u3, _, _, _, _⟩ := hT9
                go_region
                all_goals
                  go_wp2
                  exact bodyPost_ret (v := .tuple #[.agg #[.int .i64 19, .string ⟨#[]⟩, .int .i64 (tk l k).line, .int .i64 (tk l k).col], .agg #[.slice (some ⟨b, o, none⟩) l.length n0, .int .i64 ((k : Int) + 1), .slice A zs.length n, .int .i64 0], .int .i64 0]) (by simp [results, Try.results25, go_sem, y0, y1, y2, y3, z0, z1, z2, z3]) rfl
                    (said_same HRES.out hcap HC.out HI.out (put4_below (put4_below HB9.out (by omega) _ _ _ _) (by omega) _ _ _ _).drew)
              | false =>
                have hnx : nextF l zs f (k + 1) 0 = R := by rw [← HRK.out]; simp [nextF, e16, e17, hpos, hlt', beq_eq_false_iff_ne.1 heq]
                have HNX := Lib.hid hnx
                clear hnx HRK
                go_upto_region 11 with (fail)
                obtain ⟨W8, hW8⟩ : ∃ W8, W5.alloc (.cells #[.int .i64 0, .string ⟨#[]⟩, .int .i64 0, .int .i64 0] 23) = W8 := ⟨_, rfl⟩
                have hQ8 := hQ5.out.alloc (.cells #[.int .i64 0, .string ⟨#[]⟩, .int .i64 0, .int .i64 0] 23)
                have hT8 := Box4.new W5 (.int .i64 0) (.string ⟨#[]⟩) (.int .i64 0) (.int .i64 0) 23
                have hb8 := (Below.refl W5.heap.size W5).alloc (Nat.le_refl _) (.cells #[.int .i64 0, .string ⟨#[]⟩, .int .i64 0, .int .i64 0] 23)
                have hs8 : (W5.alloc (.cells #[.int .i64 0, .string ⟨#[]⟩, .int .i64 0, .int .i64 0] 23)).heap.size = W5.heap.size + 1 := by simp
                have ht8 := hT5.alloc (.cells #[.int .i64 0, .string ⟨#[]⟩, .int .i64 0, .int .i64 0] 23) hs5'
                rw [hW8] at hQ8 hT8 hb8 hs8 ht8 ⊢
                clear hW8 x0 x1 x2 x3 t0 t1 t2 t3 hT5
                have HB8 := Lib.hid (hB5.out.trans (hb8.mono (by omega)))
                have HI8 := Lib.hid ((HI5.out.below hb8).mono hb8.size)
                have HS8 := Lib.hid hs8
                have hs8' : W5.heap.size < W8.heap.size := by omega
                clear hs8 hb8
                obtain ⟨⟨x0, x1, x2, x3, _, _, _, _⟩, _, _, _⟩ := id hQ8
                obtain ⟨t0, t1, t2, t3, _, _, _, _⟩ := id ht8
                have hsN := hQ5.out.size
                go_wp2_with fail
                refine (line3_lay (tk l k) (some ⟨b, o, none⟩) A l.length n0 n k wt zs _ (by omega) hn HI8.out hpos (by omega) heq).mono ?_
                rintro e w6 ⟨rfl, hb6⟩
                have hQ6 := hQ8.below hb6
                have hT6 := hT8.below hb6 (by omega)
                have HB6 := Lib.hid (HB8.out.trans (hb6.mono (by omega)))
                have hs6 := hb6.size
                clear x0 x1 x2 x3 t0 t1 t2 t3 hb6 hQ8 hT8 ht8 
                obtain ⟨⟨x0, x1, x2, x3, e0, e1, e2, e3⟩, _, _, _⟩ := id hQ6
                obtain ⟨t0, t1, t2, t3, f0, f1, f2, f3⟩ := id hT6
                go_wp2_with fail
                have hQ9 := (hQ6.put_other (b := W5.heap.size) (by omega) (.int .i64 0) (.string ⟨#[]⟩) (.int .i64 0) (.int .i64 0)).put (.slice (some ⟨b, o, none⟩) l.length n0) (.int .i64 ((k : Int) + 1)) (.slice A zs.length n) (.int .i64 0)
                have hT9 := (hT6.put (.int .i64 0) (.string ⟨#[]⟩) (.int .i64 0) (.int .i64 0)).put_other (b' := w.heap.size) (by omega) (.slice (some ⟨b, o, none⟩) l.length n0) (.int .i64 ((k : Int) + 1)) (.slice A zs.length n) (.int .i64 0)
                have HB9 := Lib.hid (put4_below (put4_below HB6.out (b := W5.heap.size) (by omega) (.int .i64 0) (.string ⟨#[]⟩) (.int .i64 0) (.int .i64 0)) (b := w.heap.size) (by omega) (.slice (some ⟨b, o, none⟩) l.length n0) (.int .i64 ((k : Int) + 1)) (.slice A zs.length n) (.int .i64 0))
                clear x0 x1 x2 x3 e0 e1 e2 e3 t0 t1 t2 t3 f0 f1 f2 f3 hQ6 hT6 HB6 
                obtain ⟨W9, hW9⟩ : ∃ W9, put4 (put4 w6 W5.heap.size (.int .i64 0) (.string ⟨#[]⟩) (.int .i64 0) (.int .i64 0)) w.heap.size (.slice (some ⟨b, o, none⟩) l.length n0) (.int .i64 ((k : Int) + 1)) (.slice A zs.length n) (.int .i64 0) = W9 := ⟨_, rfl⟩
                rw [hW9] at hQ9 hT9 HB9 
                unfold put4 at hW9
                rw [hW9]
                clear hW9
                go_roundg f
                case measure => omega
                case rel => exact ⟨k + 1, 0, by omega, by omega, by omega, hQ9, HB9.out, HNX.out⟩
          · have hnx : nextF l zs f (k + 1) 0 = R := by rw [← HRK.out]; simp [nextF, e16, e17, hpos]
            have HNX := Lib.hid hnx
            clear hnx HRK
            go_upto_region 11 with (fail)
            obtain ⟨W8, hW8⟩ : ∃ W8, W5.alloc (.cells #[.int .i64 0, .string ⟨#[]⟩, .int .i64 0, .int .i64 0] 23) = W8 := ⟨_, rfl⟩
            have hQ8 := hQ5.out.alloc (.cells #[.int .i64 0, .string ⟨#[]⟩, .int .i64 0, .int .i64 0] 23)
            have hT8 := Box4.new W5 (.int .i64 0) (.string ⟨#[]⟩) (.int .i64 0) (.int .i64 0) 23
            have hb8 := (Below.refl W5.heap.size W5).alloc (Nat.le_refl _) (.cells #[.int .i64 0, .string ⟨#[]⟩, .int .i64 0, .int .i64 0] 23)
            have hs8 : (W5.alloc (.cells #[.int .i64 0, .string ⟨#[]⟩, .int .i64 0, .int .i64 0] 23)).heap.size = W5.heap.size + 1 := by simp
            have ht8 := hT5.alloc (.cells #[.int .i64 0, .string ⟨#[]⟩, .int .i64 0, .int .i64 0] 23) hs5'
            rw [hW8] at hQ8 hT8 hb8 hs8 ht8 ⊢
            clear hW8 x0 x1 x2 x3 t0 t1 t2 t3 hT5
            have HB8 := Lib.hid (hB5.out.trans (hb8.mono (by omega)))
            have HI8 := Lib.hid ((HI5.out.below hb8).mono hb8.size)
            have HS8 := Lib.hid hs8
            have hs8' : W5.heap.size < W8.heap.size := by omega
            clear hs8 hb8
            obtain ⟨⟨x0, x1, x2, x3, _, _, _, _⟩, _, _, _⟩ := id hQ8
            obtain ⟨t0, t1, t2, t3, _, _, _, _⟩ := id ht8
            have hsN := hQ5.out.size
            go_wp2_with fail
            refine (line4_lay (tk l k) (some ⟨b, o, none⟩) A l.length n0 n k wt zs _ (by omega) hn HI8.out (by omega)).mono ?_
            rintro e w6 ⟨rfl, hb6⟩
            have hQ6 := hQ8.below hb6
            have hT6 := hT8.below hb6 (by omega)
            have HB6 := Lib.hid (HB8.out.trans (hb6.mono (by omega)))
            have hs6 := hb6.size
            clear x0 x1 x2 x3 t0 t1 t2 t3 hb6 hQ8 hT8 ht8 
            obtain ⟨⟨x0, x1, x2, x3, e0, e1, e2, e3⟩, _, _, _⟩ := id hQ6
            obtain ⟨t0, t1, t2, t3, f0, f1, f2, f3⟩ := id hT6
            go_wp2_with fail
            have hQ9 := (hQ6.put_other (b := W5.heap.size) (by omega) (.int .i64 0) (.string ⟨#[]⟩) (.int .i64 0) (.int .i64 0)).put (.slice (some ⟨b, o, none⟩) l.length n0) (.int .i64 ((k : Int) + 1)) (.slice A zs.length n) (.int .i64 0)
            have hT9 := (hT6.put (.int .i64 0) (.string ⟨#[]⟩) (.int .i64 0) (.int .i64 0)).put_other (b' := w.heap.size) (by omega) (.slice (some ⟨b, o, none⟩) l.length n0) (.int .i64 ((k : Int) + 1)) (.slice A zs.length n) (.int .i64 0)
            have HB9 := Lib.hid (put4_below (put4_below HB6.out (b := W5.heap.size) (by omega) (.int .i64 0) (.string ⟨#[]⟩) (.int .i64 0) (.int .i64 0)) (b := w.heap.size) (by omega) (.slice (some ⟨b, o, none⟩) l.length n0) (.int .i64 ((k : Int) + 1)) (.slice A zs.length n) (.int .i64 0))
            clear x0 x1 x2 x3 e0 e1 e2 e3 t0 t1 t2 t3 f0 f1 f2 f3 hQ6 hT6 HB6 
            obtain ⟨W9, hW9⟩ : ∃ W9, put4 (put4 w6 W5.heap.size (.int .i64 0) (.string ⟨#[]⟩) (.int .i64 0) (.int .i64 0)) w.heap.size (.slice (some ⟨b, o, none⟩) l.length n0) (.int .i64 ((k : Int) + 1)) (.slice A zs.length n) (.int .i64 0) = W9 := ⟨_, rfl⟩
            rw [hW9] at hQ9 hT9 HB9 
            unfold put4 at hW9
            rw [hW9]
            clear hW9
            go_roundg f
            case measure => omega
            case rel => exact ⟨k + 1, 0, by omega, by omega, by omega, hQ9, HB9.out, HNX.out⟩
        | false =>
          cases e15 : ((tk l k).kind == 15) with
          | false =>
            have hres : R = (tk l k, ⟨l, (k : Int) + 1, zs, wt⟩, 0) := by rw [← HRK.out]; simp [nextF, oneF, e16, e17, e15]
            have HRES := Lib.hid hres
            clear hres HRK
            have hsN := hQ5.out.size
            go_wp2_with fail
            refine (brace1_lay (tk l k) (some ⟨b, o, none⟩) A l.length n0 n k wt zs _ (by omega) hn e15).mono ?_
            rintro e w6 ⟨rfl, hb6⟩
            have hQ6 := hQ5.out.below hb6
            have HB6 := Lib.hid (hB5.out.trans (hb6.mono (by omega)))
            have hs6 := hb6.size
            clear x0 x1 x2 x3 t0 t1 t2 t3 hb6
            obtain ⟨_, ⟨y0, y1, y2, y3, g0, g1, g2, g3⟩, ⟨z0, z1, z2, z3, f0, f1, f2, f3⟩, _⟩ := hQ6
            go_wp2
            exact bodyPost_ret (v := .tuple #[.agg #[.int .i64 (tk l k).kind, .string (tk l k).text, .int .i64 (tk l k).line, .int .i64 (tk l k).col], .agg #[.slice (some ⟨b, o, none⟩) l.length n0, .int .i64 ((k : Int) + 1), .slice A zs.length n, .int .i64 wt], .int .i64 0]) (by simp [results, Try.results25, go_sem, y0, y1, y2, y3, z0, z1, z2, z3]) rfl
              (said_same HRES.out hcap HC.out HI.out (put4_below (put4_below HB6.out (by omega) _ _ _ _) (by omega) _ _ _ _))
          | true =>
            cases b1 : ((tk l k).text.toList == [123]) with
            | true =>
              have b2 : ((tk l k).text.toList == [125]) = false := by rw [beq_iff_eq.1 b1]; rfl
              have hres : R = (tk l k, ⟨l, (k : Int) + 1, zs ++ [0], wt⟩, 0) := by rw [← HRK.out]; simp [nextF, oneF, e16, e17, e15, b1, b2]
              have HRES := Lib.hid hres
              clear hres HRK
              have hsN := hQ5.out.size
              go_wp2_with fail
              refine (brace5_lay (tk l k) (some ⟨b, o, none⟩) A l.length n0 n k wt zs _ (by omega) hn HI5.out HC.out e15 b1).mono ?_
              rintro e w6 ⟨v, hfr, rfl, hb6⟩
              obtain ⟨A', c', rfl⟩ := hfr.form
              have HF := Lib.hid hfr
              clear hfr
              have hQ6 := hQ5.out.below hb6
              have HB6 := Lib.hid (hB5.out.trans (hb6.mono (by omega)))
              have hs6 := hb6.size
              clear x0 x1 x2 x3 t0 t1 t2 t3 hb6
              obtain ⟨_, ⟨y0, y1, y2, y3, g0, g1, g2, g3⟩, ⟨z0, z1, z2, z3, f0, f1, f2, f3⟩, _⟩ := hQ6
              go_wp2
              exact bodyPost_ret (v := .tuple #[.agg #[.int .i64 (tk l k).kind, .string (tk l k).text, .int .i64 (tk l k).line, .int .i64 (tk l k).col], .agg #[.slice (some ⟨b, o, none⟩) l.length n0, .int .i64 ((k : Int) + 1), .slice A' (zs ++ [0]).length c', .int .i64 wt], .int .i64 0]) (by simp [results, Try.results25, go_sem, y0, y1, y2, y3, z0, z1, z2, z3]) rfl
                (said_new HRES.out (put4_fresh (put4_fresh HF.out (by omega) _ _ _ _) (by omega) _ _ _ _) (put4_below (put4_below HB6.out (by omega) _ _ _ _) (by omega) _ _ _ _) (by omega))
            | false =>
              cases b2 : ((tk l k).text.toList == [125]) with
              | false =>
                have hres : R = (tk l k, ⟨l, (k : Int) + 1, zs, wt⟩, 0) := by rw [← HRK.out]; simp [nextF, oneF, e16, e17, e15, b1, b2]
                have HRES := Lib.hid hres
                clear hres HRK
                have hsN := hQ5.out.size
                go_wp2_with fail
                refine (brace2_lay (tk l k) (some ⟨b, o, none⟩) A l.length n0 n k wt zs _ (by omega) hn e15 b1 b2).mono ?_
                rintro e w6 ⟨rfl, hb6⟩
                have hQ6 := hQ5.out.below hb6
                have HB6 := Lib.hid (hB5.out.trans (hb6.mono (by omega)))
                have hs6 := hb6.size
                clear x0 x1 x2 x3 t0 t1 t2 t3 hb6
                obtain ⟨_, ⟨y0, y1, y2, y3, g0, g1, g2, g3⟩, ⟨z0, z1, z2, z3, f0, f1, f2, f3⟩, _⟩ := hQ6
                go_wp2
                exact bodyPost_ret (v := .tuple #[.agg #[.int .i64 (tk l k).kind, .string (tk l k).text, .int .i64 (tk l k).line, .int .i64 (tk l k).col], .agg #[.slice (some ⟨b, o, none⟩) l.length n0, .int .i64 ((k : Int) + 1), .slice A zs.length n, .int .i64 wt], .int .i64 0]) (by simp [results, Try.results25, go_sem, y0, y1, y2, y3, z0, z1, z2, z3]) rfl
                  (said_same HRES.out hcap HC.out HI.out (put4_below (put4_below HB6.out (by omega) _ _ _ _) (by omega) _ _ _ _))
              | true =>
                cases hz : ((zs.length : Int) == 0) with
                | true =>
                  have hzn : zs.length = 0 := by have := beq_iff_eq.1 hz; omega
                  have HZN := Lib.hid hzn
                  clear hzn
                  have hres : R = (tk0, ⟨l, (k : Int), zs, wt⟩, 90) := by rw [← HRK.out]; simp [nextF, oneF, e16, e17, e15, b2, HZN.out]
                  have HRES := Lib.hid hres
                  clear hres HRK
                  have hsN := hQ5.out.size
                  go_wp2_with fail
                  refine (brace3_lay (tk l k) (some ⟨b, o, none⟩) A l.length n0 n k wt zs _ (by omega) hn e15 b1 b2 hz).mono ?_
                  rintro e w6 ⟨rfl, hb6⟩
                  have hQ6 := hQ5.out.below hb6
                  have HB6 := Lib.hid (hB5.out.trans (hb6.mono (by omega)))
                  have hs6 := hb6.size
                  clear x0 x1 x2 x3 t0 t1 t2 t3 hb6
                  obtain ⟨_, ⟨y0, y1, y2, y3, g0, g1, g2, g3⟩, ⟨z0, z1, z2, z3, f0, f1, f2, f3⟩, _⟩ := hQ6
                  go_wp2
                  exact bodyPost_ret (v := .tuple #[.agg #[.int .i64 0, .string ⟨#[]⟩, .int .i64 0, .int .i64 0], .agg #[.slice (some ⟨b, o, none⟩) l.length n0, .int .i64 (k : Int), .slice A zs.length n, .int .i64 wt], .int .i64 90]) (by simp [results, Try.results25, go_sem, y0, y1, y2, y3, z0, z1, z2, z3]) rfl
                    (said_same HRES.out hcap HC.out HI.out (put4_below (put4_below HB6.out (by omega) _ _ _ _) (by omega) _ _ _ _))
                | false =>
                  have hzn : ¬ zs.length = 0 := by have := beq_eq_false_iff_ne.1 hz; omega
                  have HZN := Lib.hid hzn
                  clear hzn
                  cases htp : (topOf zs != 0) with
                  | true =>
                    have htp' : 0 < topOf zs := by have h1 := hnn; have h2 : topOf zs ≠ 0 := by simpa [bne] using htp
                                                   omega
                    have HTP := Lib.hid htp'
                    clear htp'
                    have hres : R = (tk0, ⟨l, (k : Int), zs, wt⟩, 90) := by rw [← HRK.out]; simp [nextF, oneF, e16, e17, e15, b2, HTP.out]
                    have HRES := Lib.hid hres
                    clear hres HRK
                    have hsN := hQ5.out.size
                    go_wp2_with fail
                    refine (brace4_lay (tk l k) (some ⟨b, o, none⟩) A l.length n0 n k wt zs _ (by omega) hn HI5.out e15 b1 b2 hz htp).mono ?_
                    rintro e w6 ⟨rfl, hb6⟩
                    have hQ6 := hQ5.out.below hb6
                    have HB6 := Lib.hid (hB5.out.trans (hb6.mono (by omega)))
                    have hs6 := hb6.size
                    clear x0 x1 x2 x3 t0 t1 t2 t3 hb6
                    obtain ⟨_, ⟨y0, y1, y2, y3, g0, g1, g2, g3⟩, ⟨z0, z1, z2, z3, f0, f1, f2, f3⟩, _⟩ := hQ6
                    go_wp2
                    exact bodyPost_ret (v := .tuple #[.agg #[.int .i64 0, .string ⟨#[]⟩, .int .i64 0, .int .i64 0], .agg #[.slice (some ⟨b, o, none⟩) l.length n0, .int .i64 (k : Int), .slice A zs.length n, .int .i64 wt], .int .i64 90]) (by simp [results, Try.results25, go_sem, y0, y1, y2, y3, z0, z1, z2, z3]) rfl
                      (said_same HRES.out hcap HC.out HI.out (put4_below (put4_below HB6.out (by omega) _ _ _ _) (by omega) _ _ _ _))
                  | false =>
                    have htp' : ¬ 0 < topOf zs := by have h2 : topOf zs = 0 := by simpa [bne] using htp
                                                     omega
                    have HTP := Lib.hid htp'
                    clear htp'
                    have hres : R = (tk l k, ⟨l, (k : Int) + 1, zs.dropLast, wt⟩, 0) := by rw [← HRK.out]; simp [nextF, oneF, e16, e17, e15, b2, HZN.out, HTP.out]
                    have HRES := Lib.hid hres
                    clear hres HRK
                    have hsN := hQ5.out.size
                    go_wp2_with fail
                    refine (brace6_lay (tk l k) (some ⟨b, o, none⟩) A l.length n0 n k wt zs _ (by omega) hn HI5.out hcap e15 b1 b2 hz htp).mono ?_
                    rintro e w6 ⟨v, hfr, rfl, hb6⟩
                    obtain ⟨A', c', rfl⟩ := hfr.form
                    have HF := Lib.hid hfr
                    clear hfr
                    have hQ6 := hQ5.out.below hb6
                    have HB6 := Lib.hid (hB5.out.trans (hb6.mono (by omega)))
                    have hs6 := hb6.size
                    clear x0 x1 x2 x3 t0 t1 t2 t3 hb6
                    obtain ⟨_, ⟨y0, y1, y2, y3, g0, g1, g2, g3⟩, ⟨z0, z1, z2, z3, f0, f1, f2, f3⟩, _⟩ := hQ6
                    go_wp2
                    exact bodyPost_ret (v := .tuple #[.agg #[.int .i64 (tk l k).kind, .string (tk l k).text, .int .i64 (tk l k).line, .int .i64 (tk l k).col], .agg #[.slice (some ⟨b, o, none⟩) l.length n0, .int .i64 ((k : Int) + 1), .slice A' zs.dropLast.length c', .int .i64 wt], .int .i64 0]) (by simp [results, Try.results25, go_sem, y0, y1, y2, y3, z0, z1, z2, z3]) rfl
                      (said_new HRES.out (put4_fresh (put4_fresh HF.out (by omega) _ _ _ _) (by omega) _ _ _ _) (put4_below (put4_below HB6.out (by omega) _ _ _ _) (by omega) _ _ _ _) (by omega))
    · have hg0 : gk = 0 := by omega
      have hkl : k = l.length := by omega
      subst hg0 hkl
      have hrend : endF l zs l.length wt = R := HRK.out
      have HRE := Lib.hid hrend
      clear hrend HRK
      have hIr := (HI.out.below hBr).mono (by omega : w.heap.size ≤ wr.heap.size)
      have HIr := Lib.hid hIr
      clear hIr hBr
      go_wp2_with fail
      refine (end_lay A0 A l.length n0 n l.length wt zs _ hn hcap HIr.out).mono ?_
      rintro e w6 ⟨hb6, hee⟩
      obtain ⟨_, ⟨y0, y1, y2, y3, g0, g1, g2, g3⟩, ⟨z0, z1, z2, z3, f0, f1, f2, f3⟩, _⟩ := HQR.out.below hb6
      have HB6 := Lib.hid (HBR.out.trans (hb6.mono (by omega)))
      have hs6 := hb6.size
      clear x0 x1 x2 x3 hb6
      rcases hee with ⟨h0, rfl⟩ | ⟨h0, h1, v, hfr, rfl⟩ | ⟨h0, h1, rfl⟩
      · have hres : R = (⟨21, .empty, 0, 0⟩, ⟨l, (l.length : Int), zs, wt⟩, 0) := by rw [← HRE.out]; simp [endF, h0]
        have HRES := Lib.hid hres
        clear hres HRE
        have H0 := Lib.hid h0
        clear h0
        go_wp2
        exact bodyPost_ret (v := .tuple #[.agg #[.int .i64 21, .string ⟨#[]⟩, .int .i64 0, .int .i64 0], .agg #[.slice A0 l.length n0, .int .i64 (l.length : Int), .slice A zs.length n, .int .i64 wt], .int .i64 0]) (by simp [results, Try.results25, go_sem, y0, y1, y2, y3, z0, z1, z2, z3]) rfl
          (said_same HRES.out hcap HC.out HI.out (put4_below (put4_below HB6.out (by omega) _ _ _ _) (by omega) _ _ _ _))
      · have hres : R = (⟨20, .empty, 0, 0⟩, ⟨l, (l.length : Int), zs.dropLast, wt⟩, 0) := by rw [← HRE.out]; simp [endF, h0, h1]
        have HRES := Lib.hid hres
        clear hres HRE
        obtain ⟨A', c', rfl⟩ := hfr.form
        have HF := Lib.hid hfr
        clear hfr
        have H0 := Lib.hid h0
        clear h0
        go_wp2
        exact bodyPost_ret (v := .tuple #[.agg #[.int .i64 20, .string ⟨#[]⟩, .int .i64 0, .int .i64 0], .agg #[.slice A0 l.length n0, .int .i64 (l.length : Int), .slice A' zs.dropLast.length c', .int .i64 wt], .int .i64 0]) (by simp [results, Try.results25, go_sem, y0, y1, y2, y3, z0, z1, z2, z3]) rfl
          (said_new HRES.out (put4_fresh (put4_fresh HF.out (by omega) _ _ _ _) (by omega) _ _ _ _) (put4_below (put4_below HB6.out (by omega) _ _ _ _) (by omega) _ _ _ _) (by omega))
      · have hres : R = (tk0, ⟨l, (l.length : Int), zs, wt⟩, 90) := by rw [← HRE.out]; simp [endF, h0, h1]
        have HRES := Lib.hid hres
        clear hres HRE
        have H0 := Lib.hid h0
        clear h0
        go_wp2
        exact bodyPost_ret (v := .tuple #[.agg #[.int .i64 0, .string ⟨#[]⟩, .int .i64 0, .int .i64 0], .agg #[.slice A0 l.length n0, .int .i64 (l.length : Int), .slice A zs.length n, .int .i64 wt], .int .i64 90]) (by simp [results, Try.results25, go_sem, y0, y1, y2, y3, z0, z1, z2, z3]) rfl
          (said_same HRES.out hcap HC.out HI.out (put4_below (put4_below HB6.out (by omega) _ _ _ _) (by omega) _ _ _ _))
end Go.Proofs.Ytnophjkiecalpaa
