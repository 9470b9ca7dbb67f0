/- The next token of a state, told by the reference. -/
import Derived.Test.YtnophjkiecalpaaLayNext
namespace Go.Proofs.Ytnophjkiecalpaa
open Go.RowKit
attribute [local go_sem ↓] Go.wp_at_zero Go.wp_at_succ

/-- The boxes of the reference's Next within a round: M is that of the token. -/
structure Rnd (N M : Nat) (W : World) (t : Tok) (v0 v1 v2 v3 : Value) : Prop where
  q : Trip N W v0 v1 v2 v3
  t : Box4 W M (.int .i64 t.kind) (.string t.text) (.int .i64 t.line) (.int .i64 t.col)
  lt : N + 1 + 1 < M
  size : M < W.heap.size
theorem Trip.set1 {N : Nat} {W : World} {v0 v1 v2 v3 : Value} (h : Trip N W v0 v1 v2 v3) (u : Value) : Trip N (W.setCell ⟨N, 1, none⟩ u) v0 u v2 v3 :=
  ⟨h.x.set1 _, h.y.set_other (by omega) _, h.z.set_other (by omega) _, by simpa using h.size⟩
theorem Trip.set3 {N : Nat} {W : World} {v0 v1 v2 v3 : Value} (h : Trip N W v0 v1 v2 v3) (u : Value) : Trip N (W.setCell ⟨N, 3, none⟩ u) v0 v1 v2 u :=
  ⟨h.x.set3 _, h.y.set_other (by omega) _, h.z.set_other (by omega) _, by simpa using h.size⟩
section
variable {N M : Nat} {W W' : World} {t : Tok} {v0 v1 v2 v3 : Value}
theorem Rnd.below (h : Rnd N M W t v0 v1 v2 v3) (hb : Below W.heap.size W W') : Rnd N M W' t v0 v1 v2 v3 := ⟨h.q.below hb, h.t.below hb h.size, h.lt, Nat.lt_of_lt_of_le h.size hb.size⟩
theorem Rnd.set1 (h : Rnd N M W t v0 v1 v2 v3) (u : Value) : Rnd N M (W.setCell ⟨N, 1, none⟩ u) t v0 u v2 v3 := ⟨h.q.set1 u, h.t.set_other (by have := h.lt; omega) _, h.lt, by simpa using h.size⟩
theorem Rnd.set3 (h : Rnd N M W t v0 v1 v2 v3) (u : Value) : Rnd N M (W.setCell ⟨N, 3, none⟩ u) t v0 v1 v2 u := ⟨h.q.set3 u, h.t.set_other (by have := h.lt; omega) _, h.lt, by simpa using h.size⟩
theorem Rnd.put (h : Rnd N M W t v0 v1 v2 v3) (u0 u1 u2 u3 : Value) : Rnd N M (put4 W N u0 u1 u2 u3) t u0 u1 u2 u3 := ⟨h.q.put _ _ _ _, h.t.put_other (by have := h.lt; omega) _ _ _ _, h.lt, by rw [put4_size]; exact h.size⟩
end

set_option maxRecDepth 100000 in
set_option maxHeartbeats 16000000 in
theorem rnext_lay (A0 A : Option Addr) (l : List Tok) (n0 n k0 : Nat) (wt0 : Int) (zs : List Int) (w : World) (hl : l.length ≤ 999999) (hn : zs.length ≤ 1000000) (hcap : zs.length ≤ n) (hc : A = none → n = 0) (ht : Toks w.heap.size w A0 l) (h : Ints w.heap.size w A zs)
    (hmay : LSt.may ⟨l, k0, zs, wt0⟩ = true) (hk0 : k0 ≤ l.length) :
    Calls Try.prog 26 #[.agg #[.slice A0 l.length n0, .int .i64 k0, .slice A zs.length n, .int .i64 wt0]] w (NextSaid A0 A l.length n0 (nextF l zs (l.length - k0) k0 wt0) w) := by
  have h3 := Three.new w (.slice A0 l.length n0) (.int .i64 k0) (.slice A zs.length n) (.int .i64 wt0)
  have HT := Lib.hid ht
  have HI := Lib.hid h
  have H3 := Lib.hid h3
  have HC := Lib.hid hc
  have HM := Lib.hid hmay
  obtain ⟨R, hR⟩ : ∃ R, nextF l zs (l.length - k0) k0 wt0 = R := ⟨_, rfl⟩
  rw [hR]
  have HR := Lib.hid hR
  clear h3 ht h hc hmay hR
  go_enter Try.func26, Try.ntmps26
  go_wp2_with fail
  obtain ⟨W, hW⟩ : ∃ W, ((w.alloc (.cells #[.slice A0 l.length n0, .int .i64 k0, .slice A zs.length n, .int .i64 wt0] 34)).alloc (.cells #[.int .i64 0, .string ⟨#[]⟩, .int .i64 0, .int .i64 0] 23)).alloc (.cells #[.slice none 0 0, .int .i64 0, .slice none 0 0, .int .i64 0] 34) = W := ⟨_, rfl⟩
  have h4 := H3.out
  rw [hW] at h4 ⊢
  clear H3 hW
  refine (right_any A0 A l n0 n k0 wt0 zs _ (by omega) hn ((HT.out.below h4.below).mono h4.below.size) ((HI.out.below h4.below).mono h4.below.size)).mono ?_
  rintro e w1 ⟨rfl, hb1⟩
  rw [HM.out]
  have hQ := Lib.hid (h4.trip.below hb1)
  have HB := Lib.hid (h4.below.trans (hb1.mono (by rw [h4.size]; omega)))
  clear h4 hb1
  go_wp2_with fail
  have hw02 : 0 ≤ wt0 ∧ wt0 ≤ 2 := by have h := HM.out; simp [LSt.may] at h; omega
  have hnn : 0 ≤ topOf zs := topOf_nonneg HM.out
  clear HM
  go_loopg [5] (l.length - k0) (fun f _ wr => ∃ (k : Nat) (wt : Int), k + f = l.length ∧ 0 ≤ wt ∧ wt ≤ 2 ∧ Trip w.heap.size wr (.slice A0 l.length n0) (.int .i64 k) (.slice A zs.length n) (.int .i64 wt) ∧ Below w.heap.size w wr ∧ nextF l zs f k wt = R)
  case atStart => exact ⟨k0, wt0, by omega, hw02.1, hw02.2, hQ.out, HB.out, HR.out⟩
  case round =>
    obtain ⟨k, wt, hkf, hwt0, hwt2, hT, hBr, hRk⟩ := hrel
    clear hw02 hQ HB HR
    have HRK := Lib.hid hRk
    have HBR := Lib.hid hBr
    clear hRk
    have hQr := hT
    obtain ⟨⟨x0, x1, x2, x3, _, _, _, _⟩, _, _, hsl⟩ := hT
    have HQR := Lib.hid hQr
    clear hQr
    by_cases hlt : k < l.length
    · obtain ⟨f, rfl⟩ : ∃ f, gk = f + 1 := ⟨gk - 1, by omega⟩
      obtain ⟨b, o, rfl, hb, hcc⟩ := (HT.out.below hBr) k (tk l k) (tk_in hlt)
      obtain ⟨t0, t1, t2, t3⟩ := hcc
      clear hBr
      go_upto_region 5 with (fail)
      have hR5 : Rnd w.heap.size wr.heap.size (wr.alloc (.cells #[.int .i64 (tk l k).kind, .string (tk l k).text, .int .i64 (tk l k).line, .int .i64 (tk l k).col] 23)) (tk l k) (.slice (some ⟨b, o, none⟩) l.length n0) (.int .i64 (k : Int)) (.slice A zs.length n) (.int .i64 wt) := ⟨HQR.out.alloc _, Box4.new wr (.int .i64 (tk l k).kind) (.string (tk l k).text) (.int .i64 (tk l k).line) (.int .i64 (tk l k).col) 23, hsl, by simp⟩
      have hB5 := Lib.hid (HBR.out.alloc (by omega) (.cells #[.int .i64 (tk l k).kind, .string (tk l k).text, .int .i64 (tk l k).line, .int .i64 (tk l k).col] 23))
      obtain ⟨W5, hW5⟩ : ∃ W5, wr.alloc (.cells #[.int .i64 (tk l k).kind, .string (tk l k).text, .int .i64 (tk l k).line, .int .i64 (tk l k).col] 23) = W5 := ⟨_, rfl⟩
      rw [hW5] at hR5 hB5 ⊢
      clear hW5 HQR HBR x0 x1 x2 x3 t0 t1 t2 t3
      have hs5 := hR5.size
      have HI5 := Lib.hid ((HI.out.below hB5.out).mono (by omega : w.heap.size ≤ W5.heap.size))
      obtain ⟨⟨⟨x0, x1, x2, x3, e0, e1, e2, e3⟩, ⟨y0, y1, y2, y3, g0, g1, g2, g3⟩, ⟨z0, z1, z2, z3, f0, f1, f2, f3⟩, _⟩, ⟨t0, t1, t2, t3, _, _, _, _⟩, _, _⟩ := id hR5
      generalize hM : wr.heap.size = M at *
      cases e16 : ((tk l k).kind == 16) with
      | true =>
        by_cases hw0 : wt = 0
        · subst hw0
          by_cases htop : topOf zs < (tk l k).col
          · have hres : R = (markTok 18 (tk l k), ⟨l, (k : Int) + 1, zs ++ [(tk l k).col], 0⟩, 0) := by rw [← HRK.out]; simp [nextF, e16, htop]
            have HRES := Lib.hid hres
            clear hres HRK
            go_wp2_with fail
            go_region_held3 (fun w' : World => w'.cell? ⟨M, 3, none⟩ = some (.int .i64 (tk l k).col) ∧ w'.cell? ⟨w.heap.size, 0, none⟩ = some (.slice (some ⟨b, o, none⟩) l.length n0) ∧ w'.cell? ⟨w.heap.size, 1, none⟩ = some (.int .i64 (k : Int)) ∧ w'.cell? ⟨w.heap.size, 2, none⟩ = some (.slice A zs.length n) ∧ w'.cell? ⟨w.heap.size, 3, none⟩ = some (.int .i64 0) ∧ Below W5.heap.size W5 w')
              (first | (exact ⟨t3, x0, x1, x2, x3, (Below.refl _ _).drew⟩) | (exact held5 (by assumption) hbf (by dsimp only; omega) (by dsimp only; omega) (by dsimp only; omega) (by dsimp only; omega) (by dsimp only; omega)) | assumption)
              (first | (go_at_call 41; refine (rtop_any _ _ _ A zs n _ (by omega) (ints_keep HI5.out (by assumption))).mono ?_; rintro e w1 ⟨rfl, hbf⟩))
            rename_i hH
            have hq : Below W5.heap.size W5 w1 := hH.2.2.2.2.2
            have hR1 := hR5.below hq
            have HB1 := Lib.hid (hB5.out.trans (hq.mono (by omega)))
            have HI1 := Lib.hid ((HI5.out.below hq).mono hq.size)
            have hs1 := hR1.size
            clear x0 x1 x2 x3 e0 e1 e2 e3 y0 y1 y2 y3 g0 g1 g2 g3 z0 z1 z2 z3 f0 f1 f2 f3 t0 t1 t2 t3
            clear hH hq hR5 hB5 HI5 hbf
            obtain ⟨⟨⟨x0, x1, x2, x3, e0, e1, e2, e3⟩, ⟨y0, y1, y2, y3, g0, g1, g2, g3⟩, ⟨z0, z1, z2, z3, f0, f1, f2, f3⟩, _⟩, ⟨t0, t1, t2, t3, _, _, _, _⟩, _, _⟩ := id hR1
            go_wp2_with fail
            refine (push_any (some ⟨b, o, none⟩) A l.length n0 (k : Int) 0 (tk l k).col zs n _ hn HC.out HI1.out).mono ?_
            rintro e w2 ⟨v, rfl, hfr, hq⟩
            obtain ⟨A', c', rfl⟩ := hfr.form
            have hR2 := hR1.below hq
            have HB2 := Lib.hid (HB1.out.trans (hq.mono (by omega)))
            have HF2 := Lib.hid hfr
            have hs2 := hR2.size
            clear x0 x1 x2 x3 e0 e1 e2 e3 y0 y1 y2 y3 g0 g1 g2 g3 z0 z1 z2 z3 f0 f1 f2 f3 t0 t1 t2 t3
            clear hq hfr hR1 HB1 HI1
            obtain ⟨⟨⟨x0, x1, x2, x3, e0, e1, e2, e3⟩, ⟨y0, y1, y2, y3, g0, g1, g2, g3⟩, ⟨z0, z1, z2, z3, f0, f1, f2, f3⟩, _⟩, ⟨t0, t1, t2, t3, _, _, _, _⟩, _, _⟩ := id hR2
            go_wp2_with fail
            have hR9 := ((hR2.put (.slice (some ⟨b, o, none⟩) l.length n0) (.int .i64 (k : Int)) (.slice A' (zs.length + 1) c') (.int .i64 0)).set1 (.int .i64 ((k : Int) + 1)))
            have HB9 := Lib.hid ((put4_below HB2.out (b := w.heap.size) (by omega) (.slice (some ⟨b, o, none⟩) l.length n0) (.int .i64 (k : Int)) (.slice A' (zs.length + 1) c') (.int .i64 0)).setCell (p := ⟨w.heap.size, 1, none⟩) (by simp) (.int .i64 ((k : Int) + 1)))
            have HF9 := Lib.hid (Fresh.set (b := w.heap.size) (o := 1) (put4_fresh HF2.out (b := w.heap.size) (by omega) (.slice (some ⟨b, o, none⟩) l.length n0) (.int .i64 (k : Int)) (.slice A' (zs.length + 1) c') (.int .i64 0)) (by omega) (.int .i64 ((k : Int) + 1)))
            clear x0 x1 x2 x3 e0 e1 e2 e3 y0 y1 y2 y3 g0 g1 g2 g3 z0 z1 z2 z3 f0 f1 f2 f3 t0 t1 t2 t3
            clear hR2 HB2 HF2
            obtain ⟨W9, hW9⟩ : ∃ W9, ((put4 w2 w.heap.size (.slice (some ⟨b, o, none⟩) l.length n0) (.int .i64 (k : Int)) (.slice A' (zs.length + 1) c') (.int .i64 0)).setCell ⟨w.heap.size, 1, none⟩ (.int .i64 ((k : Int) + 1))) = W9 := ⟨_, rfl⟩
            rw [hW9] at hR9 HB9 HF9
            unfold put4 at hW9
            rw [hW9]
            clear hW9
            have hs9 := hR9.size
            obtain ⟨⟨⟨x0, x1, x2, x3, e0, e1, e2, e3⟩, ⟨y0, y1, y2, y3, g0, g1, g2, g3⟩, ⟨z0, z1, z2, z3, f0, f1, f2, f3⟩, _⟩, ⟨t0, t1, t2, t3, _, _, _, _⟩, _, _⟩ := id hR9
            go_region_with (go_at_call 43; refine (rat_any 18 (tk l k) _).mono ?_; rintro e w8 ⟨rfl, hbf⟩; have hq : Below W9.heap.size W9 w8 := (Below.refl _ W9).drew.trans hbf; obtain ⟨⟨⟨a0, a1, a2, a3, _, _, _, _⟩, ⟨y0, y1, y2, y3, g0, g1, g2, g3⟩, ⟨z0, z1, z2, z3, f0, f1, f2, f3⟩, _⟩, _, _, _⟩ := hR9.below hq)
            all_goals
              go_wp2
              exact bodyPost_ret (v := .tuple #[.agg #[.int .i64 18, .string ⟨#[]⟩, .int .i64 (tk l k).line, .int .i64 (tk l k).col], .agg #[.slice (some ⟨b, o, none⟩) l.length n0, .int .i64 ((k : Int) + 1), .slice A' (zs ++ [(tk l k).col]).length c', .int .i64 0], .int .i64 0]) (by simp [results, Try.results26, go_sem, y0, y1, y2, y3, z0, z1, z2, z3]) rfl
                (said_new HRES.out (put4_fresh (put4_fresh (HF9.out.below hq) (by omega) _ _ _ _) (by omega) _ _ _ _) (put4_below (put4_below (HB9.out.trans (hq.mono (by omega))) (by omega) _ _ _ _) (by omega) _ _ _ _) (by omega))
          · have hres : R = (markTok 18 (tk l k), ⟨l, (k : Int), zs, 1⟩, 0) := by rw [← HRK.out]; simp [nextF, e16, htop]
            have HRES := Lib.hid hres
            clear hres HRK
            go_wp2_with fail
            go_region_held3 (fun w' : World => w'.cell? ⟨M, 3, none⟩ = some (.int .i64 (tk l k).col) ∧ w'.cell? ⟨w.heap.size, 0, none⟩ = some (.slice (some ⟨b, o, none⟩) l.length n0) ∧ w'.cell? ⟨w.heap.size, 1, none⟩ = some (.int .i64 (k : Int)) ∧ w'.cell? ⟨w.heap.size, 2, none⟩ = some (.slice A zs.length n) ∧ w'.cell? ⟨w.heap.size, 3, none⟩ = some (.int .i64 0) ∧ Below W5.heap.size W5 w')
              (first | (exact ⟨t3, x0, x1, x2, x3, (Below.refl _ _).drew⟩) | (exact held5 (by assumption) hbf (by dsimp only; omega) (by dsimp only; omega) (by dsimp only; omega) (by dsimp only; omega) (by dsimp only; omega)) | assumption)
              (first | (go_at_call 41; refine (rtop_any _ _ _ A zs n _ (by omega) (ints_keep HI5.out (by assumption))).mono ?_; rintro e w1 ⟨rfl, hbf⟩))
            rename_i hH
            have hq : Below W5.heap.size W5 w1 := hH.2.2.2.2.2
            have hR1 := hR5.below hq
            have HB1 := Lib.hid (hB5.out.trans (hq.mono (by omega)))
            have HI1 := Lib.hid ((HI5.out.below hq).mono hq.size)
            have hs1 := hR1.size
            clear x0 x1 x2 x3 e0 e1 e2 e3 y0 y1 y2 y3 g0 g1 g2 g3 z0 z1 z2 z3 f0 f1 f2 f3 t0 t1 t2 t3
            clear hH hq hR5 hB5 HI5 hbf
            obtain ⟨⟨⟨x0, x1, x2, x3, e0, e1, e2, e3⟩, ⟨y0, y1, y2, y3, g0, g1, g2, g3⟩, ⟨z0, z1, z2, z3, f0, f1, f2, f3⟩, _⟩, ⟨t0, t1, t2, t3, _, _, _, _⟩, _, _⟩ := id hR1
            go_wp2_with fail
            have hR9 := (hR1.set3 (.int .i64 1))
            have HB9 := Lib.hid (HB1.out.setCell (p := ⟨w.heap.size, 3, none⟩) (by simp) (.int .i64 1))
            clear x0 x1 x2 x3 e0 e1 e2 e3 y0 y1 y2 y3 g0 g1 g2 g3 z0 z1 z2 z3 f0 f1 f2 f3 t0 t1 t2 t3
            clear hR1 HB1 
            obtain ⟨W9, hW9⟩ : ∃ W9, (w1.setCell ⟨w.heap.size, 3, none⟩ (.int .i64 1)) = W9 := ⟨_, rfl⟩
            rw [hW9] at hR9 HB9 
            rw [hW9]
            clear hW9
            have hs9 := hR9.size
            obtain ⟨⟨⟨x0, x1, x2, x3, e0, e1, e2, e3⟩, ⟨y0, y1, y2, y3, g0, g1, g2, g3⟩, ⟨z0, z1, z2, z3, f0, f1, f2, f3⟩, _⟩, ⟨t0, t1, t2, t3, _, _, _, _⟩, _, _⟩ := id hR9
            go_region_with (go_at_call 43; refine (rat_any 18 (tk l k) _).mono ?_; rintro e w8 ⟨rfl, hbf⟩; have hq : Below W9.heap.size W9 w8 := (Below.refl _ W9).drew.trans hbf; obtain ⟨⟨⟨a0, a1, a2, a3, _, _, _, _⟩, ⟨y0, y1, y2, y3, g0, g1, g2, g3⟩, ⟨z0, z1, z2, z3, f0, f1, f2, f3⟩, _⟩, _, _, _⟩ := hR9.below hq)
            all_goals
              go_wp2
              exact bodyPost_ret (v := .tuple #[.agg #[.int .i64 18, .string ⟨#[]⟩, .int .i64 (tk l k).line, .int .i64 (tk l k).col], .agg #[.slice (some ⟨b, o, none⟩) l.length n0, .int .i64 (k : Int), .slice A zs.length n, .int .i64 1], .int .i64 0]) (by simp [results, Try.results26, go_sem, y0, y1, y2, y3, z0, z1, z2, z3]) rfl
                (said_same HRES.out hcap HC.out HI.out (put4_below (put4_below (HB9.out.trans (hq.mono (by omega))) (by omega) _ _ _ _) (by omega) _ _ _ _))
        · by_cases hw1 : wt = 1
          · subst hw1
            have hres : R = (markTok 20 (tk l k), ⟨l, (k : Int), zs, 2⟩, 0) := by rw [← HRK.out]; simp [nextF, e16]
            have HRES := Lib.hid hres
            clear hres HRK
            go_wp2_with fail
            have hR9 := (hR5.set3 (.int .i64 2))
            have HB9 := Lib.hid (hB5.out.setCell (p := ⟨w.heap.size, 3, none⟩) (by simp) (.int .i64 2))
            clear x0 x1 x2 x3 e0 e1 e2 e3 y0 y1 y2 y3 g0 g1 g2 g3 z0 z1 z2 z3 f0 f1 f2 f3 t0 t1 t2 t3
            clear hR5 hB5 
            obtain ⟨W9, hW9⟩ : ∃ W9, (W5.setCell ⟨w.heap.size, 3, none⟩ (.int .i64 2)) = W9 := ⟨_, rfl⟩
            rw [hW9] at hR9 HB9 
            rw [hW9]
            clear hW9
            have hs9 := hR9.size
            obtain ⟨⟨⟨x0, x1, x2, x3, e0, e1, e2, e3⟩, ⟨y0, y1, y2, y3, g0, g1, g2, g3⟩, ⟨z0, z1, z2, z3, f0, f1, f2, f3⟩, _⟩, ⟨t0, t1, t2, t3, _, _, _, _⟩, _, _⟩ := id hR9
            go_region_with (go_at_call 43; refine (rat_any 20 (tk l k) _).mono ?_; rintro e w8 ⟨rfl, hbf⟩; have hq : Below W9.heap.size W9 w8 := (Below.refl _ W9).drew.trans hbf; obtain ⟨⟨⟨a0, a1, a2, a3, _, _, _, _⟩, ⟨y0, y1, y2, y3, g0, g1, g2, g3⟩, ⟨z0, z1, z2, z3, f0, f1, f2, f3⟩, _⟩, _, _, _⟩ := hR9.below hq)
            all_goals
              go_wp2
              exact bodyPost_ret (v := .tuple #[.agg #[.int .i64 20, .string ⟨#[]⟩, .int .i64 (tk l k).line, .int .i64 (tk l k).col], .agg #[.slice (some ⟨b, o, none⟩) l.length n0, .int .i64 (k : Int), .slice A zs.length n, .int .i64 2], .int .i64 0]) (by simp [results, Try.results26, go_sem, y0, y1, y2, y3, z0, z1, z2, z3]) rfl
                (said_same HRES.out hcap HC.out HI.out (put4_below (put4_below (HB9.out.trans (hq.mono (by omega))) (by omega) _ _ _ _) (by omega) _ _ _ _))
          · have hw2 : wt = 2 := by omega
            subst hw2
            clear hw0 hw1
            by_cases hpos : 0 < topOf zs
            · by_cases hlt' : (tk l k).col < topOf zs
              · have hres : R = (markTok 20 (tk l k), ⟨l, (k : Int), zs.dropLast, 2⟩, 0) := by rw [← HRK.out]; simp [nextF, e16, hpos, hlt']
                have HRES := Lib.hid hres
                clear hres HRK
                have hzl : 0 < zs.length := by
                  rcases Nat.eq_zero_or_pos zs.length with e | e
                  · rw [List.eq_nil_of_length_eq_zero e, topOf_nil] at hpos; omega
                  · exact e
                go_wp2_with fail
                refine (rtop_any _ _ _ A zs n _ (by omega) HI5.out).mono ?_
                rintro e w1 ⟨rfl, hq⟩
                have hR1 := hR5.below hq
                have HB1 := Lib.hid (hB5.out.trans (hq.mono (by omega)))
                have HI1 := Lib.hid ((HI5.out.below hq).mono hq.size)
                have hs1 := hR1.size
                clear x0 x1 x2 x3 e0 e1 e2 e3 y0 y1 y2 y3 g0 g1 g2 g3 z0 z1 z2 z3 f0 f1 f2 f3 t0 t1 t2 t3
                clear hq hR5 hB5 HI5
                obtain ⟨⟨⟨x0, x1, x2, x3, e0, e1, e2, e3⟩, ⟨y0, y1, y2, y3, g0, g1, g2, g3⟩, ⟨z0, z1, z2, z3, f0, f1, f2, f3⟩, _⟩, ⟨t0, t1, t2, t3, _, _, _, _⟩, _, _⟩ := id hR1
                go_wp2_with fail
                go_region_with (first
                  | (go_at_call 43; refine (rat_any 20 (tk l k) _).mono ?_; rintro e w4 ⟨rfl, hbf⟩; have hq4 : Below w1.heap.size w1 w4 := (by first | exact hq5.trans (hbf.mono hq5.size) | exact (Below.refl _ w1).drew.trans hbf); obtain ⟨⟨⟨a0, a1, a2, a3, _, _, _, _⟩, ⟨y0, y1, y2, y3, g0, g1, g2, g3⟩, ⟨z0, z1, z2, z3, f0, f1, f2, f3⟩, _⟩, ⟨b0, b1, b2, b3, _, _, _, _⟩, _, _⟩ := hR1.below hq4)
                  | (go_at_call 44; refine (pop_any (some ⟨b, o, none⟩) A l.length n0 (k : Int) 2 zs n _ hn hzl hcap (by first | exact (HI1.out.below hq4).mono hq4.size | exact HI1.out)).mono ?_; rintro e w5 ⟨v, rfl, hfr, hbf⟩; obtain ⟨A', c', rfl⟩ := hfr.form; have hq5 : Below w1.heap.size w1 w5 := (by first | exact hq4.trans (hbf.mono hq4.size) | exact (Below.refl _ w1).drew.trans hbf); obtain ⟨⟨⟨a0, a1, a2, a3, _, _, _, _⟩, ⟨y0, y1, y2, y3, g0, g1, g2, g3⟩, ⟨z0, z1, z2, z3, f0, f1, f2, f3⟩, _⟩, ⟨b0, b1, b2, b3, _, _, _, _⟩, _, _⟩ := hR1.below hq5))
                all_goals
                  go_wp2
                  refine bodyPost_ret (v := .tuple #[.agg #[.int .i64 20, .string ⟨#[]⟩, .int .i64 (tk l k).line, .int .i64 (tk l k).col], .agg #[.slice (some ⟨b, o, none⟩) l.length n0, .int .i64 (k : Int), .slice A' zs.dropLast.length c', .int .i64 2], .int .i64 0]) (by simp [results, Try.results26, go_sem, y0, y1, y2, y3, z0, z1, z2, z3]) rfl ?_
                  first
                    | exact said_new HRES.out (put4_fresh (put4_fresh hfr (by omega) _ _ _ _) (by omega) _ _ _ _) (put4_below (put4_below (HB1.out.trans (hq5.mono (by omega))) (by omega) _ _ _ _) (by omega) _ _ _ _) (by first | (have := hq4.size; omega) | (show w.heap.size ≤ w1.heap.size; omega))
                    | exact said_new HRES.out (put4_fresh (put4_fresh (Fresh.below hfr hbf) (by omega) _ _ _ _) (by omega) _ _ _ _) (put4_below (put4_below (HB1.out.trans (hq4.mono (by omega))) (by omega) _ _ _ _) (by omega) _ _ _ _) (by show w.heap.size ≤ w1.heap.size; omega)
              · cases heq : ((tk l k).col == topOf zs) with
                | true =>
                  have hres : R = (markTok 19 (tk l k), ⟨l, (k : Int) + 1, zs, 0⟩, 0) := by rw [← HRK.out]; simp [nextF, e16, hpos, beq_iff_eq.1 heq]
                  have HRES := Lib.hid hres
                  clear hres HRK
                  go_wp2_with fail
                  refine (rtop_any _ _ _ A zs n _ (by omega) HI5.out).mono ?_
                  rintro e w1 ⟨rfl, hq⟩
                  have hR1 := hR5.below hq
                  have HB1 := Lib.hid (hB5.out.trans (hq.mono (by omega)))
                  have HI1 := Lib.hid ((HI5.out.below hq).mono hq.size)
                  have hs1 := hR1.size
                  clear x0 x1 x2 x3 e0 e1 e2 e3 y0 y1 y2 y3 g0 g1 g2 g3 z0 z1 z2 z3 f0 f1 f2 f3 t0 t1 t2 t3
                  clear hq hR5 hB5 HI5
                  obtain ⟨⟨⟨x0, x1, x2, x3, e0, e1, e2, e3⟩, ⟨y0, y1, y2, y3, g0, g1, g2, g3⟩, ⟨z0, z1, z2, z3, f0, f1, f2, f3⟩, _⟩, ⟨t0, t1, t2, t3, _, _, _, _⟩, _, _⟩ := id hR1
                  go_wp2_with fail
                  have hR9 := ((hR1.set1 (.int .i64 ((k : Int) + 1))).set3 (.int .i64 0))
                  have HB9 := Lib.hid ((HB1.out.setCell (p := ⟨w.heap.size, 1, none⟩) (by simp) (.int .i64 ((k : Int) + 1))).setCell (p := ⟨w.heap.size, 3, none⟩) (by simp) (.int .i64 0))
                  clear x0 x1 x2 x3 e0 e1 e2 e3 y0 y1 y2 y3 g0 g1 g2 g3 z0 z1 z2 z3 f0 f1 f2 f3 t0 t1 t2 t3
                  clear hR1 HB1 
                  obtain ⟨W9, hW9⟩ : ∃ W9, ((w1.setCell ⟨w.heap.size, 1, none⟩ (.int .i64 ((k : Int) + 1))).setCell ⟨w.heap.size, 3, none⟩ (.int .i64 0)) = W9 := ⟨_, rfl⟩
                  rw [hW9] at hR9 HB9 
                  rw [hW9]
                  clear hW9
                  have hs9 := hR9.size
                  obtain ⟨⟨⟨x0, x1, x2, x3, e0, e1, e2, e3⟩, ⟨y0, y1, y2, y3, g0, g1, g2, g3⟩, ⟨z0, z1, z2, z3, f0, f1, f2, f3⟩, _⟩, ⟨t0, t1, t2, t3, _, _, _, _⟩, _, _⟩ := id hR9
                  go_region_with (go_at_call 43; refine (rat_any 19 (tk l k) _).mono ?_; rintro e w8 ⟨rfl, hbf⟩; have hq : Below W9.heap.size W9 w8 := (Below.refl _ W9).drew.trans hbf; obtain ⟨⟨⟨a0, a1, a2, a3, _, _, _, _⟩, ⟨y0, y1, y2, y3, g0, g1, g2, g3⟩, ⟨z0, z1, z2, z3, f0, f1, f2, f3⟩, _⟩, _, _, _⟩ := hR9.below hq)
                  all_goals
                    go_wp2
                    exact bodyPost_ret (v := .tuple #[.agg #[.int .i64 19, .string ⟨#[]⟩, .int .i64 (tk l k).line, .int .i64 (tk l k).col], .agg #[.slice (some ⟨b, o, none⟩) l.length n0, .int .i64 ((k : Int) + 1), .slice A zs.length n, .int .i64 0], .int .i64 0]) (by simp [results, Try.results26, go_sem, y0, y1, y2, y3, z0, z1, z2, z3]) rfl
                      (said_same HRES.out hcap HC.out HI.out (put4_below (put4_below (HB9.out.trans (hq.mono (by omega))) (by omega) _ _ _ _) (by omega) _ _ _ _))
                | false =>
                  have hnx : nextF l zs f (k + 1) 0 = R := by rw [← HRK.out]; simp [nextF, e16, hpos, hlt', beq_eq_false_iff_ne.1 heq]
                  have HNX := Lib.hid hnx
                  clear hnx HRK
                  go_wp2_with fail
                  refine (rtop_any _ _ _ A zs n _ (by omega) HI5.out).mono ?_
                  rintro e w1 ⟨rfl, hq⟩
                  have hR1 := hR5.below hq
                  have HB1 := Lib.hid (hB5.out.trans (hq.mono (by omega)))
                  have HI1 := Lib.hid ((HI5.out.below hq).mono hq.size)
                  have hs1 := hR1.size
                  clear x0 x1 x2 x3 e0 e1 e2 e3 y0 y1 y2 y3 g0 g1 g2 g3 z0 z1 z2 z3 f0 f1 f2 f3 t0 t1 t2 t3
                  clear hq hR5 hB5 HI5
                  obtain ⟨⟨⟨x0, x1, x2, x3, e0, e1, e2, e3⟩, ⟨y0, y1, y2, y3, g0, g1, g2, g3⟩, ⟨z0, z1, z2, z3, f0, f1, f2, f3⟩, _⟩, ⟨t0, t1, t2, t3, _, _, _, _⟩, _, _⟩ := id hR1
                  go_wp2_with fail
                  have hR9 := ((hR1.set1 (.int .i64 ((k : Int) + 1))).set3 (.int .i64 0))
                  have HB9 := Lib.hid ((HB1.out.setCell (p := ⟨w.heap.size, 1, none⟩) (by simp) (.int .i64 ((k : Int) + 1))).setCell (p := ⟨w.heap.size, 3, none⟩) (by simp) (.int .i64 0))
                  clear x0 x1 x2 x3 e0 e1 e2 e3 y0 y1 y2 y3 g0 g1 g2 g3 z0 z1 z2 z3 f0 f1 f2 f3 t0 t1 t2 t3
                  clear hR1 HB1 
                  obtain ⟨W9, hW9⟩ : ∃ W9, ((w1.setCell ⟨w.heap.size, 1, none⟩ (.int .i64 ((k : Int) + 1))).setCell ⟨w.heap.size, 3, none⟩ (.int .i64 0)) = W9 := ⟨_, rfl⟩
                  rw [hW9] at hR9 HB9 
                  rw [hW9]
                  clear hW9
                  have hs9 := hR9.size
                  go_roundg f
                  case measure => omega
                  case rel => exact ⟨k + 1, 0, by omega, by omega, by omega, hR9.q, HB9.out, HNX.out⟩
            · have hnx : nextF l zs f (k + 1) 0 = R := by rw [← HRK.out]; simp [nextF, e16, hpos]
              have HNX := Lib.hid hnx
              clear hnx HRK
              go_wp2_with fail
              refine (rtop_any _ _ _ A zs n _ (by omega) HI5.out).mono ?_
              rintro e w1 ⟨rfl, hq⟩
              have hR1 := hR5.below hq
              have HB1 := Lib.hid (hB5.out.trans (hq.mono (by omega)))
              have HI1 := Lib.hid ((HI5.out.below hq).mono hq.size)
              have hs1 := hR1.size
              clear x0 x1 x2 x3 e0 e1 e2 e3 y0 y1 y2 y3 g0 g1 g2 g3 z0 z1 z2 z3 f0 f1 f2 f3 t0 t1 t2 t3
              clear hq hR5 hB5 HI5
              obtain ⟨⟨⟨x0, x1, x2, x3, e0, e1, e2, e3⟩, ⟨y0, y1, y2, y3, g0, g1, g2, g3⟩, ⟨z0, z1, z2, z3, f0, f1, f2, f3⟩, _⟩, ⟨t0, t1, t2, t3, _, _, _, _⟩, _, _⟩ := id hR1
              go_wp2_with fail
              have hR9 := ((hR1.set1 (.int .i64 ((k : Int) + 1))).set3 (.int .i64 0))
              have HB9 := Lib.hid ((HB1.out.setCell (p := ⟨w.heap.size, 1, none⟩) (by simp) (.int .i64 ((k : Int) + 1))).setCell (p := ⟨w.heap.size, 3, none⟩) (by simp) (.int .i64 0))
              clear x0 x1 x2 x3 e0 e1 e2 e3 y0 y1 y2 y3 g0 g1 g2 g3 z0 z1 z2 z3 f0 f1 f2 f3 t0 t1 t2 t3
              clear hR1 HB1 
              obtain ⟨W9, hW9⟩ : ∃ W9, ((w1.setCell ⟨w.heap.size, 1, none⟩ (.int .i64 ((k : Int) + 1))).setCell ⟨w.heap.size, 3, none⟩ (.int .i64 0)) = W9 := ⟨_, rfl⟩
              rw [hW9] at hR9 HB9 
              rw [hW9]
              clear hW9
              have hs9 := hR9.size
              go_roundg f
              case measure => omega
              case rel => exact ⟨k + 1, 0, by omega, by omega, by omega, hR9.q, HB9.out, HNX.out⟩
      | false =>
        cases e17 : ((tk l k).kind == 17) with
        | true =>
          by_cases hpos : 0 < topOf zs
          · by_cases hlt' : (tk l k).col < topOf zs
            · have hres : R = (markTok 20 (tk l k), ⟨l, (k : Int), zs.dropLast, wt⟩, 0) := by rw [← HRK.out]; simp [nextF, e16, e17, hpos, hlt']
              have HRES := Lib.hid hres
              clear hres HRK
              have hzl : 0 < zs.length := by
                rcases Nat.eq_zero_or_pos zs.length with e | e
                · rw [List.eq_nil_of_length_eq_zero e, topOf_nil] at hpos; omega
                · exact e
              go_wp2_with fail
              refine (rtop_any _ _ _ A zs n _ (by omega) HI5.out).mono ?_
              rintro e w1 ⟨rfl, hq⟩
              have hR1 := hR5.below hq
              have HB1 := Lib.hid (hB5.out.trans (hq.mono (by omega)))
              have HI1 := Lib.hid ((HI5.out.below hq).mono hq.size)
              have hs1 := hR1.size
              clear x0 x1 x2 x3 e0 e1 e2 e3 y0 y1 y2 y3 g0 g1 g2 g3 z0 z1 z2 z3 f0 f1 f2 f3 t0 t1 t2 t3
              clear hq hR5 hB5 HI5
              obtain ⟨⟨⟨x0, x1, x2, x3, e0, e1, e2, e3⟩, ⟨y0, y1, y2, y3, g0, g1, g2, g3⟩, ⟨z0, z1, z2, z3, f0, f1, f2, f3⟩, _⟩, ⟨t0, t1, t2, t3, _, _, _, _⟩, _, _⟩ := id hR1
              go_wp2_with fail
              go_region_with (first
                | (go_at_call 43; refine (rat_any 20 (tk l k) _).mono ?_; rintro e w4 ⟨rfl, hbf⟩; have hq4 : Below w1.heap.size w1 w4 := (by first | exact hq5.trans (hbf.mono hq5.size) | exact (Below.refl _ w1).drew.trans hbf); obtain ⟨⟨⟨a0, a1, a2, a3, _, _, _, _⟩, ⟨y0, y1, y2, y3, g0, g1, g2, g3⟩, ⟨z0, z1, z2, z3, f0, f1, f2, f3⟩, _⟩, ⟨b0, b1, b2, b3, _, _, _, _⟩, _, _⟩ := hR1.below hq4)
                | (go_at_call 44; refine (pop_any (some ⟨b, o, none⟩) A l.length n0 (k : Int) wt zs n _ hn hzl hcap (by first | exact (HI1.out.below hq4).mono hq4.size | exact HI1.out)).mono ?_; rintro e w5 ⟨v, rfl, hfr, hbf⟩; obtain ⟨A', c', rfl⟩ := hfr.form; have hq5 : Below w1.heap.size w1 w5 := (by first | exact hq4.trans (hbf.mono hq4.size) | exact (Below.refl _ w1).drew.trans hbf); obtain ⟨⟨⟨a0, a1, a2, a3, _, _, _, _⟩, ⟨y0, y1, y2, y3, g0, g1, g2, g3⟩, ⟨z0, z1, z2, z3, f0, f1, f2, f3⟩, _⟩, ⟨b0, b1, b2, b3, _, _, _, _⟩, _, _⟩ := hR1.below hq5))
              all_goals
                go_wp2
                refine bodyPost_ret (v := .tuple #[.agg #[.int .i64 20, .string ⟨#[]⟩, .int .i64 (tk l k).line, .int .i64 (tk l k).col], .agg #[.slice (some ⟨b, o, none⟩) l.length n0, .int .i64 (k : Int), .slice A' zs.dropLast.length c', .int .i64 wt], .int .i64 0]) (by simp [results, Try.results26, go_sem, y0, y1, y2, y3, z0, z1, z2, z3]) rfl ?_
                first
                  | exact said_new HRES.out (put4_fresh (put4_fresh hfr (by omega) _ _ _ _) (by omega) _ _ _ _) (put4_below (put4_below (HB1.out.trans (hq5.mono (by omega))) (by omega) _ _ _ _) (by omega) _ _ _ _) (by first | (have := hq4.size; omega) | (show w.heap.size ≤ w1.heap.size; omega))
                  | exact said_new HRES.out (put4_fresh (put4_fresh (Fresh.below hfr hbf) (by omega) _ _ _ _) (by omega) _ _ _ _) (put4_below (put4_below (HB1.out.trans (hq4.mono (by omega))) (by omega) _ _ _ _) (by omega) _ _ _ _) (by show w.heap.size ≤ w1.heap.size; omega)
            · cases heq : ((tk l k).col == topOf zs) with
              | true =>
                have hres : R = (markTok 19 (tk l k), ⟨l, (k : Int) + 1, zs, 0⟩, 0) := by rw [← HRK.out]; simp [nextF, e16, e17, hpos, beq_iff_eq.1 heq]
                have HRES := Lib.hid hres
                clear hres HRK
                go_wp2_with fail
                refine (rtop_any _ _ _ A zs n _ (by omega) HI5.out).mono ?_
                rintro e w1 ⟨rfl, hq⟩
                have hR1 := hR5.below hq
                have HB1 := Lib.hid (hB5.out.trans (hq.mono (by omega)))
                have HI1 := Lib.hid ((HI5.out.below hq).mono hq.size)
                have hs1 := hR1.size
                clear x0 x1 x2 x3 e0 e1 e2 e3 y0 y1 y2 y3 g0 g1 g2 g3 z0 z1 z2 z3 f0 f1 f2 f3 t0 t1 t2 t3
                clear hq hR5 hB5 HI5
                obtain ⟨⟨⟨x0, x1, x2, x3, e0, e1, e2, e3⟩, ⟨y0, y1, y2, y3, g0, g1, g2, g3⟩, ⟨z0, z1, z2, z3, f0, f1, f2, f3⟩, _⟩, ⟨t0, t1, t2, t3, _, _, _, _⟩, _, _⟩ := id hR1
                go_wp2_with fail
                have hR9 := ((hR1.set1 (.int .i64 ((k : Int) + 1))).set3 (.int .i64 0))
                have HB9 := Lib.hid ((HB1.out.setCell (p := ⟨w.heap.size, 1, none⟩) (by simp) (.int .i64 ((k : Int) + 1))).setCell (p := ⟨w.heap.size, 3, none⟩) (by simp) (.int .i64 0))
                clear x0 x1 x2 x3 e0 e1 e2 e3 y0 y1 y2 y3 g0 g1 g2 g3 z0 z1 z2 z3 f0 f1 f2 f3 t0 t1 t2 t3
                clear hR1 HB1 
                obtain ⟨W9, hW9⟩ : ∃ W9, ((w1.setCell ⟨w.heap.size, 1, none⟩ (.int .i64 ((k : Int) + 1))).setCell ⟨w.heap.size, 3, none⟩ (.int .i64 0)) = W9 := ⟨_, rfl⟩
                rw [hW9] at hR9 HB9 
                rw [hW9]
                clear hW9
                have hs9 := hR9.size
                obtain ⟨⟨⟨x0, x1, x2, x3, e0, e1, e2, e3⟩, ⟨y0, y1, y2, y3, g0, g1, g2, g3⟩, ⟨z0, z1, z2, z3, f0, f1, f2, f3⟩, _⟩, ⟨t0, t1, t2, t3, _, _, _, _⟩, _, _⟩ := id hR9
                go_region_with (go_at_call 43; refine (rat_any 19 (tk l k) _).mono ?_; rintro e w8 ⟨rfl, hbf⟩; have hq : Below W9.heap.size W9 w8 := (Below.refl _ W9).drew.trans hbf; obtain ⟨⟨⟨a0, a1, a2, a3, _, _, _, _⟩, ⟨y0, y1, y2, y3, g0, g1, g2, g3⟩, ⟨z0, z1, z2, z3, f0, f1, f2, f3⟩, _⟩, _, _, _⟩ := hR9.below hq)
                all_goals
                  go_wp2
                  exact bodyPost_ret (v := .tuple #[.agg #[.int .i64 19, .string ⟨#[]⟩, .int .i64 (tk l k).line, .int .i64 (tk l k).col], .agg #[.slice (some ⟨b, o, none⟩) l.length n0, .int .i64 ((k : Int) + 1), .slice A zs.length n, .int .i64 0], .int .i64 0]) (by simp [results, Try.results26, go_sem, y0, y1, y2, y3, z0, z1, z2, z3]) rfl
                    (said_same HRES.out hcap HC.out HI.out (put4_below (put4_below (HB9.out.trans (hq.mono (by omega))) (by omega) _ _ _ _) (by omega) _ _ _ _))
              | false =>
                have hnx : nextF l zs f (k + 1) 0 = R := by rw [← HRK.out]; simp [nextF, e16, e17, hpos, hlt', beq_eq_false_iff_ne.1 heq]
                have HNX := Lib.hid hnx
                clear hnx HRK
                go_wp2_with fail
                refine (rtop_any _ _ _ A zs n _ (by omega) HI5.out).mono ?_
                rintro e w1 ⟨rfl, hq⟩
                have hR1 := hR5.below hq
                have HB1 := Lib.hid (hB5.out.trans (hq.mono (by omega)))
                have HI1 := Lib.hid ((HI5.out.below hq).mono hq.size)
                have hs1 := hR1.size
                clear x0 x1 x2 x3 e0 e1 e2 e3 y0 y1 y2 y3 g0 g1 g2 g3 z0 z1 z2 z3 f0 f1 f2 f3 t0 t1 t2 t3
                clear hq hR5 hB5 HI5
                obtain ⟨⟨⟨x0, x1, x2, x3, e0, e1, e2, e3⟩, ⟨y0, y1, y2, y3, g0, g1, g2, g3⟩, ⟨z0, z1, z2, z3, f0, f1, f2, f3⟩, _⟩, ⟨t0, t1, t2, t3, _, _, _, _⟩, _, _⟩ := id hR1
                go_wp2_with fail
                have hR9 := ((hR1.set1 (.int .i64 ((k : Int) + 1))).set3 (.int .i64 0))
                have HB9 := Lib.hid ((HB1.out.setCell (p := ⟨w.heap.size, 1, none⟩) (by simp) (.int .i64 ((k : Int) + 1))).setCell (p := ⟨w.heap.size, 3, none⟩) (by simp) (.int .i64 0))
                clear x0 x1 x2 x3 e0 e1 e2 e3 y0 y1 y2 y3 g0 g1 g2 g3 z0 z1 z2 z3 f0 f1 f2 f3 t0 t1 t2 t3
                clear hR1 HB1 
                obtain ⟨W9, hW9⟩ : ∃ W9, ((w1.setCell ⟨w.heap.size, 1, none⟩ (.int .i64 ((k : Int) + 1))).setCell ⟨w.heap.size, 3, none⟩ (.int .i64 0)) = W9 := ⟨_, rfl⟩
                rw [hW9] at hR9 HB9 
                rw [hW9]
                clear hW9
                have hs9 := hR9.size
                go_roundg f
                case measure => omega
                case rel => exact ⟨k + 1, 0, by omega, by omega, by omega, hR9.q, HB9.out, HNX.out⟩
          · have hnx : nextF l zs f (k + 1) 0 = R := by rw [← HRK.out]; simp [nextF, e16, e17, hpos]
            have HNX := Lib.hid hnx
            clear hnx HRK
            go_wp2_with fail
            refine (rtop_any _ _ _ A zs n _ (by omega) HI5.out).mono ?_
            rintro e w1 ⟨rfl, hq⟩
            have hR1 := hR5.below hq
            have HB1 := Lib.hid (hB5.out.trans (hq.mono (by omega)))
            have HI1 := Lib.hid ((HI5.out.below hq).mono hq.size)
            have hs1 := hR1.size
            clear x0 x1 x2 x3 e0 e1 e2 e3 y0 y1 y2 y3 g0 g1 g2 g3 z0 z1 z2 z3 f0 f1 f2 f3 t0 t1 t2 t3
            clear hq hR5 hB5 HI5
            obtain ⟨⟨⟨x0, x1, x2, x3, e0, e1, e2, e3⟩, ⟨y0, y1, y2, y3, g0, g1, g2, g3⟩, ⟨z0, z1, z2, z3, f0, f1, f2, f3⟩, _⟩, ⟨t0, t1, t2, t3, _, _, _, _⟩, _, _⟩ := id hR1
            go_wp2_with fail
            have hR9 := ((hR1.set1 (.int .i64 ((k : Int) + 1))).set3 (.int .i64 0))
            have HB9 := Lib.hid ((HB1.out.setCell (p := ⟨w.heap.size, 1, none⟩) (by simp) (.int .i64 ((k : Int) + 1))).setCell (p := ⟨w.heap.size, 3, none⟩) (by simp) (.int .i64 0))
            clear x0 x1 x2 x3 e0 e1 e2 e3 y0 y1 y2 y3 g0 g1 g2 g3 z0 z1 z2 z3 f0 f1 f2 f3 t0 t1 t2 t3
            clear hR1 HB1 
            obtain ⟨W9, hW9⟩ : ∃ W9, ((w1.setCell ⟨w.heap.size, 1, none⟩ (.int .i64 ((k : Int) + 1))).setCell ⟨w.heap.size, 3, none⟩ (.int .i64 0)) = W9 := ⟨_, rfl⟩
            rw [hW9] at hR9 HB9 
            rw [hW9]
            clear hW9
            have hs9 := hR9.size
            go_roundg f
            case measure => omega
            case rel => exact ⟨k + 1, 0, by omega, by omega, by omega, hR9.q, HB9.out, HNX.out⟩
        | false =>
          cases e15 : ((tk l k).kind == 15) with
          | false =>
            have hres : R = (tk l k, ⟨l, (k : Int) + 1, zs, wt⟩, 0) := by rw [← HRK.out]; simp [nextF, oneF, e16, e17, e15]
            have HRES := Lib.hid hres
            clear hres HRK
            go_wp2_with fail
            have hR9 := (hR5.set1 (.int .i64 ((k : Int) + 1)))
            have HB9 := Lib.hid (hB5.out.setCell (p := ⟨w.heap.size, 1, none⟩) (by simp) (.int .i64 ((k : Int) + 1)))
            clear x0 x1 x2 x3 e0 e1 e2 e3 y0 y1 y2 y3 g0 g1 g2 g3 z0 z1 z2 z3 f0 f1 f2 f3 t0 t1 t2 t3
            clear hR5 hB5 
            obtain ⟨W9, hW9⟩ : ∃ W9, (W5.setCell ⟨w.heap.size, 1, none⟩ (.int .i64 ((k : Int) + 1))) = W9 := ⟨_, rfl⟩
            rw [hW9] at hR9 HB9 
            rw [hW9]
            clear hW9
            have hs9 := hR9.size
            obtain ⟨⟨⟨x0, x1, x2, x3, e0, e1, e2, e3⟩, ⟨y0, y1, y2, y3, g0, g1, g2, g3⟩, ⟨z0, z1, z2, z3, f0, f1, f2, f3⟩, _⟩, ⟨t0, t1, t2, t3, _, _, _, _⟩, _, _⟩ := id hR9
            go_region
            all_goals
              go_wp2
              exact bodyPost_ret (v := .tuple #[.agg #[.int .i64 (tk l k).kind, .string (tk l k).text, .int .i64 (tk l k).line, .int .i64 (tk l k).col], .agg #[.slice (some ⟨b, o, none⟩) l.length n0, .int .i64 ((k : Int) + 1), .slice A zs.length n, .int .i64 wt], .int .i64 0]) (by simp [results, Try.results26, go_sem, y0, y1, y2, y3, z0, z1, z2, z3]) rfl
                (said_same HRES.out hcap HC.out HI.out (put4_below (put4_below HB9.out (by omega) _ _ _ _) (by omega) _ _ _ _).drew)
          | true =>
            cases b2 : ((tk l k).text.toList == [125]) with
            | false =>
              cases b1 : ((tk l k).text.toList == [123]) with
              | false =>
                have hres : R = (tk l k, ⟨l, (k : Int) + 1, zs, wt⟩, 0) := by rw [← HRK.out]; simp [nextF, oneF, e16, e17, e15, b1, b2]
                have HRES := Lib.hid hres
                clear hres HRK
                go_wp2_with fail
                have hR9 := (hR5.set1 (.int .i64 ((k : Int) + 1)))
                have HB9 := Lib.hid (hB5.out.setCell (p := ⟨w.heap.size, 1, none⟩) (by simp) (.int .i64 ((k : Int) + 1)))
                clear x0 x1 x2 x3 e0 e1 e2 e3 y0 y1 y2 y3 g0 g1 g2 g3 z0 z1 z2 z3 f0 f1 f2 f3 t0 t1 t2 t3
                clear hR5 hB5 
                obtain ⟨W9, hW9⟩ : ∃ W9, (W5.setCell ⟨w.heap.size, 1, none⟩ (.int .i64 ((k : Int) + 1))) = W9 := ⟨_, rfl⟩
                rw [hW9] at hR9 HB9 
                rw [hW9]
                clear hW9
                have hs9 := hR9.size
                obtain ⟨⟨⟨x0, x1, x2, x3, e0, e1, e2, e3⟩, ⟨y0, y1, y2, y3, g0, g1, g2, g3⟩, ⟨z0, z1, z2, z3, f0, f1, f2, f3⟩, _⟩, ⟨t0, t1, t2, t3, _, _, _, _⟩, _, _⟩ := id hR9
                go_region
                all_goals
                  go_wp2
                  exact bodyPost_ret (v := .tuple #[.agg #[.int .i64 (tk l k).kind, .string (tk l k).text, .int .i64 (tk l k).line, .int .i64 (tk l k).col], .agg #[.slice (some ⟨b, o, none⟩) l.length n0, .int .i64 ((k : Int) + 1), .slice A zs.length n, .int .i64 wt], .int .i64 0]) (by simp [results, Try.results26, go_sem, y0, y1, y2, y3, z0, z1, z2, z3]) rfl
                    (said_same HRES.out hcap HC.out HI.out (put4_below (put4_below HB9.out (by omega) _ _ _ _) (by omega) _ _ _ _).drew)
              | true =>
                have hres : R = (tk l k, ⟨l, (k : Int) + 1, zs ++ [0], wt⟩, 0) := by rw [← HRK.out]; simp [nextF, oneF, e16, e17, e15, b1, b2]
                have HRES := Lib.hid hres
                clear hres HRK
                go_wp2_with fail
                refine (push_any (some ⟨b, o, none⟩) A l.length n0 (k : Int) wt 0 zs n _ hn HC.out HI5.out).mono ?_
                rintro e w2 ⟨v, rfl, hfr, hq⟩
                obtain ⟨A', c', rfl⟩ := hfr.form
                have hR2 := hR5.below hq
                have HB2 := Lib.hid (hB5.out.trans (hq.mono (by omega)))
                have HF2 := Lib.hid hfr
                have hs2 := hR2.size
                clear x0 x1 x2 x3 e0 e1 e2 e3 y0 y1 y2 y3 g0 g1 g2 g3 z0 z1 z2 z3 f0 f1 f2 f3 t0 t1 t2 t3
                clear hq hfr hR5 hB5 HI5
                obtain ⟨⟨⟨x0, x1, x2, x3, e0, e1, e2, e3⟩, ⟨y0, y1, y2, y3, g0, g1, g2, g3⟩, ⟨z0, z1, z2, z3, f0, f1, f2, f3⟩, _⟩, ⟨t0, t1, t2, t3, _, _, _, _⟩, _, _⟩ := id hR2
                go_wp2_with fail
                have hR9 := ((hR2.put (.slice (some ⟨b, o, none⟩) l.length n0) (.int .i64 (k : Int)) (.slice A' (zs.length + 1) c') (.int .i64 wt)).set1 (.int .i64 ((k : Int) + 1)))
                have HB9 := Lib.hid ((put4_below HB2.out (b := w.heap.size) (by omega) (.slice (some ⟨b, o, none⟩) l.length n0) (.int .i64 (k : Int)) (.slice A' (zs.length + 1) c') (.int .i64 wt)).setCell (p := ⟨w.heap.size, 1, none⟩) (by simp) (.int .i64 ((k : Int) + 1)))
                have HF9 := Lib.hid (Fresh.set (b := w.heap.size) (o := 1) (put4_fresh HF2.out (b := w.heap.size) (by omega) (.slice (some ⟨b, o, none⟩) l.length n0) (.int .i64 (k : Int)) (.slice A' (zs.length + 1) c') (.int .i64 wt)) (by omega) (.int .i64 ((k : Int) + 1)))
                clear x0 x1 x2 x3 e0 e1 e2 e3 y0 y1 y2 y3 g0 g1 g2 g3 z0 z1 z2 z3 f0 f1 f2 f3 t0 t1 t2 t3
                clear hR2 HB2 HF2
                obtain ⟨W9, hW9⟩ : ∃ W9, ((put4 w2 w.heap.size (.slice (some ⟨b, o, none⟩) l.length n0) (.int .i64 (k : Int)) (.slice A' (zs.length + 1) c') (.int .i64 wt)).setCell ⟨w.heap.size, 1, none⟩ (.int .i64 ((k : Int) + 1))) = W9 := ⟨_, rfl⟩
                rw [hW9] at hR9 HB9 HF9
                unfold put4 at hW9
                rw [hW9]
                clear hW9
                have hs9 := hR9.size
                obtain ⟨⟨⟨x0, x1, x2, x3, e0, e1, e2, e3⟩, ⟨y0, y1, y2, y3, g0, g1, g2, g3⟩, ⟨z0, z1, z2, z3, f0, f1, f2, f3⟩, _⟩, ⟨t0, t1, t2, t3, _, _, _, _⟩, _, _⟩ := id hR9
                go_region
                all_goals
                  go_wp2
                  exact bodyPost_ret (v := .tuple #[.agg #[.int .i64 (tk l k).kind, .string (tk l k).text, .int .i64 (tk l k).line, .int .i64 (tk l k).col], .agg #[.slice (some ⟨b, o, none⟩) l.length n0, .int .i64 ((k : Int) + 1), .slice A' (zs ++ [0]).length c', .int .i64 wt], .int .i64 0]) (by simp [results, Try.results26, go_sem, y0, y1, y2, y3, z0, z1, z2, z3]) rfl
                    (said_new HRES.out (Fresh.drew (put4_fresh (put4_fresh HF9.out (by omega) _ _ _ _) (by omega) _ _ _ _)) (put4_below (put4_below HB9.out (by omega) _ _ _ _) (by omega) _ _ _ _).drew (by omega))
            | true =>
              have b1 : ((tk l k).text.toList == [123]) = false := by rw [beq_iff_eq.1 b2]; rfl
              cases hz : ((zs.length : Int) == 0) with
              | true =>
                have hzn : zs.length = 0 := by have := beq_iff_eq.1 hz; omega
                have HZN := Lib.hid hzn
                clear hzn
                have hres : R = (tk0, ⟨l, (k : Int), zs, wt⟩, 90) := by rw [← HRK.out]; simp [nextF, oneF, e16, e17, e15, b2, HZN.out]
                have HRES := Lib.hid hres
                clear hres HRK
                go_wp2_with fail
                go_region
                all_goals
                  go_wp2
                  exact bodyPost_ret (v := .tuple #[.agg #[.int .i64 0, .string ⟨#[]⟩, .int .i64 0, .int .i64 0], .agg #[.slice (some ⟨b, o, none⟩) l.length n0, .int .i64 (k : Int), .slice A zs.length n, .int .i64 wt], .int .i64 90]) (by simp [results, Try.results26, go_sem, y0, y1, y2, y3, z0, z1, z2, z3]) rfl
                    (said_same HRES.out hcap HC.out HI.out (put4_below (put4_below hB5.out (by omega) _ _ _ _) (by omega) _ _ _ _).drew)
              | false =>
                have hzn : ¬ zs.length = 0 := by have := beq_eq_false_iff_ne.1 hz; omega
                have HZN := Lib.hid hzn
                clear hzn
                by_cases hpos : 0 < topOf zs
                · have hres : R = (tk0, ⟨l, (k : Int), zs, wt⟩, 90) := by rw [← HRK.out]; simp [nextF, oneF, e16, e17, e15, b2, hpos]
                  have HRES := Lib.hid hres
                  clear hres HRK
                  go_wp2_with fail
                  refine (rtop_any _ _ _ A zs n _ (by omega) HI5.out).mono ?_
                  rintro e w1 ⟨rfl, hq⟩
                  have hR1 := hR5.below hq
                  have HB1 := Lib.hid (hB5.out.trans (hq.mono (by omega)))
                  have HI1 := Lib.hid ((HI5.out.below hq).mono hq.size)
                  have hs1 := hR1.size
                  clear x0 x1 x2 x3 e0 e1 e2 e3 y0 y1 y2 y3 g0 g1 g2 g3 z0 z1 z2 z3 f0 f1 f2 f3 t0 t1 t2 t3
                  clear hq hR5 hB5 HI5
                  obtain ⟨⟨⟨x0, x1, x2, x3, e0, e1, e2, e3⟩, ⟨y0, y1, y2, y3, g0, g1, g2, g3⟩, ⟨z0, z1, z2, z3, f0, f1, f2, f3⟩, _⟩, ⟨t0, t1, t2, t3, _, _, _, _⟩, _, _⟩ := id hR1
                  go_wp2_with fail
                  go_region
                  all_goals
                    go_wp2
                    exact bodyPost_ret (v := .tuple #[.agg #[.int .i64 0, .string ⟨#[]⟩, .int .i64 0, .int .i64 0], .agg #[.slice (some ⟨b, o, none⟩) l.length n0, .int .i64 (k : Int), .slice A zs.length n, .int .i64 wt], .int .i64 90]) (by simp [results, Try.results26, go_sem, y0, y1, y2, y3, z0, z1, z2, z3]) rfl
                      (said_same HRES.out hcap HC.out HI.out (put4_below (put4_below HB1.out (by omega) _ _ _ _) (by omega) _ _ _ _).drew)
                · have hres : R = (tk l k, ⟨l, (k : Int) + 1, zs.dropLast, wt⟩, 0) := by rw [← HRK.out]; simp [nextF, oneF, e16, e17, e15, b2, HZN.out, hpos]
                  have HRES := Lib.hid hres
                  clear hres HRK
                  have hzl : 0 < zs.length := by have := HZN.out; omega
                  go_wp2_with fail
                  refine (rtop_any _ _ _ A zs n _ (by omega) HI5.out).mono ?_
                  rintro e w1 ⟨rfl, hq⟩
                  have hR1 := hR5.below hq
                  have HB1 := Lib.hid (hB5.out.trans (hq.mono (by omega)))
                  have HI1 := Lib.hid ((HI5.out.below hq).mono hq.size)
                  have hs1 := hR1.size
                  clear x0 x1 x2 x3 e0 e1 e2 e3 y0 y1 y2 y3 g0 g1 g2 g3 z0 z1 z2 z3 f0 f1 f2 f3 t0 t1 t2 t3
                  clear hq hR5 hB5 HI5
                  obtain ⟨⟨⟨x0, x1, x2, x3, e0, e1, e2, e3⟩, ⟨y0, y1, y2, y3, g0, g1, g2, g3⟩, ⟨z0, z1, z2, z3, f0, f1, f2, f3⟩, _⟩, ⟨t0, t1, t2, t3, _, _, _, _⟩, _, _⟩ := id hR1
                  go_wp2_with fail
                  refine (pop_any (some ⟨b, o, none⟩) A l.length n0 (k : Int) wt zs n _ hn hzl hcap HI1.out).mono ?_
                  rintro e w2 ⟨v, rfl, hfr, hq⟩
                  obtain ⟨A', c', rfl⟩ := hfr.form
                  have hR2 := hR1.below hq
                  have HB2 := Lib.hid (HB1.out.trans (hq.mono (by omega)))
                  have HF2 := Lib.hid hfr
                  have hs2 := hR2.size
                  clear x0 x1 x2 x3 e0 e1 e2 e3 y0 y1 y2 y3 g0 g1 g2 g3 z0 z1 z2 z3 f0 f1 f2 f3 t0 t1 t2 t3
                  clear hq hfr hR1 HB1 HI1
                  obtain ⟨⟨⟨x0, x1, x2, x3, e0, e1, e2, e3⟩, ⟨y0, y1, y2, y3, g0, g1, g2, g3⟩, ⟨z0, z1, z2, z3, f0, f1, f2, f3⟩, _⟩, ⟨t0, t1, t2, t3, _, _, _, _⟩, _, _⟩ := id hR2
                  go_wp2_with fail
                  have hR9 := ((hR2.put (.slice (some ⟨b, o, none⟩) l.length n0) (.int .i64 (k : Int)) (.slice A' (zs.length - 1) c') (.int .i64 wt)).set1 (.int .i64 ((k : Int) + 1)))
                  have HB9 := Lib.hid ((put4_below HB2.out (b := w.heap.size) (by omega) (.slice (some ⟨b, o, none⟩) l.length n0) (.int .i64 (k : Int)) (.slice A' (zs.length - 1) c') (.int .i64 wt)).setCell (p := ⟨w.heap.size, 1, none⟩) (by simp) (.int .i64 ((k : Int) + 1)))
                  have HF9 := Lib.hid (Fresh.set (b := w.heap.size) (o := 1) (put4_fresh HF2.out (b := w.heap.size) (by omega) (.slice (some ⟨b, o, none⟩) l.length n0) (.int .i64 (k : Int)) (.slice A' (zs.length - 1) c') (.int .i64 wt)) (by omega) (.int .i64 ((k : Int) + 1)))
                  clear x0 x1 x2 x3 e0 e1 e2 e3 y0 y1 y2 y3 g0 g1 g2 g3 z0 z1 z2 z3 f0 f1 f2 f3 t0 t1 t2 t3
                  clear hR2 HB2 HF2
                  obtain ⟨W9, hW9⟩ : ∃ W9, ((put4 w2 w.heap.size (.slice (some ⟨b, o, none⟩) l.length n0) (.int .i64 (k : Int)) (.slice A' (zs.length - 1) c') (.int .i64 wt)).setCell ⟨w.heap.size, 1, none⟩ (.int .i64 ((k : Int) + 1))) = W9 := ⟨_, rfl⟩
                  rw [hW9] at hR9 HB9 HF9
                  unfold put4 at hW9
                  rw [hW9]
                  clear hW9
                  have hs9 := hR9.size
                  obtain ⟨⟨⟨x0, x1, x2, x3, e0, e1, e2, e3⟩, ⟨y0, y1, y2, y3, g0, g1, g2, g3⟩, ⟨z0, z1, z2, z3, f0, f1, f2, f3⟩, _⟩, ⟨t0, t1, t2, t3, _, _, _, _⟩, _, _⟩ := id hR9
                  go_region
                  all_goals
                    go_wp2
                    exact bodyPost_ret (v := .tuple #[.agg #[.int .i64 (tk l k).kind, .string (tk l k).text, .int .i64 (tk l k).line, .int .i64 (tk l k).col], .agg #[.slice (some ⟨b, o, none⟩) l.length n0, .int .i64 ((k : Int) + 1), .slice A' zs.dropLast.length c', .int .i64 wt], .int .i64 0]) (by simp [results, Try.results26, go_sem, y0, y1, y2, y3, z0, z1, z2, z3]) rfl
                      (said_new HRES.out (Fresh.drew (put4_fresh (put4_fresh HF9.out (by omega) _ _ _ _) (by omega) _ _ _ _)) (put4_below (put4_below HB9.out (by omega) _ _ _ _) (by omega) _ _ _ _).drew (by omega))
    · have hg0 : gk = 0 := by omega
      have hkl : k = l.length := by omega
      subst hg0 hkl
      have hrend : endF l zs l.length wt = R := HRK.out
      have HRE := Lib.hid hrend
      clear hrend HRK
      have hIr := (HI.out.below hBr).mono (by omega : w.heap.size ≤ wr.heap.size)
      have HIr := Lib.hid hIr
      clear hIr hBr
      obtain ⟨_, ⟨y0, y1, y2, y3, g0, g1, g2, g3⟩, ⟨z0, z1, z2, z3, f0, f1, f2, f3⟩, _⟩ := id HQR.out
      cases hz : ((zs.length : Int) == 0) with
      | true =>
        have hzn : zs.length = 0 := by have := beq_iff_eq.1 hz; omega
        have HZN := Lib.hid hzn
        clear hzn
        have hres : R = (⟨21, .empty, 0, 0⟩, ⟨l, (l.length : Int), zs, wt⟩, 0) := by rw [← HRE.out]; simp [endF, HZN.out]
        have HRES := Lib.hid hres
        clear hres HRE
        go_wp2_with fail
        go_region
        all_goals
          go_wp2
          exact bodyPost_ret (v := .tuple #[.agg #[.int .i64 21, .string ⟨#[]⟩, .int .i64 0, .int .i64 0], .agg #[.slice A0 l.length n0, .int .i64 (l.length : Int), .slice A zs.length n, .int .i64 wt], .int .i64 0]) (by simp [results, Try.results26, go_sem, y0, y1, y2, y3, z0, z1, z2, z3]) rfl
            (said_same HRES.out hcap HC.out HI.out (put4_below (put4_below HBR.out (by omega) _ _ _ _) (by omega) _ _ _ _).drew)
      | false =>
        have hzn : ¬ zs.length = 0 := by have := beq_eq_false_iff_ne.1 hz; omega
        have HZN := Lib.hid hzn
        clear hzn
        by_cases hpos : 0 < topOf zs
        · have hres : R = (⟨20, .empty, 0, 0⟩, ⟨l, (l.length : Int), zs.dropLast, wt⟩, 0) := by rw [← HRE.out]; simp [endF, HZN.out, hpos]
          have HRES := Lib.hid hres
          clear hres HRE
          have hzl : 0 < zs.length := by have := HZN.out; omega
          go_wp2_with fail
          refine (rtop_any _ _ _ A zs n _ (by omega) HIr.out).mono ?_
          rintro e w1 ⟨rfl, hq⟩
          clear x0 x1 x2 x3 y0 y1 y2 y3 g0 g1 g2 g3 z0 z1 z2 z3 f0 f1 f2 f3
          have hQ1 := HQR.out.below hq
          obtain ⟨⟨x0, x1, x2, x3, _, _, _, _⟩, ⟨y0, y1, y2, y3, g0, g1, g2, g3⟩, ⟨z0, z1, z2, z3, f0, f1, f2, f3⟩, _⟩ := id hQ1
          have HB1 := Lib.hid (HBR.out.trans (hq.mono (by omega)))
          have HI1 := Lib.hid ((HIr.out.below hq).mono hq.size)
          have hs1 := hQ1.size
          clear hq
          go_wp2_with fail
          refine (pop_any A0 A l.length n0 (l.length : Int) wt zs n _ hn hzl hcap HI1.out).mono ?_
          rintro e w2 ⟨v, rfl, hfr, hq⟩
          obtain ⟨A', c', rfl⟩ := hfr.form
          clear x0 x1 x2 x3 y0 y1 y2 y3 g0 g1 g2 g3 z0 z1 z2 z3 f0 f1 f2 f3
          obtain ⟨_, ⟨y0, y1, y2, y3, g0, g1, g2, g3⟩, ⟨z0, z1, z2, z3, f0, f1, f2, f3⟩, _⟩ := hQ1.below hq
          have HB2 := Lib.hid (HB1.out.trans (hq.mono (by omega)))
          have HF2 := Lib.hid hfr
          clear hq hfr
          go_wp2
          exact bodyPost_ret (v := .tuple #[.agg #[.int .i64 20, .string ⟨#[]⟩, .int .i64 0, .int .i64 0], .agg #[.slice A0 l.length n0, .int .i64 (l.length : Int), .slice A' zs.dropLast.length c', .int .i64 wt], .int .i64 0]) (by simp [results, Try.results26, go_sem, y0, y1, y2, y3, z0, z1, z2, z3]) rfl
            (said_new HRES.out (put4_fresh (put4_fresh HF2.out (by omega) _ _ _ _) (by omega) _ _ _ _) (put4_below (put4_below HB2.out (by omega) _ _ _ _) (by omega) _ _ _ _) (by omega))
        · have hres : R = (tk0, ⟨l, (l.length : Int), zs, wt⟩, 90) := by rw [← HRE.out]; simp [endF, HZN.out, hpos]
          have HRES := Lib.hid hres
          clear hres HRE
          go_wp2_with fail
          refine (rtop_any _ _ _ A zs n _ (by omega) HIr.out).mono ?_
          rintro e w1 ⟨rfl, hq⟩
          clear x0 x1 x2 x3 y0 y1 y2 y3 g0 g1 g2 g3 z0 z1 z2 z3 f0 f1 f2 f3
          have hQ1 := HQR.out.below hq
          obtain ⟨⟨x0, x1, x2, x3, _, _, _, _⟩, ⟨y0, y1, y2, y3, g0, g1, g2, g3⟩, ⟨z0, z1, z2, z3, f0, f1, f2, f3⟩, _⟩ := id hQ1
          have HB1 := Lib.hid (HBR.out.trans (hq.mono (by omega)))
          have HI1 := Lib.hid ((HIr.out.below hq).mono hq.size)
          have hs1 := hQ1.size
          clear hq
          go_wp2_with fail
          go_region
          all_goals
            go_wp2
            exact bodyPost_ret (v := .tuple #[.agg #[.int .i64 0, .string ⟨#[]⟩, .int .i64 0, .int .i64 0], .agg #[.slice A0 l.length n0, .int .i64 (l.length : Int), .slice A zs.length n, .int .i64 wt], .int .i64 90]) (by simp [results, Try.results26, go_sem, y0, y1, y2, y3, z0, z1, z2, z3]) rfl
              (said_same HRES.out hcap HC.out HI.out (put4_below (put4_below HB1.out (by omega) _ _ _ _) (by omega) _ _ _ _).drew)
end Go.Proofs.Ytnophjkiecalpaa
