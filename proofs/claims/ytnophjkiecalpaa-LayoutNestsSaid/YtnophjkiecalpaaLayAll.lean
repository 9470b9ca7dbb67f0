/- All that is told: by the program and by the reference. -/
import Derived.Test.YtnophjkiecalpaaLayClose
import Derived.Test.YtnophjkiecalpaaLayLaw
import Derived.Deep.AppendLies
namespace Go.Proofs.Ytnophjkiecalpaa
open Go.RowKit
attribute [local go_sem ↓] Go.wp_at_zero Go.wp_at_succ

theorem Box4.grown {w w' : World} {b : Nat} {v0 v1 v2 v3 : Value} {row : Option Nat} (h : Box4 w b v0 v1 v2 v3) (hg : w.grownBy w' row) (hlt : b < w.heap.size) (hne : some b ≠ row) : Box4 w' b v0 v1 v2 v3 :=
  ⟨(hg.cell_far ⟨b, 0, none⟩ hlt hne).trans h.c0, (hg.cell_far ⟨b, 1, none⟩ hlt hne).trans h.c1, (hg.cell_far ⟨b, 2, none⟩ hlt hne).trans h.c2, (hg.cell_far ⟨b, 3, none⟩ hlt hne).trans h.c3,
    (hg.frozen_far ⟨b, 0, none⟩ hlt hne).trans h.f0, (hg.frozen_far ⟨b, 1, none⟩ hlt hne).trans h.f1, (hg.frozen_far ⟨b, 2, none⟩ hlt hne).trans h.f2, (hg.frozen_far ⟨b, 3, none⟩ hlt hne).trans h.f3⟩
theorem Ints.grown {w w' : World} {A : Option Addr} {zs : List Int} {row : Option Nat} {B : Nat} (h : Ints B w A zs) (hg : w.grownBy w' row) (hB : B ≤ w.heap.size) (hne : ∀ a, A = some a → some a.block ≠ row) : Ints B w' A zs := fun k z hk => by
  obtain ⟨b, o, e, hlt, hc⟩ := h k z hk
  exact ⟨b, o, e, hlt, (hg.cell_far ⟨b, o + k, .none⟩ (by show b < _; omega) (hne ⟨b, o, .none⟩ e)).trans hc⟩
theorem Ints.put {w : World} {A : Option Addr} {zs : List Int} {B b : Nat} (h : Ints B w A zs) (hne : ∀ a, A = some a → a.block ≠ b) (v0 v1 v2 v3 : Value) : Ints B (put4 w b v0 v1 v2 v3) A zs := fun k z hk => by
  obtain ⟨b', o, e, hlt, hc⟩ := h k z hk
  have hn := hne _ e
  refine ⟨b', o, e, hlt, ?_⟩
  unfold put4
  rw [World.cell?_setCell_other, World.cell?_setCell_other, World.cell?_setCell_other, World.cell?_setCell_other, hc]
  all_goals (intro e; simp at e; exact hn e.1.symm)

/-- What All tells. -/
def AllSaid (R : List Tok × Int) (w : World) (e : Ending) (w' : World) : Prop :=
  ∃ A c, e = .returned (.tuple #[.slice A R.1.length c, .int .i64 R.2]) ∧ Toks w'.heap.size w' A R.1 ∧ R.1.length ≤ 1000000 ∧ Below w.heap.size w w'
theorem all_bad {R : List Tok × Int} {w w' : World} {err : Int} (hR : R = ([], err)) (hb : Below w.heap.size w w') : AllSaid R w (.returned (.tuple #[.slice none 0 0, .int .i64 err])) w' := by
  subst hR
  exact ⟨none, 0, rfl, Toks.nil, by simp, hb⟩
theorem all_good {R : List Tok × Int} {w w' : World} {v : Value} {out : List Tok} {base : Nat} (hR : R = (out, 0)) (hl : out.length ≤ 1000000) (hown : w'.ownsRow base 23 4 v out.length (flat out)) (hb : Below w.heap.size w w') : AllSaid R w (.returned (.tuple #[v, .int .i64 0])) w' := by
  subst hR
  obtain ⟨A, c, rfl, h⟩ := isToks_of_own hown
  exact ⟨A, c, rfl, h, hl, hb⟩

/-- What holds at the head of All's loop: M is the state's box, out what was told till now. -/
structure AllAt (w wr : World) (A0 : Option Addr) (l : List Tok) (n0 M : Nat) (out : Value) (ys : List Tok) (k : Nat) (zs : List Int) (wt : Int) (A : Option Addr) (c : Nat) : Prop where
  box : Box4 wr M (.slice A0 l.length n0) (.int .i64 k) (.slice A zs.length c) (.int .i64 wt)
  cap : zs.length ≤ c
  nil : A = none → c = 0
  ints : Ints wr.heap.size wr A zs
  apart : ∀ a, A = some a → some a.block ≠ out.ownBlock ∧ a.block < wr.heap.size ∧ a.block ≠ M
  may : May l k zs wt
  len : zs.length ≤ k
  own : wr.ownsRow w.heap.size 23 4 out ys.length (flat ys)
  far : some M ≠ out.ownBlock
  there : M < wr.heap.size
  base : w.heap.size ≤ M
  below : Below w.heap.size w wr

theorem allF_succ (f : Nat) (s : LSt) (out : List Tok) : allF (f + 1) s out = if (nextS s).2.2 == 0 then (if (nextS s).1.kind == 21 then (out, 0) else allF f (nextS s).2.1 (out ++ [(nextS s).1])) else ([], (nextS s).2.2) := rfl
theorem two_more (w : World) (u0 u1 u2 u3 s0 s1 s2 s3 : Value) : Box4 ((w.alloc (.cells #[u0, u1, u2, u3] 23)).alloc (.cells #[s0, s1, s2, s3] 34)) w.heap.size u0 u1 u2 u3 ∧
    Box4 ((w.alloc (.cells #[u0, u1, u2, u3] 23)).alloc (.cells #[s0, s1, s2, s3] 34)) (w.heap.size + 1) s0 s1 s2 s3 ∧ Below w.heap.size w ((w.alloc (.cells #[u0, u1, u2, u3] 23)).alloc (.cells #[s0, s1, s2, s3] 34)) ∧
    ((w.alloc (.cells #[u0, u1, u2, u3] 23)).alloc (.cells #[s0, s1, s2, s3] 34)).heap.size = w.heap.size + 1 + 1 :=
  ⟨(Box4.new w u0 u1 u2 u3 23).alloc _ (by simp), by simpa using Box4.new (w.alloc (.cells #[u0, u1, u2, u3] 23)) s0 s1 s2 s3 34, ((Below.refl _ _).alloc (Nat.le_refl _) _).alloc (by simp) _, by simp⟩

set_option maxRecDepth 100000 in
set_option maxHeartbeats 8000000 in
theorem all_lay (A0 : Option Addr) (l : List Tok) (n0 : Nat) (w : World) (hl : l.length ≤ 3000) (ht : Toks w.heap.size w A0 l) :
    Calls Try.prog 28 #[.slice A0 l.length n0] w (AllSaid (allS l) w) := by
  have HT := Lib.hid ht
  obtain ⟨R, hR⟩ : ∃ R, allS l = R := ⟨_, rfl⟩
  rw [hR]
  have HR := Lib.hid hR
  clear ht hR
  go_enter Try.func28, Try.ntmps28
  go_wp2_with fail
  have hs0 : AllAt w ((w.alloc (.cells #[] 23)).alloc (.cells #[.slice A0 l.length n0, .int .i64 0, .slice none 0 0, .int .i64 0] 34)) A0 l n0 (w.heap.size + 1) (.slice (some ⟨w.heap.size, 0, none⟩) 0 0) [] 0 [] 0 none 0 :=
    ⟨by simpa using Box4.new (w.alloc (.cells #[] 23)) (.slice A0 l.length n0) (.int .i64 0) (.slice none 0 0) (.int .i64 0) 34, Nat.le_refl _, fun _ => rfl, Ints.nil, fun a e => by simp at e,
      ⟨by omega, by omega, by omega, fun h => by omega, by simp⟩, Nat.le_refl _, (World.ownsRow_made (base := w.heap.size) (e := 23) (size := 4) w #[] 0 (Nat.le_refl _) (by omega) rfl).alloc _, by simp [Value.ownBlock], by simp, by omega, ((Below.refl _ _).alloc (Nat.le_refl _) _).alloc (by simp) _⟩
  have HS0 := Lib.hid hs0
  clear hs0
  go_loopg [4] (pot l 0 [] 0 + 1) (fun g out wr => ∃ (ys : List Tok) (k : Nat) (zs : List Int) (wt : Int) (A : Option Addr) (c : Nat), AllAt w wr A0 l n0 (w.heap.size + 1) out ys k zs wt A c ∧ ys.length + g ≤ 12003 ∧ pot l k zs wt < g ∧ allF g ⟨l, (k : Int), zs, wt⟩ ys = R)
  case atStart => exact ⟨[], 0, [], 0, none, 0, HS0.out, by simp [pot]; omega, by omega, HR.out⟩
  case round =>
    obtain ⟨ys, k, zs, wt, A, c, hat, hys, hpot, hRk⟩ := hrel
    clear HR HS0
    obtain ⟨g, rfl⟩ : ∃ g, gk = g + 1 := ⟨gk - 1, by omega⟩
    obtain ⟨hbx, hcap, hnil, hints, haw, hmay, hzk, hown, hfar, hth, hbase, hbl⟩ := hat
    have hpos := hmay.pos
    have hok := nextF_ok l zs (l.length - k) k wt (by omega) hmay
    have hRk' : R = (if (nextF l zs (l.length - k) k wt).2.2 == 0 then (if (nextF l zs (l.length - k) k wt).1.kind == 21 then (ys, 0) else allF g (nextF l zs (l.length - k) k wt).2.1 (ys ++ [(nextF l zs (l.length - k) k wt).1])) else ([], (nextF l zs (l.length - k) k wt).2.2)) := by
      rw [← hRk, allF_succ, nextS_may hmay]
    have hcall := next_lay A0 A l n0 c k wt zs wr (by omega) (by omega) hcap hnil ((HT.out.below hbl).mono hbl.size) hints (may_iff.2 hmay) hpos
    generalize nextF l zs (l.length - k) k wt = r at hok hRk' hcall
    obtain ⟨t, s', err⟩ := r
    obtain ⟨k', zs', wt', hs', hmay', hkk, hzz, herr, hdec⟩ := hok
    simp only at hs' hRk' herr hdec
    subst hs'
    have HCALL := Lib.hid hcall
    have HR := Lib.hid hRk'
    have HM' := Lib.hid hmay'
    have HDEC := Lib.hid hdec
    have HINTS := Lib.hid hints
    have HAW := Lib.hid haw
    have HOWN := Lib.hid hown
    have HLT := Lib.hid (fun k hk => (hown.lt k hk).2)
    have HBL := Lib.hid hbl
    have hpos' := hmay'.pos
    have HERR := Lib.hid herr
    clear hRk hRk' hcall hmay' hdec hints haw hown hbl hnil hmay herr
    obtain ⟨x0, x1, x2, x3, _, _, _, _⟩ := id hbx
    go_wp2_with fail
    refine HCALL.out.mono ?_
    rintro e w1 ⟨A', c', rfl, hcap', hnil', hI', hwhere, hb1⟩
    have hbx1 := Lib.hid (hbx.below hb1 hth)
    have hs1 := hb1.size
    have HB1 := Lib.hid hb1
    have HI' := Lib.hid hI'
    have HW := Lib.hid hwhere
    have HN' := Lib.hid hnil'
    clear hb1 hI' hwhere hnil' HCALL x0 x1 x2 x3 hbx
    go_upto_region 4 with (fail)
    obtain ⟨bt, bs, hb3, hs3⟩ := two_more w1 (.int .i64 t.kind) (.string t.text) (.int .i64 t.line) (.int .i64 t.col) (.slice A0 l.length n0) (.int .i64 (k' : Int)) (.slice A' zs'.length c') (.int .i64 wt')
    obtain ⟨W3, hW3⟩ : ∃ W3, (w1.alloc (.cells #[.int .i64 t.kind, .string t.text, .int .i64 t.line, .int .i64 t.col] 23)).alloc (.cells #[.slice A0 l.length n0, .int .i64 (k' : Int), .slice A' zs'.length c', .int .i64 wt'] 34) = W3 := ⟨_, rfl⟩
    rw [hW3] at bt bs hb3 hs3 ⊢
    clear hW3
    have hb03 := HB1.out.trans (hb3.mono hs1)
    have HB3 := Lib.hid hb3
    have hBL3 := HBL.out.trans (hb03.mono (Nat.le_trans (by omega) (Nat.le_of_lt hth)))
    have HO3 := Lib.hid (own_below HOWN.out hb03)
    have HBL3 := Lib.hid hBL3
    have hbM := hbx1.out.below hb3 (by omega)
    clear hb3 hb03 hBL3 hbx1 HOWN
    have HS3 := Lib.hid hs3
    have hs3' : w1.heap.size + 1 < W3.heap.size := by omega
    clear hs3
    obtain ⟨t0, t1, t2, t3, _, _, _, _⟩ := id bt
    cases hE : (err != 0) with
    | true =>
      have hres : R = ([], err) := by rw [HR.out]; simp [show ¬ err = 0 by simpa using hE]
      have HRES := Lib.hid hres
      clear hres HR
      go_wp2
      go_ret2
      exact all_bad HRES.out HBL3.out
    | false =>
      have he0 : err = 0 := by simpa [bne] using hE
      cases h21 : (t.kind == 21) with
      | true =>
        have hres : R = (ys, 0) := by rw [HR.out]; simp [he0, beq_iff_eq.1 h21]
        have HRES := Lib.hid hres
        clear hres HR he0
        go_wp2
        go_ret2
        exact all_good HRES.out (by omega) HO3.out HBL3.out
      | false =>
        have hres : allF g ⟨l, (k' : Int), zs', wt'⟩ (ys ++ [t]) = R := by rw [HR.out]; simp [he0, beq_eq_false_iff_ne.1 h21]
        have hdec : pot l k' zs' wt' < pot l k zs wt := by
          rcases HDEC.out he0 with h | h
          · exact absurd h (beq_eq_false_iff_ne.1 h21)
          · exact h
        have HRES := Lib.hid hres
        have HPOT := Lib.hid hdec
        clear hres HR he0 hdec HDEC
        have hown3 := HO3.out
        have hy : ys.length ≤ 12003 := by omega
        have hne1 : ∀ k, wr.heap.size ≤ k → some k ≠ u4.ownBlock := fun k hk e => by have := HLT.out k e.symm; omega
        have haw' : ∀ a, A' = some a → some a.block ≠ u4.ownBlock ∧ a.block < W3.heap.size ∧ a.block ≠ w.heap.size + 1 := fun a ha => by
          rcases HW.out with h | h
          · subst h
            obtain ⟨h1, h2, h3⟩ := HAW.out a ha
            exact ⟨h1, by omega, h3⟩
          · obtain ⟨h1, h2⟩ := h a ha
            exact ⟨hne1 _ h1, by omega, by omega⟩
        have HNE := Lib.hid hne1
        have HAW' := Lib.hid haw'
        have BS := Lib.hid bs
        have BM := Lib.hid hbM
        have HFAR := Lib.hid hfar
        clear hne1 haw' hbM bs bt hfar
        go_wp2_with (at_builtin; refine wpList_app1 rfl _ _ 26 rfl 23 _ 4 40 Try.underlying26 info23 rfl (by decide) W3 t.cells rfl _ rfl w.heap.size _ _ _ rfl hown3 rfl rfl (by simp [Tok.cells, Value.oneCell']) (by unfold maxLen; omega) (by omega) (by omega) ?_; intro gg cc w4 hown4 hB4 hg4 hd4; have hbs4 := BS.out.grown hg4 hs3' (HNE.out _ (by omega)); have hbM4 := BM.out.grown hg4 (by omega) HFAR.out; have HG := Lib.hid hg4; have HD := Lib.hid hd4; have HO4 := Lib.hid hown4; have HB4 := Lib.hid hB4; have hs4 := hg4.size; clear hg4 hd4 hown4 hB4; obtain ⟨s0, s1, s2, s3, _, _, _, _⟩ := id hbs4; obtain ⟨x0, x1, x2, x3, e0, e1, e2, e3⟩ := id hbM4)
        go_roundg g
        case measure => omega
        case rel =>
          refine ⟨ys ++ [t], k', zs', wt', A', c', ⟨hbM4.put _ _ _ _, hcap', HN'.out, ?_, ?_, HM'.out, by omega, ?_, ?_, ?_, hbase, ?_⟩, by simp; omega, by have := HPOT.out; omega, HRES.out⟩
          · exact Ints.mono (B := w1.heap.size) (Ints.put (Ints.grown (HI'.out.below HB3.out) HG.out (by omega) (fun a ha => (HAW'.out a ha).1)) (fun a ha => (HAW'.out a ha).2.2) _ _ _ _) (by show w1.heap.size ≤ (put4 w4 (w.heap.size + 1) _ _ _ _).heap.size; rw [put4_size]; omega)
          · intro a ha
            obtain ⟨h1, h2, h3⟩ := HAW'.out a ha
            refine ⟨fun e => HD.out _ h1 h2 (by simpa [Value.ownBlock] using e), ?_, h3⟩
            show _ < (put4 w4 (w.heap.size + 1) _ _ _ _).heap.size
            rw [put4_size]; omega
          · have hgm : (Value.slice (some ⟨gg, 0, none⟩) (ys.length + 1) cc).ownBlock ≠ some (w.heap.size + 1) := fun e => HD.out (w.heap.size + 1) HFAR.out (by omega) (by simp [Value.ownBlock] at e; exact e.symm)
            have h5 := own_add (l' := ys ++ [t]) HO4.out rfl
            exact ownsRow_setCell_other (ownsRow_setCell_other (ownsRow_setCell_other (ownsRow_setCell_other h5 (a := ⟨w.heap.size + 1, 0, none⟩) hgm _) (a := ⟨w.heap.size + 1, 1, none⟩) hgm _) (a := ⟨w.heap.size + 1, 2, none⟩) hgm _) (a := ⟨w.heap.size + 1, 3, none⟩) hgm _
          · exact fun e => HD.out (w.heap.size + 1) HFAR.out (by omega) (by simpa [Value.ownBlock] using e)
          · show _ < (put4 w4 (w.heap.size + 1) _ _ _ _).heap.size
            rw [put4_size]; omega
          · exact put4_below (HBL3.out.trans HB4.out) hbase _ _ _ _
set_option maxRecDepth 100000 in
set_option maxHeartbeats 8000000 in
theorem rall_lay (A0 : Option Addr) (l : List Tok) (n0 : Nat) (w : World) (hl : l.length ≤ 3000) (ht : Toks w.heap.size w A0 l) :
    Calls Try.prog 29 #[.slice A0 l.length n0] w (AllSaid (allS l) w) := by
  have HT := Lib.hid ht
  obtain ⟨R, hR⟩ : ∃ R, allS l = R := ⟨_, rfl⟩
  rw [hR]
  have HR := Lib.hid hR
  clear ht hR
  go_enter Try.func29, Try.ntmps29
  go_wp2_with fail
  have hs0 : AllAt w (w.alloc (.cells #[.slice A0 l.length n0, .int .i64 0, .slice none 0 0, .int .i64 0] 34)) A0 l n0 w.heap.size (.slice none 0 0) [] 0 [] 0 none 0 :=
    ⟨Box4.new w (.slice A0 l.length n0) (.int .i64 0) (.slice none 0 0) (.int .i64 0) 34, Nat.le_refl _, fun _ => rfl, Ints.nil, fun a e => by simp at e,
      ⟨by omega, by omega, by omega, fun h => by omega, by simp⟩, Nat.le_refl _, World.ownsRow_nil _ _ _ _, by simp [Value.ownBlock], by simp, Nat.le_refl _, (Below.refl _ _).alloc (Nat.le_refl _) _⟩
  have HS0 := Lib.hid hs0
  clear hs0
  go_loopg [5] (pot l 0 [] 0 + 1) (fun g out wr => ∃ (ys : List Tok) (k : Nat) (zs : List Int) (wt : Int) (A : Option Addr) (c : Nat), AllAt w wr A0 l n0 w.heap.size out ys k zs wt A c ∧ ys.length + g ≤ 12003 ∧ pot l k zs wt < g ∧ allF g ⟨l, (k : Int), zs, wt⟩ ys = R)
  case atStart => exact ⟨[], 0, [], 0, none, 0, HS0.out, by simp [pot]; omega, by omega, HR.out⟩
  case round =>
    obtain ⟨ys, k, zs, wt, A, c, hat, hys, hpot, hRk⟩ := hrel
    clear HR HS0
    obtain ⟨g, rfl⟩ : ∃ g, gk = g + 1 := ⟨gk - 1, by omega⟩
    obtain ⟨hbx, hcap, hnil, hints, haw, hmay, hzk, hown, hfar, hth, hbase, hbl⟩ := hat
    have hpos := hmay.pos
    have hok := nextF_ok l zs (l.length - k) k wt (by omega) hmay
    have hRk' : R = (if (nextF l zs (l.length - k) k wt).2.2 == 0 then (if (nextF l zs (l.length - k) k wt).1.kind == 21 then (ys, 0) else allF g (nextF l zs (l.length - k) k wt).2.1 (ys ++ [(nextF l zs (l.length - k) k wt).1])) else ([], (nextF l zs (l.length - k) k wt).2.2)) := by
      rw [← hRk, allF_succ, nextS_may hmay]
    have hcall := rnext_lay A0 A l n0 c k wt zs wr (by omega) (by omega) hcap hnil ((HT.out.below hbl).mono hbl.size) hints (may_iff.2 hmay) hpos
    generalize nextF l zs (l.length - k) k wt = r at hok hRk' hcall
    obtain ⟨t, s', err⟩ := r
    obtain ⟨k', zs', wt', hs', hmay', hkk, hzz, herr, hdec⟩ := hok
    simp only at hs' hRk' herr hdec
    subst hs'
    have HCALL := Lib.hid hcall
    have HR := Lib.hid hRk'
    have HM' := Lib.hid hmay'
    have HDEC := Lib.hid hdec
    have HINTS := Lib.hid hints
    have HAW := Lib.hid haw
    have HOWN := Lib.hid hown
    have HLT := Lib.hid (fun k hk => (hown.lt k hk).2)
    have HBL := Lib.hid hbl
    have hpos' := hmay'.pos
    have HERR := Lib.hid herr
    clear hRk hRk' hcall hmay' hdec hints haw hown hbl hnil hmay herr
    obtain ⟨x0, x1, x2, x3, _, _, _, _⟩ := id hbx
    go_wp2_with fail
    refine HCALL.out.mono ?_
    rintro e w1 ⟨A', c', rfl, hcap', hnil', hI', hwhere, hb1⟩
    have hbx1 := Lib.hid (hbx.below hb1 hth)
    have hs1 := hb1.size
    have HB1 := Lib.hid hb1
    have HI' := Lib.hid hI'
    have HW := Lib.hid hwhere
    have HN' := Lib.hid hnil'
    clear hb1 hI' hwhere hnil' HCALL x0 x1 x2 x3 hbx
    go_upto_region 4 with (fail)
    obtain ⟨bt, bs, hb3, hs3⟩ := two_more w1 (.int .i64 t.kind) (.string t.text) (.int .i64 t.line) (.int .i64 t.col) (.slice A0 l.length n0) (.int .i64 (k' : Int)) (.slice A' zs'.length c') (.int .i64 wt')
    obtain ⟨W3, hW3⟩ : ∃ W3, (w1.alloc (.cells #[.int .i64 t.kind, .string t.text, .int .i64 t.line, .int .i64 t.col] 23)).alloc (.cells #[.slice A0 l.length n0, .int .i64 (k' : Int), .slice A' zs'.length c', .int .i64 wt'] 34) = W3 := ⟨_, rfl⟩
    rw [hW3] at bt bs hb3 hs3 ⊢
    clear hW3
    have hb03 := HB1.out.trans (hb3.mono hs1)
    have HB3 := Lib.hid hb3
    have hBL3 := HBL.out.trans (hb03.mono (Nat.le_trans (by omega) (Nat.le_of_lt hth)))
    have HO3 := Lib.hid (own_below HOWN.out hb03)
    have HBL3 := Lib.hid hBL3
    have hbM := hbx1.out.below hb3 (by omega)
    clear hb3 hb03 hBL3 hbx1 HOWN
    have HS3 := Lib.hid hs3
    have hs3' : w1.heap.size + 1 < W3.heap.size := by omega
    clear hs3
    obtain ⟨t0, t1, t2, t3, _, _, _, _⟩ := id bt
    cases hE : (err != 0) with
    | true =>
      have hres : R = ([], err) := by rw [HR.out]; simp [show ¬ err = 0 by simpa using hE]
      have HRES := Lib.hid hres
      clear hres HR
      go_wp2
      go_ret2
      exact all_bad HRES.out HBL3.out
    | false =>
      have he0 : err = 0 := by simpa [bne] using hE
      cases h21 : (t.kind == 21) with
      | true =>
        have hres : R = (ys, 0) := by rw [HR.out]; simp [he0, beq_iff_eq.1 h21]
        have HRES := Lib.hid hres
        clear hres HR he0
        go_wp2
        go_ret2
        exact all_good HRES.out (by omega) HO3.out HBL3.out
      | false =>
        have hres : allF g ⟨l, (k' : Int), zs', wt'⟩ (ys ++ [t]) = R := by rw [HR.out]; simp [he0, beq_eq_false_iff_ne.1 h21]
        have hdec : pot l k' zs' wt' < pot l k zs wt := by
          rcases HDEC.out he0 with h | h
          · exact absurd h (beq_eq_false_iff_ne.1 h21)
          · exact h
        have HRES := Lib.hid hres
        have HPOT := Lib.hid hdec
        clear hres HR he0 hdec HDEC
        have hown3 := HO3.out
        have hy : ys.length ≤ 12003 := by omega
        have hne1 : ∀ k, wr.heap.size ≤ k → some k ≠ u5.ownBlock := fun k hk e => by have := HLT.out k e.symm; omega
        have haw' : ∀ a, A' = some a → some a.block ≠ u5.ownBlock ∧ a.block < W3.heap.size ∧ a.block ≠ w.heap.size := fun a ha => by
          rcases HW.out with h | h
          · subst h
            obtain ⟨h1, h2, h3⟩ := HAW.out a ha
            exact ⟨h1, by omega, h3⟩
          · obtain ⟨h1, h2⟩ := h a ha
            exact ⟨hne1 _ h1, by omega, by omega⟩
        have HNE := Lib.hid hne1
        have HAW' := Lib.hid haw'
        have BS := Lib.hid bs
        have BM := Lib.hid hbM
        have HFAR := Lib.hid hfar
        clear hne1 haw' hbM bs bt hfar
        go_wp2_with (at_builtin; refine wpList_app1 rfl _ _ 26 rfl 23 _ 4 40 Try.underlying26 info23 rfl (by decide) W3 t.cells rfl _ rfl w.heap.size _ _ _ rfl hown3 rfl rfl (by simp [Tok.cells, Value.oneCell']) (by unfold maxLen; omega) (by omega) (by omega) ?_; intro gg cc w4 hown4 hB4 hg4 hd4; have hbs4 := BS.out.grown hg4 hs3' (HNE.out _ (by omega)); have hbM4 := BM.out.grown hg4 (by omega) HFAR.out; have HG := Lib.hid hg4; have HD := Lib.hid hd4; have HO4 := Lib.hid hown4; have HB4 := Lib.hid hB4; have hs4 := hg4.size; clear hg4 hd4 hown4 hB4; obtain ⟨s0, s1, s2, s3, _, _, _, _⟩ := id hbs4; obtain ⟨x0, x1, x2, x3, e0, e1, e2, e3⟩ := id hbM4)
        go_roundg g
        case measure => omega
        case rel =>
          refine ⟨ys ++ [t], k', zs', wt', A', c', ⟨hbM4.put _ _ _ _, hcap', HN'.out, ?_, ?_, HM'.out, by omega, ?_, ?_, ?_, hbase, ?_⟩, by simp; omega, by have := HPOT.out; omega, HRES.out⟩
          · exact Ints.mono (B := w1.heap.size) (Ints.put (Ints.grown (HI'.out.below HB3.out) HG.out (by omega) (fun a ha => (HAW'.out a ha).1)) (fun a ha => (HAW'.out a ha).2.2) _ _ _ _) (by show w1.heap.size ≤ (put4 w4 w.heap.size _ _ _ _).heap.size; rw [put4_size]; omega)
          · intro a ha
            obtain ⟨h1, h2, h3⟩ := HAW'.out a ha
            refine ⟨fun e => HD.out _ h1 h2 (by simpa [Value.ownBlock] using e), ?_, h3⟩
            show _ < (put4 w4 w.heap.size _ _ _ _).heap.size
            rw [put4_size]; omega
          · have hgm : (Value.slice (some ⟨gg, 0, none⟩) (ys.length + 1) cc).ownBlock ≠ some w.heap.size := fun e => HD.out w.heap.size HFAR.out (by omega) (by simp [Value.ownBlock] at e; exact e.symm)
            have h5 := own_add (l' := ys ++ [t]) HO4.out rfl
            exact ownsRow_setCell_other (ownsRow_setCell_other (ownsRow_setCell_other (ownsRow_setCell_other h5 (a := ⟨w.heap.size, 0, none⟩) hgm _) (a := ⟨w.heap.size, 1, none⟩) hgm _) (a := ⟨w.heap.size, 2, none⟩) hgm _) (a := ⟨w.heap.size, 3, none⟩) hgm _
          · exact fun e => HD.out w.heap.size HFAR.out (by omega) (by simpa [Value.ownBlock] using e)
          · show _ < (put4 w4 w.heap.size _ _ _ _).heap.size
            rw [put4_size]; omega
          · exact put4_below (HBL3.out.trans HB4.out) hbase _ _ _ _
end Go.Proofs.Ytnophjkiecalpaa
