/- The program's lay: a Nest; each document. -/
import Derived.Test.YtnpaplfdmpjfgaaDoorDLayP
namespace Go.Proofs.YtnpaplfdmpjfgaaDoor
open Go.RowKit

set_option maxRecDepth 100000 in
set_option maxHeartbeats 8000000 in
theorem play_2t (B b n₀ : Nat) (V : Value) (c : Cfg) (q : Pen) (base M : Int) (fresh : Bool) (d : Doc) (A : Option Addr) (cc : Nat) (w : World) (hk : d.kind = 2) (hfr : fresh = true)
    (h : PenAt B w b V (pfOf c q false) q.out) (hi : Inv M q) (hsay : ∀ k ∈ d.kids, LaySays k) (hf : d.form = true) (hwt : d.wt ≤ 16777216) (hfo : d.void = false → FOk c q (base + d.lead0) fresh) (hb0 : -M ≤ base) (hb1 : base ≤ M) (hM : M + 4000 * (d.wt : Int) - 2000 ≤ 1099511627776) (hn : n₀ ≤ B) (hK : KidsAt n₀ w d.kids A) :
    Calls Tryd.prog 55 #[.pointer (some ⟨b, 0, none⟩), .agg #[.int .i64 d.kind, .string d.text, .int .i64 d.n, .slice A d.kids.length cc], .agg #[.int .i64 base, .bool fresh]] w (PLaid B b w V c (M + 4000 * (d.wt : Int) - 2000) (d.lay c q base fresh)) := by
  have k1 : (d.kind == 1) = false := by rw [hk]; rfl
  have k2 : (d.kind == 2) = true := by rw [hk]; rfl
  have k3 : (d.kind == 3) = false := by rw [hk]; rfl
  have k4 : (d.kind == 4) = false := by rw [hk]; rfl
  have k5 : (d.kind == 5) = false := by rw [hk]; rfl
  have k6 : (d.kind == 6) = false := by rw [hk]; rfl
  have k7 : (d.kind == 7) = false := by rw [hk]; rfl
  have k8 : (d.kind == 8) = false := by rw [hk]; rfl
  have k9 : (d.kind == 9) = false := by rw [hk]; rfl
  have k10 : (d.kind == 10) = false := by rw [hk]; rfl
  obtain ⟨x, hx⟩ : ∃ x, d.kids = [x] := by
    have := (form_at.1 hf).l1.resolve_left (by omega)
    match hd : d.kids with
    | [x] => exact ⟨x, rfl⟩
    | [] => rw [hd] at this; simp at this
    | _ :: _ :: _ => rw [hd] at this; simp at this
  have hn0 := (form_at.1 hf).n0
  have hn1 := (form_at.1 hf).n1
  have hl1 : d.kids.length = 1 := by rw [hx]; rfl
  have hl0 : 0 < d.kids.length := by omega
  have hxm : x ∈ d.kids := by rw [hx]; exact List.mem_cons_self
  have hxw := kid_lt hxm
  have HLAY := Lib.hid (show d.lay c q base fresh = x.lay c q (base + d.n) fresh by rw [lay_eq, k1, k2, hx]; subst hfr; rfl)
  have hfo1 : x.void = false → FOk c q ((base + d.n) + x.lead0) fresh := by
    intro hv
    have hdv : d.void = false := by rw [void_eq, hk, hx]; simp [voids, hv]
    have hl : d.lead0 = d.n + x.lead0 := by
      rw [lead0_eq, k1, hx]
      simp [leads0, hv]
    have := hfo hdv
    rw [hl] at this
    rwa [← Int.add_assoc] at this
  have HFO1 := Lib.hid hfo1
  obtain ⟨hbx, hbw1, hbs1⟩ := box_new w (.int .i64 d.kind) (.string d.text) (.int .i64 d.n) (.slice A d.kids.length cc)
  obtain ⟨W1, hW1⟩ : ∃ W1, w.alloc (.cells #[.int .i64 d.kind, .string d.text, .int .i64 d.n, .slice A d.kids.length cc] 24) = W1 := ⟨_, rfl⟩
  rw [hW1] at hbx hbw1 hbs1
  obtain ⟨s0, s1, hbw2, hbs2⟩ := spot_new W1 (.int .i64 base) (.bool fresh)
  have sf0 : (W1.alloc (.cells #[.int .i64 base, .bool fresh] 70)).frozen? ⟨W1.heap.size, 0, none⟩ = false := by simp
  obtain ⟨W2, hW2⟩ : ∃ W2, W1.alloc (.cells #[.int .i64 base, .bool fresh] 70) = W2 := ⟨_, rfl⟩
  rw [hW2] at s0 s1 hbw2 hbs2 sf0
  have hx2 := hbx.below hbw2 (by omega)
  have hb02 := hbw1.trans (hbw2.mono (by omega))
  have hltb := h.lt
  have hBw := h.Ble
  have hwp := wt_pos d
  have hwe := wt_eq d
  have hwf := wts_filter Doc.there d.kids
  have HP := Lib.hid h
  have HP2 := Lib.hid (h.later hb02)
  have HM2 := Lib.hid (Moved.of_below (b := b) (V := V) hb02)
  have hsb1 : w.heap.size < W1.heap.size := by omega
  have hsb2 : W1.heap.size < W2.heap.size := by omega
  have HK2 := Lib.hid (kidsAt_below hK (below_le hb02 (by omega)))
  have c10 := (h.later hb02).cells.c10
  simp only [pfOf] at c10
  obtain ⟨z0, z1, z2, z3, _, _, _, _⟩ := hx2
  have HI := Lib.hid hi
  have HFO := Lib.hid hfo
  have HSAY := Lib.hid hsay
  have HF := Lib.hid hf
  have hkk := HK2.out
  rw [hx] at hkk
  obtain ⟨kb, ko, rfl, hat, _⟩ := hkk
  obtain ⟨A', c', j1, j2, j3, j4, j5, j6, j7, j8⟩ := docAt_iff.1 hat
  have HSX := Lib.hid (hsay x hxm)
  have HKX := Lib.hid j8
  have HB2 := Lib.hid hb02
  have hkw := hK
  rw [hx] at hkw
  obtain ⟨kb2, ko2, he2, hat2, _⟩ := hkw
  obtain ⟨A2, c2, _, _, _, _, g5, _, _, g8⟩ := docAt_iff.1 hat2
  have hAA : A2 = A' := by
    simp only [Option.some.injEq, Addr.mk.injEq, and_true] at he2
    obtain ⟨rfl, rfl⟩ := he2
    have := (hb02.cell (p := ⟨kb, ko + 3, none⟩) (by dsimp only; omega)).trans g5
    rw [j5] at this
    simp only [Option.some.injEq, Value.slice.injEq] at this
    exact this.1.symm
  have HKXW := Lib.hid (show KidsAt n₀ w x.kids A' from hAA ▸ g8)
  clear hAA g5 g8 hat2 he2
  have HNX := Lib.hid j7
  clear h hi hsay hf hfo hK hbx hbw1 hbw2 hbs1 hbs2 hb02 hk hx hxm hfo1 hl1 hat j7 j8
  have c0 : b ≠ W1.heap.size := by omega
  subst hfr
  go_enter Tryd.func55, Tryd.ntmps55
  go_upto_region 8 with (fail)
  clear hW1 hW2
  have hp3 : PenAt B (W2.setCell ⟨W1.heap.size, 0, none⟩ (.int .i64 (base + d.n))) b V (pfOf c q false) q.out := by
    refine HP2.out.ofBlk (Below.heap_setCell _ _ _ _ (by dsimp only; omega)) fun y hy => ?_
    exact Below.heap_setCell _ _ _ _ (by have := (HP.out.own.lt _ hy).2; dsimp only; omega)
  have hb3 : Below w.heap.size w (W2.setCell ⟨W1.heap.size, 0, none⟩ (.int .i64 (base + d.n))) := HB2.out.setCell (p := ⟨W1.heap.size, 0, none⟩) (by dsimp only; omega) _
  have hcs : ∀ o', (W2.setCell ⟨W1.heap.size, 0, none⟩ (.int .i64 (base + d.n))).cell? ⟨kb, o', none⟩ = W2.cell? ⟨kb, o', none⟩ := fun o' => World.cell?_of_block (a := ⟨kb, o', none⟩) (Below.heap_setCell _ _ _ _ (by dsimp only; omega))
  have v2 := (hcs ko).trans j2
  have v3 := (hcs (ko + 1)).trans j3
  have v4 := (hcs (ko + 2)).trans j4
  have v5 := (hcs (ko + 3)).trans j5
  have hcx : ∀ o', (W2.setCell ⟨W1.heap.size, 0, none⟩ (.int .i64 (base + d.n))).cell? ⟨w.heap.size, o', none⟩ = W2.cell? ⟨w.heap.size, o', none⟩ := fun o' => World.cell?_of_block (a := ⟨w.heap.size, o', none⟩) (Below.heap_setCell _ _ _ _ (by dsimp only; omega))
  have y3 := (hcx 3).trans z3
  have r0 : (W2.setCell ⟨W1.heap.size, 0, none⟩ (.int .i64 (base + d.n))).cell? ⟨W1.heap.size, 0, none⟩ = some (.int .i64 (base + d.n)) := by go_simp
  have r1 : (W2.setCell ⟨W1.heap.size, 0, none⟩ (.int .i64 (base + d.n))).cell? ⟨W1.heap.size, 1, none⟩ = some (.bool true) := by go_simp
  clear z0 z1 z2 z3 s0 s1 j2 j3 j4 j5 c10 sf0 hcs hcx
  generalize W2.setCell ⟨W1.heap.size, 0, none⟩ (.int .i64 (base + d.n)) = W3 at hp3 hb3 v2 v3 v4 v5 y3 r0 r1 ⊢
  have HP3 := Lib.hid hp3
  have HM3 := Lib.hid (Moved.of_below (b := b) (V := V) hb3)
  have HC := Lib.hid (HSX.out B b n₀ V c q false (base + d.n) (M + 1000) true A' c' W3.drew ⟨hp3.base, hp3.blk, hp3.own⟩ (HI.out.mono (by omega)) (fun _ hv => HFO1.out hv) (by omega) (by omega) (by omega) hn HNX.out j6 (kidsAt_below HKXW.out (below_le (Below.drew hb3) (by omega))))
  clear hp3 hb3
  go_still_tail 6, (by kernel_rfl)
  change wpList _ _ _ _ _ W3.drew
  go_wp2_with fail
  refine HC.out.mono ?_
  rintro e w9 ⟨rfl, hrest⟩
  go_wp2
  go_end0
  exact PLaid.of (w1 := W3.drew) ⟨rfl, hrest⟩ (HM3.out.trans (Moved.of_below (Below.drew (Below.refl _ _)))) (by omega) (by rw [HLAY.out]; rfl)

set_option maxRecDepth 100000 in
set_option maxHeartbeats 8000000 in
theorem play_2f (B b n₀ : Nat) (V : Value) (c : Cfg) (q : Pen) (base M : Int) (fresh : Bool) (d : Doc) (A : Option Addr) (cc : Nat) (w : World) (hk : d.kind = 2) (hfr : fresh = false)
    (h : PenAt B w b V (pfOf c q false) q.out) (hi : Inv M q) (hsay : ∀ k ∈ d.kids, LaySays k) (hf : d.form = true) (_hwt : d.wt ≤ 16777216) (hfo : d.void = false → FOk c q (base + d.lead0) fresh) (hb0 : -M ≤ base) (hb1 : base ≤ M) (hM : M + 4000 * (d.wt : Int) - 2000 ≤ 1099511627776) (hn : n₀ ≤ B) (hK : KidsAt n₀ w d.kids A) :
    Calls Tryd.prog 55 #[.pointer (some ⟨b, 0, none⟩), .agg #[.int .i64 d.kind, .string d.text, .int .i64 d.n, .slice A d.kids.length cc], .agg #[.int .i64 base, .bool fresh]] w (PLaid B b w V c (M + 4000 * (d.wt : Int) - 2000) (d.lay c q base fresh)) := by
  have k1 : (d.kind == 1) = false := by rw [hk]; rfl
  have k2 : (d.kind == 2) = true := by rw [hk]; rfl
  have k3 : (d.kind == 3) = false := by rw [hk]; rfl
  have k4 : (d.kind == 4) = false := by rw [hk]; rfl
  have k5 : (d.kind == 5) = false := by rw [hk]; rfl
  have k6 : (d.kind == 6) = false := by rw [hk]; rfl
  have k7 : (d.kind == 7) = false := by rw [hk]; rfl
  have k8 : (d.kind == 8) = false := by rw [hk]; rfl
  have k9 : (d.kind == 9) = false := by rw [hk]; rfl
  have k10 : (d.kind == 10) = false := by rw [hk]; rfl
  obtain ⟨x, hx⟩ : ∃ x, d.kids = [x] := by
    have := (form_at.1 hf).l1.resolve_left (by omega)
    match hd : d.kids with
    | [x] => exact ⟨x, rfl⟩
    | [] => rw [hd] at this; simp at this
    | _ :: _ :: _ => rw [hd] at this; simp at this
  have hn0 := (form_at.1 hf).n0
  have hn1 := (form_at.1 hf).n1
  have hl1 : d.kids.length = 1 := by rw [hx]; rfl
  have hl0 : 0 < d.kids.length := by omega
  have hxm : x ∈ d.kids := by rw [hx]; exact List.mem_cons_self
  have hxw := kid_lt hxm
  have HLAY := Lib.hid (show d.lay c q base fresh = x.lay c q base fresh by rw [lay_eq, k1, k2, hx]; subst hfr; rfl)
  have hfo1 : x.void = false → FOk c q (base + x.lead0) fresh := by
    intro hv
    rw [hfr]
    exact fok_not _ _ _
  have HFO1 := Lib.hid hfo1
  obtain ⟨hbx, hbw1, hbs1⟩ := box_new w (.int .i64 d.kind) (.string d.text) (.int .i64 d.n) (.slice A d.kids.length cc)
  obtain ⟨W1, hW1⟩ : ∃ W1, w.alloc (.cells #[.int .i64 d.kind, .string d.text, .int .i64 d.n, .slice A d.kids.length cc] 24) = W1 := ⟨_, rfl⟩
  rw [hW1] at hbx hbw1 hbs1
  obtain ⟨s0, s1, hbw2, hbs2⟩ := spot_new W1 (.int .i64 base) (.bool fresh)
  have sf0 : (W1.alloc (.cells #[.int .i64 base, .bool fresh] 70)).frozen? ⟨W1.heap.size, 0, none⟩ = false := by simp
  obtain ⟨W2, hW2⟩ : ∃ W2, W1.alloc (.cells #[.int .i64 base, .bool fresh] 70) = W2 := ⟨_, rfl⟩
  rw [hW2] at s0 s1 hbw2 hbs2 sf0
  have hx2 := hbx.below hbw2 (by omega)
  have hb02 := hbw1.trans (hbw2.mono (by omega))
  have hltb := h.lt
  have hBw := h.Ble
  have hwp := wt_pos d
  have hwe := wt_eq d
  have hwf := wts_filter Doc.there d.kids
  have HP := Lib.hid h
  have HP2 := Lib.hid (h.later hb02)
  have HM2 := Lib.hid (Moved.of_below (b := b) (V := V) hb02)
  have hsb1 : w.heap.size < W1.heap.size := by omega
  have hsb2 : W1.heap.size < W2.heap.size := by omega
  have HK2 := Lib.hid (kidsAt_below hK (below_le hb02 (by omega)))
  have c10 := (h.later hb02).cells.c10
  simp only [pfOf] at c10
  obtain ⟨z0, z1, z2, z3, _, _, _, _⟩ := hx2
  have HI := Lib.hid hi
  have HFO := Lib.hid hfo
  have HSAY := Lib.hid hsay
  have HF := Lib.hid hf
  have hkk := HK2.out
  rw [hx] at hkk
  obtain ⟨kb, ko, rfl, hat, _⟩ := hkk
  obtain ⟨A', c', j1, j2, j3, j4, j5, j6, j7, j8⟩ := docAt_iff.1 hat
  have HSX := Lib.hid (hsay x hxm)
  have HKX := Lib.hid j8
  have HB2 := Lib.hid hb02
  have hkw := hK
  rw [hx] at hkw
  obtain ⟨kb2, ko2, he2, hat2, _⟩ := hkw
  obtain ⟨A2, c2, _, _, _, _, g5, _, _, g8⟩ := docAt_iff.1 hat2
  have hAA : A2 = A' := by
    simp only [Option.some.injEq, Addr.mk.injEq, and_true] at he2
    obtain ⟨rfl, rfl⟩ := he2
    have := (hb02.cell (p := ⟨kb, ko + 3, none⟩) (by dsimp only; omega)).trans g5
    rw [j5] at this
    simp only [Option.some.injEq, Value.slice.injEq] at this
    exact this.1.symm
  have HKXW := Lib.hid (show KidsAt n₀ w x.kids A' from hAA ▸ g8)
  clear hAA g5 g8 hat2 he2
  have HNX := Lib.hid j7
  clear h hi hsay hf hfo hK hbx hbw1 hbw2 hbs1 hbs2 hb02 hk hx hxm hfo1 hl1 hat j7 j8
  have c0 : b ≠ W1.heap.size := by omega
  subst hfr
  go_enter Tryd.func55, Tryd.ntmps55
  go_upto_region 8 with (fail)
  clear hW1 hW2
  have hp3 := HP2.out
  have hb3 := HB2.out
  obtain ⟨W3, hW3⟩ : ∃ W3, W2 = W3 := ⟨_, rfl⟩
  have v2 := j2
  have v3 := j3
  have v4 := j4
  have v5 := j5
  have y3 := z3
  have r0 := s0
  have r1 := s1
  clear z0 z1 z2 z3 s0 s1 j2 j3 j4 j5 c10 sf0
  rw [hW3] at hp3 hb3 v2 v3 v4 v5 y3 r0 r1 ⊢
  clear hW3
  have HP3 := Lib.hid hp3
  have HM3 := Lib.hid (Moved.of_below (b := b) (V := V) hb3)
  have HC := Lib.hid (HSX.out B b n₀ V c q false base (M + 1000) false A' c' W3.drew ⟨hp3.base, hp3.blk, hp3.own⟩ (HI.out.mono (by omega)) (fun _ hv => HFO1.out hv) (by omega) (by omega) (by omega) hn HNX.out j6 (kidsAt_below HKXW.out (below_le (Below.drew hb3) (by omega))))
  clear hp3 hb3
  go_still_tail 6, (by kernel_rfl)
  change wpList _ _ _ _ _ W3.drew
  go_wp2_with fail
  refine HC.out.mono ?_
  rintro e w9 ⟨rfl, hrest⟩
  go_wp2
  go_end0
  exact PLaid.of (w1 := W3.drew) ⟨rfl, hrest⟩ (HM3.out.trans (Moved.of_below (Below.drew (Below.refl _ _)))) (by omega) (by rw [HLAY.out]; rfl)

theorem play_dead (d : Doc) (B b : Nat) (V : Value) (c : Cfg) (q : Pen) (base M : Int) (fresh : Bool) (A : Option Addr) (cc : Nat) (w : World)
    (h : PenAt B w b V (pfOf c q true) q.out) (hi : Inv M q) :
    Calls Tryd.prog 55 #[.pointer (some ⟨b, 0, none⟩), .agg #[.int .i64 d.kind, .string d.text, .int .i64 d.n, .slice A d.kids.length cc], .agg #[.int .i64 base, .bool fresh]] w (PLaid B b w V c (M + 4000 * (d.wt : Int) - 2000) none) := by
  obtain ⟨hbx, hbw1, hbs1⟩ := box_new w (.int .i64 d.kind) (.string d.text) (.int .i64 d.n) (.slice A d.kids.length cc)
  obtain ⟨W1, hW1⟩ : ∃ W1, w.alloc (.cells #[.int .i64 d.kind, .string d.text, .int .i64 d.n, .slice A d.kids.length cc] 24) = W1 := ⟨_, rfl⟩
  rw [hW1] at hbx hbw1 hbs1
  obtain ⟨s0, s1, hbw2, hbs2⟩ := spot_new W1 (.int .i64 base) (.bool fresh)
  have sf0 : (W1.alloc (.cells #[.int .i64 base, .bool fresh] 70)).frozen? ⟨W1.heap.size, 0, none⟩ = false := by simp
  obtain ⟨W2, hW2⟩ : ∃ W2, W1.alloc (.cells #[.int .i64 base, .bool fresh] 70) = W2 := ⟨_, rfl⟩
  rw [hW2] at s0 s1 hbw2 hbs2 sf0
  have hx2 := hbx.below hbw2 (by omega)
  have hb02 := hbw1.trans (hbw2.mono (by omega))
  have hwp := wt_pos d
  have HP2 := Lib.hid (h.later hb02)
  have HM2 := Lib.hid (Moved.of_below (b := b) (V := V) hb02)
  have c10 := (h.later hb02).cells.c10
  simp only [pfOf] at c10
  obtain ⟨z0, z1, z2, z3, _, _, _, _⟩ := hx2
  have HI := Lib.hid hi
  clear h hi hbx hbw1 hbw2 hbs1 hbs2 hb02
  go_enter Tryd.func55, Tryd.ntmps55
  go_wp2
  go_end0
  exact ⟨rfl, V, q, true, HP2.out, HM2.out, HI.out.mono (by omega), rfl⟩

/-- The program lays each document that may be as the plain law says. -/
theorem lay_says (m : Nat) : ∀ d : Doc, d.wt ≤ m → d.wt ≤ 16777216 → d.form = true → LaySays d := by
  induction m with
  | zero => intro d h; have := wt_pos d; omega
  | succ m ih =>
    intro d hm hw hf B b n₀ V c q lg base M fresh A cc w h hi hfo hb0 hb1 hM hn hnil hcap hK
    have ih' : ∀ k ∈ d.kids, LaySays k := fun k hk => ih k (by have := kid_lt hk; omega) (by have := kid_lt hk; omega) ((form_at.1 hf).kids k hk)
    cases lg with
    | true => exact play_dead d B b V c q base M fresh A cc w h hi
    | false =>
      have hfo' := hfo rfl
      have hk0 := (form_at.1 hf).k0
      have hk1 := (form_at.1 hf).k1
      show Calls _ _ _ _ (PLaid B b w V c _ (d.lay c q base fresh))
      rcases (by omega : d.kind = 0 ∨ d.kind = 1 ∨ d.kind = 2 ∨ d.kind = 3 ∨ d.kind = 4 ∨ d.kind = 5 ∨ d.kind = 6 ∨ d.kind = 7 ∨ d.kind = 8 ∨ d.kind = 9 ∨ d.kind = 10) with e | e | e | e | e | e | e | e | e | e | e
      · exact play_0 B b n₀ V c q base M fresh d A cc w e h hi ih' hf hw hfo' hb0 hb1 hM hn hK
      · exact play_1 B b n₀ V c q base M fresh d A cc w e h hi ih' hf hw hfo' hb0 hb1 hM hn hK
      · cases hfr : fresh with
        | true => rw [hfr] at hfo'; exact play_2t B b n₀ V c q base M true d A cc w e rfl h hi ih' hf hw hfo' hb0 hb1 hM hn hK
        | false => rw [hfr] at hfo'; exact play_2f B b n₀ V c q base M false d A cc w e rfl h hi ih' hf hw hfo' hb0 hb1 hM hn hK
      · exact play_3 B b n₀ V c q base M fresh d A cc w e h hi ih' hf hw hfo' hb0 hb1 hM hn hK
      · exact play_4 B b n₀ V c q base M fresh d A cc w e h hi ih' hf hw hfo' hb0 hb1 hM hn hK
      · exact play_5 B b n₀ V c q base M fresh d A cc w e h hi ih' hf hw hfo' hb0 hb1 hM hn hK
      · exact play_6 B b n₀ V c q base M fresh d A cc w e h hi ih' hf hw hfo' hb0 hb1 hM hn hK
      · exact play_7 B b n₀ V c q base M fresh d A cc w e h hi ih' hf hw hfo' hb0 hb1 hM hn hK
      · exact play_8 B b n₀ V c q base M fresh d A cc w e h hi ih' hf hw hfo' hb0 hb1 hM hn hK
      · exact play_9 B b n₀ V c q base M fresh d A cc w e h hi ih' hf hw hfo' hb0 hb1 hM hn hK
      · exact play_10 B b n₀ V c q base M fresh d A cc w e h hi ih' hf hw hfo' hb0 hb1 hM hn hK
end Go.Proofs.YtnpaplfdmpjfgaaDoor
