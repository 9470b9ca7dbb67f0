/- The program's lay. -/
import Derived.Test.YtnpaplfdmpjfgaaDoorDLayS
namespace Go.Proofs.YtnpaplfdmpjfgaaDoor
open Go.RowKit

theorem fok_kids {c : Cfg} {q : Pen} {base : Int} {fresh : Bool} {d : Doc} (hf : d.form = true) (h1 : d.kind ≠ 1) (h2 : d.kind ≠ 2) (hfo : d.void = false → FOk c q (base + d.lead0) fresh) : ∀ x r, d.kids.filter Doc.there = x :: r → FOk c q (base + x.lead0) fresh := by
  intro x r hx
  have hv : d.void = false := by
    cases hv : d.void with
    | false => rfl
    | true =>
      rw [void_eq, Bool.and_eq_true] at hv
      have := (there_none d.kids).trans hv.2
      rw [hx] at this
      simp at this
      omega
  have hl0 : d.lead0 = x.lead0 := by
    rw [lead0_eq]
    have hk1 : (d.kind == 1) = false := by simpa using h1
    have hvk : voids d.kids = false := by
      rw [void_eq] at hv
      have : (d.kind != 1) = true := by simp [bne, hk1]
      rw [this, Bool.true_and] at hv
      exact hv
    rw [hk1]
    simp only [Bool.false_eq_true, if_false]
    rw [leads0_there _ _ hvk, hx]
    have hn0 : d.n = 0 := (form_at.1 hf).n.resolve_left h2
    rw [hn0]
    simp [hd0]
  have := hfo hv
  rw [hl0] at this
  exact this
theorem says_kids {d : Doc} (hf : d.form = true) (ih : ∀ k ∈ d.kids, LaySays k) : ∀ x ∈ d.kids.filter Doc.there, LaySays x ∧ x.void = false ∧ x.form = true := by
  intro x hx
  have hxk := List.mem_filter.1 hx
  exact ⟨ih x hxk.1, by simpa [Doc.there] using hxk.2, (form_at.1 hf).kids x hxk.1⟩
/-- Cells of blocks that stay. -/
def Six (w : World) (a0 a1 a2 a3 a4 a5 : Addr) (u0 u1 u2 u3 u4 u5 : Value) : Prop := w.cell? a0 = some u0 ∧ w.cell? a1 = some u1 ∧ w.cell? a2 = some u2 ∧ w.cell? a3 = some u3 ∧ w.cell? a4 = some u4 ∧ w.cell? a5 = some u5
theorem six_stay {T : Nat → Prop} {w w' : World} {a0 a1 a2 a3 a4 a5 : Addr} {u0 u1 u2 u3 u4 u5 : Value} (h : w.cell? a0 = some u0 ∧ w.cell? a1 = some u1 ∧ w.cell? a2 = some u2 ∧ w.cell? a3 = some u3 ∧ w.cell? a4 = some u4 ∧ w.cell? a5 = some u5) (hs : Stay T w w') (l0 : a0.block < w.heap.size ∧ T a0.block) (l1 : a1.block < w.heap.size ∧ T a1.block) (l2 : a2.block < w.heap.size ∧ T a2.block) (l3 : a3.block < w.heap.size ∧ T a3.block) (l4 : a4.block < w.heap.size ∧ T a4.block) (l5 : a5.block < w.heap.size ∧ T a5.block) :
    w'.cell? a0 = some u0 ∧ w'.cell? a1 = some u1 ∧ w'.cell? a2 = some u2 ∧ w'.cell? a3 = some u3 ∧ w'.cell? a4 = some u4 ∧ w'.cell? a5 = some u5 :=
  ⟨(hs.cell _ l0.1 l0.2).trans h.1, (hs.cell _ l1.1 l1.2).trans h.2.1, (hs.cell _ l2.1 l2.2).trans h.2.2.1, (hs.cell _ l3.1 l3.2).trans h.2.2.2.1, (hs.cell _ l4.1 l4.2).trans h.2.2.2.2.1, (hs.cell _ l5.1 l5.2).trans h.2.2.2.2.2⟩


set_option maxRecDepth 100000 in
set_option maxHeartbeats 8000000 in
theorem play_1 (B b n₀ : Nat) (V : Value) (c : Cfg) (q : Pen) (base M : Int) (fresh : Bool) (d : Doc) (A : Option Addr) (cc : Nat) (w : World) (hk : d.kind = 1)
    (h : PenAt B w b V (pfOf c q false) q.out) (hi : Inv M q) (hsay : ∀ k ∈ d.kids, LaySays k) (hf : d.form = true) (hwt : d.wt ≤ 16777216) (hfo : d.void = false → FOk c q (base + d.lead0) fresh) (_hb0 : -M ≤ base) (hb1 : base ≤ M) (hM : M + 4000 * (d.wt : Int) - 2000 ≤ 1099511627776) (hn : n₀ ≤ B) (hK : KidsAt n₀ w d.kids A) :
    Calls Tryd.prog 55 #[.pointer (some ⟨b, 0, none⟩), .agg #[.int .i64 d.kind, .string d.text, .int .i64 d.n, .slice A d.kids.length cc], .agg #[.int .i64 base, .bool fresh]] w (PLaid B b w V c (M + 4000 * (d.wt : Int) - 2000) (d.lay c q base fresh)) := by
  have k1 : (d.kind == 1) = true := by rw [hk]; rfl
  have k2 : (d.kind == 2) = false := by rw [hk]; rfl
  have k3 : (d.kind == 3) = false := by rw [hk]; rfl
  have k4 : (d.kind == 4) = false := by rw [hk]; rfl
  have k5 : (d.kind == 5) = false := by rw [hk]; rfl
  have k6 : (d.kind == 6) = false := by rw [hk]; rfl
  have k7 : (d.kind == 7) = false := by rw [hk]; rfl
  have k8 : (d.kind == 8) = false := by rw [hk]; rfl
  have k9 : (d.kind == 9) = false := by rw [hk]; rfl
  have k10 : (d.kind == 10) = false := by rw [hk]; rfl
  have HLAY := Lib.hid (show d.lay c q base fresh = put c q d.text base fresh by rw [lay_eq, k1]; rfl)
  have hv1 : d.void = false := by rw [void_eq, hk]; rfl
  have hl1 : d.lead0 = 0 := lead0_str hk
  have hfo1 : FOk c q base fresh := by have := hfo hv1; rw [hl1, Int.add_zero] at this; exact this
  have HF1 := Lib.hid hfo1
  clear hv1 hl1 hfo1
  obtain ⟨hbx, hbw1, hbs1⟩ := box_new w (.int .i64 d.kind) (.string d.text) (.int .i64 d.n) (.slice A d.kids.length cc)
  obtain ⟨W1, hW1⟩ : ∃ W1, w.alloc (.cells #[.int .i64 d.kind, .string d.text, .int .i64 d.n, .slice A d.kids.length cc] 24) = W1 := ⟨_, rfl⟩
  rw [hW1] at hbx hbw1 hbs1
  obtain ⟨s0, s1, hbw2, hbs2⟩ := spot_new W1 (.int .i64 base) (.bool fresh)
  have sf0 : (W1.alloc (.cells #[.int .i64 base, .bool fresh] 70)).frozen? ⟨W1.heap.size, 0, none⟩ = false := by simp
  obtain ⟨W2, hW2⟩ : ∃ W2, W1.alloc (.cells #[.int .i64 base, .bool fresh] 70) = W2 := ⟨_, rfl⟩
  rw [hW2] at s0 s1 hbw2 hbs2 sf0
  have hx2 := hbx.below hbw2 (by omega)
  have hb02 := hbw1.trans (hbw2.mono (by omega))
  have hltb := h.lt
  have hBw := h.Ble
  have hwp := wt_pos d
  have hwe := wt_eq d
  have hwf := wts_filter Doc.there d.kids
  have HP := Lib.hid h
  have HP2 := Lib.hid (h.later hb02)
  have HM2 := Lib.hid (Moved.of_below (b := b) (V := V) hb02)
  have hsb1 : w.heap.size < W1.heap.size := by omega
  have hsb2 : W1.heap.size < W2.heap.size := by omega
  have HK2 := Lib.hid (kidsAt_below hK (below_le hb02 (by omega)))
  have c10 := (h.later hb02).cells.c10
  simp only [pfOf] at c10
  obtain ⟨z0, z1, z2, z3, _, _, _, _⟩ := hx2
  have HI := Lib.hid hi
  have HFO := Lib.hid hfo
  have HSAY := Lib.hid hsay
  have HF := Lib.hid hf
  have HT := Lib.hid (ptext_any B b V c q false d.text base M fresh W2 HP2.out hi HF1.out (by omega) hb1 (by omega))
  clear h hi hsay hf hfo hK hbx hbw1 hbw2 hbs1 hbs2 hb02 hk
  go_enter Tryd.func55, Tryd.ntmps55
  go_wp2_with fail
  refine HT.out.mono ?_
  rintro e w9 ⟨rfl, hrest⟩
  go_wp2
  go_end0
  exact PLaid.of ⟨rfl, hrest⟩ HM2.out (by omega) (by rw [HLAY.out]; rfl)

set_option maxRecDepth 100000 in
set_option maxHeartbeats 8000000 in
theorem play_0 (B b n₀ : Nat) (V : Value) (c : Cfg) (q : Pen) (base M : Int) (fresh : Bool) (d : Doc) (A : Option Addr) (cc : Nat) (w : World) (hk : d.kind = 0)
    (h : PenAt B w b V (pfOf c q false) q.out) (hi : Inv M q) (hsay : ∀ k ∈ d.kids, LaySays k) (hf : d.form = true) (hwt : d.wt ≤ 16777216) (hfo : d.void = false → FOk c q (base + d.lead0) fresh) (_hb0 : -M ≤ base) (_hb1 : base ≤ M) (_hM : M + 4000 * (d.wt : Int) - 2000 ≤ 1099511627776) (hn : n₀ ≤ B) (hK : KidsAt n₀ w d.kids A) :
    Calls Tryd.prog 55 #[.pointer (some ⟨b, 0, none⟩), .agg #[.int .i64 d.kind, .string d.text, .int .i64 d.n, .slice A d.kids.length cc], .agg #[.int .i64 base, .bool fresh]] w (PLaid B b w V c (M + 4000 * (d.wt : Int) - 2000) (d.lay c q base fresh)) := by
  have k1 : (d.kind == 1) = false := by rw [hk]; rfl
  have k2 : (d.kind == 2) = false := by rw [hk]; rfl
  have k3 : (d.kind == 3) = false := by rw [hk]; rfl
  have k4 : (d.kind == 4) = false := by rw [hk]; rfl
  have k5 : (d.kind == 5) = false := by rw [hk]; rfl
  have k6 : (d.kind == 6) = false := by rw [hk]; rfl
  have k7 : (d.kind == 7) = false := by rw [hk]; rfl
  have k8 : (d.kind == 8) = false := by rw [hk]; rfl
  have k9 : (d.kind == 9) = false := by rw [hk]; rfl
  have k10 : (d.kind == 10) = false := by rw [hk]; rfl
  have hk0 : d.kids = [] := List.eq_nil_of_length_eq_zero ((form_at.1 hf).l.resolve_left (by omega))
  have HLAY := Lib.hid (show d.lay c q base fresh = some q by
    rw [lay_eq, k1, k2, k3, k4, k9, k10]
    simp only [Bool.false_eq_true, if_false, Bool.or_self]
    rw [show sepT c d.kind q d.flat d.void (base + d.lead0) fresh = none by unfold sepT; rw [k7, k8]; rfl, hk0]
    rfl)
  clear hk0
  obtain ⟨hbx, hbw1, hbs1⟩ := box_new w (.int .i64 d.kind) (.string d.text) (.int .i64 d.n) (.slice A d.kids.length cc)
  obtain ⟨W1, hW1⟩ : ∃ W1, w.alloc (.cells #[.int .i64 d.kind, .string d.text, .int .i64 d.n, .slice A d.kids.length cc] 24) = W1 := ⟨_, rfl⟩
  rw [hW1] at hbx hbw1 hbs1
  obtain ⟨s0, s1, hbw2, hbs2⟩ := spot_new W1 (.int .i64 base) (.bool fresh)
  have sf0 : (W1.alloc (.cells #[.int .i64 base, .bool fresh] 70)).frozen? ⟨W1.heap.size, 0, none⟩ = false := by simp
  obtain ⟨W2, hW2⟩ : ∃ W2, W1.alloc (.cells #[.int .i64 base, .bool fresh] 70) = W2 := ⟨_, rfl⟩
  rw [hW2] at s0 s1 hbw2 hbs2 sf0
  have hx2 := hbx.below hbw2 (by omega)
  have hb02 := hbw1.trans (hbw2.mono (by omega))
  have hltb := h.lt
  have hBw := h.Ble
  have hwp := wt_pos d
  have hwe := wt_eq d
  have hwf := wts_filter Doc.there d.kids
  have HP := Lib.hid h
  have HP2 := Lib.hid (h.later hb02)
  have HM2 := Lib.hid (Moved.of_below (b := b) (V := V) hb02)
  have hsb1 : w.heap.size < W1.heap.size := by omega
  have hsb2 : W1.heap.size < W2.heap.size := by omega
  have HK2 := Lib.hid (kidsAt_below hK (below_le hb02 (by omega)))
  have c10 := (h.later hb02).cells.c10
  simp only [pfOf] at c10
  obtain ⟨z0, z1, z2, z3, _, _, _, _⟩ := hx2
  have HI := Lib.hid hi
  have HFO := Lib.hid hfo
  have HSAY := Lib.hid hsay
  have HF := Lib.hid hf
  clear h hi hsay hf hfo hK hbx hbw1 hbw2 hbs1 hbs2 hb02 hk
  go_enter Tryd.func55, Tryd.ntmps55
  go_wp2
  go_end0
  exact ⟨rfl, V, q, false, HP2.out, HM2.out, HI.out.mono (by omega), by rw [HLAY.out]; exact ⟨rfl, rfl⟩⟩

set_option maxRecDepth 100000 in
set_option maxHeartbeats 8000000 in
theorem play_7 (B b n₀ : Nat) (V : Value) (c : Cfg) (q : Pen) (base M : Int) (fresh : Bool) (d : Doc) (A : Option Addr) (cc : Nat) (w : World) (hk : d.kind = 7)
    (h : PenAt B w b V (pfOf c q false) q.out) (hi : Inv M q) (hsay : ∀ k ∈ d.kids, LaySays k) (hf : d.form = true) (hwt : d.wt ≤ 16777216) (hfo : d.void = false → FOk c q (base + d.lead0) fresh) (hb0 : -M ≤ base) (hb1 : base ≤ M) (hM : M + 4000 * (d.wt : Int) - 2000 ≤ 1099511627776) (hn : n₀ ≤ B) (hK : KidsAt n₀ w d.kids A) :
    Calls Tryd.prog 55 #[.pointer (some ⟨b, 0, none⟩), .agg #[.int .i64 d.kind, .string d.text, .int .i64 d.n, .slice A d.kids.length cc], .agg #[.int .i64 base, .bool fresh]] w (PLaid B b w V c (M + 4000 * (d.wt : Int) - 2000) (d.lay c q base fresh)) := by
  have k1 : (d.kind == 1) = false := by rw [hk]; rfl
  have k2 : (d.kind == 2) = false := by rw [hk]; rfl
  have k3 : (d.kind == 3) = false := by rw [hk]; rfl
  have k4 : (d.kind == 4) = false := by rw [hk]; rfl
  have k5 : (d.kind == 5) = false := by rw [hk]; rfl
  have k6 : (d.kind == 6) = false := by rw [hk]; rfl
  have k7 : (d.kind == 7) = true := by rw [hk]; rfl
  have k8 : (d.kind == 8) = false := by rw [hk]; rfl
  have k9 : (d.kind == 9) = false := by rw [hk]; rfl
  have k10 : (d.kind == 10) = false := by rw [hk]; rfl
  obtain ⟨hbx, hbw1, hbs1⟩ := box_new w (.int .i64 d.kind) (.string d.text) (.int .i64 d.n) (.slice A d.kids.length cc)
  obtain ⟨W1, hW1⟩ : ∃ W1, w.alloc (.cells #[.int .i64 d.kind, .string d.text, .int .i64 d.n, .slice A d.kids.length cc] 24) = W1 := ⟨_, rfl⟩
  rw [hW1] at hbx hbw1 hbs1
  obtain ⟨s0, s1, hbw2, hbs2⟩ := spot_new W1 (.int .i64 base) (.bool fresh)
  have sf0 : (W1.alloc (.cells #[.int .i64 base, .bool fresh] 70)).frozen? ⟨W1.heap.size, 0, none⟩ = false := by simp
  obtain ⟨W2, hW2⟩ : ∃ W2, W1.alloc (.cells #[.int .i64 base, .bool fresh] 70) = W2 := ⟨_, rfl⟩
  rw [hW2] at s0 s1 hbw2 hbs2 sf0
  have hx2 := hbx.below hbw2 (by omega)
  have hb02 := hbw1.trans (hbw2.mono (by omega))
  have hltb := h.lt
  have hBw := h.Ble
  have hwp := wt_pos d
  have hwe := wt_eq d
  have hwf := wts_filter Doc.there d.kids
  have HP := Lib.hid h
  have HP2 := Lib.hid (h.later hb02)
  have HM2 := Lib.hid (Moved.of_below (b := b) (V := V) hb02)
  have hsb1 : w.heap.size < W1.heap.size := by omega
  have hsb2 : W1.heap.size < W2.heap.size := by omega
  have HK2 := Lib.hid (kidsAt_below hK (below_le hb02 (by omega)))
  have c10 := (h.later hb02).cells.c10
  simp only [pfOf] at c10
  obtain ⟨z0, z1, z2, z3, _, _, _, _⟩ := hx2
  have HI := Lib.hid hi
  have HFO := Lib.hid hfo
  have HSAY := Lib.hid hsay
  have HF := Lib.hid hf
  have HT := Lib.hid (psep_any B b n₀ V c q base M fresh d A cc W2 (.inl hk) HP2.out hi hsay hf hwt hfo hb0 hb1 hM hn HK2.out)
  clear h hi hsay hf hfo hK hbx hbw1 hbw2 hbs1 hbs2 hb02 hk
  go_enter Tryd.func55, Tryd.ntmps55
  go_wp2_with fail
  refine HT.out.mono ?_
  rintro e w9 ⟨rfl, hrest⟩
  go_wp2
  go_end0
  exact PLaid.of ⟨rfl, hrest⟩ HM2.out (by omega) rfl

set_option maxRecDepth 100000 in
set_option maxHeartbeats 8000000 in
theorem play_8 (B b n₀ : Nat) (V : Value) (c : Cfg) (q : Pen) (base M : Int) (fresh : Bool) (d : Doc) (A : Option Addr) (cc : Nat) (w : World) (hk : d.kind = 8)
    (h : PenAt B w b V (pfOf c q false) q.out) (hi : Inv M q) (hsay : ∀ k ∈ d.kids, LaySays k) (hf : d.form = true) (hwt : d.wt ≤ 16777216) (hfo : d.void = false → FOk c q (base + d.lead0) fresh) (hb0 : -M ≤ base) (hb1 : base ≤ M) (hM : M + 4000 * (d.wt : Int) - 2000 ≤ 1099511627776) (hn : n₀ ≤ B) (hK : KidsAt n₀ w d.kids A) :
    Calls Tryd.prog 55 #[.pointer (some ⟨b, 0, none⟩), .agg #[.int .i64 d.kind, .string d.text, .int .i64 d.n, .slice A d.kids.length cc], .agg #[.int .i64 base, .bool fresh]] w (PLaid B b w V c (M + 4000 * (d.wt : Int) - 2000) (d.lay c q base fresh)) := by
  have k1 : (d.kind == 1) = false := by rw [hk]; rfl
  have k2 : (d.kind == 2) = false := by rw [hk]; rfl
  have k3 : (d.kind == 3) = false := by rw [hk]; rfl
  have k4 : (d.kind == 4) = false := by rw [hk]; rfl
  have k5 : (d.kind == 5) = false := by rw [hk]; rfl
  have k6 : (d.kind == 6) = false := by rw [hk]; rfl
  have k7 : (d.kind == 7) = false := by rw [hk]; rfl
  have k8 : (d.kind == 8) = true := by rw [hk]; rfl
  have k9 : (d.kind == 9) = false := by rw [hk]; rfl
  have k10 : (d.kind == 10) = false := by rw [hk]; rfl
  obtain ⟨hbx, hbw1, hbs1⟩ := box_new w (.int .i64 d.kind) (.string d.text) (.int .i64 d.n) (.slice A d.kids.length cc)
  obtain ⟨W1, hW1⟩ : ∃ W1, w.alloc (.cells #[.int .i64 d.kind, .string d.text, .int .i64 d.n, .slice A d.kids.length cc] 24) = W1 := ⟨_, rfl⟩
  rw [hW1] at hbx hbw1 hbs1
  obtain ⟨s0, s1, hbw2, hbs2⟩ := spot_new W1 (.int .i64 base) (.bool fresh)
  have sf0 : (W1.alloc (.cells #[.int .i64 base, .bool fresh] 70)).frozen? ⟨W1.heap.size, 0, none⟩ = false := by simp
  obtain ⟨W2, hW2⟩ : ∃ W2, W1.alloc (.cells #[.int .i64 base, .bool fresh] 70) = W2 := ⟨_, rfl⟩
  rw [hW2] at s0 s1 hbw2 hbs2 sf0
  have hx2 := hbx.below hbw2 (by omega)
  have hb02 := hbw1.trans (hbw2.mono (by omega))
  have hltb := h.lt
  have hBw := h.Ble
  have hwp := wt_pos d
  have hwe := wt_eq d
  have hwf := wts_filter Doc.there d.kids
  have HP := Lib.hid h
  have HP2 := Lib.hid (h.later hb02)
  have HM2 := Lib.hid (Moved.of_below (b := b) (V := V) hb02)
  have hsb1 : w.heap.size < W1.heap.size := by omega
  have hsb2 : W1.heap.size < W2.heap.size := by omega
  have HK2 := Lib.hid (kidsAt_below hK (below_le hb02 (by omega)))
  have c10 := (h.later hb02).cells.c10
  simp only [pfOf] at c10
  obtain ⟨z0, z1, z2, z3, _, _, _, _⟩ := hx2
  have HI := Lib.hid hi
  have HFO := Lib.hid hfo
  have HSAY := Lib.hid hsay
  have HF := Lib.hid hf
  have HT := Lib.hid (psep_any B b n₀ V c q base M fresh d A cc W2 (.inr hk) HP2.out hi hsay hf hwt hfo hb0 hb1 hM hn HK2.out)
  clear h hi hsay hf hfo hK hbx hbw1 hbw2 hbs1 hbs2 hb02 hk
  go_enter Tryd.func55, Tryd.ntmps55
  go_wp2_with fail
  refine HT.out.mono ?_
  rintro e w9 ⟨rfl, hrest⟩
  go_wp2
  go_end0
  exact PLaid.of ⟨rfl, hrest⟩ HM2.out (by omega) rfl

set_option maxRecDepth 100000 in
set_option maxHeartbeats 8000000 in
theorem play_3 (B b n₀ : Nat) (V : Value) (c : Cfg) (q : Pen) (base M : Int) (fresh : Bool) (d : Doc) (A : Option Addr) (cc : Nat) (w : World) (hk : d.kind = 3)
    (h : PenAt B w b V (pfOf c q false) q.out) (hi : Inv M q) (hsay : ∀ k ∈ d.kids, LaySays k) (hf : d.form = true) (hwt : d.wt ≤ 16777216) (hfo : d.void = false → FOk c q (base + d.lead0) fresh) (hb0 : -M ≤ base) (hb1 : base ≤ M) (hM : M + 4000 * (d.wt : Int) - 2000 ≤ 1099511627776) (hn : n₀ ≤ B) (hK : KidsAt n₀ w d.kids A) :
    Calls Tryd.prog 55 #[.pointer (some ⟨b, 0, none⟩), .agg #[.int .i64 d.kind, .string d.text, .int .i64 d.n, .slice A d.kids.length cc], .agg #[.int .i64 base, .bool fresh]] w (PLaid B b w V c (M + 4000 * (d.wt : Int) - 2000) (d.lay c q base fresh)) := by
  have k1 : (d.kind == 1) = false := by rw [hk]; rfl
  have k2 : (d.kind == 2) = false := by rw [hk]; rfl
  have k3 : (d.kind == 3) = true := by rw [hk]; rfl
  have k4 : (d.kind == 4) = false := by rw [hk]; rfl
  have k5 : (d.kind == 5) = false := by rw [hk]; rfl
  have k6 : (d.kind == 6) = false := by rw [hk]; rfl
  have k7 : (d.kind == 7) = false := by rw [hk]; rfl
  have k8 : (d.kind == 8) = false := by rw [hk]; rfl
  have k9 : (d.kind == 9) = false := by rw [hk]; rfl
  have k10 : (d.kind == 10) = false := by rw [hk]; rfl
  have HLAY := Lib.hid (show d.lay c q base fresh = besides c d.kind d.kids true q base fresh by rw [lay_eq, k1, k2, k3, k4]; rfl)
  have HFK := Lib.hid (fok_kids hf (by omega) (by omega) hfo)
  have HKD := Lib.hid hk
  obtain ⟨hbx, hbw1, hbs1⟩ := box_new w (.int .i64 d.kind) (.string d.text) (.int .i64 d.n) (.slice A d.kids.length cc)
  obtain ⟨W1, hW1⟩ : ∃ W1, w.alloc (.cells #[.int .i64 d.kind, .string d.text, .int .i64 d.n, .slice A d.kids.length cc] 24) = W1 := ⟨_, rfl⟩
  rw [hW1] at hbx hbw1 hbs1
  obtain ⟨s0, s1, hbw2, hbs2⟩ := spot_new W1 (.int .i64 base) (.bool fresh)
  have sf0 : (W1.alloc (.cells #[.int .i64 base, .bool fresh] 70)).frozen? ⟨W1.heap.size, 0, none⟩ = false := by simp
  obtain ⟨W2, hW2⟩ : ∃ W2, W1.alloc (.cells #[.int .i64 base, .bool fresh] 70) = W2 := ⟨_, rfl⟩
  rw [hW2] at s0 s1 hbw2 hbs2 sf0
  have hx2 := hbx.below hbw2 (by omega)
  have hb02 := hbw1.trans (hbw2.mono (by omega))
  have hltb := h.lt
  have hBw := h.Ble
  have hwp := wt_pos d
  have hwe := wt_eq d
  have hwf := wts_filter Doc.there d.kids
  have HP := Lib.hid h
  have HP2 := Lib.hid (h.later hb02)
  have HM2 := Lib.hid (Moved.of_below (b := b) (V := V) hb02)
  have hsb1 : w.heap.size < W1.heap.size := by omega
  have hsb2 : W1.heap.size < W2.heap.size := by omega
  have HK2 := Lib.hid (kidsAt_below hK (below_le hb02 (by omega)))
  have c10 := (h.later hb02).cells.c10
  simp only [pfOf] at c10
  obtain ⟨z0, z1, z2, z3, _, _, _, _⟩ := hx2
  have HI := Lib.hid hi
  have HFO := Lib.hid hfo
  have HSAY := Lib.hid hsay
  have HF := Lib.hid hf
  clear h hi hsay hf hfo hK hbx hbw1 hbw2 hbs1 hbs2 hb02 hk
  go_enter Tryd.func55, Tryd.ntmps55
  go_upto_region 10 with (fail)
  clear hW1 hW2
  go_region_held3 (fun w' : World => w'.cell? ⟨W1.heap.size, 0, none⟩ = some (.int .i64 base) ∧ w'.cell? ⟨W1.heap.size, 1, none⟩ = some (.bool fresh) ∧ w'.cell? ⟨w.heap.size, 0, none⟩ = some (.int .i64 d.kind) ∧ w'.cell? ⟨w.heap.size, 1, none⟩ = some (.string d.text) ∧ w'.cell? ⟨w.heap.size, 2, none⟩ = some (.int .i64 d.n) ∧ w'.cell? ⟨w.heap.size, 3, none⟩ = some (.slice A d.kids.length cc))
    (first | (exact ⟨s0, s1, z0, z1, z2, z3⟩) | (exact six_stay (w := W2.drew) ⟨s0, s1, z0, z1, z2, z3⟩ (Stay.of_below (T := fun _ => True) hb3) ⟨by show _ < W2.heap.size; dsimp only; omega, trivial⟩ ⟨by show _ < W2.heap.size; dsimp only; omega, trivial⟩ ⟨by show _ < W2.heap.size; dsimp only; omega, trivial⟩ ⟨by show _ < W2.heap.size; dsimp only; omega, trivial⟩ ⟨by show _ < W2.heap.size; dsimp only; omega, trivial⟩ ⟨by show _ < W2.heap.size; dsimp only; omega, trivial⟩) | (exact six_stay (T := Apart b V) (by assumption) hm4.1 ⟨by dsimp only; omega, ⟨by dsimp only; omega, fun e => by have := (HP.out.own.lt _ e.symm).2; dsimp only at this; omega⟩⟩ ⟨by dsimp only; omega, ⟨by dsimp only; omega, fun e => by have := (HP.out.own.lt _ e.symm).2; dsimp only at this; omega⟩⟩ ⟨by dsimp only; omega, ⟨by dsimp only; omega, fun e => by have := (HP.out.own.lt _ e.symm).2; dsimp only at this; omega⟩⟩ ⟨by dsimp only; omega, ⟨by dsimp only; omega, fun e => by have := (HP.out.own.lt _ e.symm).2; dsimp only at this; omega⟩⟩ ⟨by dsimp only; omega, ⟨by dsimp only; omega, fun e => by have := (HP.out.own.lt _ e.symm).2; dsimp only at this; omega⟩⟩ ⟨by dsimp only; omega, ⟨by dsimp only; omega, fun e => by have := (HP.out.own.lt _ e.symm).2; dsimp only at this; omega⟩⟩))
    (first | (go_at_call 71; refine (there_any n₀ d A cc W2.drew hwt (by show n₀ ≤ W2.heap.size; omega) (kidsAt_below HK2.out (Below.drew (Below.refl _ _)))).mono ?_; intro e w3 hkr; obtain ⟨A1, cc1, g, l, rfl, hcap1, hnil1, hl1, hg1, hrow1, hb3⟩ := kept_row hkr; have hs3 : W2.heap.size ≤ w3.heap.size := hb3.size; have hp3 : PenAt B w3 b V (pfOf c q false) q.out := PenAt.later (w := W2.drew) ⟨HP2.out.base, HP2.out.blk, HP2.out.own⟩ hb3; clear hkr hnil1) | (go_at_call 70; refine (pbeside_any B b n₀ V c q base M fresh 3 noB (.inr ⟨rfl, rfl⟩) A1 cc1 g 0 l (d.kids.filter Doc.there) hl1 w3 hp3 HI.out (fun x hx => ⟨(says_kids HF.out HSAY.out x hx).1, (says_kids HF.out HSAY.out x hx).2.1⟩) HFK.out hb0 hb1 (by omega) (by omega) hn (fun hne => ⟨(hg1 hne).1, (hg1 hne).2.2, by have h2 : W2.heap.size ≤ g := (hg1 hne).2.1; omega, fun e => by have h2 : W2.heap.size ≤ g := (hg1 hne).2.1; have := (HP.out.own.lt _ e.symm).2; omega⟩) hcap1 hrow1).mono ?_; rintro e w4 ⟨rfl, V4, q4, l4, hp4, hm4, hi4, hs4⟩))
  rename_i hH
  have HM3 := Lib.hid (HM2.out.trans (Moved.of_below (b := b) (V := V) (Below.trans (Below.drew (Below.refl _ _)) hb3)))
  have HPL := Lib.hid (show PLaid B b w3 V c _ _ (.returned (.tuple #[])) w4 from ⟨rfl, V4, q4, l4, hp4, hm4, hi4, hs4⟩)
  clear hH hp4 hm4 hi4 hs4 hp3 hb3 hl1 hg1 hrow1
  go_wp2
  go_end0
  exact PLaid.of HPL.out HM3.out (by omega) (by rw [HLAY.out, besides_there, HKD.out])

set_option maxRecDepth 100000 in
set_option maxHeartbeats 8000000 in
theorem play_4 (B b n₀ : Nat) (V : Value) (c : Cfg) (q : Pen) (base M : Int) (fresh : Bool) (d : Doc) (A : Option Addr) (cc : Nat) (w : World) (hk : d.kind = 4)
    (h : PenAt B w b V (pfOf c q false) q.out) (hi : Inv M q) (hsay : ∀ k ∈ d.kids, LaySays k) (hf : d.form = true) (hwt : d.wt ≤ 16777216) (hfo : d.void = false → FOk c q (base + d.lead0) fresh) (hb0 : -M ≤ base) (hb1 : base ≤ M) (hM : M + 4000 * (d.wt : Int) - 2000 ≤ 1099511627776) (hn : n₀ ≤ B) (hK : KidsAt n₀ w d.kids A) :
    Calls Tryd.prog 55 #[.pointer (some ⟨b, 0, none⟩), .agg #[.int .i64 d.kind, .string d.text, .int .i64 d.n, .slice A d.kids.length cc], .agg #[.int .i64 base, .bool fresh]] w (PLaid B b w V c (M + 4000 * (d.wt : Int) - 2000) (d.lay c q base fresh)) := by
  have k1 : (d.kind == 1) = false := by rw [hk]; rfl
  have k2 : (d.kind == 2) = false := by rw [hk]; rfl
  have k3 : (d.kind == 3) = false := by rw [hk]; rfl
  have k4 : (d.kind == 4) = true := by rw [hk]; rfl
  have k5 : (d.kind == 5) = false := by rw [hk]; rfl
  have k6 : (d.kind == 6) = false := by rw [hk]; rfl
  have k7 : (d.kind == 7) = false := by rw [hk]; rfl
  have k8 : (d.kind == 8) = false := by rw [hk]; rfl
  have k9 : (d.kind == 9) = false := by rw [hk]; rfl
  have k10 : (d.kind == 10) = false := by rw [hk]; rfl
  have HLAY := Lib.hid (show d.lay c q base fresh = besides c d.kind d.kids true q base fresh by rw [lay_eq, k1, k2, k3, k4]; rfl)
  have HFK := Lib.hid (fok_kids hf (by omega) (by omega) hfo)
  have HKD := Lib.hid hk
  obtain ⟨hbx, hbw1, hbs1⟩ := box_new w (.int .i64 d.kind) (.string d.text) (.int .i64 d.n) (.slice A d.kids.length cc)
  obtain ⟨W1, hW1⟩ : ∃ W1, w.alloc (.cells #[.int .i64 d.kind, .string d.text, .int .i64 d.n, .slice A d.kids.length cc] 24) = W1 := ⟨_, rfl⟩
  rw [hW1] at hbx hbw1 hbs1
  obtain ⟨s0, s1, hbw2, hbs2⟩ := spot_new W1 (.int .i64 base) (.bool fresh)
  have sf0 : (W1.alloc (.cells #[.int .i64 base, .bool fresh] 70)).frozen? ⟨W1.heap.size, 0, none⟩ = false := by simp
  obtain ⟨W2, hW2⟩ : ∃ W2, W1.alloc (.cells #[.int .i64 base, .bool fresh] 70) = W2 := ⟨_, rfl⟩
  rw [hW2] at s0 s1 hbw2 hbs2 sf0
  have hx2 := hbx.below hbw2 (by omega)
  have hb02 := hbw1.trans (hbw2.mono (by omega))
  have hltb := h.lt
  have hBw := h.Ble
  have hwp := wt_pos d
  have hwe := wt_eq d
  have hwf := wts_filter Doc.there d.kids
  have HP := Lib.hid h
  have HP2 := Lib.hid (h.later hb02)
  have HM2 := Lib.hid (Moved.of_below (b := b) (V := V) hb02)
  have hsb1 : w.heap.size < W1.heap.size := by omega
  have hsb2 : W1.heap.size < W2.heap.size := by omega
  have HK2 := Lib.hid (kidsAt_below hK (below_le hb02 (by omega)))
  have c10 := (h.later hb02).cells.c10
  simp only [pfOf] at c10
  obtain ⟨z0, z1, z2, z3, _, _, _, _⟩ := hx2
  have HI := Lib.hid hi
  have HFO := Lib.hid hfo
  have HSAY := Lib.hid hsay
  have HF := Lib.hid hf
  clear h hi hsay hf hfo hK hbx hbw1 hbw2 hbs1 hbs2 hb02 hk
  go_enter Tryd.func55, Tryd.ntmps55
  go_upto_region 12 with (fail)
  clear hW1 hW2
  go_region_held3 (fun w' : World => w'.cell? ⟨W1.heap.size, 0, none⟩ = some (.int .i64 base) ∧ w'.cell? ⟨W1.heap.size, 1, none⟩ = some (.bool fresh) ∧ w'.cell? ⟨w.heap.size, 0, none⟩ = some (.int .i64 d.kind) ∧ w'.cell? ⟨w.heap.size, 1, none⟩ = some (.string d.text) ∧ w'.cell? ⟨w.heap.size, 2, none⟩ = some (.int .i64 d.n) ∧ w'.cell? ⟨w.heap.size, 3, none⟩ = some (.slice A d.kids.length cc))
    (first | (exact ⟨s0, s1, z0, z1, z2, z3⟩) | (exact six_stay (w := W2.drew) ⟨s0, s1, z0, z1, z2, z3⟩ (Stay.of_below (T := fun _ => True) hb3) ⟨by show _ < W2.heap.size; dsimp only; omega, trivial⟩ ⟨by show _ < W2.heap.size; dsimp only; omega, trivial⟩ ⟨by show _ < W2.heap.size; dsimp only; omega, trivial⟩ ⟨by show _ < W2.heap.size; dsimp only; omega, trivial⟩ ⟨by show _ < W2.heap.size; dsimp only; omega, trivial⟩ ⟨by show _ < W2.heap.size; dsimp only; omega, trivial⟩) | (exact six_stay (T := Apart b V) (by assumption) hm4.1 ⟨by dsimp only; omega, ⟨by dsimp only; omega, fun e => by have := (HP.out.own.lt _ e.symm).2; dsimp only at this; omega⟩⟩ ⟨by dsimp only; omega, ⟨by dsimp only; omega, fun e => by have := (HP.out.own.lt _ e.symm).2; dsimp only at this; omega⟩⟩ ⟨by dsimp only; omega, ⟨by dsimp only; omega, fun e => by have := (HP.out.own.lt _ e.symm).2; dsimp only at this; omega⟩⟩ ⟨by dsimp only; omega, ⟨by dsimp only; omega, fun e => by have := (HP.out.own.lt _ e.symm).2; dsimp only at this; omega⟩⟩ ⟨by dsimp only; omega, ⟨by dsimp only; omega, fun e => by have := (HP.out.own.lt _ e.symm).2; dsimp only at this; omega⟩⟩ ⟨by dsimp only; omega, ⟨by dsimp only; omega, fun e => by have := (HP.out.own.lt _ e.symm).2; dsimp only at this; omega⟩⟩))
    (first | (go_at_call 71; refine (there_any n₀ d A cc W2.drew hwt (by show n₀ ≤ W2.heap.size; omega) (kidsAt_below HK2.out (Below.drew (Below.refl _ _)))).mono ?_; intro e w3 hkr; obtain ⟨A1, cc1, g, l, rfl, hcap1, hnil1, hl1, hg1, hrow1, hb3⟩ := kept_row hkr; have hs3 : W2.heap.size ≤ w3.heap.size := hb3.size; have hp3 : PenAt B w3 b V (pfOf c q false) q.out := PenAt.later (w := W2.drew) ⟨HP2.out.base, HP2.out.blk, HP2.out.own⟩ hb3; clear hkr hnil1) | (go_at_call 70; refine (pbeside_any B b n₀ V c q base M fresh 4 blankB (.inl ⟨rfl, rfl⟩) A1 cc1 g 0 l (d.kids.filter Doc.there) hl1 w3 hp3 HI.out (fun x hx => ⟨(says_kids HF.out HSAY.out x hx).1, (says_kids HF.out HSAY.out x hx).2.1⟩) HFK.out hb0 hb1 (by omega) (by omega) hn (fun hne => ⟨(hg1 hne).1, (hg1 hne).2.2, by have h2 : W2.heap.size ≤ g := (hg1 hne).2.1; omega, fun e => by have h2 : W2.heap.size ≤ g := (hg1 hne).2.1; have := (HP.out.own.lt _ e.symm).2; omega⟩) hcap1 hrow1).mono ?_; rintro e w4 ⟨rfl, V4, q4, l4, hp4, hm4, hi4, hs4⟩))
  rename_i hH
  have HM3 := Lib.hid (HM2.out.trans (Moved.of_below (b := b) (V := V) (Below.trans (Below.drew (Below.refl _ _)) hb3)))
  have HPL := Lib.hid (show PLaid B b w3 V c _ _ (.returned (.tuple #[])) w4 from ⟨rfl, V4, q4, l4, hp4, hm4, hi4, hs4⟩)
  clear hH hp4 hm4 hi4 hs4 hp3 hb3 hl1 hg1 hrow1
  go_wp2
  go_end0
  exact PLaid.of HPL.out HM3.out (by omega) (by rw [HLAY.out, besides_there, HKD.out])

set_option maxRecDepth 100000 in
set_option maxHeartbeats 8000000 in
theorem play_5 (B b n₀ : Nat) (V : Value) (c : Cfg) (q : Pen) (base M : Int) (fresh : Bool) (d : Doc) (A : Option Addr) (cc : Nat) (w : World) (hk : d.kind = 5)
    (h : PenAt B w b V (pfOf c q false) q.out) (hi : Inv M q) (hsay : ∀ k ∈ d.kids, LaySays k) (hf : d.form = true) (hwt : d.wt ≤ 16777216) (hfo : d.void = false → FOk c q (base + d.lead0) fresh) (hb0 : -M ≤ base) (hb1 : base ≤ M) (hM : M + 4000 * (d.wt : Int) - 2000 ≤ 1099511627776) (hn : n₀ ≤ B) (hK : KidsAt n₀ w d.kids A) :
    Calls Tryd.prog 55 #[.pointer (some ⟨b, 0, none⟩), .agg #[.int .i64 d.kind, .string d.text, .int .i64 d.n, .slice A d.kids.length cc], .agg #[.int .i64 base, .bool fresh]] w (PLaid B b w V c (M + 4000 * (d.wt : Int) - 2000) (d.lay c q base fresh)) := by
  have k1 : (d.kind == 1) = false := by rw [hk]; rfl
  have k2 : (d.kind == 2) = false := by rw [hk]; rfl
  have k3 : (d.kind == 3) = false := by rw [hk]; rfl
  have k4 : (d.kind == 4) = false := by rw [hk]; rfl
  have k5 : (d.kind == 5) = true := by rw [hk]; rfl
  have k6 : (d.kind == 6) = false := by rw [hk]; rfl
  have k7 : (d.kind == 7) = false := by rw [hk]; rfl
  have k8 : (d.kind == 8) = false := by rw [hk]; rfl
  have k9 : (d.kind == 9) = false := by rw [hk]; rfl
  have k10 : (d.kind == 10) = false := by rw [hk]; rfl
  have HLAY := Lib.hid (show d.lay c q base fresh = belows c true d.kids true q base fresh by rw [lay_eq, k1, k2, k3, k4, k9, k10, k5]; simp only [Bool.false_eq_true, if_false, Bool.or_self]; rw [show sepT c d.kind q d.flat d.void (base + d.lead0) fresh = none by unfold sepT; rw [k7, k8]; rfl])
  have HFK := Lib.hid (fok_kids hf (by omega) (by omega) hfo)
  have HKD := Lib.hid hk
  obtain ⟨hbx, hbw1, hbs1⟩ := box_new w (.int .i64 d.kind) (.string d.text) (.int .i64 d.n) (.slice A d.kids.length cc)
  obtain ⟨W1, hW1⟩ : ∃ W1, w.alloc (.cells #[.int .i64 d.kind, .string d.text, .int .i64 d.n, .slice A d.kids.length cc] 24) = W1 := ⟨_, rfl⟩
  rw [hW1] at hbx hbw1 hbs1
  obtain ⟨s0, s1, hbw2, hbs2⟩ := spot_new W1 (.int .i64 base) (.bool fresh)
  have sf0 : (W1.alloc (.cells #[.int .i64 base, .bool fresh] 70)).frozen? ⟨W1.heap.size, 0, none⟩ = false := by simp
  obtain ⟨W2, hW2⟩ : ∃ W2, W1.alloc (.cells #[.int .i64 base, .bool fresh] 70) = W2 := ⟨_, rfl⟩
  rw [hW2] at s0 s1 hbw2 hbs2 sf0
  have hx2 := hbx.below hbw2 (by omega)
  have hb02 := hbw1.trans (hbw2.mono (by omega))
  have hltb := h.lt
  have hBw := h.Ble
  have hwp := wt_pos d
  have hwe := wt_eq d
  have hwf := wts_filter Doc.there d.kids
  have HP := Lib.hid h
  have HP2 := Lib.hid (h.later hb02)
  have HM2 := Lib.hid (Moved.of_below (b := b) (V := V) hb02)
  have hsb1 : w.heap.size < W1.heap.size := by omega
  have hsb2 : W1.heap.size < W2.heap.size := by omega
  have HK2 := Lib.hid (kidsAt_below hK (below_le hb02 (by omega)))
  have c10 := (h.later hb02).cells.c10
  simp only [pfOf] at c10
  obtain ⟨z0, z1, z2, z3, _, _, _, _⟩ := hx2
  have HI := Lib.hid hi
  have HFO := Lib.hid hfo
  have HSAY := Lib.hid hsay
  have HF := Lib.hid hf
  clear h hi hsay hf hfo hK hbx hbw1 hbw2 hbs1 hbs2 hb02 hk
  go_enter Tryd.func55, Tryd.ntmps55
  go_upto_region 15 with (fail)
  clear hW1 hW2
  go_region_held3 (fun w' : World => w'.cell? ⟨W1.heap.size, 0, none⟩ = some (.int .i64 base) ∧ w'.cell? ⟨W1.heap.size, 1, none⟩ = some (.bool fresh) ∧ w'.cell? ⟨w.heap.size, 0, none⟩ = some (.int .i64 d.kind) ∧ w'.cell? ⟨w.heap.size, 1, none⟩ = some (.string d.text) ∧ w'.cell? ⟨w.heap.size, 2, none⟩ = some (.int .i64 d.n) ∧ w'.cell? ⟨w.heap.size, 3, none⟩ = some (.slice A d.kids.length cc))
    (first | (exact ⟨s0, s1, z0, z1, z2, z3⟩) | (exact six_stay (w := W2.drew) ⟨s0, s1, z0, z1, z2, z3⟩ (Stay.of_below (T := fun _ => True) hb3) ⟨by show _ < W2.heap.size; dsimp only; omega, trivial⟩ ⟨by show _ < W2.heap.size; dsimp only; omega, trivial⟩ ⟨by show _ < W2.heap.size; dsimp only; omega, trivial⟩ ⟨by show _ < W2.heap.size; dsimp only; omega, trivial⟩ ⟨by show _ < W2.heap.size; dsimp only; omega, trivial⟩ ⟨by show _ < W2.heap.size; dsimp only; omega, trivial⟩) | (exact six_stay (T := Apart b V) (by assumption) hm4.1 ⟨by dsimp only; omega, ⟨by dsimp only; omega, fun e => by have := (HP.out.own.lt _ e.symm).2; dsimp only at this; omega⟩⟩ ⟨by dsimp only; omega, ⟨by dsimp only; omega, fun e => by have := (HP.out.own.lt _ e.symm).2; dsimp only at this; omega⟩⟩ ⟨by dsimp only; omega, ⟨by dsimp only; omega, fun e => by have := (HP.out.own.lt _ e.symm).2; dsimp only at this; omega⟩⟩ ⟨by dsimp only; omega, ⟨by dsimp only; omega, fun e => by have := (HP.out.own.lt _ e.symm).2; dsimp only at this; omega⟩⟩ ⟨by dsimp only; omega, ⟨by dsimp only; omega, fun e => by have := (HP.out.own.lt _ e.symm).2; dsimp only at this; omega⟩⟩ ⟨by dsimp only; omega, ⟨by dsimp only; omega, fun e => by have := (HP.out.own.lt _ e.symm).2; dsimp only at this; omega⟩⟩))
    (first | (go_at_call 71; refine (there_any n₀ d A cc W2.drew hwt (by show n₀ ≤ W2.heap.size; omega) (kidsAt_below HK2.out (Below.drew (Below.refl _ _)))).mono ?_; intro e w3 hkr; obtain ⟨A1, cc1, g, l, rfl, hcap1, hnil1, hl1, hg1, hrow1, hb3⟩ := kept_row hkr; have hs3 : W2.heap.size ≤ w3.heap.size := hb3.size; have hp3 : PenAt B w3 b V (pfOf c q false) q.out := PenAt.later (w := W2.drew) ⟨HP2.out.base, HP2.out.blk, HP2.out.own⟩ hb3; clear hkr hnil1) | (go_at_call 72; refine (pbelow_true B b n₀ V c q base M fresh A1 cc1 g 0 l (d.kids.filter Doc.there) hl1 w3 hp3 HI.out (says_kids HF.out HSAY.out) HFK.out hb0 hb1 (by omega) (by omega) hn (fun hne => ⟨(hg1 hne).1, (hg1 hne).2.2, by have h2 : W2.heap.size ≤ g := (hg1 hne).2.1; omega, fun e => by have h2 : W2.heap.size ≤ g := (hg1 hne).2.1; have := (HP.out.own.lt _ e.symm).2; omega⟩) hcap1 hrow1).mono ?_; rintro e w4 ⟨rfl, V4, q4, l4, hp4, hm4, hi4, hs4⟩))
  rename_i hH
  have HM3 := Lib.hid (HM2.out.trans (Moved.of_below (b := b) (V := V) (Below.trans (Below.drew (Below.refl _ _)) hb3)))
  have HPL := Lib.hid (show PLaid B b w3 V c _ _ (.returned (.tuple #[])) w4 from ⟨rfl, V4, q4, l4, hp4, hm4, hi4, hs4⟩)
  clear hH hp4 hm4 hi4 hs4 hp3 hb3 hl1 hg1 hrow1
  go_wp2
  go_end0
  exact PLaid.of HPL.out HM3.out (by omega) (by rw [HLAY.out, belows_there])

set_option maxRecDepth 100000 in
set_option maxHeartbeats 8000000 in
theorem play_6 (B b n₀ : Nat) (V : Value) (c : Cfg) (q : Pen) (base M : Int) (fresh : Bool) (d : Doc) (A : Option Addr) (cc : Nat) (w : World) (hk : d.kind = 6)
    (h : PenAt B w b V (pfOf c q false) q.out) (hi : Inv M q) (hsay : ∀ k ∈ d.kids, LaySays k) (hf : d.form = true) (hwt : d.wt ≤ 16777216) (hfo : d.void = false → FOk c q (base + d.lead0) fresh) (hb0 : -M ≤ base) (hb1 : base ≤ M) (hM : M + 4000 * (d.wt : Int) - 2000 ≤ 1099511627776) (hn : n₀ ≤ B) (hK : KidsAt n₀ w d.kids A) :
    Calls Tryd.prog 55 #[.pointer (some ⟨b, 0, none⟩), .agg #[.int .i64 d.kind, .string d.text, .int .i64 d.n, .slice A d.kids.length cc], .agg #[.int .i64 base, .bool fresh]] w (PLaid B b w V c (M + 4000 * (d.wt : Int) - 2000) (d.lay c q base fresh)) := by
  have k1 : (d.kind == 1) = false := by rw [hk]; rfl
  have k2 : (d.kind == 2) = false := by rw [hk]; rfl
  have k3 : (d.kind == 3) = false := by rw [hk]; rfl
  have k4 : (d.kind == 4) = false := by rw [hk]; rfl
  have k5 : (d.kind == 5) = false := by rw [hk]; rfl
  have k6 : (d.kind == 6) = true := by rw [hk]; rfl
  have k7 : (d.kind == 7) = false := by rw [hk]; rfl
  have k8 : (d.kind == 8) = false := by rw [hk]; rfl
  have k9 : (d.kind == 9) = false := by rw [hk]; rfl
  have k10 : (d.kind == 10) = false := by rw [hk]; rfl
  have HLAY := Lib.hid (show d.lay c q base fresh = belows c false d.kids true q base fresh by rw [lay_eq, k1, k2, k3, k4, k9, k10, k5]; simp only [Bool.false_eq_true, if_false, Bool.or_self]; rw [show sepT c d.kind q d.flat d.void (base + d.lead0) fresh = none by unfold sepT; rw [k7, k8]; rfl])
  have HFK := Lib.hid (fok_kids hf (by omega) (by omega) hfo)
  have HKD := Lib.hid hk
  obtain ⟨hbx, hbw1, hbs1⟩ := box_new w (.int .i64 d.kind) (.string d.text) (.int .i64 d.n) (.slice A d.kids.length cc)
  obtain ⟨W1, hW1⟩ : ∃ W1, w.alloc (.cells #[.int .i64 d.kind, .string d.text, .int .i64 d.n, .slice A d.kids.length cc] 24) = W1 := ⟨_, rfl⟩
  rw [hW1] at hbx hbw1 hbs1
  obtain ⟨s0, s1, hbw2, hbs2⟩ := spot_new W1 (.int .i64 base) (.bool fresh)
  have sf0 : (W1.alloc (.cells #[.int .i64 base, .bool fresh] 70)).frozen? ⟨W1.heap.size, 0, none⟩ = false := by simp
  obtain ⟨W2, hW2⟩ : ∃ W2, W1.alloc (.cells #[.int .i64 base, .bool fresh] 70) = W2 := ⟨_, rfl⟩
  rw [hW2] at s0 s1 hbw2 hbs2 sf0
  have hx2 := hbx.below hbw2 (by omega)
  have hb02 := hbw1.trans (hbw2.mono (by omega))
  have hltb := h.lt
  have hBw := h.Ble
  have hwp := wt_pos d
  have hwe := wt_eq d
  have hwf := wts_filter Doc.there d.kids
  have HP := Lib.hid h
  have HP2 := Lib.hid (h.later hb02)
  have HM2 := Lib.hid (Moved.of_below (b := b) (V := V) hb02)
  have hsb1 : w.heap.size < W1.heap.size := by omega
  have hsb2 : W1.heap.size < W2.heap.size := by omega
  have HK2 := Lib.hid (kidsAt_below hK (below_le hb02 (by omega)))
  have c10 := (h.later hb02).cells.c10
  simp only [pfOf] at c10
  obtain ⟨z0, z1, z2, z3, _, _, _, _⟩ := hx2
  have HI := Lib.hid hi
  have HFO := Lib.hid hfo
  have HSAY := Lib.hid hsay
  have HF := Lib.hid hf
  clear h hi hsay hf hfo hK hbx hbw1 hbw2 hbs1 hbs2 hb02 hk
  go_enter Tryd.func55, Tryd.ntmps55
  go_upto_region 15 with (fail)
  clear hW1 hW2
  go_region_held3 (fun w' : World => w'.cell? ⟨W1.heap.size, 0, none⟩ = some (.int .i64 base) ∧ w'.cell? ⟨W1.heap.size, 1, none⟩ = some (.bool fresh) ∧ w'.cell? ⟨w.heap.size, 0, none⟩ = some (.int .i64 d.kind) ∧ w'.cell? ⟨w.heap.size, 1, none⟩ = some (.string d.text) ∧ w'.cell? ⟨w.heap.size, 2, none⟩ = some (.int .i64 d.n) ∧ w'.cell? ⟨w.heap.size, 3, none⟩ = some (.slice A d.kids.length cc))
    (first | (exact ⟨s0, s1, z0, z1, z2, z3⟩) | (exact six_stay (w := W2.drew) ⟨s0, s1, z0, z1, z2, z3⟩ (Stay.of_below (T := fun _ => True) hb3) ⟨by show _ < W2.heap.size; dsimp only; omega, trivial⟩ ⟨by show _ < W2.heap.size; dsimp only; omega, trivial⟩ ⟨by show _ < W2.heap.size; dsimp only; omega, trivial⟩ ⟨by show _ < W2.heap.size; dsimp only; omega, trivial⟩ ⟨by show _ < W2.heap.size; dsimp only; omega, trivial⟩ ⟨by show _ < W2.heap.size; dsimp only; omega, trivial⟩) | (exact six_stay (T := Apart b V) (by assumption) hm4.1 ⟨by dsimp only; omega, ⟨by dsimp only; omega, fun e => by have := (HP.out.own.lt _ e.symm).2; dsimp only at this; omega⟩⟩ ⟨by dsimp only; omega, ⟨by dsimp only; omega, fun e => by have := (HP.out.own.lt _ e.symm).2; dsimp only at this; omega⟩⟩ ⟨by dsimp only; omega, ⟨by dsimp only; omega, fun e => by have := (HP.out.own.lt _ e.symm).2; dsimp only at this; omega⟩⟩ ⟨by dsimp only; omega, ⟨by dsimp only; omega, fun e => by have := (HP.out.own.lt _ e.symm).2; dsimp only at this; omega⟩⟩ ⟨by dsimp only; omega, ⟨by dsimp only; omega, fun e => by have := (HP.out.own.lt _ e.symm).2; dsimp only at this; omega⟩⟩ ⟨by dsimp only; omega, ⟨by dsimp only; omega, fun e => by have := (HP.out.own.lt _ e.symm).2; dsimp only at this; omega⟩⟩))
    (first | (go_at_call 71; refine (there_any n₀ d A cc W2.drew hwt (by show n₀ ≤ W2.heap.size; omega) (kidsAt_below HK2.out (Below.drew (Below.refl _ _)))).mono ?_; intro e w3 hkr; obtain ⟨A1, cc1, g, l, rfl, hcap1, hnil1, hl1, hg1, hrow1, hb3⟩ := kept_row hkr; have hs3 : W2.heap.size ≤ w3.heap.size := hb3.size; have hp3 : PenAt B w3 b V (pfOf c q false) q.out := PenAt.later (w := W2.drew) ⟨HP2.out.base, HP2.out.blk, HP2.out.own⟩ hb3; clear hkr hnil1) | (go_at_call 72; refine (pbelow_false B b n₀ V c q base M fresh A1 cc1 g 0 l (d.kids.filter Doc.there) hl1 w3 hp3 HI.out (says_kids HF.out HSAY.out) HFK.out hb0 hb1 (by omega) (by omega) hn (fun hne => ⟨(hg1 hne).1, (hg1 hne).2.2, by have h2 : W2.heap.size ≤ g := (hg1 hne).2.1; omega, fun e => by have h2 : W2.heap.size ≤ g := (hg1 hne).2.1; have := (HP.out.own.lt _ e.symm).2; omega⟩) hcap1 hrow1).mono ?_; rintro e w4 ⟨rfl, V4, q4, l4, hp4, hm4, hi4, hs4⟩))
  rename_i hH
  have HM3 := Lib.hid (HM2.out.trans (Moved.of_below (b := b) (V := V) (Below.trans (Below.drew (Below.refl _ _)) hb3)))
  have HPL := Lib.hid (show PLaid B b w3 V c _ _ (.returned (.tuple #[])) w4 from ⟨rfl, V4, q4, l4, hp4, hm4, hi4, hs4⟩)
  clear hH hp4 hm4 hi4 hs4 hp3 hb3 hl1 hg1 hrow1
  go_wp2
  go_end0
  exact PLaid.of HPL.out HM3.out (by omega) (by rw [HLAY.out, belows_there])

set_option maxRecDepth 100000 in
set_option maxHeartbeats 8000000 in
theorem play_9 (B b n₀ : Nat) (V : Value) (c : Cfg) (q : Pen) (base M : Int) (fresh : Bool) (d : Doc) (A : Option Addr) (cc : Nat) (w : World) (hk : d.kind = 9)
    (h : PenAt B w b V (pfOf c q false) q.out) (hi : Inv M q) (hsay : ∀ k ∈ d.kids, LaySays k) (hf : d.form = true) (hwt : d.wt ≤ 16777216) (hfo : d.void = false → FOk c q (base + d.lead0) fresh) (hb0 : -M ≤ base) (hb1 : base ≤ M) (hM : M + 4000 * (d.wt : Int) - 2000 ≤ 1099511627776) (hn : n₀ ≤ B) (hK : KidsAt n₀ w d.kids A) :
    Calls Tryd.prog 55 #[.pointer (some ⟨b, 0, none⟩), .agg #[.int .i64 d.kind, .string d.text, .int .i64 d.n, .slice A d.kids.length cc], .agg #[.int .i64 base, .bool fresh]] w (PLaid B b w V c (M + 4000 * (d.wt : Int) - 2000) (d.lay c q base fresh)) := by
  have k1 : (d.kind == 1) = false := by rw [hk]; rfl
  have k2 : (d.kind == 2) = false := by rw [hk]; rfl
  have k3 : (d.kind == 3) = false := by rw [hk]; rfl
  have k4 : (d.kind == 4) = false := by rw [hk]; rfl
  have k5 : (d.kind == 5) = false := by rw [hk]; rfl
  have k6 : (d.kind == 6) = false := by rw [hk]; rfl
  have k7 : (d.kind == 7) = false := by rw [hk]; rfl
  have k8 : (d.kind == 8) = false := by rw [hk]; rfl
  have k9 : (d.kind == 9) = true := by rw [hk]; rfl
  have k10 : (d.kind == 10) = false := by rw [hk]; rfl
  have HLAY := Lib.hid (show d.lay c q base fresh = fills c d.kind d.kids true false q base fresh by rw [lay_eq, k1, k2, k3, k4, k9, k10]; rfl)
  have HFK := Lib.hid (fok_kids hf (by omega) (by omega) hfo)
  have HKD := Lib.hid hk
  obtain ⟨hbx, hbw1, hbs1⟩ := box_new w (.int .i64 d.kind) (.string d.text) (.int .i64 d.n) (.slice A d.kids.length cc)
  obtain ⟨W1, hW1⟩ : ∃ W1, w.alloc (.cells #[.int .i64 d.kind, .string d.text, .int .i64 d.n, .slice A d.kids.length cc] 24) = W1 := ⟨_, rfl⟩
  rw [hW1] at hbx hbw1 hbs1
  obtain ⟨s0, s1, hbw2, hbs2⟩ := spot_new W1 (.int .i64 base) (.bool fresh)
  have sf0 : (W1.alloc (.cells #[.int .i64 base, .bool fresh] 70)).frozen? ⟨W1.heap.size, 0, none⟩ = false := by simp
  obtain ⟨W2, hW2⟩ : ∃ W2, W1.alloc (.cells #[.int .i64 base, .bool fresh] 70) = W2 := ⟨_, rfl⟩
  rw [hW2] at s0 s1 hbw2 hbs2 sf0
  have hx2 := hbx.below hbw2 (by omega)
  have hb02 := hbw1.trans (hbw2.mono (by omega))
  have hltb := h.lt
  have hBw := h.Ble
  have hwp := wt_pos d
  have hwe := wt_eq d
  have hwf := wts_filter Doc.there d.kids
  have HP := Lib.hid h
  have HP2 := Lib.hid (h.later hb02)
  have HM2 := Lib.hid (Moved.of_below (b := b) (V := V) hb02)
  have hsb1 : w.heap.size < W1.heap.size := by omega
  have hsb2 : W1.heap.size < W2.heap.size := by omega
  have HK2 := Lib.hid (kidsAt_below hK (below_le hb02 (by omega)))
  have c10 := (h.later hb02).cells.c10
  simp only [pfOf] at c10
  obtain ⟨z0, z1, z2, z3, _, _, _, _⟩ := hx2
  have HI := Lib.hid hi
  have HFO := Lib.hid hfo
  have HSAY := Lib.hid hsay
  have HF := Lib.hid hf
  clear h hi hsay hf hfo hK hbx hbw1 hbw2 hbs1 hbs2 hb02 hk
  go_enter Tryd.func55, Tryd.ntmps55
  go_upto_region 20 with (fail)
  clear hW1 hW2
  go_region_held3 (fun w' : World => w'.cell? ⟨W1.heap.size, 0, none⟩ = some (.int .i64 base) ∧ w'.cell? ⟨W1.heap.size, 1, none⟩ = some (.bool fresh) ∧ w'.cell? ⟨w.heap.size, 0, none⟩ = some (.int .i64 d.kind) ∧ w'.cell? ⟨w.heap.size, 1, none⟩ = some (.string d.text) ∧ w'.cell? ⟨w.heap.size, 2, none⟩ = some (.int .i64 d.n) ∧ w'.cell? ⟨w.heap.size, 3, none⟩ = some (.slice A d.kids.length cc))
    (first | (exact ⟨s0, s1, z0, z1, z2, z3⟩) | (exact six_stay (w := W2.drew) ⟨s0, s1, z0, z1, z2, z3⟩ (Stay.of_below (T := fun _ => True) hb3) ⟨by show _ < W2.heap.size; dsimp only; omega, trivial⟩ ⟨by show _ < W2.heap.size; dsimp only; omega, trivial⟩ ⟨by show _ < W2.heap.size; dsimp only; omega, trivial⟩ ⟨by show _ < W2.heap.size; dsimp only; omega, trivial⟩ ⟨by show _ < W2.heap.size; dsimp only; omega, trivial⟩ ⟨by show _ < W2.heap.size; dsimp only; omega, trivial⟩) | (exact six_stay (T := Apart b V) (by assumption) hm4.1 ⟨by dsimp only; omega, ⟨by dsimp only; omega, fun e => by have := (HP.out.own.lt _ e.symm).2; dsimp only at this; omega⟩⟩ ⟨by dsimp only; omega, ⟨by dsimp only; omega, fun e => by have := (HP.out.own.lt _ e.symm).2; dsimp only at this; omega⟩⟩ ⟨by dsimp only; omega, ⟨by dsimp only; omega, fun e => by have := (HP.out.own.lt _ e.symm).2; dsimp only at this; omega⟩⟩ ⟨by dsimp only; omega, ⟨by dsimp only; omega, fun e => by have := (HP.out.own.lt _ e.symm).2; dsimp only at this; omega⟩⟩ ⟨by dsimp only; omega, ⟨by dsimp only; omega, fun e => by have := (HP.out.own.lt _ e.symm).2; dsimp only at this; omega⟩⟩ ⟨by dsimp only; omega, ⟨by dsimp only; omega, fun e => by have := (HP.out.own.lt _ e.symm).2; dsimp only at this; omega⟩⟩))
    (first | (go_at_call 71; refine (there_any n₀ d A cc W2.drew hwt (by show n₀ ≤ W2.heap.size; omega) (kidsAt_below HK2.out (Below.drew (Below.refl _ _)))).mono ?_; intro e w3 hkr; obtain ⟨A1, cc1, g, l, rfl, hcap1, hnil1, hl1, hg1, hrow1, hb3⟩ := kept_row hkr; have hs3 : W2.heap.size ≤ w3.heap.size := hb3.size; have hp3 : PenAt B w3 b V (pfOf c q false) q.out := PenAt.later (w := W2.drew) ⟨HP2.out.base, HP2.out.blk, HP2.out.own⟩ hb3; clear hkr hnil1) | (go_at_call 74; refine (pfill_any B b n₀ V c q base M fresh 9 blankB rfl A1 cc1 g 0 l (d.kids.filter Doc.there) hl1 w3 hp3 HI.out (says_kids HF.out HSAY.out) HFK.out hb0 hb1 (by omega) (by omega) hn (fun hne => ⟨(hg1 hne).1, (hg1 hne).2.2, by have h2 : W2.heap.size ≤ g := (hg1 hne).2.1; omega, fun e => by have h2 : W2.heap.size ≤ g := (hg1 hne).2.1; have := (HP.out.own.lt _ e.symm).2; omega⟩) hcap1 hrow1).mono ?_; rintro e w4 ⟨rfl, V4, q4, l4, hp4, hm4, hi4, hs4⟩))
  rename_i hH
  have HM3 := Lib.hid (HM2.out.trans (Moved.of_below (b := b) (V := V) (Below.trans (Below.drew (Below.refl _ _)) hb3)))
  have HPL := Lib.hid (show PLaid B b w3 V c _ _ (.returned (.tuple #[])) w4 from ⟨rfl, V4, q4, l4, hp4, hm4, hi4, hs4⟩)
  clear hH hp4 hm4 hi4 hs4 hp3 hb3 hl1 hg1 hrow1
  go_wp2
  go_end0
  exact PLaid.of HPL.out HM3.out (by omega) (by rw [HLAY.out, fills_there, HKD.out])

set_option maxRecDepth 100000 in
set_option maxHeartbeats 8000000 in
theorem play_10 (B b n₀ : Nat) (V : Value) (c : Cfg) (q : Pen) (base M : Int) (fresh : Bool) (d : Doc) (A : Option Addr) (cc : Nat) (w : World) (hk : d.kind = 10)
    (h : PenAt B w b V (pfOf c q false) q.out) (hi : Inv M q) (hsay : ∀ k ∈ d.kids, LaySays k) (hf : d.form = true) (hwt : d.wt ≤ 16777216) (hfo : d.void = false → FOk c q (base + d.lead0) fresh) (hb0 : -M ≤ base) (hb1 : base ≤ M) (hM : M + 4000 * (d.wt : Int) - 2000 ≤ 1099511627776) (hn : n₀ ≤ B) (hK : KidsAt n₀ w d.kids A) :
    Calls Tryd.prog 55 #[.pointer (some ⟨b, 0, none⟩), .agg #[.int .i64 d.kind, .string d.text, .int .i64 d.n, .slice A d.kids.length cc], .agg #[.int .i64 base, .bool fresh]] w (PLaid B b w V c (M + 4000 * (d.wt : Int) - 2000) (d.lay c q base fresh)) := by
  have k1 : (d.kind == 1) = false := by rw [hk]; rfl
  have k2 : (d.kind == 2) = false := by rw [hk]; rfl
  have k3 : (d.kind == 3) = false := by rw [hk]; rfl
  have k4 : (d.kind == 4) = false := by rw [hk]; rfl
  have k5 : (d.kind == 5) = false := by rw [hk]; rfl
  have k6 : (d.kind == 6) = false := by rw [hk]; rfl
  have k7 : (d.kind == 7) = false := by rw [hk]; rfl
  have k8 : (d.kind == 8) = false := by rw [hk]; rfl
  have k9 : (d.kind == 9) = false := by rw [hk]; rfl
  have k10 : (d.kind == 10) = true := by rw [hk]; rfl
  have HLAY := Lib.hid (show d.lay c q base fresh = fills c d.kind d.kids true false q base fresh by rw [lay_eq, k1, k2, k3, k4, k9, k10]; rfl)
  have HFK := Lib.hid (fok_kids hf (by omega) (by omega) hfo)
  have HKD := Lib.hid hk
  obtain ⟨hbx, hbw1, hbs1⟩ := box_new w (.int .i64 d.kind) (.string d.text) (.int .i64 d.n) (.slice A d.kids.length cc)
  obtain ⟨W1, hW1⟩ : ∃ W1, w.alloc (.cells #[.int .i64 d.kind, .string d.text, .int .i64 d.n, .slice A d.kids.length cc] 24) = W1 := ⟨_, rfl⟩
  rw [hW1] at hbx hbw1 hbs1
  obtain ⟨s0, s1, hbw2, hbs2⟩ := spot_new W1 (.int .i64 base) (.bool fresh)
  have sf0 : (W1.alloc (.cells #[.int .i64 base, .bool fresh] 70)).frozen? ⟨W1.heap.size, 0, none⟩ = false := by simp
  obtain ⟨W2, hW2⟩ : ∃ W2, W1.alloc (.cells #[.int .i64 base, .bool fresh] 70) = W2 := ⟨_, rfl⟩
  rw [hW2] at s0 s1 hbw2 hbs2 sf0
  have hx2 := hbx.below hbw2 (by omega)
  have hb02 := hbw1.trans (hbw2.mono (by omega))
  have hltb := h.lt
  have hBw := h.Ble
  have hwp := wt_pos d
  have hwe := wt_eq d
  have hwf := wts_filter Doc.there d.kids
  have HP := Lib.hid h
  have HP2 := Lib.hid (h.later hb02)
  have HM2 := Lib.hid (Moved.of_below (b := b) (V := V) hb02)
  have hsb1 : w.heap.size < W1.heap.size := by omega
  have hsb2 : W1.heap.size < W2.heap.size := by omega
  have HK2 := Lib.hid (kidsAt_below hK (below_le hb02 (by omega)))
  have c10 := (h.later hb02).cells.c10
  simp only [pfOf] at c10
  obtain ⟨z0, z1, z2, z3, _, _, _, _⟩ := hx2
  have HI := Lib.hid hi
  have HFO := Lib.hid hfo
  have HSAY := Lib.hid hsay
  have HF := Lib.hid hf
  clear h hi hsay hf hfo hK hbx hbw1 hbw2 hbs1 hbs2 hb02 hk
  go_enter Tryd.func55, Tryd.ntmps55
  go_upto_region 22 with (fail)
  clear hW1 hW2
  go_region_held3 (fun w' : World => w'.cell? ⟨W1.heap.size, 0, none⟩ = some (.int .i64 base) ∧ w'.cell? ⟨W1.heap.size, 1, none⟩ = some (.bool fresh) ∧ w'.cell? ⟨w.heap.size, 0, none⟩ = some (.int .i64 d.kind) ∧ w'.cell? ⟨w.heap.size, 1, none⟩ = some (.string d.text) ∧ w'.cell? ⟨w.heap.size, 2, none⟩ = some (.int .i64 d.n) ∧ w'.cell? ⟨w.heap.size, 3, none⟩ = some (.slice A d.kids.length cc))
    (first | (exact ⟨s0, s1, z0, z1, z2, z3⟩) | (exact six_stay (w := W2.drew) ⟨s0, s1, z0, z1, z2, z3⟩ (Stay.of_below (T := fun _ => True) hb3) ⟨by show _ < W2.heap.size; dsimp only; omega, trivial⟩ ⟨by show _ < W2.heap.size; dsimp only; omega, trivial⟩ ⟨by show _ < W2.heap.size; dsimp only; omega, trivial⟩ ⟨by show _ < W2.heap.size; dsimp only; omega, trivial⟩ ⟨by show _ < W2.heap.size; dsimp only; omega, trivial⟩ ⟨by show _ < W2.heap.size; dsimp only; omega, trivial⟩) | (exact six_stay (T := Apart b V) (by assumption) hm4.1 ⟨by dsimp only; omega, ⟨by dsimp only; omega, fun e => by have := (HP.out.own.lt _ e.symm).2; dsimp only at this; omega⟩⟩ ⟨by dsimp only; omega, ⟨by dsimp only; omega, fun e => by have := (HP.out.own.lt _ e.symm).2; dsimp only at this; omega⟩⟩ ⟨by dsimp only; omega, ⟨by dsimp only; omega, fun e => by have := (HP.out.own.lt _ e.symm).2; dsimp only at this; omega⟩⟩ ⟨by dsimp only; omega, ⟨by dsimp only; omega, fun e => by have := (HP.out.own.lt _ e.symm).2; dsimp only at this; omega⟩⟩ ⟨by dsimp only; omega, ⟨by dsimp only; omega, fun e => by have := (HP.out.own.lt _ e.symm).2; dsimp only at this; omega⟩⟩ ⟨by dsimp only; omega, ⟨by dsimp only; omega, fun e => by have := (HP.out.own.lt _ e.symm).2; dsimp only at this; omega⟩⟩))
    (first | (go_at_call 71; refine (there_any n₀ d A cc W2.drew hwt (by show n₀ ≤ W2.heap.size; omega) (kidsAt_below HK2.out (Below.drew (Below.refl _ _)))).mono ?_; intro e w3 hkr; obtain ⟨A1, cc1, g, l, rfl, hcap1, hnil1, hl1, hg1, hrow1, hb3⟩ := kept_row hkr; have hs3 : W2.heap.size ≤ w3.heap.size := hb3.size; have hp3 : PenAt B w3 b V (pfOf c q false) q.out := PenAt.later (w := W2.drew) ⟨HP2.out.base, HP2.out.blk, HP2.out.own⟩ hb3; clear hkr hnil1) | (go_at_call 74; refine (pfill_any B b n₀ V c q base M fresh 10 noB rfl A1 cc1 g 0 l (d.kids.filter Doc.there) hl1 w3 hp3 HI.out (says_kids HF.out HSAY.out) HFK.out hb0 hb1 (by omega) (by omega) hn (fun hne => ⟨(hg1 hne).1, (hg1 hne).2.2, by have h2 : W2.heap.size ≤ g := (hg1 hne).2.1; omega, fun e => by have h2 : W2.heap.size ≤ g := (hg1 hne).2.1; have := (HP.out.own.lt _ e.symm).2; omega⟩) hcap1 hrow1).mono ?_; rintro e w4 ⟨rfl, V4, q4, l4, hp4, hm4, hi4, hs4⟩))
  rename_i hH
  have HM3 := Lib.hid (HM2.out.trans (Moved.of_below (b := b) (V := V) (Below.trans (Below.drew (Below.refl _ _)) hb3)))
  have HPL := Lib.hid (show PLaid B b w3 V c _ _ (.returned (.tuple #[])) w4 from ⟨rfl, V4, q4, l4, hp4, hm4, hi4, hs4⟩)
  clear hH hp4 hm4 hi4 hs4 hp3 hb3 hl1 hg1 hrow1
  go_wp2
  go_end0
  exact PLaid.of HPL.out HM3.out (by omega) (by rw [HLAY.out, fills_there, HKD.out])
end Go.Proofs.YtnpaplfdmpjfgaaDoor
