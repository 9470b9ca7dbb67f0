/- The program's sep. -/
import Derived.Test.YtnpaplfdmpjfgaaDoorDLayF
namespace Go.Proofs.YtnpaplfdmpjfgaaDoor
open Go.RowKit

theorem set6 {w0 wx : World} {a0 a1 a2 a3 a4 a5 : Addr} {u0 u1 u2 u3 u4 u5 : Value} (h : wx.cell? a0 = some u0 ∧ wx.cell? a1 = some u1 ∧ wx.cell? a2 = some u2 ∧ wx.cell? a3 = some u3 ∧ wx.cell? a4 = some u4 ∧ wx.cell? a5 = some u5 ∧ Below w0.heap.size w0 wx) (nb i : Nat) (v : Value) (hn : w0.heap.size ≤ nb) (l0 : a0.block < w0.heap.size) (l1 : a1.block < w0.heap.size) (l2 : a2.block < w0.heap.size) (l3 : a3.block < w0.heap.size) (l4 : a4.block < w0.heap.size) (l5 : a5.block < w0.heap.size) :
    (wx.setCell ⟨nb, i, none⟩ v).cell? a0 = some u0 ∧ (wx.setCell ⟨nb, i, none⟩ v).cell? a1 = some u1 ∧ (wx.setCell ⟨nb, i, none⟩ v).cell? a2 = some u2 ∧ (wx.setCell ⟨nb, i, none⟩ v).cell? a3 = some u3 ∧ (wx.setCell ⟨nb, i, none⟩ v).cell? a4 = some u4 ∧ (wx.setCell ⟨nb, i, none⟩ v).cell? a5 = some u5 ∧ Below w0.heap.size w0 (wx.setCell ⟨nb, i, none⟩ v) := by
  obtain ⟨h0, h1, h2, h3, h4, h5, q⟩ := h
  have hc : ∀ a : Addr, a.block < w0.heap.size → (wx.setCell ⟨nb, i, none⟩ v).cell? a = wx.cell? a := fun a ha => World.cell?_of_block (Below.heap_setCell _ _ _ _ (by dsimp only; omega))
  exact ⟨(hc _ l0).trans h0, (hc _ l1).trans h1, (hc _ l2).trans h2, (hc _ l3).trans h3, (hc _ l4).trans h4, (hc _ l5).trans h5, q.setCell (p := ⟨nb, i, none⟩) hn v⟩
theorem PLaid.of {B b : Nat} {w w1 w' : World} {V : Value} {c : Cfg} {M M' : Int} {o o' : Option Pen} {e : Ending} (h : PLaid B b w1 V c M' o e w') (hm : Moved b V w V w1) (hM : M' ≤ M) (ho : o = o') : PLaid B b w V c M o' e w' := by
  obtain ⟨he, V', q', lg', h1, h2, h3, h4⟩ := h
  exact ⟨he, V', q', lg', h1, hm.trans h2, h3.mono hM, by rw [← ho]; exact h4⟩
theorem imp_of {a b : Prop} (h : a) (k : a → b) : b := k h
theorem alloc_first {w w' : World} {x y : Value} (h : Below (w.alloc (.cells #[x, y] 70)).drew.heap.size (w.alloc (.cells #[x, y] 70)).drew w') : w'.cell? ⟨w.heap.size, 0, none⟩ = some x ∧ w'.cell? ⟨w.heap.size, 1, none⟩ = some y ∧ w'.frozen? ⟨w.heap.size, 0, none⟩ = false ∧ w'.frozen? ⟨w.heap.size, 1, none⟩ = false := by
  have hl : w.heap.size < (w.alloc (.cells #[x, y] 70)).drew.heap.size := by simp
  exact ⟨(h.cell (p := ⟨w.heap.size, 0, none⟩) hl).trans (by simp), (h.cell (p := ⟨w.heap.size, 1, none⟩) hl).trans (by simp), (h.frozen (p := ⟨w.heap.size, 0, none⟩) hl).trans (by simp), (h.frozen (p := ⟨w.heap.size, 1, none⟩) hl).trans (by simp)⟩
/-- The kids that are there, as a row. -/
theorem kept_row {n₀ : Nat} {ds : List Doc} {w w' : World} {e : Ending} (h : KeptAt n₀ ds w e w') : ∃ A cc g l, e = .returned (.slice A l.length cc) ∧ l.length ≤ cc ∧ (A = none → cc = 0) ∧ l.map DV.d = ds.filter Doc.there ∧ (l ≠ [] → A = some ⟨g, 0, none⟩ ∧ w.heap.size ≤ g ∧ g < w'.heap.size) ∧ RowAt n₀ w' g 0 l ∧ Below w.heap.size w w' := by
  obtain ⟨v, l, rfl, hD, hl, hb, hok⟩ := h
  obtain ⟨A, c, rfl, hcap, hnil, _⟩ := hD.at_
  rcases hD.1.2 with ⟨hv, hn⟩ | ⟨g, cap, cur, hv, hbg, hg, _⟩
  · have : l = [] := List.eq_nil_of_length_eq_zero hn
    subst this
    exact ⟨A, c, 0, [], rfl, hcap, hnil, hl, fun h => absurd rfl h, ⟨fun k t ht => by simp at ht, by simp⟩, hb⟩
  · simp only [Value.slice.injEq] at hv
    refine ⟨A, c, g, l, rfl, hcap, hnil, hl, fun _ => ⟨hv.1, hbg, (Array.getElem?_eq_some_iff.1 hg).1⟩, ⟨fun k t ht => ?_, hok⟩, hb⟩
    have hc : ∀ j, j < 4 → w'.cell? ⟨g, k * 4 + j, none⟩ = t.cells[j]? := fun j hj => by
      have h1 := flatD_get l k t ht j hj
      have h2 : j < t.cells.length := by simpa [DV.cells] using hj
      rw [List.getElem?_eq_getElem h2] at h1 ⊢
      have h3 := hD.1.cells (g := g) (by rw [hv.1]; rfl) _ _ h1
      have hadd : (⟨g, 0, none⟩ : Addr).add (k * 4 + j) = ⟨g, k * 4 + j, none⟩ := by unfold Addr.add; split <;> simp_all
      rwa [hadd] at h3
    rw [Nat.zero_add]
    exact ⟨hc 0 (by omega), hc 1 (by omega), hc 2 (by omega), hc 3 (by omega)⟩

set_option maxRecDepth 100000 in
set_option maxHeartbeats 8000000 in
theorem psep_any (B b n₀ : Nat) (V : Value) (c : Cfg) (q : Pen) (base M : Int) (fresh : Bool) (d : Doc) (A : Option Addr) (cc : Nat) (w : World) (hk : d.kind = 7 ∨ d.kind = 8)
    (h : PenAt B w b V (pfOf c q false) q.out) (hi : Inv M q) (hsay : ∀ k ∈ d.kids, LaySays k) (hf : d.form = true) (hwt : d.wt ≤ 16777216) (hfo : d.void = false → FOk c q (base + d.lead0) fresh) (hb0 : -M ≤ base) (hb1 : base ≤ M) (hM : M + 4000 * (d.wt : Int) - 2000 ≤ 1099511627776) (hn : n₀ ≤ B) (hK : KidsAt n₀ w d.kids A) :
    Calls Tryd.prog 73 #[.pointer (some ⟨b, 0, none⟩), .agg #[.int .i64 d.kind, .string d.text, .int .i64 d.n, .slice A d.kids.length cc], .agg #[.int .i64 base, .bool fresh]] w (PLaid B b w V c (M + 4000 * (d.wt : Int) - 2000) (d.lay c q base fresh)) := by
  have hlay : d.lay c q base fresh = match sepT c d.kind q d.flat d.void (base + d.lead0) fresh with
      | some s => put c q s (base + d.lead0) fresh
      | none => belows c false d.kids true q base fresh := by
    rw [lay_eq]
    rcases hk with hk | hk <;> rw [hk] <;> rfl
  obtain ⟨hbx, hbw1, hbs1⟩ := box_new w (.int .i64 d.kind) (.string d.text) (.int .i64 d.n) (.slice A d.kids.length cc)
  obtain ⟨W1, hW1⟩ : ∃ W1, w.alloc (.cells #[.int .i64 d.kind, .string d.text, .int .i64 d.n, .slice A d.kids.length cc] 24) = W1 := ⟨_, rfl⟩
  rw [hW1] at hbx hbw1 hbs1
  obtain ⟨s0, s1, hbw2, hbs2⟩ := spot_new W1 (.int .i64 base) (.bool fresh)
  obtain ⟨W2, hW2⟩ : ∃ W2, W1.alloc (.cells #[.int .i64 base, .bool fresh] 70) = W2 := ⟨_, rfl⟩
  rw [hW2] at s0 s1 hbw2 hbs2
  have hx2 := hbx.below hbw2 (by omega)
  have hb02 := hbw1.trans (hbw2.mono (by omega))
  have hltb := h.lt
  have hBw := h.Ble
  have HP := Lib.hid h
  have HX2 := Lib.hid hx2
  have HB02 := Lib.hid hb02
  have HTH := Lib.hid (there_any n₀ d A cc W2 hwt (by have := hb02.size; omega) (kidsAt_below hK (below_le hb02 (by omega))))
  obtain ⟨z0, z1, z2, z3, _, _, _, _⟩ := hx2
  have HLAY := Lib.hid hlay
  have HK := Lib.hid hK
  have HI := Lib.hid hi
  have HFO := Lib.hid hfo
  have HSAY := Lib.hid hsay
  have HF := Lib.hid hf
  have HKD := Lib.hid hk
  have hsl := lead0_small hf
  have hsb1 : w.heap.size < W1.heap.size := by omega
  have hsb2 : W1.heap.size < W2.heap.size := by omega
  have hwp := wt_pos d
  clear h hi hsay hf hfo hK hlay hbx hbw1 hbw2 hbs1 hbs2 hb02 hk
  go_enter Tryd.func73, Tryd.ntmps73
  go_wp2_with fail
  clear hW1 hW2
  refine HTH.out.mono ?_
  intro e w3 hkr
  obtain ⟨A1, cc1, g, l, rfl, hcap1, hnil1, hl1, hg1, hrow1, hb3⟩ := kept_row hkr
  have hs3 : W1.heap.size < w3.heap.size := by have := hb3.size; omega
  have t0 := (hb3.cell (p := ⟨W1.heap.size, 0, none⟩) (by dsimp only; omega)).trans s0
  have t1 := (hb3.cell (p := ⟨W1.heap.size, 1, none⟩) (by dsimp only; omega)).trans s1
  have y0 := (hb3.cell (p := ⟨w.heap.size, 0, none⟩) (by dsimp only; omega)).trans z0
  have y1 := (hb3.cell (p := ⟨w.heap.size, 1, none⟩) (by dsimp only; omega)).trans z1
  have y2 := (hb3.cell (p := ⟨w.heap.size, 2, none⟩) (by dsimp only; omega)).trans z2
  have y3 := (hb3.cell (p := ⟨w.heap.size, 3, none⟩) (by dsimp only; omega)).trans z3
  have HB3 := Lib.hid (HB02.out.trans (hb3.mono (by omega)))
  have HROW := Lib.hid hrow1
  have HG1 := Lib.hid hg1
  have HL1 := Lib.hid hl1
  have hwrap : IntKind.i64.wrap (base + d.lead0) = base + d.lead0 := IntWalk.i64_in _ (by omega)
  clear hkr hnil1 hrow1 hg1 hl1 s0 s1 z0 z1 z2 z3 hb3 HTH
  go_upto_region 2 with (fail)
  go_region_held3 (fun w' : World => w'.cell? ⟨W1.heap.size, 0, none⟩ = some (.int .i64 base) ∧ w'.cell? ⟨W1.heap.size, 1, none⟩ = some (.bool fresh) ∧ w'.cell? ⟨w.heap.size, 0, none⟩ = some (.int .i64 d.kind) ∧ w'.cell? ⟨w.heap.size, 1, none⟩ = some (.string d.text) ∧ w'.cell? ⟨w.heap.size, 2, none⟩ = some (.int .i64 d.n) ∧ w'.cell? ⟨w.heap.size, 3, none⟩ = some (.slice A d.kids.length cc) ∧ Below w3.heap.size w3 w')
    (first | (exact ⟨t0, t1, y0, y1, y2, y3, (Below.refl _ _).drew⟩) | (exact held6 (by assumption) hbf (by dsimp only; omega) (by dsimp only; omega) (by dsimp only; omega) (by dsimp only; omega) (by dsimp only; omega) (by dsimp only; omega)) | (exact held6 (by assumption) ((Below.refl _ _).alloc (Nat.le_refl _) _) (by dsimp only; omega) (by dsimp only; omega) (by dsimp only; omega) (by dsimp only; omega) (by dsimp only; omega) (by dsimp only; omega)) | (exact held6 (w0 := w3) (wx := w4) (held6 (w0 := w3) (wx := w3.drew) ⟨t0, t1, y0, y1, y2, y3, (Below.refl _ _).drew⟩ hbf (by dsimp only; omega) (by dsimp only; omega) (by dsimp only; omega) (by dsimp only; omega) (by dsimp only; omega) (by dsimp only; omega)) ((Below.refl _ _).alloc (Nat.le_refl _) _) (by dsimp only; omega) (by dsimp only; omega) (by dsimp only; omega) (by dsimp only; omega) (by dsimp only; omega) (by dsimp only; omega)) | (exact held6 (w0 := w3) (wx := w3.drew) ⟨t0, t1, y0, y1, y2, y3, (Below.refl _ _).drew⟩ ((Below.refl _ _).alloc (Nat.le_refl _) _) (by dsimp only; omega) (by dsimp only; omega) (by dsimp only; omega) (by dsimp only; omega) (by dsimp only; omega) (by dsimp only; omega)) | (exact set6 (set6 (by assumption) _ _ _ (Nat.le_refl _) (by dsimp only; omega) (by dsimp only; omega) (by dsimp only; omega) (by dsimp only; omega) (by dsimp only; omega) (by dsimp only; omega)) _ _ _ (Nat.le_refl _) (by dsimp only; omega) (by dsimp only; omega) (by dsimp only; omega) (by dsimp only; omega) (by dsimp only; omega) (by dsimp only; omega)) | assumption)
    (first | (go_at_call 23; refine (plead_any d A cc _ HF.out (by omega) (kidsAt_on (kidsAt_mono (kidsAt_below HK.out (below_le HB3.out (by omega))) (by omega)) (by first | exact (Below.refl _ _).drew | exact And.right (And.right (And.right (And.right (And.right (And.right (by assumption)))))))) ).mono ?_; rintro e w4 ⟨rfl, hbf⟩; refine imp_of (alloc_first hbf) ?_; rintro ⟨n0, n1, m0, m1⟩) | (go_at_call 23; refine (plead_any d A cc _ HF.out (by omega) (kidsAt_on (kidsAt_mono (kidsAt_below HK.out (below_le HB3.out (by omega))) (by omega)) (by first | exact (Below.refl _ _).drew | exact And.right (And.right (And.right (And.right (And.right (And.right (by assumption)))))))) ).mono ?_; rintro e w4 ⟨rfl, hbf⟩))
  · rename_i hS0
    have k0 : (w4.alloc (.cells #[.int .i64 (base + d.lead0), .bool fresh] 70)).cell? ⟨w4.heap.size, 0, none⟩ = some (.int .i64 (base + d.lead0)) := by simp
    have k1 : (w4.alloc (.cells #[.int .i64 (base + d.lead0), .bool fresh] 70)).cell? ⟨w4.heap.size, 1, none⟩ = some (.bool fresh) := by simp
    have hbl : w4.heap.size < (w4.alloc (.cells #[.int .i64 (base + d.lead0), .bool fresh] 70)).heap.size := by simp
    have hS := hS0
    clear hS0 hbf hwrap
    generalize w4.alloc (.cells #[.int .i64 (base + d.lead0), .bool fresh] 70) = W5 at hS k0 k1 hbl ⊢
    generalize w4.heap.size = hbk at k0 k1 hbl ⊢
    have hwf := wts_filter Doc.there d.kids
    have hwe := wt_eq d
    have HFK := Lib.hid (show ∀ x r, d.kids.filter Doc.there = x :: r → FOk c q (base + x.lead0) fresh from fun x r hx => by
      have hv : d.void = false := by
        cases hv : d.void with
        | false => rfl
        | true =>
          rw [void_eq, Bool.and_eq_true] at hv
          have := (there_none d.kids).trans hv.2
          rw [hx] at this
          simp at this
          omega
      have hl0 : d.lead0 = x.lead0 := by
        rw [lead0_eq]
        have hk1 : (d.kind == 1) = false := by rcases HKD.out with e | e <;> rw [e] <;> rfl
        have hvk : voids d.kids = false := by
          rw [void_eq] at hv
          have : (d.kind != 1) = true := by simp [bne, hk1]
          rw [this, Bool.true_and] at hv
          exact hv
        rw [hk1]
        simp only [Bool.false_eq_true, if_false]
        rw [leads0_there _ _ hvk, hx]
        have hn0 : d.n = 0 := (form_at.1 HF.out).n.resolve_left (by rcases HKD.out with e | e <;> rw [e] <;> decide)
        rw [hn0]
        simp [hd0]
      have := HFO.out hv
      rw [hl0] at this
      exact this)
    have HFL := Lib.hid (flat_any d.wt d A cc W5 (Nat.le_refl _) hwt (kidsAt_on (kidsAt_mono (kidsAt_below HK.out (below_le HB3.out (by omega))) (by omega)) hS.2.2.2.2.2.2))
    have HS := Lib.hid hS
    have HK01 := Lib.hid (And.intro k0 k1)
    obtain ⟨t0, t1, y0, y1, y2, y3, hb5⟩ := hS
    have hs5 := hb5.size
    clear hb5
    go_wp2_with fail
    have hfc := HFL.out
    unfold FlatSaid at hfc
    cases hfl : d.flat with
    | none =>
      rw [hfl] at hfc
      simp only [flatV] at hfc
      refine hfc.mono ?_
      rintro e w6 ⟨rfl, hb6⟩
      have HSEP := Lib.hid (show sepT c d.kind q d.flat d.void (base + d.lead0) fresh = none by rw [hfl]; unfold sepT; split <;> rfl)
      have HP6 := Lib.hid (HP.out.later (HB3.out.trans ((HS.out.2.2.2.2.2.2.trans (hb6.mono hs5)).mono (by omega))))
      have HM6 := Lib.hid (Moved.of_below (b := b) (V := V) (HB3.out.trans ((HS.out.2.2.2.2.2.2.trans (hb6.mono hs5)).mono (by omega))))
      have hb36 := HS.out.2.2.2.2.2.2.trans (hb6.mono hs5)
      have hs6 := hb6.size
      have HSP6 := Lib.hid (show w6.cell? ⟨W1.heap.size, 0, none⟩ = some (.int .i64 base) ∧ w6.cell? ⟨W1.heap.size, 1, none⟩ = some (.bool fresh) ∧ W5.heap.size ≤ w6.heap.size from ⟨(hb6.cell (p := ⟨W1.heap.size, 0, none⟩) (by dsimp only; omega)).trans t0, (hb6.cell (p := ⟨W1.heap.size, 1, none⟩) (by dsimp only; omega)).trans t1, hs6⟩)
      have HROW6 := Lib.hid (show RowAt n₀ w6 g 0 l from by
        by_cases hne : l = []
        · subst hne
          exact ⟨fun k t ht => by simp at ht, by simp⟩
        · exact HROW.out.later (hb36.block g (HG1.out hne).2.2) (below_le hb36 (by omega)))
      have hrb : ∀ w8, Below w6.heap.size w6 w8 → l ≠ [] → w8.heap[g]? = w6.heap[g]? := fun w8 h8 hne => h8.block g (by have := (HG1.out hne).2.2; omega)
      have HRB := Lib.hid hrb
      clear hb36 hrb
      clear hfc hb6 t0 t1 y0 y1 y2 y3 k0 k1
      have HCB := Lib.hid (pbelow_false B b n₀ V c q base M fresh A1 cc1 g 0 l (d.kids.filter Doc.there) HL1.out w6 HP6.out HI.out (fun x hx => by
        have hxk := List.mem_filter.1 hx
        exact ⟨HSAY.out x hxk.1, by simpa [Doc.there] using hxk.2, (form_at.1 HF.out).kids x hxk.1⟩) HFK.out hb0 hb1 (by omega) (by omega) hn (fun hne => by
        obtain ⟨e1, e2, e3⟩ := HG1.out hne
        exact ⟨e1, by omega, by omega, fun e => by have := (HP.out.own.lt _ e.symm).2; omega⟩) hcap1 HROW6.out)
      obtain ⟨t0, t1, _⟩ := HSP6.out
      go_wp2_with fail
      refine HCB.out.mono ?_
      rintro e w7 ⟨rfl, hrest⟩
      go_wp2
      go_end0
      exact PLaid.of ⟨rfl, hrest⟩ HM6.out (by omega) (by rw [HLAY.out, HSEP.out, belows_there])
    | some sk =>
      have hfz := flat_size hfl
      rw [hfl] at hfc
      simp only [flatV] at hfc
      refine hfc.mono ?_
      rintro e w6 ⟨rfl, hb6⟩
      have HP6 := Lib.hid (HP.out.later (HB3.out.trans ((HS.out.2.2.2.2.2.2.trans (hb6.mono hs5)).mono (by omega))))
      have HM6 := Lib.hid (Moved.of_below (b := b) (V := V) (HB3.out.trans ((HS.out.2.2.2.2.2.2.trans (hb6.mono hs5)).mono (by omega))))
      have hb36 := HS.out.2.2.2.2.2.2.trans (hb6.mono hs5)
      have hs6 := hb6.size
      have HSP6 := Lib.hid (show w6.cell? ⟨W1.heap.size, 0, none⟩ = some (.int .i64 base) ∧ w6.cell? ⟨W1.heap.size, 1, none⟩ = some (.bool fresh) ∧ W5.heap.size ≤ w6.heap.size from ⟨(hb6.cell (p := ⟨W1.heap.size, 0, none⟩) (by dsimp only; omega)).trans t0, (hb6.cell (p := ⟨W1.heap.size, 1, none⟩) (by dsimp only; omega)).trans t1, hs6⟩)
      have HROW6 := Lib.hid (show RowAt n₀ w6 g 0 l from by
        by_cases hne : l = []
        · subst hne
          exact ⟨fun k t ht => by simp at ht, by simp⟩
        · exact HROW.out.later (hb36.block g (HG1.out hne).2.2) (below_le hb36 (by omega)))
      have hrb : ∀ w8, Below w6.heap.size w6 w8 → l ≠ [] → w8.heap[g]? = w6.heap[g]? := fun w8 h8 hne => h8.block g (by have := (HG1.out hne).2.2; omega)
      have HRB := Lib.hid hrb
      clear hb36 hrb
      have h06 := (hb6.cell (p := ⟨hbk, 0, none⟩) hbl).trans k0
      have h16 := (hb6.cell (p := ⟨hbk, 1, none⟩) hbl).trans k1
      clear hfc hb6 t0 t1 y0 y1 y2 y3 k0 k1
      cases hv : d.void with
      | true =>
        have hl0 : l.length = 0 := by
          rw [void_eq, Bool.and_eq_true] at hv
          have h1 := (there_none d.kids).trans hv.2
          rw [← HL1.out, List.length_map] at h1
          simpa using h1
        have HSEP := Lib.hid (show sepT c d.kind q d.flat d.void (base + d.lead0) fresh = none by rw [hv]; unfold sepT; rw [Bool.not_true, Bool.and_false]; rfl)
        have g1 : decide (0 < l.length) = false := decide_eq_false (by omega)
        clear hl0 hv h06 h16
        have HCB := Lib.hid (pbelow_false B b n₀ V c q base M fresh A1 cc1 g 0 l (d.kids.filter Doc.there) HL1.out w6 HP6.out HI.out (fun x hx => by
          have hxk := List.mem_filter.1 hx
          exact ⟨HSAY.out x hxk.1, by simpa [Doc.there] using hxk.2, (form_at.1 HF.out).kids x hxk.1⟩) HFK.out hb0 hb1 (by omega) (by omega) hn (fun hne => by
          obtain ⟨e1, e2, e3⟩ := HG1.out hne
          exact ⟨e1, by omega, by omega, fun e => by have := (HP.out.own.lt _ e.symm).2; omega⟩) hcap1 HROW6.out)
        obtain ⟨t0, t1, _⟩ := HSP6.out
        go_wp2_with fail
        refine HCB.out.mono ?_
        rintro e w7 ⟨rfl, hrest⟩
        go_wp2
        go_end0
        exact PLaid.of ⟨rfl, hrest⟩ HM6.out (by omega) (by rw [HLAY.out, HSEP.out, belows_there])
      | false =>
        have hl0 : 0 < l.length := by
          rcases Nat.eq_zero_or_pos l.length with h0 | h0
          · exfalso
            rw [← List.length_map (f := DV.d), HL1.out] at h0
            have h1 := there_none d.kids
            rw [h0] at h1
            rw [void_eq, ← h1] at hv
            rcases HKD.out with e | e <;> rw [e] at hv <;> simp at hv
          · exact h0
        have g1 : decide (0 < l.length) = true := decide_eq_true hl0
        have HPF := Lib.hid (pfits_any B b V c q false sk (base + d.lead0) (M + 1000 * (d.wt : Int)) fresh w6 HP6.out (HI.out.mono (by omega)) (by omega) (by omega) (by omega))
        have HVO := Lib.hid hv
        have hxs : (0 : Int) < (l.length : Int) := by omega
        clear hl0 hv
        cases hft : fitsB c q sk (base + d.lead0) fresh with
        | true =>
          have HSEP := Lib.hid (show sepT c d.kind q d.flat d.void (base + d.lead0) fresh = some sk by
            rw [hfl, HVO.out]
            unfold sepT
            rw [show (d.kind == 7 || d.kind == 8) = true by rcases HKD.out with e | e <;> rw [e] <;> rfl]
            simp only [Bool.not_false, Bool.and_self, if_true, hft])
          have HFB := Lib.hid hft
          clear hft
          go_wp2_with fail
          refine HPF.out.mono ?_
          rintro e w8 ⟨rfl, hb8⟩
          rw [HFB.out]
          have h08 := (hb8.cell (p := ⟨hbk, 0, none⟩) (by dsimp only; omega)).trans h06
          have h18 := (hb8.cell (p := ⟨hbk, 1, none⟩) (by dsimp only; omega)).trans h16
          have HT := Lib.hid (ptext_any B b V c q false sk (base + d.lead0) (M + 1000 * (d.wt : Int)) fresh w8 (HP6.out.later hb8) (HI.out.mono (by omega)) (HFO.out HVO.out) (by omega) (by omega) (by omega))
          have HM8 := Lib.hid (HM6.out.trans (Moved.of_below hb8))
          clear hb8 h06 h16
          go_wp2_with fail
          refine HT.out.mono ?_
          rintro e w9 ⟨rfl, hrest⟩
          go_wp2
          go_end0
          exact PLaid.of ⟨rfl, hrest⟩ HM8.out (by omega) (by rw [HLAY.out, HSEP.out]; rfl)
        | false =>
          have HSEP := Lib.hid (show sepT c d.kind q d.flat d.void (base + d.lead0) fresh = none by
            rw [hfl, HVO.out]
            unfold sepT
            split
            · simp only [hft, Bool.false_eq_true, if_false]
            · rfl)
          have HFB := Lib.hid hft
          clear hft
          go_wp2_with fail
          refine HPF.out.mono ?_
          rintro e w8 ⟨rfl, hb8⟩
          rw [HFB.out]
          have HP8 := Lib.hid (HP6.out.later hb8)
          have HM8 := Lib.hid (HM6.out.trans (Moved.of_below hb8))
          have HROW8 := Lib.hid (show RowAt n₀ w8 g 0 l from by
            by_cases hne : l = []
            · subst hne
              exact ⟨fun k t ht => by simp at ht, by simp⟩
            · exact HROW6.out.later (HRB.out w8 hb8 hne) (below_le hb8 (by omega)))
          have HSP8 := Lib.hid (show w8.cell? ⟨W1.heap.size, 0, none⟩ = some (.int .i64 base) ∧ w8.cell? ⟨W1.heap.size, 1, none⟩ = some (.bool fresh) ∧ w6.heap.size ≤ w8.heap.size from ⟨(hb8.cell (p := ⟨W1.heap.size, 0, none⟩) (by dsimp only; omega)).trans HSP6.out.1, (hb8.cell (p := ⟨W1.heap.size, 1, none⟩) (by dsimp only; omega)).trans HSP6.out.2.1, hb8.size⟩)
          have hs8 := hb8.size
          clear hb8 h06 h16
          have HCB := Lib.hid (pbelow_false B b n₀ V c q base M fresh A1 cc1 g 0 l (d.kids.filter Doc.there) HL1.out w8 HP8.out HI.out (fun x hx => by
            have hxk := List.mem_filter.1 hx
            exact ⟨HSAY.out x hxk.1, by simpa [Doc.there] using hxk.2, (form_at.1 HF.out).kids x hxk.1⟩) HFK.out hb0 hb1 (by omega) (by omega) hn (fun hne => by
            obtain ⟨e1, e2, e3⟩ := HG1.out hne
            exact ⟨e1, by omega, by omega, fun e => by have := (HP.out.own.lt _ e.symm).2; omega⟩) hcap1 HROW8.out)
          obtain ⟨t0, t1, _⟩ := HSP8.out
          go_wp2_with fail
          refine HCB.out.mono ?_
          rintro e w7 ⟨rfl, hrest⟩
          go_wp2
          go_end0
          exact PLaid.of ⟨rfl, hrest⟩ HM8.out (by omega) (by rw [HLAY.out, HSEP.out, belows_there])
  · rename_i hS0
    have k0 : ((w4.setCell ⟨w3.heap.size, 0, none⟩ (.int .i64 (base + d.lead0))).setCell ⟨w3.heap.size, 1, none⟩ (.bool fresh)).cell? ⟨w3.heap.size, 0, none⟩ = some (.int .i64 (base + d.lead0)) := by go_simp
    have k1 : ((w4.setCell ⟨w3.heap.size, 0, none⟩ (.int .i64 (base + d.lead0))).setCell ⟨w3.heap.size, 1, none⟩ (.bool fresh)).cell? ⟨w3.heap.size, 1, none⟩ = some (.bool fresh) := by go_simp
    have hbl : w3.heap.size < ((w4.setCell ⟨w3.heap.size, 0, none⟩ (.int .i64 (base + d.lead0))).setCell ⟨w3.heap.size, 1, none⟩ (.bool fresh)).heap.size := by
      have := hbf.size
      simp only [World.setCell, Array.size_modify]
      simp at this
      omega
    have hS := hS0
    clear hS0 hbf hwrap n0 n1 m0 m1
    generalize ((w4.setCell ⟨w3.heap.size, 0, none⟩ (.int .i64 (base + d.lead0))).setCell ⟨w3.heap.size, 1, none⟩ (.bool fresh)) = W5 at hS k0 k1 hbl ⊢
    obtain ⟨hbk, hhb⟩ : ∃ hbk, w3.heap.size = hbk := ⟨_, rfl⟩
    rw [hhb] at k0 k1 hbl ⊢
    clear hhb
    have hwf := wts_filter Doc.there d.kids
    have hwe := wt_eq d
    have HFK := Lib.hid (show ∀ x r, d.kids.filter Doc.there = x :: r → FOk c q (base + x.lead0) fresh from fun x r hx => by
      have hv : d.void = false := by
        cases hv : d.void with
        | false => rfl
        | true =>
          rw [void_eq, Bool.and_eq_true] at hv
          have := (there_none d.kids).trans hv.2
          rw [hx] at this
          simp at this
          omega
      have hl0 : d.lead0 = x.lead0 := by
        rw [lead0_eq]
        have hk1 : (d.kind == 1) = false := by rcases HKD.out with e | e <;> rw [e] <;> rfl
        have hvk : voids d.kids = false := by
          rw [void_eq] at hv
          have : (d.kind != 1) = true := by simp [bne, hk1]
          rw [this, Bool.true_and] at hv
          exact hv
        rw [hk1]
        simp only [Bool.false_eq_true, if_false]
        rw [leads0_there _ _ hvk, hx]
        have hn0 : d.n = 0 := (form_at.1 HF.out).n.resolve_left (by rcases HKD.out with e | e <;> rw [e] <;> decide)
        rw [hn0]
        simp [hd0]
      have := HFO.out hv
      rw [hl0] at this
      exact this)
    have HFL := Lib.hid (flat_any d.wt d A cc W5 (Nat.le_refl _) hwt (kidsAt_on (kidsAt_mono (kidsAt_below HK.out (below_le HB3.out (by omega))) (by omega)) hS.2.2.2.2.2.2))
    have HS := Lib.hid hS
    have HK01 := Lib.hid (And.intro k0 k1)
    obtain ⟨t0, t1, y0, y1, y2, y3, hb5⟩ := hS
    have hs5 := hb5.size
    clear hb5
    go_wp2_with fail
    have hfc := HFL.out
    unfold FlatSaid at hfc
    cases hfl : d.flat with
    | none =>
      rw [hfl] at hfc
      simp only [flatV] at hfc
      refine hfc.mono ?_
      rintro e w6 ⟨rfl, hb6⟩
      have HSEP := Lib.hid (show sepT c d.kind q d.flat d.void (base + d.lead0) fresh = none by rw [hfl]; unfold sepT; split <;> rfl)
      have HP6 := Lib.hid (HP.out.later (HB3.out.trans ((HS.out.2.2.2.2.2.2.trans (hb6.mono hs5)).mono (by omega))))
      have HM6 := Lib.hid (Moved.of_below (b := b) (V := V) (HB3.out.trans ((HS.out.2.2.2.2.2.2.trans (hb6.mono hs5)).mono (by omega))))
      have hb36 := HS.out.2.2.2.2.2.2.trans (hb6.mono hs5)
      have hs6 := hb6.size
      have HSP6 := Lib.hid (show w6.cell? ⟨W1.heap.size, 0, none⟩ = some (.int .i64 base) ∧ w6.cell? ⟨W1.heap.size, 1, none⟩ = some (.bool fresh) ∧ W5.heap.size ≤ w6.heap.size from ⟨(hb6.cell (p := ⟨W1.heap.size, 0, none⟩) (by dsimp only; omega)).trans t0, (hb6.cell (p := ⟨W1.heap.size, 1, none⟩) (by dsimp only; omega)).trans t1, hs6⟩)
      have HROW6 := Lib.hid (show RowAt n₀ w6 g 0 l from by
        by_cases hne : l = []
        · subst hne
          exact ⟨fun k t ht => by simp at ht, by simp⟩
        · exact HROW.out.later (hb36.block g (HG1.out hne).2.2) (below_le hb36 (by omega)))
      have hrb : ∀ w8, Below w6.heap.size w6 w8 → l ≠ [] → w8.heap[g]? = w6.heap[g]? := fun w8 h8 hne => h8.block g (by have := (HG1.out hne).2.2; omega)
      have HRB := Lib.hid hrb
      clear hb36 hrb
      clear hfc hb6 t0 t1 y0 y1 y2 y3 k0 k1
      have HCB := Lib.hid (pbelow_false B b n₀ V c q base M fresh A1 cc1 g 0 l (d.kids.filter Doc.there) HL1.out w6 HP6.out HI.out (fun x hx => by
        have hxk := List.mem_filter.1 hx
        exact ⟨HSAY.out x hxk.1, by simpa [Doc.there] using hxk.2, (form_at.1 HF.out).kids x hxk.1⟩) HFK.out hb0 hb1 (by omega) (by omega) hn (fun hne => by
        obtain ⟨e1, e2, e3⟩ := HG1.out hne
        exact ⟨e1, by omega, by omega, fun e => by have := (HP.out.own.lt _ e.symm).2; omega⟩) hcap1 HROW6.out)
      obtain ⟨t0, t1, _⟩ := HSP6.out
      go_wp2_with fail
      refine HCB.out.mono ?_
      rintro e w7 ⟨rfl, hrest⟩
      go_wp2
      go_end0
      exact PLaid.of ⟨rfl, hrest⟩ HM6.out (by omega) (by rw [HLAY.out, HSEP.out, belows_there])
    | some sk =>
      have hfz := flat_size hfl
      rw [hfl] at hfc
      simp only [flatV] at hfc
      refine hfc.mono ?_
      rintro e w6 ⟨rfl, hb6⟩
      have HP6 := Lib.hid (HP.out.later (HB3.out.trans ((HS.out.2.2.2.2.2.2.trans (hb6.mono hs5)).mono (by omega))))
      have HM6 := Lib.hid (Moved.of_below (b := b) (V := V) (HB3.out.trans ((HS.out.2.2.2.2.2.2.trans (hb6.mono hs5)).mono (by omega))))
      have hb36 := HS.out.2.2.2.2.2.2.trans (hb6.mono hs5)
      have hs6 := hb6.size
      have HSP6 := Lib.hid (show w6.cell? ⟨W1.heap.size, 0, none⟩ = some (.int .i64 base) ∧ w6.cell? ⟨W1.heap.size, 1, none⟩ = some (.bool fresh) ∧ W5.heap.size ≤ w6.heap.size from ⟨(hb6.cell (p := ⟨W1.heap.size, 0, none⟩) (by dsimp only; omega)).trans t0, (hb6.cell (p := ⟨W1.heap.size, 1, none⟩) (by dsimp only; omega)).trans t1, hs6⟩)
      have HROW6 := Lib.hid (show RowAt n₀ w6 g 0 l from by
        by_cases hne : l = []
        · subst hne
          exact ⟨fun k t ht => by simp at ht, by simp⟩
        · exact HROW.out.later (hb36.block g (HG1.out hne).2.2) (below_le hb36 (by omega)))
      have hrb : ∀ w8, Below w6.heap.size w6 w8 → l ≠ [] → w8.heap[g]? = w6.heap[g]? := fun w8 h8 hne => h8.block g (by have := (HG1.out hne).2.2; omega)
      have HRB := Lib.hid hrb
      clear hb36 hrb
      have h06 := (hb6.cell (p := ⟨hbk, 0, none⟩) hbl).trans k0
      have h16 := (hb6.cell (p := ⟨hbk, 1, none⟩) hbl).trans k1
      clear hfc hb6 t0 t1 y0 y1 y2 y3 k0 k1
      cases hv : d.void with
      | true =>
        have hl0 : l.length = 0 := by
          rw [void_eq, Bool.and_eq_true] at hv
          have h1 := (there_none d.kids).trans hv.2
          rw [← HL1.out, List.length_map] at h1
          simpa using h1
        have HSEP := Lib.hid (show sepT c d.kind q d.flat d.void (base + d.lead0) fresh = none by rw [hv]; unfold sepT; rw [Bool.not_true, Bool.and_false]; rfl)
        have g1 : decide (0 < l.length) = false := decide_eq_false (by omega)
        clear hl0 hv h06 h16
        have HCB := Lib.hid (pbelow_false B b n₀ V c q base M fresh A1 cc1 g 0 l (d.kids.filter Doc.there) HL1.out w6 HP6.out HI.out (fun x hx => by
          have hxk := List.mem_filter.1 hx
          exact ⟨HSAY.out x hxk.1, by simpa [Doc.there] using hxk.2, (form_at.1 HF.out).kids x hxk.1⟩) HFK.out hb0 hb1 (by omega) (by omega) hn (fun hne => by
          obtain ⟨e1, e2, e3⟩ := HG1.out hne
          exact ⟨e1, by omega, by omega, fun e => by have := (HP.out.own.lt _ e.symm).2; omega⟩) hcap1 HROW6.out)
        obtain ⟨t0, t1, _⟩ := HSP6.out
        go_wp2_with fail
        refine HCB.out.mono ?_
        rintro e w7 ⟨rfl, hrest⟩
        go_wp2
        go_end0
        exact PLaid.of ⟨rfl, hrest⟩ HM6.out (by omega) (by rw [HLAY.out, HSEP.out, belows_there])
      | false =>
        have hl0 : 0 < l.length := by
          rcases Nat.eq_zero_or_pos l.length with h0 | h0
          · exfalso
            rw [← List.length_map (f := DV.d), HL1.out] at h0
            have h1 := there_none d.kids
            rw [h0] at h1
            rw [void_eq, ← h1] at hv
            rcases HKD.out with e | e <;> rw [e] at hv <;> simp at hv
          · exact h0
        have g1 : decide (0 < l.length) = true := decide_eq_true hl0
        have HPF := Lib.hid (pfits_any B b V c q false sk (base + d.lead0) (M + 1000 * (d.wt : Int)) fresh w6 HP6.out (HI.out.mono (by omega)) (by omega) (by omega) (by omega))
        have HVO := Lib.hid hv
        have hxs : (0 : Int) < (l.length : Int) := by omega
        clear hl0 hv
        cases hft : fitsB c q sk (base + d.lead0) fresh with
        | true =>
          have HSEP := Lib.hid (show sepT c d.kind q d.flat d.void (base + d.lead0) fresh = some sk by
            rw [hfl, HVO.out]
            unfold sepT
            rw [show (d.kind == 7 || d.kind == 8) = true by rcases HKD.out with e | e <;> rw [e] <;> rfl]
            simp only [Bool.not_false, Bool.and_self, if_true, hft])
          have HFB := Lib.hid hft
          clear hft
          go_wp2_with fail
          refine HPF.out.mono ?_
          rintro e w8 ⟨rfl, hb8⟩
          rw [HFB.out]
          have h08 := (hb8.cell (p := ⟨hbk, 0, none⟩) (by dsimp only; omega)).trans h06
          have h18 := (hb8.cell (p := ⟨hbk, 1, none⟩) (by dsimp only; omega)).trans h16
          have HT := Lib.hid (ptext_any B b V c q false sk (base + d.lead0) (M + 1000 * (d.wt : Int)) fresh w8 (HP6.out.later hb8) (HI.out.mono (by omega)) (HFO.out HVO.out) (by omega) (by omega) (by omega))
          have HM8 := Lib.hid (HM6.out.trans (Moved.of_below hb8))
          clear hb8 h06 h16
          go_wp2_with fail
          refine HT.out.mono ?_
          rintro e w9 ⟨rfl, hrest⟩
          go_wp2
          go_end0
          exact PLaid.of ⟨rfl, hrest⟩ HM8.out (by omega) (by rw [HLAY.out, HSEP.out]; rfl)
        | false =>
          have HSEP := Lib.hid (show sepT c d.kind q d.flat d.void (base + d.lead0) fresh = none by
            rw [hfl, HVO.out]
            unfold sepT
            split
            · simp only [hft, Bool.false_eq_true, if_false]
            · rfl)
          have HFB := Lib.hid hft
          clear hft
          go_wp2_with fail
          refine HPF.out.mono ?_
          rintro e w8 ⟨rfl, hb8⟩
          rw [HFB.out]
          have HP8 := Lib.hid (HP6.out.later hb8)
          have HM8 := Lib.hid (HM6.out.trans (Moved.of_below hb8))
          have HROW8 := Lib.hid (show RowAt n₀ w8 g 0 l from by
            by_cases hne : l = []
            · subst hne
              exact ⟨fun k t ht => by simp at ht, by simp⟩
            · exact HROW6.out.later (HRB.out w8 hb8 hne) (below_le hb8 (by omega)))
          have HSP8 := Lib.hid (show w8.cell? ⟨W1.heap.size, 0, none⟩ = some (.int .i64 base) ∧ w8.cell? ⟨W1.heap.size, 1, none⟩ = some (.bool fresh) ∧ w6.heap.size ≤ w8.heap.size from ⟨(hb8.cell (p := ⟨W1.heap.size, 0, none⟩) (by dsimp only; omega)).trans HSP6.out.1, (hb8.cell (p := ⟨W1.heap.size, 1, none⟩) (by dsimp only; omega)).trans HSP6.out.2.1, hb8.size⟩)
          have hs8 := hb8.size
          clear hb8 h06 h16
          have HCB := Lib.hid (pbelow_false B b n₀ V c q base M fresh A1 cc1 g 0 l (d.kids.filter Doc.there) HL1.out w8 HP8.out HI.out (fun x hx => by
            have hxk := List.mem_filter.1 hx
            exact ⟨HSAY.out x hxk.1, by simpa [Doc.there] using hxk.2, (form_at.1 HF.out).kids x hxk.1⟩) HFK.out hb0 hb1 (by omega) (by omega) hn (fun hne => by
            obtain ⟨e1, e2, e3⟩ := HG1.out hne
            exact ⟨e1, by omega, by omega, fun e => by have := (HP.out.own.lt _ e.symm).2; omega⟩) hcap1 HROW8.out)
          obtain ⟨t0, t1, _⟩ := HSP8.out
          go_wp2_with fail
          refine HCB.out.mono ?_
          rintro e w7 ⟨rfl, hrest⟩
          go_wp2
          go_end0
          exact PLaid.of ⟨rfl, hrest⟩ HM8.out (by omega) (by rw [HLAY.out, HSEP.out, belows_there])
end Go.Proofs.YtnpaplfdmpjfgaaDoor
