/- The packed line law09.awake: whatever the memory, it answers true and writes nothing below. -/
import Derived.Test.YtnophjkiecalpaaLayAll
namespace Go.Proofs.Ytnophjkiecalpaa
open Go.RowKit

def awT : List Tok := [⟨16, .empty, 1, 1⟩, ⟨1, ⟨#[102]⟩, 0, 0⟩, ⟨17, .empty, 2, 1⟩, ⟨1, ⟨#[103]⟩, 0, 0⟩]
theorem awT_all : allS awT = ([⟨18, .empty, 1, 1⟩, ⟨1, ⟨#[102]⟩, 0, 0⟩, ⟨19, .empty, 2, 1⟩, ⟨1, ⟨#[103]⟩, 0, 0⟩, ⟨20, .empty, 0, 0⟩], 0) := by
  simp [allS, awT, pot, allF, nextS, LSt.may, nextF, oneF, endF, tk, topOf, markTok]
def awP : List Tok := [⟨15, ⟨#[125]⟩, 0, 0⟩]
theorem awP_all : allS awP = ([], 90) := by
  simp [allS, awP, allF, nextS, LSt.may, nextF, oneF, tk, topOf]

/-- Tokens in a block of their own. -/
theorem toks_new (w : World) (l : List Tok) : Toks (w.heap.size + 1) (w.alloc (.cells (flat l).toArray 23)) (some ⟨w.heap.size, 0, none⟩) l := by
  intro k t hk
  refine ⟨w.heap.size, 0, rfl, by omega, ?_⟩
  have hc : ∀ j, j < 4 → (w.alloc (.cells (flat l).toArray 23)).cell? ⟨w.heap.size, k * 4 + j, none⟩ = t.cells[j]? := fun j hj => by
    rw [World.cell?_alloc_new]
    simpa using flat_get l k t hk j hj
  simp only [Nat.zero_add]
  exact ⟨hc 0 (by omega), hc 1 (by omega), hc 2 (by omega), hc 3 (by omega)⟩
theorem toks_at {B : Nat} {w : World} {b o : Nat} {l : List Tok} (h : Toks B w (some ⟨b, o, none⟩) l) {k : Nat} {t : Tok} (hk : l[k]? = some t) : b < B ∧ TokAt w b (o + k * 4) t := by
  obtain ⟨b', o', e, h1, h2⟩ := h k t hk
  simp only [Option.some.injEq, Addr.mk.injEq, and_true] at e
  obtain ⟨rfl, rfl⟩ := e
  exact ⟨h1, h2⟩

set_option maxRecDepth 100000 in
set_option maxHeartbeats 2000000 in
theorem awake9_any (w : World) : Calls Try.prog 24 #[] w fun e w' => e = .returned (.bool true) ∧ Below w.heap.size w w' := by
  have HT := Lib.hid (toks_new w awT)
  have he : eqTok 19 ByteArray.empty 2 1 19 ⟨#[]⟩ 2 1 = true := eqTok_self 19 ByteArray.empty 2 1
  go_enter Try.func24, Try.ntmps24
  go_wp2_with fail
  refine (all_lay (some ⟨w.heap.size, 0, none⟩) awT 4 _ (by decide) (HT.out.mono (by simp))).mono ?_
  rintro e w1 ⟨A, c, rfl, hA, _, hb1⟩
  have hB1 := Lib.hid (((Below.refl w.heap.size w).alloc (Nat.le_refl _) (.cells (flat awT).toArray 23)).trans (hb1.mono (by simp)))
  have hs1 := hb1.size
  rw [awT_all] at hA ⊢
  simp only [World.size_alloc] at hs1
  clear hb1
  have HT2 := Lib.hid (toks_new w1 awP)
  go_wp2_with fail
  refine (all_lay (some ⟨w1.heap.size, 0, none⟩) awP 1 _ (by decide) (HT2.out.mono (by simp))).mono ?_
  rintro e w2 ⟨A2, c2, rfl, _, _, hb2⟩
  rw [awP_all]
  have hb12 := (((Below.refl w1.heap.size w1).alloc (Nat.le_refl _) (.cells (flat awP).toArray 23)).trans (hb2.mono (by simp)))
  have hA2 := hA.below hb12
  have hB2 := Lib.hid (hB1.out.trans (hb12.mono (by omega)))
  obtain ⟨b, o, rfl, _, p⟩ := hA2 0 _ rfl
  obtain ⟨q1, q2, q3, q4⟩ := (toks_at hA2 (k := 2) rfl).2
  obtain ⟨r1, _, _, _⟩ := (toks_at hA2 (k := 4) rfl).2
  obtain ⟨p1, _, _, _⟩ := p
  simp only [Nat.zero_mul, Nat.add_zero, Nat.reduceMul] at p1 q1 q2 q3 q4 r1
  clear hb2 hb12 hA hA2
  go_wp2
  go_ret
  exact ⟨rfl, hB2.out⟩
end Go.Proofs.Ytnophjkiecalpaa
