/- The packed line law08.awake: whatever the memory, it answers true and writes nothing below. -/
import Derived.Test.YtnophjkiecalpaaMarkE
namespace Go.Proofs.Ytnophjkiecalpaa
open Go.RowKit

theorem Toks.at_ {B : Nat} {w : World} {b o : Nat} {l : List Tok} (h : Toks B w (some ⟨b, o, none⟩) l) {k : Nat} {t : Tok} (hk : l[k]? = some t) : b < B ∧ TokAt w b (o + k * 4) t := by
  obtain ⟨b', o', e, h1, h2⟩ := h k t hk
  simp only [Option.some.injEq, Addr.mk.injEq, and_true] at e
  obtain ⟨rfl, rfl⟩ := e
  exact ⟨h1, h2⟩

def awL : List Tok := [⟨1, ⟨#[120]⟩, 1, 1⟩, ⟨9, ⟨#[119, 104, 101, 114, 101]⟩, 1, 3⟩]
theorem awL_mark : progAll awL = [⟨16, .empty, 1, 1⟩, ⟨1, ⟨#[120]⟩, 1, 1⟩, ⟨9, ⟨#[119, 104, 101, 114, 101]⟩, 1, 3⟩, ⟨16, .empty, 0, 0⟩] := by
  have h1 : upto awL awL.length = [⟨0, by decide⟩, ⟨1, by decide⟩] := by rfl
  have h2 : markNo awL 0 = 16 := by simp [markNo, begins, brace, isModule, tk, awL]
  have h3 : markNo awL 1 = 0 := by simp [markNo, begins, opens, onLineP, tk, awL]
  have h4 : opens (tk awL 1) = true := by simp [opens, tk, awL, ByteArray.toList_eq]
  unfold progAll
  rw [h1]
  rw [if_pos (.inr h4)]
  simp only [flatM, List.flatMap_cons, List.flatMap_nil, progOne, h2, h3]
  rfl

theorem awL_bare : bare [⟨16, .empty, 1, 1⟩, ⟨1, ⟨#[120]⟩, 1, 1⟩, ⟨9, ⟨#[119, 104, 101, 114, 101]⟩, 1, 3⟩, ⟨16, .empty, 0, 0⟩] = awL := by rfl
theorem awL_opens : opens ⟨9, ⟨#[119, 104, 101, 114, 101]⟩, 1, 3⟩ = true := by simp [opens, ByteArray.toList_eq]

set_option maxRecDepth 100000 in
set_option maxHeartbeats 1000000 in
theorem awake8_any (w : World) :
    Calls Try.prog 15 #[] w fun e w' => e = .returned (.bool true) ∧ Below w.heap.size w w' := by
  have hT : Toks (w.heap.size + 1) (w.alloc (.cells (flat awL).toArray 23)) (some ⟨w.heap.size, 0, none⟩) awL := by
    intro k t hk
    refine ⟨w.heap.size, 0, rfl, by omega, ?_⟩
    have hc : ∀ j, j < 4 → (w.alloc (.cells (flat awL).toArray 23)).cell? ⟨w.heap.size, k * 4 + j, none⟩ = t.cells[j]? := fun j hj => by
      rw [World.cell?_alloc_new]
      simpa using flat_get awL k t hk j hj
    simp only [Nat.zero_add]
    exact ⟨hc 0 (by omega), hc 1 (by omega), hc 2 (by omega), hc 3 (by omega)⟩
  have HT := Lib.hid hT
  clear hT
  have he1 : eqTok 16 ByteArray.empty 1 1 16 ⟨#[]⟩ 1 1 = true := eqTok_self 16 ByteArray.empty 1 1
  have he2 : eqTok 16 ByteArray.empty 0 0 16 ⟨#[]⟩ 0 0 = true := eqTok_self 16 ByteArray.empty 0 0
  go_enter Try.func15, Try.ntmps15
  go_wp2_with fail
  refine (mark_any (some ⟨w.heap.size, 0, none⟩) awL 2 _ (by decide) (by decide) (HT.out.mono (by simp))).mono ?_
  rintro e w1 ⟨v, rfl, hv, hb1⟩
  rw [awL_mark] at hv
  obtain ⟨A, c, rfl, hv⟩ := hv
  obtain ⟨b, o, rfl, hb, h0⟩ := hv 0 _ rfl
  have hbare := hv
  have HBR := Lib.hid hbare
  clear hbare
  obtain ⟨p1, p2, p3, p4⟩ := h0
  obtain ⟨q1, q2, q3, q4⟩ := (hv.at_ (k := 3) rfl).2
  simp only [Nat.zero_mul, Nat.add_zero, Nat.reduceMul] at p1 p2 p3 p4 q1 q2 q3 q4
  go_wp2_with fail
  refine (mBare_any (some ⟨b, o, none⟩) [⟨16, .empty, 1, 1⟩, ⟨1, ⟨#[120]⟩, 1, 1⟩, ⟨9, ⟨#[119, 104, 101, 114, 101]⟩, 1, 3⟩, ⟨16, .empty, 0, 0⟩] c _ (by decide) HBR.out).mono ?_
  rintro e w2 ⟨v, rfl, hv2, hb2⟩
  rw [awL_bare] at hv2
  obtain ⟨A2, c2, rfl, hv2⟩ := hv2
  rw [show awL.length = 2 from rfl]
  obtain ⟨r1, r2, r3, r4⟩ := ((HBR.out.below hb2).at_ (k := 2) rfl).2
  simp only [Nat.reduceMul] at r1 r2 r3 r4
  go_wp2_with fail
  refine (mOpens_any ⟨9, ⟨#[119, 104, 101, 114, 101]⟩, 1, 3⟩ _).mono ?_
  rintro e w3 ⟨rfl, hb3⟩
  rw [awL_opens]
  go_wp2
  go_ret
  exact ⟨rfl, ((((Below.refl _ _).alloc (Nat.le_refl _) _).trans (hb1.mono (by simp))).trans (hb2.mono (Nat.le_trans (by simp) hb1.size))).trans (hb3.mono (Nat.le_trans (Nat.le_trans (by simp) hb1.size) hb2.size))⟩
end Go.Proofs.Ytnophjkiecalpaa
