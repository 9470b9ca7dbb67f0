/- How many runes a text has: of texts one behind the other: plain. -/
import Derived.Test.YtnpaplfdmpjfgaaDoorDPen
import Derived.Lib.RuneCountTail
namespace Go.Proofs.YtnpaplfdmpjfgaaDoor
open Go.RowKit

theorem decodeN_app (n n' b0 b1 b2 b3 c1 c2 c3 : Nat) (h : Lib.decodeN n b0 b1 b2 b3 ≠ (65533, 1)) (hn : n ≤ n') (h1 : 1 < n → c1 = b1) (h2 : 2 < n → c2 = b2) (h3 : 3 < n → c3 = b3) : Lib.decodeN n' b0 c1 c2 c3 = Lib.decodeN n b0 b1 b2 b3 := by
  unfold Lib.decodeN at h ⊢
  by_cases a0 : b0 < 128
  · simp only [if_pos a0]
  · simp only [if_neg a0] at h ⊢
    by_cases a1 : b0 / 32 = 6 ∧ (1 < n ∧ b1 / 64 = 2)
    · obtain ⟨e1, e2, e3⟩ := a1
      have := h1 e2
      subst this
      have hA : b0 / 32 = 6 ∧ (1 < n ∧ c1 / 64 = 2) := ⟨e1, e2, e3⟩
      have hB : b0 / 32 = 6 ∧ (1 < n' ∧ c1 / 64 = 2) := ⟨e1, by omega, e3⟩
      rw [if_pos hA, if_pos hB]
    · rw [if_neg a1] at h ⊢
      by_cases a2 : b0 / 16 = 14 ∧ (1 < n ∧ b1 / 64 = 2) ∧ (2 < n ∧ b2 / 64 = 2)
      · obtain ⟨e1, ⟨e2, e3⟩, e4, e5⟩ := a2
        have := h1 e2
        subst this
        have := h2 e4
        subst this
        have hN : ¬ (b0 / 32 = 6 ∧ (1 < n' ∧ c1 / 64 = 2)) := fun hh => by omega
        have hA : b0 / 16 = 14 ∧ (1 < n ∧ c1 / 64 = 2) ∧ (2 < n ∧ c2 / 64 = 2) := ⟨e1, ⟨e2, e3⟩, e4, e5⟩
        have hB : b0 / 16 = 14 ∧ (1 < n' ∧ c1 / 64 = 2) ∧ (2 < n' ∧ c2 / 64 = 2) := ⟨e1, ⟨by omega, e3⟩, by omega, e5⟩
        rw [if_neg hN, if_pos hA, if_pos hB]
      · rw [if_neg a2] at h ⊢
        by_cases a3 : b0 / 8 = 30 ∧ (1 < n ∧ b1 / 64 = 2) ∧ (2 < n ∧ b2 / 64 = 2) ∧ (3 < n ∧ b3 / 64 = 2)
        · obtain ⟨e1, ⟨e2, e3⟩, ⟨e4, e5⟩, e6, e7⟩ := a3
          have := h1 e2
          subst this
          have := h2 e4
          subst this
          have := h3 e6
          subst this
          have hN : ¬ (b0 / 32 = 6 ∧ (1 < n' ∧ c1 / 64 = 2)) := fun hh => by omega
          have hN2 : ¬ (b0 / 16 = 14 ∧ (1 < n' ∧ c1 / 64 = 2) ∧ (2 < n' ∧ c2 / 64 = 2)) := fun hh => by omega
          have hA : b0 / 8 = 30 ∧ (1 < n ∧ c1 / 64 = 2) ∧ (2 < n ∧ c2 / 64 = 2) ∧ (3 < n ∧ c3 / 64 = 2) := ⟨e1, ⟨e2, e3⟩, ⟨e4, e5⟩, e6, e7⟩
          have hB : b0 / 8 = 30 ∧ (1 < n' ∧ c1 / 64 = 2) ∧ (2 < n' ∧ c2 / 64 = 2) ∧ (3 < n' ∧ c3 / 64 = 2) := ⟨e1, ⟨by omega, e3⟩, ⟨by omega, e5⟩, by omega, e7⟩
          rw [if_neg hN, if_neg hN2, if_pos hA, if_pos hB]
        · rw [if_neg a3] at h
          exact absurd rfl h
theorem byteN_left (s t : ByteArray) (k : Nat) (h : k < s.size) : byteN (s ++ t) k = byteN s k := by
  have h' : k < (s ++ t).size := by rw [size_app]; omega
  rw [← get_byte s k h, ← get_byte (s ++ t) k h']
  congr 1
  simp only [ByteArray.getElem_eq_getElem_data, ByteArray.data_append]
  rw [Array.getElem_append_left]
theorem byteN_out (s : ByteArray) (k : Nat) (h : ¬ k < s.size) : byteN s k = 0 := by
  unfold byteN
  have : s.get! k = default := by
    show s.data[k]! = default
    exact getElem!_neg s.data k h
  rw [this]
  rfl
theorem byteN_right (s t : ByteArray) (k : Nat) : byteN (s ++ t) (s.size + k) = byteN t k := by
  by_cases h : k < t.size
  · have h' : s.size + k < (s ++ t).size := by rw [size_app]; omega
    rw [← get_byte t k h, ← get_byte (s ++ t) _ h']
    congr 1
    simp only [ByteArray.getElem_eq_getElem_data, ByteArray.data_append]
    rw [Array.getElem_append_right (show s.data.size ≤ s.size + k from Nat.le_add_right _ _)]
    congr 1
    show s.data.size + k - s.data.size = k
    omega
  · rw [byteN_out t k h, byteN_out _ _ (by rw [size_app]; omega)]
theorem decode_left {s t : ByteArray} {i : Nat} (hi : i < s.size) (h : Utf8.decode s i ≠ (65533, 1)) : Utf8.decode (s ++ t) i = Utf8.decode s i := by
  rw [dec_at] at h ⊢
  rw [dec_at s i, byteN_left s t i hi]
  refine decodeN_app _ _ _ _ _ _ _ _ _ h (by rw [size_app]; omega) (fun h => byteN_left _ _ _ (by omega)) (fun h => byteN_left _ _ _ (by omega)) (fun h => byteN_left _ _ _ (by omega))
theorem decode_right (s t : ByteArray) (k : Nat) : Utf8.decode (s ++ t) (s.size + k) = Utf8.decode t k := by
  rw [dec_at, dec_at t k, Nat.add_assoc, Nat.add_assoc, Nat.add_assoc, byteN_right, byteN_right, byteN_right, byteN_right, size_app]
  rw [show s.size + t.size - (s.size + k) = t.size - k by omega]
theorem runes_fuel (s : ByteArray) : ∀ (f g pos : Nat), s.size ≤ pos + f → s.size ≤ pos + g → Lib.runeCountFrom s f pos = Lib.runeCountFrom s g pos := by
  intro f
  induction f with
  | zero =>
    intro g pos hf _
    rw [Lib.runeCountFrom_end s 0 pos (by omega), Lib.runeCountFrom_end s g pos (by omega)]
  | succ f ih =>
    intro g pos hf hg
    by_cases h : pos < s.size
    · cases g with
      | zero => omega
      | succ g =>
        have hK := (dec_facts s pos).1
        simp only [Lib.runeCountFrom, if_pos h]
        rw [ih g _ (by omega) (by omega)]
    · rw [Lib.runeCountFrom_end s _ pos h, Lib.runeCountFrom_end s _ pos h]
theorem runes_right (s t : ByteArray) : ∀ (f k : Nat), Lib.runeCountFrom (s ++ t) f (s.size + k) = Lib.runeCountFrom t f k := by
  intro f
  induction f with
  | zero => intro k; rfl
  | succ f ih =>
    intro k
    simp only [Lib.runeCountFrom, decode_right, size_app]
    by_cases h : k < t.size
    · rw [if_pos (by omega), if_pos h, Nat.add_assoc, ih]
    · rw [if_neg (by omega), if_neg h]
theorem runes_left (s t : ByteArray) : ∀ (f pos : Nat), pos ≤ s.size → s.size ≤ pos + f → goodFrom s f pos = true →
    Lib.runeCountFrom (s ++ t) (f + t.size) pos = Lib.runeCountFrom s f pos + Lib.runeCountFrom t t.size 0 := by
  intro f
  induction f with
  | zero =>
    intro pos h1 h2 _
    have : pos = s.size + 0 := by omega
    subst this
    rw [runes_right, Lib.runeCountFrom_end s _ _ (by omega), Nat.zero_add, Nat.zero_add]
  | succ f ih =>
    intro pos h1 h2 hg
    by_cases h : pos < s.size
    · rw [goodFrom_step s f pos _ _ h rfl rfl] at hg
      by_cases hb : (Utf8.decode s pos).1 = 65533 ∧ (Utf8.decode s pos).2 = 1
      · rw [if_pos hb] at hg; cases hg
      · rw [if_neg hb] at hg
        have hd := decode_left (t := t) h (fun e => hb (by rw [e]; exact ⟨rfl, rfl⟩))
        have hf := dec_facts s pos
        rw [show f + 1 + t.size = (f + t.size) + 1 by omega]
        simp only [Lib.runeCountFrom, hd, size_app]
        rw [if_pos (by omega), if_pos h, ih _ (hf.2.2.1 h) (by omega) hg]
        omega
    · have : pos = s.size + 0 := by omega
      subst this
      rw [runes_right, Lib.runeCountFrom_end s _ _ (by omega), Nat.zero_add]
      exact runes_fuel t _ _ _ (by omega) (by omega)
/-- Behind a text that may be, another one's runes are counted on. -/
theorem cols_app {s t : ByteArray} (h : good s = true) : cols (s ++ t) = cols s + cols t := by
  unfold cols Lib.runeCount
  have := runes_left s t s.size 0 (by omega) (by omega) h
  rw [size_app, this]
  omega
theorem good_fuel (s : ByteArray) : ∀ (f g pos : Nat), s.size ≤ pos + f → s.size ≤ pos + g → goodFrom s f pos = goodFrom s g pos := by
  intro f
  induction f with
  | zero =>
    intro g pos hf _
    rw [goodFrom_end s 0 pos (by omega), goodFrom_end s g pos (by omega)]
  | succ f ih =>
    intro g pos hf hg
    by_cases h : pos < s.size
    · cases g with
      | zero => omega
      | succ g =>
        have hK := (dec_facts s pos).1
        rw [goodFrom_step s f pos _ _ h rfl rfl, goodFrom_step s g pos _ _ h rfl rfl, ih g _ (by omega) (by omega)]
    · rw [goodFrom_end s _ pos h, goodFrom_end s _ pos h]
theorem good_right (s t : ByteArray) : ∀ (f k : Nat), goodFrom (s ++ t) f (s.size + k) = goodFrom t f k := by
  intro f
  induction f with
  | zero => intro k; rfl
  | succ f ih =>
    intro k
    by_cases h : k < t.size
    · rw [goodFrom_step (s ++ t) f _ _ _ (by rw [size_app]; omega) rfl rfl, goodFrom_step t f k _ _ h rfl rfl, decode_right, Nat.add_assoc, ih]
    · rw [goodFrom_end _ _ _ (by rw [size_app]; omega), goodFrom_end _ _ _ h]
theorem good_left (s t : ByteArray) : ∀ (f pos : Nat), pos ≤ s.size → s.size ≤ pos + f → goodFrom s f pos = true → goodFrom t t.size 0 = true → goodFrom (s ++ t) (f + t.size) pos = true := by
  intro f
  induction f with
  | zero =>
    intro pos h1 h2 _ ht
    have : pos = s.size + 0 := by omega
    subst this
    rw [good_right, Nat.zero_add]
    exact ht
  | succ f ih =>
    intro pos h1 h2 hg ht
    by_cases h : pos < s.size
    · rw [goodFrom_step s f pos _ _ h rfl rfl] at hg
      by_cases hb : (Utf8.decode s pos).1 = 65533 ∧ (Utf8.decode s pos).2 = 1
      · rw [if_pos hb] at hg; cases hg
      · rw [if_neg hb] at hg
        have hd := decode_left (t := t) h (fun e => hb (by rw [e]; exact ⟨rfl, rfl⟩))
        have hf := dec_facts s pos
        rw [show f + 1 + t.size = (f + t.size) + 1 by omega, goodFrom_step (s ++ t) _ pos _ _ (by rw [size_app]; omega) rfl rfl, hd, if_neg hb]
        exact ih _ (hf.2.2.1 h) (by omega) hg ht
    · have : pos = s.size + 0 := by omega
      subst this
      rw [good_right, good_fuel t _ t.size 0 (by omega) (by omega)]
      exact ht
theorem good_app {s t : ByteArray} (h : good s = true) (h' : good t = true) : good (s ++ t) = true := by
  unfold good
  rw [size_app]
  exact good_left s t s.size 0 (by omega) (by omega) h h'
theorem lowless_app {s t : ByteArray} (h : lowless s = true) (h' : lowless t = true) : lowless (s ++ t) = true := by
  unfold lowless at h h' ⊢
  rw [decide_eq_true_eq] at h h' ⊢
  intro j hj
  rw [size_app] at hj
  by_cases hl : j < s.size
  · rw [byteN_left _ _ _ hl]; exact h j hl
  · rw [show j = s.size + (j - s.size) by omega, byteN_right]
    exact h' _ (by omega)
theorem plainF_app {s t : ByteArray} (h : plainF s = true) (h' : plainF t = true) : plainF (s ++ t) = true := by
  unfold plainF at h h' ⊢
  rw [Bool.and_eq_true] at h h' ⊢
  exact ⟨good_app h.1 h'.1, lowless_app h.2 h'.2⟩
theorem good_blank : good blankB = true := by
  unfold good
  have hs : blankB.size = 1 := rfl
  have hb : byteN blankB 0 = 32 := rfl
  rw [hs, goodFrom_step blankB 0 0 32 1 (by rw [hs]; decide) (by rw [dec_lo _ _ (by rw [hb]; decide), hb]) (by rw [dec_lo _ _ (by rw [hb]; decide)]), if_neg (by omega)]
  rfl
theorem good_no : good noB = true := rfl
theorem cols_no : cols noB = 0 := rfl
theorem size_no {s : ByteArray} (h : s.size = 0) : s = noB := by
  have : s.data.toList = [] := List.eq_nil_of_length_eq_zero (by rw [data_len]; exact h)
  exact bytes_eq (by rw [this]; rfl)
end Go.Proofs.YtnpaplfdmpjfgaaDoor
