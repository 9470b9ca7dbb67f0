/- Which texts may be: UTF-8, and no byte below 32. -/
import Derived.Test.YtnpaplfdmpjfgaaDoorDUtf
import Derived.Test.YtnpaplfdmpjfgaaDoorShelf
import Derived.Lib.RuneCountTail
namespace Go.Proofs.YtnpaplfdmpjfgaaDoor
open Go.RowKit

def goodFrom (s : ByteArray) : Nat → Nat → Bool
  | 0, _ => true
  | f + 1, pos => if pos < s.size then (if Utf8.decode s pos = (65533, 1) then false else goodFrom s f (pos + (Utf8.decode s pos).2)) else true
/-- Is a text UTF-8? -/
def good (s : ByteArray) : Bool := goodFrom s s.size 0
theorem goodFrom_end (s : ByteArray) (f pos : Nat) (h : ¬ pos < s.size) : goodFrom s f pos = true := by cases f <;> simp [goodFrom, h]
theorem goodFrom_step (s : ByteArray) (f pos R K : Nat) (h : pos < s.size) (hR : (Utf8.decode s pos).1 = R) (hK : (Utf8.decode s pos).2 = K) : goodFrom s (f + 1) pos = if R = 65533 ∧ K = 1 then false else goodFrom s f (pos + K) := by
  subst hR
  subst hK
  have : (Utf8.decode s pos = (65533, 1)) = ((Utf8.decode s pos).1 = 65533 ∧ (Utf8.decode s pos).2 = 1) := by
    apply propext
    constructor
    · intro h; rw [h]; exact ⟨rfl, rfl⟩
    · intro h; exact Prod.ext h.1 h.2
  simp only [goodFrom, h, if_true, this]

set_option maxRecDepth 100000 in
set_option maxHeartbeats 2000000 in
theorem dec_facts (s : ByteArray) (i : Nat) : 1 ≤ (Utf8.decode s i).2 ∧ (Utf8.decode s i).2 ≤ 4 ∧ (i < s.size → i + (Utf8.decode s i).2 ≤ s.size) ∧ ((Utf8.decode s i).1 < 32 ↔ byteN s i < 32) ∧ (∀ j, 1 ≤ j → j < (Utf8.decode s i).2 → 128 ≤ byteN s (i + j)) := by
  rw [dec_at]
  have hj : ∀ K : Nat, K ≤ 4 → ((1 < K → 128 ≤ byteN s (i + 1)) ∧ (2 < K → 128 ≤ byteN s (i + 2)) ∧ (3 < K → 128 ≤ byteN s (i + 3))) → ∀ j, 1 ≤ j → j < K → 128 ≤ byteN s (i + j) := by
    rintro K hK ⟨h1, h2, h3⟩ j hj hjk
    rcases (by omega : j = 1 ∨ j = 2 ∨ j = 3) with rfl | rfl | rfl
    · exact h1 hjk
    · exact h2 hjk
    · exact h3 hjk
  suffices h : 1 ≤ (Lib.decodeN (s.size - i) (byteN s i) (byteN s (i + 1)) (byteN s (i + 2)) (byteN s (i + 3))).2 ∧ (Lib.decodeN (s.size - i) (byteN s i) (byteN s (i + 1)) (byteN s (i + 2)) (byteN s (i + 3))).2 ≤ 4 ∧ (i < s.size → i + (Lib.decodeN (s.size - i) (byteN s i) (byteN s (i + 1)) (byteN s (i + 2)) (byteN s (i + 3))).2 ≤ s.size) ∧ ((Lib.decodeN (s.size - i) (byteN s i) (byteN s (i + 1)) (byteN s (i + 2)) (byteN s (i + 3))).1 < 32 ↔ byteN s i < 32) ∧ ((1 < (Lib.decodeN (s.size - i) (byteN s i) (byteN s (i + 1)) (byteN s (i + 2)) (byteN s (i + 3))).2 → 128 ≤ byteN s (i + 1)) ∧ (2 < (Lib.decodeN (s.size - i) (byteN s i) (byteN s (i + 1)) (byteN s (i + 2)) (byteN s (i + 3))).2 → 128 ≤ byteN s (i + 2)) ∧ (3 < (Lib.decodeN (s.size - i) (byteN s i) (byteN s (i + 1)) (byteN s (i + 2)) (byteN s (i + 3))).2 → 128 ≤ byteN s (i + 3))) by
    exact ⟨h.1, h.2.1, h.2.2.1, h.2.2.2.1, hj _ h.2.1 h.2.2.2.2⟩
  clear hj
  generalize byteN s i = b0 at *
  generalize byteN s (i + 1) = b1 at *
  generalize byteN s (i + 2) = b2 at *
  generalize byteN s (i + 3) = b3 at *
  unfold Lib.decodeN
  repeat' split
  all_goals (refine ⟨?_, ?_, ?_, ?_, ?_, ?_, ?_⟩ <;> simp only <;> omega)

/-- No rune below 32: no byte below 32. -/
theorem low_from (s : ByteArray) : ∀ (f pos : Nat), s.size ≤ pos + f → (Lib.idxFuncFrom (fun c => decide (c < 32)) true s f pos < 0 ↔ ∀ j, pos ≤ j → j < s.size → 32 ≤ byteN s j)
  | 0, pos, h => by
    simp only [Lib.idxFuncFrom]
    exact ⟨fun _ j h1 h2 => by omega, fun _ => by decide⟩
  | f + 1, pos, h => by
    obtain ⟨h1, h2, h3, h4, h5⟩ := dec_facts s pos
    simp only [Lib.idxFuncFrom]
    by_cases hp : pos < s.size
    · rw [if_pos hp]
      by_cases hr : (Utf8.decode s pos).1 < 32
      · rw [if_pos (by simpa using hr)]
        constructor
        · intro hn; omega
        · intro hall; have := hall pos (Nat.le_refl _) hp; have := h4.1 hr; omega
      · rw [if_neg (by simpa using hr), low_from s f _ (by omega)]
        constructor
        · intro hall j hj hjs
          by_cases hjk : pos + (Utf8.decode s pos).2 ≤ j
          · exact hall j hjk hjs
          · by_cases hj0 : j = pos
            · subst hj0
              have : ¬ byteN s j < 32 := fun hb => hr (h4.2 hb)
              omega
            · have := h5 (j - pos) (by omega) (by omega)
              rw [show pos + (j - pos) = j by omega] at this
              omega
        · intro hall j hj hjs
          exact hall j (by omega) hjs
    · rw [if_neg hp]
      exact ⟨fun _ j h1 h2 => by omega, fun _ => by decide⟩
/-- Has a text a byte below 32? -/
def lowless (s : ByteArray) : Bool := decide (∀ j, j < s.size → 32 ≤ byteN s j)
theorem low_eq (s : ByteArray) : decide (Lib.idxFunc (fun c => decide (c < 32)) true s < 0) = lowless s := by
  unfold lowless Lib.idxFunc
  rw [decide_eq_decide, low_from s s.size 0 (by omega)]
  exact ⟨fun h j hj => h j (by omega) hj, fun h j _ hj => h j hj⟩

def CheckSaid (s : ByteArray) (w : World) (e : Ending) (w' : World) : Prop := ∃ p : Int, e = .returned (.tuple #[.int .i64 p, .int .i64 (if good s then 0 else 10)]) ∧ Below w.heap.size w w'
set_option maxRecDepth 100000 in
set_option maxHeartbeats 2000000 in
theorem rcheck_any (s : ByteArray) (hs : s.size ≤ 16777216) (w : World) : Calls Tryd.prog 62 #[.string s] w (CheckSaid s w) := by
  go_enter Tryd.func62, Tryd.ntmps62
  go_wp2_with fail
  go_loopg [4] s.size (fun g v wr => ∃ pos : Nat, v = .int .i64 pos ∧ pos ≤ s.size ∧ Below w.heap.size w wr ∧ goodFrom s g pos = good s ∧ s.size ≤ pos + g)
  case atStart => exact ⟨0, rfl, by omega, Below.refl _ _, rfl, by omega⟩
  case round =>
    obtain ⟨pos, rfl, hps, hbw, hgood, hfu⟩ := hrel
    have HB := Lib.hid hbw
    clear hbw
    by_cases hlt : pos < s.size
    · obtain ⟨g', rfl⟩ : ∃ g', gk = g' + 1 := ⟨gk - 1, by omega⟩
      have hcall := next_any s pos hlt hs wr
      unfold NextSaid at hcall
      obtain ⟨f1, f2, f3, _, _⟩ := dec_facts s pos
      obtain ⟨R, hR⟩ : ∃ R, (Utf8.decode s pos).1 = R := ⟨_, rfl⟩
      obtain ⟨K, hK⟩ : ∃ K, (Utf8.decode s pos).2 = K := ⟨_, rfl⟩
      have hst := goodFrom_step s g' pos R K hlt hR hK
      have f3 := f3 hlt
      rw [hR, hK] at hcall
      rw [hK] at f1 f2 f3
      obtain ⟨r, hr⟩ : ∃ r : Int, (R : Int) = r := ⟨_, rfl⟩
      rw [hr] at hcall
      have HC := Lib.hid hcall
      rw [hst] at hgood
      have HR := Lib.hid hr
      clear hcall hst hR hK hr
      cases k1 : (r == 65533) with
      | true =>
        have hr1 : r = 65533 := by simpa using k1
        by_cases k2 : K = 1
        · subst k2
          rw [if_pos ⟨by have := HR.out; omega, rfl⟩] at hgood
          have HG := Lib.hid hgood
          clear hgood hr1
          go_wp2_with fail
          refine HC.out.mono ?_
          rintro e w2 ⟨rfl, hb2⟩
          go_wp2
          go_ret2
          exact ⟨pos, by rw [← HG.out]; rfl, HB.out.trans (hb2.mono HB.out.size)⟩
        · rw [if_neg (by omega)] at hgood
          have HG := Lib.hid hgood
          have k3 : ¬ (K : Int) = 1 := by omega
          clear hgood hr1
          go_wp2_with fail
          refine HC.out.mono ?_
          rintro e w2 ⟨rfl, hb2⟩
          go_wp2
          go_roundg g'
          case measure => omega
          case rel => exact ⟨pos + K, by go_num, by omega, HB.out.trans (hb2.mono HB.out.size), HG.out, by omega⟩
      | false =>
        have hr1 : r ≠ 65533 := by simpa using k1
        rw [if_neg (by have := HR.out; omega)] at hgood
        have HG := Lib.hid hgood
        clear hgood hr1
        go_wp2_with fail
        refine HC.out.mono ?_
        rintro e w2 ⟨rfl, hb2⟩
        go_wp2
        go_roundg g'
        case measure => omega
        case rel => exact ⟨pos + K, by go_num, by omega, HB.out.trans (hb2.mono HB.out.size), HG.out, by omega⟩
    · rw [goodFrom_end s gk pos hlt] at hgood
      have HG := Lib.hid hgood
      clear hgood
      go_wp2
      go_ret2
      exact ⟨s.size, by rw [← HG.out]; rfl, HB.out⟩

set_option maxRecDepth 100000 in
set_option maxHeartbeats 2000000 in
theorem gcheck_any (s : ByteArray) (hs : s.size ≤ 16777216) (w : World) (hT : Lib.Utf8Tabs 1 2 w) : Calls Tryd.prog 82 #[.string s] w (CheckSaid s w) := by
  have HT := Lib.hid hT
  clear hT
  go_enter Tryd.func82, Tryd.ntmps82
  go_wp2
  go_loopg [] s.size (fun g wx => ∃ pos : Nat, wx.heap[w.heap.size]? = some (.stringIter s pos) ∧ pos ≤ s.size ∧ Below w.heap.size w wx ∧ goodFrom s g pos = good s ∧ s.size ≤ pos + g)
  case atStart => exact ⟨0, World.iter_heap w s 0, by omega, (Below.refl _ w).alloc (Nat.le_refl _) _, rfl, by omega⟩
  case round =>
    obtain ⟨pos, hit, hps, hbw, hgood, hfu⟩ := hrel
    by_cases hlt : pos < s.size
    · obtain ⟨g', rfl⟩ : ∃ g', gk = g' + 1 := ⟨gk - 1, by omega⟩
      have hnx : ∀ ty, (Instr.next (.pointer (some ⟨w.heap.size, 0, none⟩)) true ty).run Tryd.prog wr = _ := fun ty => Lib.run_next_any_at wr w.heap.size s pos ty hit hlt
      obtain ⟨f1, f2, f3, _, _⟩ := dec_facts s pos
      have f3 := f3 hlt
      obtain ⟨R, hR⟩ : ∃ R, (Utf8.decode s pos).1 = R := ⟨_, rfl⟩
      obtain ⟨K, hK⟩ : ∃ K, (Utf8.decode s pos).2 = K := ⟨_, rfl⟩
      have hst := goodFrom_step s g' pos R K hlt hR hK
      rw [hK] at f1 f2 f3
      rw [hR, hK] at hnx
      have hit2 := Lib.iterAt_heap wr w.heap.size s pos (pos + K) hit
      have hbw2 := Lib.below_iterAt hbw (k := w.heap.size) (Nat.le_refl _) s (pos + K)
      obtain ⟨W, hWd⟩ : ∃ W, wr.iterAt w.heap.size s (pos + K) = W := ⟨_, rfl⟩
      rw [hWd] at hnx hit2 hbw2
      have hltW : w.heap.size < W.heap.size := (Array.getElem?_eq_some_iff.1 hit2).1
      have hcall := Tryd.utf8_DecodeRuneInString (s.extract pos s.size) W (Utf8Tabs_below HT.out hbw2)
      have hdec : Lib.decodeGo (s.extract pos s.size) = (R, K) := by
        unfold Lib.decodeGo
        rw [Lib.tail_size, if_neg (by omega), Lib.tail_decode]
        exact Prod.ext hR hK
      rw [hdec] at hcall
      obtain ⟨r, hr⟩ : ∃ r : Int, (R : Int) = r := ⟨_, rfl⟩
      rw [hr] at hcall hnx
      have HC := Lib.hid hcall
      rw [hst] at hgood
      have HR := Lib.hid hr
      have HB2 := Lib.hid hbw2
      have HIT := Lib.hid hit2
      clear hcall hst hR hK hr hdec hWd hbw hbw2 hit hit2
      cases k1 : (r != 65533) with
      | true =>
        have hr1 : r ≠ 65533 := by simpa using k1
        rw [if_neg (by have := HR.out; omega)] at hgood
        have HG := Lib.hid hgood
        clear hgood hr1
        go_wp2
        go_roundg g'
        case measure => omega
        case rel => exact ⟨pos + K, HIT.out, by omega, HB2.out, HG.out, by omega⟩
      | false =>
        have hr1 : r = 65533 := by simpa using k1
        by_cases k2 : K = 1
        · subst k2
          rw [if_pos ⟨by have := HR.out; omega, rfl⟩] at hgood
          have HG := Lib.hid hgood
          clear hgood hr1
          go_wp2_with (go_at_call 97; refine HC.out.mono ?_; rintro e w2 ⟨rfl, hb2⟩)
          go_ret2
          exact ⟨pos, by rw [← HG.out]; rfl, HB2.out.trans (hb2.mono HB2.out.size)⟩
        · rw [if_neg (by omega)] at hgood
          have HG := Lib.hid hgood
          have k3 : ¬ (K : Int) = 1 := by omega
          clear hgood hr1
          go_wp2_with (go_at_call 97; refine HC.out.mono ?_; rintro e w2 ⟨rfl, hb2⟩)
          go_roundg g'
          case measure => omega
          case rel => exact ⟨pos + K, (hb2.block _ hltW).trans HIT.out, by omega, HB2.out.trans (hb2.mono HB2.out.size), HG.out, by omega⟩
    · have hnx : ∀ ty, (Instr.next (.pointer (some ⟨w.heap.size, 0, none⟩)) true ty).run Tryd.prog wr = _ := fun ty => Lib.run_next_end_at wr w.heap.size s pos ty hit hlt
      rw [goodFrom_end s gk pos hlt] at hgood
      have HG := Lib.hid hgood
      clear hgood
      go_wp2
      go_ret2
      exact ⟨s.size, by rw [← HG.out]; rfl, hbw⟩

theorem low_any (w : World) : PredGrows Tryd.prog 84 #[] (fun c => decide (c < 32)) w := by
  intro W x hx _
  simp only [encR]
  by_cases h : x < 32
  · have h1 : (x : Int) < 32 := by omega
    go_enter Tryd.func84, Tryd.ntmps84
    go_wp2
    go_ret
    exact ⟨ret_bool (by simp [h]), Below.refl _ _⟩
  · have h1 : ¬ (x : Int) < 32 := by omega
    go_enter Tryd.func84, Tryd.ntmps84
    go_wp2
    go_ret
    exact ⟨rfl, Below.refl _ _⟩

/-- May a text be a Str's? -/
def plainF (s : ByteArray) : Bool := good s && lowless s
set_option maxHeartbeats 2000000 in
theorem plain_any (s : ByteArray) (hs : s.size ≤ 16777216) (w : World) (hT : Lib.Utf8Tabs 1 2 w) : Calls Tryd.prog 61 #[.string s] w fun e w' => e = .returned (.bool (plainF s)) ∧ Below w.heap.size w w' := by
  have hc1 := gcheck_any s hs w hT
  have hpr := Lib.hid fun W : World => Tryd.strings_IndexFunc_grows 84 #[] (enters_of Tryd.func84 (by kernel_rfl) rfl) (fun c => decide (c < 32)) s W (low_any W)
  have HL := Lib.hid (low_eq s)
  have HC := Lib.hid hc1
  clear hc1 hT
  cases hg : good s with
  | false =>
    have HG := Lib.hid hg
    have hc := HC.out
    clear hg HC
    go_enter Tryd.func61, Tryd.ntmps61
    go_wp2_with fail
    refine hc.mono ?_
    rintro e w2 ⟨p, he, hb2⟩
    rw [HG.out] at he
    subst he
    go_wp2
    go_ret
    exact ⟨ret_bool (by rw [plainF, HG.out]; rfl), hb2⟩
  | true =>
    have HG := Lib.hid hg
    have hc := HC.out
    clear hg HC
    go_enter Tryd.func61, Tryd.ntmps61
    go_wp2_with fail
    refine hc.mono ?_
    rintro e w2 ⟨p, he, hb2⟩
    rw [HG.out] at he
    subst he
    clear hc
    go_wp2_with fail
    refine (hpr.out w2).mono ?_
    rintro e w3 ⟨rfl, hb3⟩
    go_wp2
    go_ret
    exact ⟨ret_bool (by rw [plainF, HG.out, Bool.true_and, ← HL.out]), hb2.trans (hb3.mono hb2.size)⟩
end Go.Proofs.YtnpaplfdmpjfgaaDoor
