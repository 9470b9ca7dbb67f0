/- The lines of a text: both texts of 'Lines' make as many of them. -/
import Derived.Test.YtnophjkiecalpaaBase
namespace Go.Proofs.Ytnophjkiecalpaa
open Go.RowKit

def byteAt (s : ByteArray) (i : Nat) : Nat := if h : i < s.size then s[i].toNat else 256
theorem byteAt_in {s : ByteArray} {i : Nat} (h : i < s.size) : byteAt s i = s[i].toNat := by simp [byteAt, h]
theorem byteAt_out {s : ByteArray} {i : Nat} (h : s.size ≤ i) : byteAt s i = 256 := by simp [byteAt]; omega
/-- How many bytes the newline at byte i has. -/
def nl (s : ByteArray) (i : Nat) : Int :=
  if byteAt s i = 13 then (if byteAt s (i + 1) = 10 then 2 else 1) else if byteAt s i = 10 ∨ byteAt s i = 12 then 1 else 0
theorem nl_bd (s : ByteArray) (i : Nat) : 0 ≤ nl s i ∧ nl s i ≤ 2 := by unfold nl; split <;> split <;> omega
theorem nl_in (s : ByteArray) (i : Nat) (h : i < s.size) : (i : Int) + nl s i ≤ s.size := by
  unfold nl
  split
  · split
    · rename_i h2
      have : i + 1 < s.size := by
        rcases Nat.lt_or_ge (i + 1) s.size with h3 | h3
        · exact h3
        · rw [byteAt_out h3] at h2; omega
      omega
    · omega
  · split <;> omega

set_option maxHeartbeats 400000 in
theorem end_any (s : ByteArray) (i : Nat) (w : World) (hs : s.size ≤ 140737488351232) (hi : i < s.size) :
    Calls Try.prog 57 #[.string s, .int .i64 i] w fun e w' => e = .returned (.int .i64 (nl s i)) ∧ w = w' := by
  go_enter Try.func57, Try.ntmps57
  go_wp2
  all_goals go_ret
  all_goals refine ⟨ret_int ?_, rfl⟩
  all_goals ((try simp only [beq_iff_eq, beq_eq_false_iff_ne, ne_eq] at *); unfold nl; rw [byteAt_in hi])
  all_goals (by_cases h2 : i + 1 < s.size)
  all_goals first | rw [byteAt_in h2] | rw [byteAt_out (by omega)]
  all_goals ((repeat' split) <;> omega)

set_option maxHeartbeats 400000 in
theorem newline_any (s : ByteArray) (i : Nat) (w : World) (hs : s.size ≤ 140737488351232) (hi : i < s.size) :
    Calls Try.prog 59 #[.string s, .int .i64 i] w fun e w' => e = .returned (.int .i64 (nl s i)) ∧ w = w' := by
  go_enter Try.func59, Try.ntmps59
  go_wp2
  all_goals go_ret
  all_goals refine ⟨ret_int ?_, rfl⟩
  all_goals ((try simp only [beq_iff_eq, beq_eq_false_iff_ne, ne_eq] at *); unfold nl; rw [byteAt_in hi])
  all_goals (by_cases h2 : i + 1 < s.size)
  all_goals first | rw [byteAt_in h2] | rw [byteAt_out (by omega)]
  all_goals ((repeat' split) <;> omega)


/-- How many lines there are from byte i on; f: as many steps as are left. -/
def linesFrom (s : ByteArray) : Nat → Nat → Nat
  | 0, _ => 1
  | f + 1, i => if i < s.size then (if nl s i = 0 then linesFrom s f (i + 1) else linesFrom s f (i + (nl s i).toNat) + 1) else 1
theorem linesFrom_more (s : ByteArray) : ∀ (f f' i : Nat), s.size ≤ i + f → f ≤ f' → linesFrom s f' i = linesFrom s f i := by
  intro f
  induction f with
  | zero =>
    intro f' i h _
    cases f' with
    | zero => rfl
    | succ f' => simp only [linesFrom]; rw [if_neg (by omega)]
  | succ f ih =>
    intro f' i h hf
    cases f' with
    | zero => omega
    | succ f' =>
      simp only [linesFrom]
      have := nl_bd s i
      split
      · split
        · exact ih f' (i + 1) (by omega) (by omega)
        · rw [ih f' (i + (nl s i).toNat) (by omega) (by omega)]
      · rfl
theorem linesFrom_le (s : ByteArray) : ∀ (f i : Nat), linesFrom s f i ≤ f + 1 := by
  intro f
  induction f with
  | zero => intro i; simp [linesFrom]
  | succ f ih =>
    intro i
    simp only [linesFrom]
    split
    · split
      · have := ih (i + 1); omega
      · have := ih (i + (nl s i).toNat); omega
    · omega
theorem linesFrom_pos (s : ByteArray) : ∀ (f i : Nat), 1 ≤ linesFrom s f i := by
  intro f
  induction f with
  | zero => intro i; simp [linesFrom]
  | succ f ih =>
    intro i
    simp only [linesFrom]
    split
    · split
      · exact ih _
      · omega
    · omega
/-- .. from byte i on. -/
def linesAt (s : ByteArray) (i : Nat) : Nat := linesFrom s (s.size - i) i
theorem linesAt_end {s : ByteArray} {i : Nat} (h : s.size ≤ i) : linesAt s i = 1 := by
  unfold linesAt; rw [show s.size - i = 0 from by omega]; rfl
theorem linesAt_on {s : ByteArray} {i : Nat} (h : i < s.size) (h0 : nl s i = 0) : linesAt s i = linesAt s (i + 1) := by
  unfold linesAt
  rw [show s.size - i = (s.size - (i + 1)) + 1 from by omega]
  simp only [linesFrom]
  rw [if_pos h, if_pos h0]
theorem linesAt_nl {s : ByteArray} {i : Nat} (h : i < s.size) (h0 : nl s i ≠ 0) : linesAt s i = linesAt s (i + (nl s i).toNat) + 1 := by
  have hb := nl_bd s i
  unfold linesAt
  rw [show s.size - i = (s.size - (i + 1)) + 1 from by omega]
  simp only [linesFrom]
  rw [if_pos h, if_neg h0]
  rw [linesFrom_more s (s.size - (i + (nl s i).toNat)) _ _ (by omega) (by omega)]
/-- How many lines a text has. -/
def lineCount (s : ByteArray) : Nat := linesAt s 0
theorem lineCount_le (s : ByteArray) : lineCount s ≤ s.size + 1 := linesFrom_le _ _ _
theorem lineCount_pos (s : ByteArray) : 1 ≤ lineCount s := linesFrom_pos _ _ _
theorem linesAt_le (s : ByteArray) (i : Nat) : linesAt s i ≤ s.size - i + 1 := linesFrom_le _ _ _

set_option maxHeartbeats 800000 in
theorem refLines_any (s : ByteArray) (w : World) (hs : s.size ≤ 1099511627776) :
    Calls Try.prog 50 #[.string s] w fun e w' => ∃ A c, e = .returned (.slice A (lineCount s) c) ∧ Below w.heap.size w w' := by
  have hcount := lineCount_le s
  go_enter Try.func50, Try.ntmps50
  go_wp2
  go_loopw [3, 4, 5] (fun out fr i wr => ∃ (k : Nat) (f : Nat) (xs : List Value), k ≤ s.size ∧ f ≤ k ∧ i = .int .i64 k ∧ fr = .int .i64 f ∧ wr.ownsRow w.heap.size 9 1 out xs.length xs ∧ xs.length + linesAt s k = lineCount s ∧ Below w.heap.size w wr) (fun _ _ i wr => s.size - (intOf i).toNat)
  case atStart => exact ⟨0, 0, [], by omega, by omega, rfl, rfl, World.ownsRow_nil _ _ _ _, by simp [lineCount], Below.refl _ _⟩
  case round =>
    obtain ⟨k, f, xs, hk, hf, rfl, rfl, hown, hlen, hB⟩ := hrel
    have hsz := hB.size
    have hla := linesAt_le s k
    have hxl : xs.length ≤ s.size := by have := linesFrom_pos s (s.size - k) k; unfold linesAt at hlen; omega
    have HL := Lib.hid hlen
    clear hlen
    by_cases hlt : k < s.size
    · have hbd := nl_bd s k
      have hin := nl_in s k hlt
      by_cases h0 : nl s k = 0
      · have hb0 : (nl s k == 0) = true := by rw [h0]; rfl
        have H0 := Lib.hid h0
        clear h0
        go_wp2_with fail
        refine (end_any s k _ (by omega) hlt).mono ?_
        rintro e w' ⟨rfl, rfl⟩
        go_wp2
        go_roundw
        case rel => exact ⟨k + 1, f, xs, by omega, by omega, by go_num, rfl, hown, by rw [← linesAt_on hlt H0.out]; exact HL.out, hB⟩
        case measure => simp [intOf]; omega
      · have hb0 : (nl s k == 0) = false := by simpa using h0
        have hpos : 0 < nl s k := by omega
        obtain ⟨m, hm⟩ := Int.eq_ofNat_of_zero_le hbd.1
        have HM := Lib.hid hm
        have H0 := Lib.hid h0
        clear h0 hm
        go_wp2_with fail
        refine (end_any s k _ (by omega) hlt).mono ?_
        rintro e w' ⟨rfl, rfl⟩
        go_wp2_with (at_builtin; refine wpList_app1 rfl _ _ 30 rfl 9 _ 1 16 Try.underlying30 info9 rfl (by decide) wr _ rfl _ rfl w.heap.size _ _ _ rfl hown rfl rfl (by simp [Value.oneCell']) (by unfold maxLen; omega) (by omega) hsz ?_; intro g c w1 hown1 hB1 _ _)
        go_roundw
        case rel =>
          have e1 : ((k : Int) + nl s k) = ((k + m : Nat) : Int) := by have := HM.out; omega
          refine ⟨k + m, k + m, xs ++ [.string (s.extract f k)], by have := HM.out; omega, by omega, by rw [e1], by rw [e1], by simpa using hown1, ?_, hB.trans hB1⟩
          have h1 := HL.out
          rw [linesAt_nl hlt H0.out, show (nl s k).toNat = m from by have := HM.out; omega] at h1
          simp; omega
        case measure => simp [intOf]; omega
    · obtain rfl : k = s.size := by omega
      go_wp2_with (at_builtin; refine wpList_app1 rfl _ _ 30 rfl 9 _ 1 16 Try.underlying30 info9 rfl (by decide) wr _ rfl _ rfl w.heap.size _ _ _ rfl hown rfl rfl (by simp [Value.oneCell']) (by unfold maxLen; omega) (by omega) hsz ?_; intro g c w1 hown1 hB1 _ _)
      go_ret
      rw [show lineCount s = xs.length + 1 from by have := HL.out; rw [linesAt_end (Nat.le_refl _)] at this; omega]
      exact ⟨_, _, rfl, hB.trans hB1⟩

set_option maxHeartbeats 800000 in
theorem lines_any (s : ByteArray) (w : World) (hs : s.size ≤ 1099511627776) :
    Calls Try.prog 56 #[.string s] w fun e w' => ∃ A c, e = .returned (.slice A (lineCount s) c) ∧ Below w.heap.size w w' := by
  have hcount := lineCount_le s
  have hB0 := (Below.refl w.heap.size w).alloc (Nat.le_refl _) (.cells #[] 9)
  go_enter Try.func56, Try.ntmps56
  go_wp2
  go_loopw [3, 4, 5] (fun out fr i wr => ∃ (k : Nat) (f : Nat) (xs : List Value), k ≤ s.size ∧ f ≤ k ∧ i = .int .i64 k ∧ fr = .int .i64 f ∧ wr.ownsRow w.heap.size 9 1 out xs.length xs ∧ xs.length + linesAt s k = lineCount s ∧ Below w.heap.size w wr) (fun _ _ i wr => s.size - (intOf i).toNat)
  case atStart => exact ⟨0, 0, [], by omega, by omega, rfl, rfl, World.ownsRow_made w #[] 0 (Nat.le_refl _) (by omega) rfl, by simp [lineCount], hB0⟩
  case round =>
    obtain ⟨k, f, xs, hk, hf, rfl, rfl, hown, hlen, hB⟩ := hrel
    have hsz := hB.size
    have hla := linesAt_le s k
    have hxl : xs.length ≤ s.size := by have := linesFrom_pos s (s.size - k) k; unfold linesAt at hlen; omega
    have HL := Lib.hid hlen
    clear hlen
    by_cases hlt : k < s.size
    · have hbd := nl_bd s k
      have hin := nl_in s k hlt
      by_cases h0 : nl s k = 0
      · have H0 := Lib.hid h0
        have hle : nl s k ≤ 0 := by omega
        have hmx : max (nl s k) 1 = 1 := by omega
        clear h0
        go_wp2_with fail
        refine (newline_any s k _ (by omega) hlt).mono ?_
        rintro e w' ⟨rfl, rfl⟩
        go_wp2
        go_roundw
        case rel => exact ⟨k + 1, f, xs, by omega, by omega, by go_num, rfl, hown, by rw [← linesAt_on hlt H0.out]; exact HL.out, hB⟩
        case measure => simp [intOf]; omega
      · have hpos : 0 < nl s k := by omega
        have hmx : max (nl s k) 1 = nl s k := by omega
        obtain ⟨m, hm⟩ := Int.eq_ofNat_of_zero_le hbd.1
        have HM := Lib.hid hm
        have H0 := Lib.hid h0
        clear h0 hm
        go_wp2_with fail
        refine (newline_any s k _ (by omega) hlt).mono ?_
        rintro e w' ⟨rfl, rfl⟩
        go_wp2_with (at_builtin; refine wpList_app1 rfl _ _ 30 rfl 9 _ 1 16 Try.underlying30 info9 rfl (by decide) wr _ rfl _ rfl w.heap.size _ _ _ rfl hown rfl rfl (by simp [Value.oneCell']) (by unfold maxLen; omega) (by omega) hsz ?_; intro g c w1 hown1 hB1 _ _)
        go_roundw
        case rel =>
          have e1 : ((k : Int) + nl s k) = ((k + m : Nat) : Int) := by have := HM.out; omega
          refine ⟨k + m, k + m, xs ++ [.string (s.extract f k)], by have := HM.out; omega, by omega, by rw [e1], by rw [e1], by simpa using hown1, ?_, hB.trans hB1⟩
          have h1 := HL.out
          rw [linesAt_nl hlt H0.out, show (nl s k).toNat = m from by have := HM.out; omega] at h1
          simp; omega
        case measure => simp [intOf]; omega
    · obtain rfl : k = s.size := by omega
      go_wp2_with (at_builtin; refine wpList_app1 rfl _ _ 30 rfl 9 _ 1 16 Try.underlying30 info9 rfl (by decide) wr _ rfl _ rfl w.heap.size _ _ _ rfl hown rfl rfl (by simp [Value.oneCell']) (by unfold maxLen; omega) (by omega) hsz ?_; intro g c w1 hown1 hB1 _ _)
      go_ret
      rw [show lineCount s = xs.length + 1 from by have := HL.out; rw [linesAt_end (Nat.le_refl _)] at this; omega]
      exact ⟨_, _, rfl, hB.trans hB1⟩

end Go.Proofs.Ytnophjkiecalpaa
