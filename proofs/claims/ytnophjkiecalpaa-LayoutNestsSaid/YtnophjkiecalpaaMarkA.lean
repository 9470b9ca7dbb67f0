/- The small functions of the layer mark, of its reference, and Bare. -/
import Derived.Test.YtnophjkiecalpaaLines
namespace Go.Proofs.Ytnophjkiecalpaa
open Go.RowKit

/-- Does a block begin behind a token? -/
def opens (t : Tok) : Bool := t.kind == 9 && (t.text.toList == [108, 101, 116] || t.text.toList == [119, 104, 101, 114, 101] || t.text.toList == [100, 111] || t.text.toList == [111, 102])
def brace (t : Tok) : Bool := t.kind == 15 && t.text.toList == [123]
def isTok (t : Tok) (k : Int) (s : ByteArray) : Bool := t.kind == k && t.text.toList == s.toList

set_option maxHeartbeats 400000 in
theorem mOpens_any (t : Tok) (w : World) :
    Calls Try.prog 16 #[.agg #[.int .i64 t.kind, .string t.text, .int .i64 t.line, .int .i64 t.col]] w fun e w' => e = .returned (.bool (opens t)) ∧ Below w.heap.size w w' := by
  go_enter Try.func16, Try.ntmps16
  go_wp2
  all_goals go_ret
  all_goals refine ⟨ret_bool ?_, (Below.refl _ _).alloc (Nat.le_refl _) _⟩
  all_goals simp_all [opens]

set_option maxHeartbeats 400000 in
theorem rOpens_any (t : Tok) (w : World) :
    Calls Try.prog 17 #[.agg #[.int .i64 t.kind, .string t.text, .int .i64 t.line, .int .i64 t.col]] w fun e w' => e = .returned (.bool (opens t)) ∧ Below w.heap.size w w' := by
  go_enter Try.func17, Try.ntmps17
  go_wp2
  all_goals go_ret
  all_goals refine ⟨ret_bool ?_, (Below.refl _ _).alloc (Nat.le_refl _) _⟩
  all_goals simp_all [opens]

set_option maxHeartbeats 400000 in
theorem brace_any (t : Tok) (w : World) :
    Calls Try.prog 33 #[.agg #[.int .i64 t.kind, .string t.text, .int .i64 t.line, .int .i64 t.col]] w fun e w' => e = .returned (.bool (brace t)) ∧ Below w.heap.size w w' := by
  go_enter Try.func33, Try.ntmps33
  go_wp2
  all_goals go_ret
  all_goals refine ⟨ret_bool ?_, (Below.refl _ _).alloc (Nat.le_refl _) _⟩
  all_goals simp_all [brace]

set_option maxHeartbeats 400000 in
theorem is_any (t : Tok) (k : Int) (s : ByteArray) (w : World) :
    Calls Try.prog 48 #[.agg #[.int .i64 t.kind, .string t.text, .int .i64 t.line, .int .i64 t.col], .int .i64 k, .string s] w fun e w' => e = .returned (.bool (isTok t k s)) ∧ Below w.heap.size w w' := by
  go_enter Try.func48, Try.ntmps48
  go_wp2
  all_goals go_ret
  all_goals refine ⟨ret_bool ?_, (Below.refl _ _).alloc (Nat.le_refl _) _⟩
  all_goals simp_all [isTok]

set_option maxHeartbeats 400000 in
theorem same_any (A A' : Option Addr) (l : List Tok) (c c' : Nat) (w : World) (hn : l.length ≤ 9223372036854775807) (h : Toks w.heap.size w A l) (h' : Toks w.heap.size w A' l) :
    Calls Try.prog 18 #[.slice A l.length c, .slice A' l.length c'] w fun e w' => e = .returned (.bool true) ∧ Below w.heap.size w w' := by
  go_enter Try.func18, Try.ntmps18
  go_wp2
  go_loopw [5] (fun i wr => ∃ k : Nat, k ≤ l.length ∧ i = .int .i64 k ∧ Below w.heap.size w wr) (fun i wr => l.length - (intOf i).toNat)
  case atStart => exact ⟨0, by omega, rfl, Below.refl _ _⟩
  case round =>
    obtain ⟨k, hk, rfl, hB⟩ := hrel
    by_cases hlt : k < l.length
    · obtain ⟨b, o, rfl, hb, ht⟩ := (h.below hB) k l[k] (by simp [hlt])
      obtain ⟨b', o', rfl, hb', ht'⟩ := (h'.below hB) k l[k] (by simp [hlt])
      obtain ⟨g1, g2, g3, g4⟩ := ht
      obtain ⟨g5, g6, g7, g8⟩ := ht'
      go_wp2
      go_quiet (fail)
      go_wp2
      go_roundw
      case rel => exact ⟨k + 1, by omega, by go_num, below_drewN hB _⟩
      case measure => simp [intOf]; omega
    · go_wp2
      go_ret
      exact ⟨rfl, hB⟩

/-- Is a token none of the two marks? -/
def notMark (t : Tok) : Bool := t.kind != 16 && t.kind != 17
def bare (l : List Tok) : List Tok := l.filter notMark
theorem bare_snoc (l : List Tok) (t : Tok) : bare (l ++ [t]) = bare l ++ if notMark t then [t] else [] := by
  unfold bare; rw [List.filter_append]; congr 1; cases h : notMark t <;> simp [h]
theorem take_snoc {l : List Tok} {k : Nat} (h : k < l.length) : l.take (k + 1) = l.take k ++ [l[k]] := by
  rw [List.take_succ_eq_append_getElem h]
theorem bare_len (l : List Tok) : (bare l).length ≤ l.length := List.length_filter_le _ _

theorem bare_keep {l : List Tok} {k : Nat} (h : k < l.length) (hm : notMark l[k] = false) : bare (l.take (k + 1)) = bare (l.take k) := by
  rw [take_snoc h, bare_snoc, hm]; simp
theorem bare_add {l : List Tok} {k : Nat} (h : k < l.length) (hm : notMark l[k] = true) : bare (l.take (k + 1)) = bare (l.take k) ++ [l[k]] := by
  rw [take_snoc h, bare_snoc, hm]; simp
theorem own_add {w : World} {B e : Nat} {v : Value} {l l' : List Tok} {t : Tok} (h : w.ownsRow B e 4 v (l.length + 1) (flat l ++ t.cells)) (he : l' = l ++ [t]) : w.ownsRow B e 4 v l'.length (flat l') := by
  rw [he, flat_snoc, List.length_append]; exact h

set_option maxHeartbeats 800000 in
theorem refBare_any (A : Option Addr) (l : List Tok) (c : Nat) (w : World) (hn : l.length * 40 ≤ 140737488351232) (h : Toks w.heap.size w A l) :
    Calls Try.prog 22 #[.slice A l.length c] w fun e w' => ∃ v, e = .returned v ∧ IsToks w'.heap.size w' v (bare l) ∧ Below w.heap.size w w' := by
  go_enter Try.func22, Try.ntmps22
  go_wp2
  go_loopw [3, 4] (fun out i wr => ∃ k : Nat, k ≤ l.length ∧ i = .int .i64 k ∧ wr.ownsRow w.heap.size 23 4 out (bare (l.take k)).length (flat (bare (l.take k))) ∧ Below w.heap.size w wr) (fun _ i wr => l.length - (intOf i).toNat)
  case atStart => exact ⟨0, by omega, rfl, World.ownsRow_nil _ _ _ _, Below.refl _ _⟩
  case round =>
    obtain ⟨k, hk, rfl, hown, hB⟩ := hrel
    have hsz := hB.size
    by_cases hlt : k < l.length
    · obtain ⟨b, o, rfl, hb, ht⟩ := (h.below hB) k l[k] (by simp [hlt])
      obtain ⟨g1, g2, g3, g4⟩ := ht
      have hbl : (bare (l.take k)).length ≤ k := by have := bare_len (l.take k); rw [List.length_take] at this; omega
      have hts := Lib.hid (take_snoc hlt)
      go_wp2_with (at_builtin; refine wpList_app1 rfl _ _ 26 rfl 23 _ 4 40 Try.underlying26 info23 rfl (by decide) wr l[k].cells rfl _ rfl w.heap.size _ _ _ rfl hown rfl rfl (by simp [Tok.cells, Value.oneCell']) (by unfold maxLen; omega) (by omega) hsz ?_; intro g c w1 hown1 hB1 _ _)
      all_goals go_roundw
      all_goals try (case measure => simp [intOf]; omega)
      · exact ⟨k + 1, by omega, by go_num, by rw [bare_keep hlt (by simp_all [notMark])]; exact hown, hB⟩
      · exact ⟨k + 1, by omega, by go_num, own_add hown1 (bare_add hlt (by simp_all [notMark])), hB.trans hB1⟩
      · exact ⟨k + 1, by omega, by go_num, by rw [bare_keep hlt (by simp_all [notMark])]; exact hown, hB⟩
    · obtain rfl : k = l.length := by omega
      rw [List.take_length] at hown
      go_wp2
      go_ret
      exact ⟨_, rfl, isToks_of_own hown, hB⟩

set_option maxHeartbeats 800000 in
theorem mBare_any (A : Option Addr) (l : List Tok) (c : Nat) (w : World) (hn : l.length * 40 ≤ 140737488351232) (h : Toks w.heap.size w A l) :
    Calls Try.prog 21 #[.slice A l.length c] w fun e w' => ∃ v, e = .returned v ∧ IsToks w'.heap.size w' v (bare l) ∧ Below w.heap.size w w' := by
  have hB0 := (Below.refl w.heap.size w).alloc (Nat.le_refl _) (.cells #[] 23)
  go_enter Try.func21, Try.ntmps21
  go_wp2
  go_loopw [3, 9] (fun out i wr => ∃ k : Nat, k ≤ l.length ∧ i = .int .i64 k ∧ wr.ownsRow w.heap.size 23 4 out (bare (l.take k)).length (flat (bare (l.take k))) ∧ Below w.heap.size w wr) (fun _ i wr => l.length - (intOf i).toNat)
  case atStart => exact ⟨0, by omega, rfl, World.ownsRow_made w #[] 0 (Nat.le_refl _) (by omega) rfl, hB0⟩
  case round =>
    obtain ⟨k, hk, rfl, hown, hB⟩ := hrel
    have hsz := hB.size
    by_cases hlt : k < l.length
    · obtain ⟨b, o, rfl, hb, ht⟩ := (h.below hB) k l[k] (by simp [hlt])
      obtain ⟨g1, g2, g3, g4⟩ := ht
      have hbl : (bare (l.take k)).length ≤ k := by have := bare_len (l.take k); rw [List.length_take] at this; omega
      go_wp2_with (at_builtin; refine wpList_app1 rfl _ _ 26 rfl 23 _ 4 40 Try.underlying26 info23 rfl (by decide) (wr.alloc _) l[k].cells rfl _ (by simp) w.heap.size _ _ _ rfl (hown.alloc _) rfl rfl (by simp [Tok.cells, Value.oneCell']) (by unfold maxLen; omega) (by omega) (by simp; omega) ?_; intro g c w1 hown1 hB1 _ _)
      all_goals go_roundw
      all_goals try (case measure => simp [intOf]; omega)
      · exact ⟨k + 1, by omega, by go_num, by rw [bare_keep hlt (by simp_all [notMark])]; exact hown.alloc _, hB.alloc hsz _⟩
      · exact ⟨k + 1, by omega, by go_num, own_add hown1 (bare_add hlt (by simp_all [notMark])), (hB.alloc hsz _).trans hB1⟩
      · exact ⟨k + 1, by omega, by go_num, by rw [bare_keep hlt (by simp_all [notMark])]; exact hown.alloc _, hB.alloc hsz _⟩
    · obtain rfl : k = l.length := by omega
      rw [List.take_length] at hown
      go_wp2
      go_ret
      exact ⟨_, rfl, isToks_of_own hown, hB⟩
end Go.Proofs.Ytnophjkiecalpaa
