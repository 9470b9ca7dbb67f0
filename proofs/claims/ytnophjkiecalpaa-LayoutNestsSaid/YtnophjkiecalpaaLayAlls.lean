/- The law LayoutAlls, walked. -/
import Derived.Test.YtnophjkiecalpaaLayAwake
namespace Go.Proofs.Ytnophjkiecalpaa
open Go.RowKit

theorem same_len (A A' : Option Addr) (l : List Tok) (n n' c c' : Nat) (w : World) (hn : l.length ≤ 9223372036854775807) (e : n = l.length) (e' : n' = l.length) (h : Toks w.heap.size w A l) (h' : Toks w.heap.size w A' l) :
    Calls Try.prog 18 #[.slice A n c, .slice A' n' c'] w fun e w' => e = .returned (.bool true) ∧ Below w.heap.size w w' := by
  subst e e'
  exact same_any A A' l c c' w hn h h'

set_option maxRecDepth 100000 in
set_option maxHeartbeats 2000000 in
theorem layoutAlls_any (A : Option Addr) (l : List Tok) (c : Nat) (w : World) (hlen : l.length * 40 ≤ 140737488351232) (h : Toks w.heap.size w A l) :
    Calls Try.prog 10 #[.slice A l.length c] w fun e w' => e = .returned (.bool true) ∧ Below w.heap.size w w' := by
  have HT := Lib.hid h
  clear h
  by_cases hs : l.length ≤ 3000
  · have hd := Lib.hid (show decide (l.length ≤ 3000) = true by simpa using hs)
    go_enter Try.func10, Try.ntmps10
    go_wp2_with fail
    refine (small_any A l.length c _ (by omega)).mono ?_
    rintro e w1 ⟨rfl, rfl⟩
    rw [hd.out]
    go_wp2_with fail
    refine (all_lay A l c _ hs HT.out).mono ?_
    rintro e w1 ⟨A1, c1, rfl, hA1, hl1, hb1⟩
    obtain ⟨R, hR⟩ : ∃ R, allS l = R := ⟨_, rfl⟩
    rw [hR] at hA1 hl1 ⊢
    have HA1 := Lib.hid hA1
    have HB1 := Lib.hid hb1
    have HR := Lib.hid hR
    have hs1 := hb1.size
    clear hA1 hb1 hR
    go_wp2_with fail
    refine (rall_lay A l c _ hs ((HT.out.below HB1.out).mono hs1)).mono ?_
    rintro e w2 ⟨A2, c2, rfl, hA2, _, hb2⟩
    rw [HR.out] at hA2 ⊢
    have HA2 := Lib.hid hA2
    have HB2 := Lib.hid hb2
    have hs2 := hb2.size
    clear hA2 hb2
    go_wp2_with fail
    refine (awake9_any _).mono ?_
    rintro e w3 ⟨rfl, hb3⟩
    have he : (R.2 == R.2) = true := by simp
    have HB3 := Lib.hid hb3
    have hs3 := hb3.size
    clear hb3
    go_wp2_with fail
    refine (same_len A1 A2 R.1 _ _ c1 c2 _ (by omega) rfl rfl ((HA1.out.below (HB2.out.trans (HB3.out.mono hs2))).mono (by omega)) ((HA2.out.below HB3.out).mono hs3)).mono ?_
    rintro e w4 ⟨rfl, hb4⟩
    go_wp2
    go_ret
    exact ⟨rfl, ((HB1.out.trans (HB2.out.mono hs1)).trans (HB3.out.mono (by omega))).trans (hb4.mono (by omega))⟩
  · have hd := Lib.hid (show decide (l.length ≤ 3000) = false by simpa using hs)
    go_enter Try.func10, Try.ntmps10
    go_wp2_with fail
    refine (small_any A l.length c _ (by omega)).mono ?_
    rintro e w1 ⟨rfl, rfl⟩
    rw [hd.out]
    go_wp2_with fail
    refine (awake9_any _).mono ?_
    rintro e w3 ⟨rfl, hb3⟩
    go_wp2
    go_ret
    exact ⟨rfl, hb3⟩
end Go.Proofs.Ytnophjkiecalpaa
