/- States that may not be; the laws LayoutNexts and LayoutCloses, walked. -/
import Derived.Test.YtnophjkiecalpaaLayAwake
namespace Go.Proofs.Ytnophjkiecalpaa
open Go.RowKit
attribute [local go_sem ↓] Go.wp_at_zero Go.wp_at_succ

/-- What Next answers of a state that may not be. -/
def BadSaid (w : World) (e : Ending) (w' : World) : Prop :=
  e = .returned (.tuple #[.agg #[.int .i64 0, .string ⟨#[]⟩, .int .i64 0, .int .i64 0], .agg #[.slice none 0 0, .int .i64 0, .slice none 0 0, .int .i64 0], .int .i64 1]) ∧ Below w.heap.size w w'

set_option maxRecDepth 100000 in
set_option maxHeartbeats 2000000 in
theorem next_bad (A0 A : Option Addr) (l : List Tok) (n0 n : Nat) (p wt : Int) (zs : List Int) (w : World) (hl : l.length ≤ 999999) (hn : zs.length ≤ 1000000) (ht : Toks w.heap.size w A0 l) (h : Ints w.heap.size w A zs) (hmay : LSt.may ⟨l, p, zs, wt⟩ = false) :
    Calls Try.prog 25 #[.agg #[.slice A0 l.length n0, .int .i64 p, .slice A zs.length n, .int .i64 wt]] w (BadSaid w) := by
  have h3 := Three.new w (.slice A0 l.length n0) (.int .i64 p) (.slice A zs.length n) (.int .i64 wt)
  have HT := Lib.hid ((ht.below h3.below).mono h3.below.size)
  have HI := Lib.hid ((h.below h3.below).mono h3.below.size)
  have H3 := Lib.hid h3
  have HM := Lib.hid hmay
  clear h3 ht h hmay
  go_enter Try.func25, Try.ntmps25
  go_wp2_with fail
  go_step3
  go_wp2_with fail
  obtain ⟨W, hW⟩ : ∃ W, ((w.alloc (.cells #[.slice A0 l.length n0, .int .i64 p, .slice A zs.length n, .int .i64 wt] 34)).alloc (.cells #[.int .i64 0, .string ⟨#[]⟩, .int .i64 0, .int .i64 0] 23)).alloc (.cells #[.slice none 0 0, .int .i64 0, .slice none 0 0, .int .i64 0] 34) = W := ⟨_, rfl⟩
  have h4 := H3.out
  have hT := HT.out
  have hI := HI.out
  rw [hW] at h4 hT hI ⊢
  clear H3 HT HI hW
  refine (may_any A0 A l n0 n p wt zs _ (by omega) hn hT hI).mono ?_
  rintro e w1 ⟨rfl, hb1⟩
  rw [HM.out]
  obtain ⟨_, ⟨y0, y1, y2, y3, g0, g1, g2, g3⟩, ⟨z0, z1, z2, z3, f0, f1, f2, f3⟩, hsl⟩ := h4.trip.below hb1
  have HB := Lib.hid (h4.below.trans (hb1.mono (by rw [h4.size]; omega)))
  clear h4 hT hI hb1
  go_wp2
  exact bodyPost_ret (v := .tuple #[.agg #[.int .i64 0, .string ⟨#[]⟩, .int .i64 0, .int .i64 0], .agg #[.slice none 0 0, .int .i64 0, .slice none 0 0, .int .i64 0], .int .i64 1]) (by simp [results, Try.results25, go_sem, y0, y1, y2, y3, z0, z1, z2, z3]) rfl
    ⟨rfl, put4_below (put4_below HB.out (by omega) _ _ _ _) (by omega) _ _ _ _⟩

set_option maxRecDepth 100000 in
set_option maxHeartbeats 2000000 in
theorem rnext_bad (A0 A : Option Addr) (l : List Tok) (n0 n : Nat) (p wt : Int) (zs : List Int) (w : World) (hl : l.length ≤ 999999) (hn : zs.length ≤ 1000000) (ht : Toks w.heap.size w A0 l) (h : Ints w.heap.size w A zs) (hmay : LSt.may ⟨l, p, zs, wt⟩ = false) :
    Calls Try.prog 26 #[.agg #[.slice A0 l.length n0, .int .i64 p, .slice A zs.length n, .int .i64 wt]] w (BadSaid w) := by
  have h3 := Three.new w (.slice A0 l.length n0) (.int .i64 p) (.slice A zs.length n) (.int .i64 wt)
  have HT := Lib.hid ((ht.below h3.below).mono h3.below.size)
  have HI := Lib.hid ((h.below h3.below).mono h3.below.size)
  have H3 := Lib.hid h3
  have HM := Lib.hid hmay
  clear h3 ht h hmay
  go_enter Try.func26, Try.ntmps26
  go_wp2_with fail
  obtain ⟨W, hW⟩ : ∃ W, ((w.alloc (.cells #[.slice A0 l.length n0, .int .i64 p, .slice A zs.length n, .int .i64 wt] 34)).alloc (.cells #[.int .i64 0, .string ⟨#[]⟩, .int .i64 0, .int .i64 0] 23)).alloc (.cells #[.slice none 0 0, .int .i64 0, .slice none 0 0, .int .i64 0] 34) = W := ⟨_, rfl⟩
  have h4 := H3.out
  have hT := HT.out
  have hI := HI.out
  rw [hW] at h4 hT hI ⊢
  clear H3 HT HI hW
  refine (right_any A0 A l n0 n p wt zs _ (by omega) hn hT hI).mono ?_
  rintro e w1 ⟨rfl, hb1⟩
  rw [HM.out]
  obtain ⟨_, ⟨y0, y1, y2, y3, g0, g1, g2, g3⟩, ⟨z0, z1, z2, z3, f0, f1, f2, f3⟩, hsl⟩ := h4.trip.below hb1
  have HB := Lib.hid (h4.below.trans (hb1.mono (by rw [h4.size]; omega)))
  clear h4 hT hI hb1
  go_wp2
  exact bodyPost_ret (v := .tuple #[.agg #[.int .i64 0, .string ⟨#[]⟩, .int .i64 0, .int .i64 0], .agg #[.slice none 0 0, .int .i64 0, .slice none 0 0, .int .i64 0], .int .i64 1]) (by simp [results, Try.results26, go_sem, y0, y1, y2, y3, z0, z1, z2, z3]) rfl
    ⟨rfl, put4_below (put4_below HB.out (by omega) _ _ _ _) (by omega) _ _ _ _⟩

theorem may_pos {l : List Tok} {p wt : Int} {zs : List Int} (h : LSt.may ⟨l, p, zs, wt⟩ = true) : ∃ k : Nat, p = k ∧ k ≤ l.length := by
  unfold LSt.may at h
  simp only [Bool.and_eq_true, decide_eq_true_eq] at h
  obtain ⟨k, rfl⟩ := Int.eq_ofNat_of_zero_le h.1.1.1.1.1
  exact ⟨k, rfl, by have := h.1.1.1.1.2; omega⟩

/-- What either Next tells of any state, as far as the laws ask: the answers R, told at the tokens' address A0 or at none. -/
def AnySaid (A0 : Option Addr) (n0 : Nat) (R : Tok × LSt × Int) (w : World) (e : Ending) (w' : World) : Prop :=
  ∃ A1 m1 A c, e = .returned (.tuple #[.agg #[.int .i64 R.1.kind, .string R.1.text, .int .i64 R.1.line, .int .i64 R.1.col], .agg #[.slice A1 R.2.1.toks.length m1, .int .i64 R.2.1.pos, .slice A R.2.1.opens.length c, .int .i64 R.2.1.wait], .int .i64 R.2.2]) ∧
    ((A1 = A0 ∧ m1 = n0) ∨ R.2.1.toks = []) ∧ R.2.1.opens.length ≤ c ∧ (A = none → c = 0) ∧ Ints w'.heap.size w' A R.2.1.opens ∧ Below w.heap.size w w'

theorem nextS_bad {l : List Tok} {p wt : Int} {zs : List Int} (h : LSt.may ⟨l, p, zs, wt⟩ = false) : nextS ⟨l, p, zs, wt⟩ = (tk0, st0, 1) := by
  unfold nextS
  rw [h]
  rfl
theorem any_of_bad {A0 : Option Addr} {n0 : Nat} {l : List Tok} {p wt : Int} {zs : List Int} {w : World} (h : LSt.may ⟨l, p, zs, wt⟩ = false) (e : Ending) (w' : World) (hb : BadSaid w e w') : AnySaid A0 n0 (nextS ⟨l, p, zs, wt⟩) w e w' := by
  rw [nextS_bad h]
  obtain ⟨rfl, hb⟩ := hb
  exact ⟨none, 0, none, 0, rfl, .inr rfl, Nat.le_refl _, fun _ => rfl, Ints.nil, hb⟩
theorem any_of_next {A0 A : Option Addr} {n0 : Nat} {l : List Tok} {k : Nat} {wt : Int} {zs : List Int} {w : World} (h : May l k zs wt) (e : Ending) (w' : World) (hb : NextSaid A0 A l.length n0 (nextF l zs (l.length - k) k wt) w e w') : AnySaid A0 n0 (nextS ⟨l, (k : Int), zs, wt⟩) w e w' := by
  rw [nextS_may h]
  obtain ⟨k', zs', wt', e1, _⟩ := nextF_ok l zs (l.length - k) k wt (by have := h.pos; omega) h
  have ht : (nextF l zs (l.length - k) k wt).2.1.toks = l := by rw [e1]
  obtain ⟨A', c, he, h1, h2, h3, _, h5⟩ := hb
  exact ⟨A0, n0, A', c, by rw [ht]; exact he, .inl ⟨rfl, rfl⟩, h1, h2, h3, h5⟩

theorem next_whole (A0 A : Option Addr) (l : List Tok) (n0 n : Nat) (p wt : Int) (zs : List Int) (w : World) (hl : l.length ≤ 999999) (hn : zs.length ≤ 1000000) (hcap : zs.length ≤ n) (hc : A = none → n = 0) (ht : Toks w.heap.size w A0 l) (h : Ints w.heap.size w A zs) :
    Calls Try.prog 25 #[.agg #[.slice A0 l.length n0, .int .i64 p, .slice A zs.length n, .int .i64 wt]] w (AnySaid A0 n0 (nextS ⟨l, p, zs, wt⟩) w) := by
  cases hm : LSt.may ⟨l, p, zs, wt⟩ with
  | false => exact (next_bad A0 A l n0 n p wt zs w hl hn ht h hm).mono (any_of_bad hm)
  | true =>
    obtain ⟨k, rfl, hk⟩ := may_pos hm
    exact (next_lay A0 A l n0 n k wt zs w hl hn hcap hc ht h hm hk).mono (any_of_next (may_iff.1 hm))
theorem rnext_whole (A0 A : Option Addr) (l : List Tok) (n0 n : Nat) (p wt : Int) (zs : List Int) (w : World) (hl : l.length ≤ 999999) (hn : zs.length ≤ 1000000) (hcap : zs.length ≤ n) (hc : A = none → n = 0) (ht : Toks w.heap.size w A0 l) (h : Ints w.heap.size w A zs) :
    Calls Try.prog 26 #[.agg #[.slice A0 l.length n0, .int .i64 p, .slice A zs.length n, .int .i64 wt]] w (AnySaid A0 n0 (nextS ⟨l, p, zs, wt⟩) w) := by
  cases hm : LSt.may ⟨l, p, zs, wt⟩ with
  | false => exact (rnext_bad A0 A l n0 n p wt zs w hl hn ht h hm).mono (any_of_bad hm)
  | true =>
    obtain ⟨k, rfl, hk⟩ := may_pos hm
    exact (rnext_lay A0 A l n0 n k wt zs w hl hn hcap hc ht h hm hk).mono (any_of_next (may_iff.1 hm))

/-- How long what Next tells is. -/
theorem nextS_len (l : List Tok) (p wt : Int) (zs : List Int) : (nextS ⟨l, p, zs, wt⟩).2.1.opens.length ≤ zs.length + l.length ∧ ((nextS ⟨l, p, zs, wt⟩).2.1.toks = l ∨ (nextS ⟨l, p, zs, wt⟩).2.1.toks = []) := by
  cases hm : LSt.may ⟨l, p, zs, wt⟩ with
  | false => rw [nextS_bad hm]; exact ⟨by simp [st0], .inr rfl⟩
  | true =>
    obtain ⟨k, rfl, hk⟩ := may_pos hm
    have hM := may_iff.1 hm
    rw [nextS_may hM]
    obtain ⟨k', zs', wt', e1, h2, h3, h4, _⟩ := nextF_ok l zs (l.length - k) k wt (by omega) hM
    have := h2.pos
    rw [e1]
    exact ⟨by simp only; omega, .inl rfl⟩
end Go.Proofs.Ytnophjkiecalpaa
