/- The blocks of a state: one fewer, one more; by the program and by its reference. -/
import Derived.Test.YtnophjkiecalpaaLaySmall
namespace Go.Proofs.Ytnophjkiecalpaa
open Go.RowKit

/-- The two boxes that such a function begins with: its argument's, and its result's. -/
structure Two (w W : World) (v0 v1 v2 v3 : Value) : Prop where
  x : Box4 W w.heap.size v0 v1 v2 v3
  y : Box4 W (w.heap.size + 1) (.slice none 0 0) (.int .i64 0) (.slice none 0 0) (.int .i64 0)
  below : Below w.heap.size w W
  size : W.heap.size = w.heap.size + 1 + 1
theorem Two.new (w : World) (v0 v1 v2 v3 : Value) : Two w ((w.alloc (.cells #[v0, v1, v2, v3] 34)).alloc (.cells #[.slice none 0 0, .int .i64 0, .slice none 0 0, .int .i64 0] 34)) v0 v1 v2 v3 :=
  ⟨(Box4.new w v0 v1 v2 v3 34).alloc _ (by simp), by simpa using Box4.new (w.alloc (.cells #[v0, v1, v2, v3] 34)) (.slice none 0 0) (.int .i64 0) (.slice none 0 0) (.int .i64 0) 34,
    ((Below.refl _ _).alloc (Nat.le_refl _) _).alloc (by simp) _, by simp⟩

/-- The world in which such a function ends: the state has its new blocks v, in its box and in the result's. -/
def endW (N : Nat) (W : World) (a0 a1 v a3 : Value) : World :=
  ((((W.setCell ⟨N, 2, none⟩ v).setCell ⟨N + 1, 0, none⟩ a0).setCell ⟨N + 1, 1, none⟩ a1).setCell ⟨N + 1, 2, none⟩ v).setCell ⟨N + 1, 3, none⟩ a3
theorem endW_below {N : Nat} {w W : World} (a0 a1 v a3 : Value) (h : Below N w W) : Below N w (endW N W a0 a1 v a3) :=
  ((((h.setCell (p := ⟨N, 2, none⟩) (by simp) v).setCell (p := ⟨N + 1, 0, none⟩) (by simp) a0).setCell (p := ⟨N + 1, 1, none⟩) (by simp) a1).setCell (p := ⟨N + 1, 2, none⟩) (by simp) v).setCell (p := ⟨N + 1, 3, none⟩) (by simp) a3
theorem endW_own {N : Nat} {W : World} (a0 a1 u a3 : Value) {e size n : Nat} {v : Value} {xs : List Value} (h : W.ownsRow (N + 1 + 1) e size v n xs) : (endW N W a0 a1 u a3).ownsRow (N + 1 + 1) e size v n xs :=
  ownsRow_setCell_below (ownsRow_setCell_below (ownsRow_setCell_below (ownsRow_setCell_below (ownsRow_setCell_below h (a := ⟨N, 2, none⟩) (by simp; omega) u) (a := ⟨N + 1, 0, none⟩) (by simp) a0) (a := ⟨N + 1, 1, none⟩) (by simp) a1) (a := ⟨N + 1, 2, none⟩) (by simp) u) (a := ⟨N + 1, 3, none⟩) (by simp) a3

theorem own_form {w : World} {B e size n : Nat} {v : Value} {xs : List Value} (h : w.ownsRow B e size v n xs) : ∃ A c, v = .slice A n c := by
  rcases h.2 with ⟨rfl, rfl⟩ | ⟨g, cap, cur, rfl, _⟩
  · exact ⟨_, _, rfl⟩
  · exact ⟨_, _, rfl⟩

set_option maxHeartbeats 800000 in
theorem closed_any (A0 A : Option Addr) (n0 c0 : Nat) (p wt : Int) (zs : List Int) (n : Nat) (w : World) (hn : zs.length ≤ 1000000) (hpos : 0 < zs.length) (hcap : zs.length ≤ n) (h : Ints w.heap.size w A zs) :
    Calls Try.prog 46 #[.agg #[.slice A0 n0 c0, .int .i64 p, .slice A zs.length n, .int .i64 wt]] w fun e w' =>
      ∃ v, e = .returned (.agg #[.slice A0 n0 c0, .int .i64 p, v, .int .i64 wt]) ∧ Fresh w.heap.size w' v zs.dropLast ∧ Below w.heap.size w w' := by
  have h2 := Two.new w (.slice A0 n0 c0) (.int .i64 p) (.slice A zs.length n) (.int .i64 wt)
  have hI := (h.below h2.below).mono h2.below.size
  have hd : zs.dropLast = zs.take (zs.length - 1) := List.dropLast_eq_take ..
  have hdl : (zs.take (zs.length - 1)).length = zs.length - 1 := by rw [List.length_take]; omega
  have hne : A ≠ none := fun e => by subst e; rw [h.none] at hpos; simp at hpos
  have HD := Lib.hid hd
  have HDL := Lib.hid hdl
  have HI := Lib.hid (hI.take (zs.length - 1))
  have H2 := Lib.hid h2
  clear h h2 hI hd hdl
  have i1 : (0 : Int) ≤ (zs.length : Int) - 1 := by omega
  have i2 : ((zs.length : Int) - 1).toNat = zs.length - 1 := by omega
  go_enter Try.func46, Try.ntmps46
  go_wp2_with fail
  refine (by have h := clone_any A (zs.take (zs.length - 1)) n ((w.alloc (.cells #[.slice A0 n0 c0, .int .i64 p, .slice A zs.length n, .int .i64 wt] 34)).alloc (.cells #[.slice none 0 0, .int .i64 0, .slice none 0 0, .int .i64 0] 34)) (by rw [HDL.out]; omega) (fun e => absurd e hne) HI.out; rw [HDL.out] at h; exact h : Calls Try.prog 55 #[.slice A (zs.length - 1) n] ((w.alloc (.cells #[.slice A0 n0 c0, .int .i64 p, .slice A zs.length n, .int .i64 wt] 34)).alloc (.cells #[.slice none 0 0, .int .i64 0, .slice none 0 0, .int .i64 0] 34)) _).mono ?_
  rintro e w1 ⟨v, rfl, hown, hb⟩
  obtain ⟨A', c', rfl⟩ := own_form hown
  have hx := H2.out.x.below hb (by rw [H2.out.size]; omega)
  have hy := H2.out.y.below hb (by rw [H2.out.size]; omega)
  have hBB := H2.out.below.trans (hb.mono (by rw [H2.out.size]; omega))
  rw [H2.out.size] at hown
  have HB := Lib.hid hBB
  have HO := Lib.hid hown
  clear hb hown hBB
  obtain ⟨x0, x1, x2, x3, g0, g1, g2, g3⟩ := hx
  obtain ⟨y0, y1, y2, y3, h0, h1, h2, h3⟩ := hy
  go_wp2_with fail
  exact bodyPost_ret (v := .agg #[.slice A0 n0 c0, .int .i64 p, .slice A' (zs.length - 1) c', .int .i64 wt]) (by simp [results, Try.results46, go_sem, y0, y1, y2, y3]) rfl
    ⟨_, rfl, own_mono (base := w.heap.size + 1 + 1) (by rw [HD.out, HDL.out]; exact endW_own _ _ _ _ HO.out) (by omega), endW_below _ _ _ _ HB.out⟩

/-- The cells of a slice of numbers, as the append law asks for them. -/
theorem ints_cells {B : Nat} {w : World} {A : Option Addr} {zs : List Int} (h : Ints B w A zs) : ∀ ad, A = some ad → ∀ j u, (zs.map (Value.int .i64))[j]? = some u → w.cell? (ad.add j) = some u := by
  intro ad e j u hu
  subst e
  rw [List.getElem?_map] at hu
  obtain ⟨z, hz, rfl⟩ := Option.map_eq_some_iff.1 hu
  obtain ⟨b, o, e, hb, hcl⟩ := h j z hz
  simp only [Option.some.injEq] at e
  subst e
  rw [show (⟨b, o, none⟩ : Addr).add j = ⟨b, o + j, none⟩ by unfold Addr.add; split <;> simp_all]
  exact hcl

set_option maxHeartbeats 800000 in
theorem pop_any (A0 A : Option Addr) (n0 c0 : Nat) (p wt : Int) (zs : List Int) (n : Nat) (w : World) (hn : zs.length ≤ 1000000) (hpos : 0 < zs.length) (hcap : zs.length ≤ n) (h : Ints w.heap.size w A zs) :
    Calls Try.prog 44 #[.agg #[.slice A0 n0 c0, .int .i64 p, .slice A zs.length n, .int .i64 wt]] w fun e w' =>
      ∃ v, e = .returned (.agg #[.slice A0 n0 c0, .int .i64 p, v, .int .i64 wt]) ∧ Fresh w.heap.size w' v zs.dropLast ∧ Below w.heap.size w w' := by
  have h2 := Two.new w (.slice A0 n0 c0) (.int .i64 p) (.slice A zs.length n) (.int .i64 wt)
  have hI := (h.below h2.below).mono h2.below.size
  have hd : zs.dropLast = zs.take (zs.length - 1) := List.dropLast_eq_take ..
  have hdl : (zs.take (zs.length - 1)).length = zs.length - 1 := by rw [List.length_take]; omega
  have hml : ((zs.take (zs.length - 1)).map (Value.int .i64)).length = (zs.length - 1) * 1 := by simp
  have hne : A ≠ none := fun e => by subst e; rw [h.none] at hpos; simp at hpos
  have hone : ∀ u ∈ (zs.take (zs.length - 1)).map (Value.int .i64), u.oneCell' = true := by
    intro u hu
    obtain ⟨z, _, rfl⟩ := List.mem_map.1 hu
    rfl
  have hO := World.ownsRow_nil ((w.alloc (.cells #[.slice A0 n0 c0, .int .i64 p, .slice A zs.length n, .int .i64 wt] 34)).alloc (.cells #[.slice none 0 0, .int .i64 0, .slice none 0 0, .int .i64 0] 34)) (w.heap.size + 1 + 1) 3 1
  have HD := Lib.hid hd
  have HDL := Lib.hid hdl
  have HML := Lib.hid hml
  have HONE := Lib.hid hone
  have HI := Lib.hid (ints_cells (hI.take (zs.length - 1)))
  have HNE := Lib.hid hne
  have HO := Lib.hid hO
  have H2 := Lib.hid h2
  clear h h2 hI hd hdl hml hone hO hne
  have i1 : (0 : Int) ≤ (zs.length : Int) - 1 := by omega
  have i2 : ((zs.length : Int) - 1).toNat = zs.length - 1 := by omega
  go_enter Try.func44, Try.ntmps44
  go_wp2_with (at_builtin; refine wpList_appm rfl _ _ 32 rfl 3 _ 1 8 Try.underlying32 info3 rfl (by decide) (w.heap.size + 1 + 1) _ _ _ rfl HO.out A (zs.length - 1) n _ rfl HML.out (fun e => absurd e HNE.out) HI.out HONE.out (by unfold maxLen; omega) (by omega) (by simp) ?_; intro v' w1 hown hb; obtain ⟨A', c', rfl⟩ := own_form hown; obtain ⟨x0, x1, x2, x3, g0, g1, g2, g3⟩ := H2.out.x.below hb (by omega); obtain ⟨y0, y1, y2, y3, h0, h1, h2, h3⟩ := H2.out.y.below hb (by omega))
  simp only [Nat.zero_add, List.nil_append] at hown
  exact bodyPost_ret (v := .agg #[.slice A0 n0 c0, .int .i64 p, .slice A' (0 + (zs.length - 1)) c', .int .i64 wt]) (by simp [results, Try.results44, go_sem, y0, y1, y2, y3]) rfl
    ⟨_, rfl, own_mono (base := w.heap.size + 1 + 1) (by rw [HD.out, HDL.out, Nat.zero_add]; exact endW_own _ _ _ _ hown) (by omega), endW_below _ _ _ _ (H2.out.below.trans (hb.mono (by omega)))⟩

set_option maxHeartbeats 800000 in
theorem push_any (A0 A : Option Addr) (n0 c0 : Nat) (p wt col : Int) (zs : List Int) (n : Nat) (w : World) (hn : zs.length ≤ 1000000) (hc : A = none → n = 0) (h : Ints w.heap.size w A zs) :
    Calls Try.prog 42 #[.agg #[.slice A0 n0 c0, .int .i64 p, .slice A zs.length n, .int .i64 wt], .int .i64 col] w fun e w' =>
      ∃ v, e = .returned (.agg #[.slice A0 n0 c0, .int .i64 p, v, .int .i64 wt]) ∧ Fresh w.heap.size w' v (zs ++ [col]) ∧ Below w.heap.size w w' := by
  have h2 := Two.new w (.slice A0 n0 c0) (.int .i64 p) (.slice A zs.length n) (.int .i64 wt)
  have hI := (h.below h2.below).mono h2.below.size
  have hml : (zs.map (Value.int .i64)).length = zs.length * 1 := by simp
  have hone : ∀ u ∈ zs.map (Value.int .i64), u.oneCell' = true := by
    intro u hu
    obtain ⟨z, _, rfl⟩ := List.mem_map.1 hu
    rfl
  have hne : A = none → zs.length = 0 ∧ n = 0 := fun e => by subst e; exact ⟨by rw [h.none]; rfl, hc rfl⟩
  have hO := World.ownsRow_nil ((w.alloc (.cells #[.slice A0 n0 c0, .int .i64 p, .slice A zs.length n, .int .i64 wt] 34)).alloc (.cells #[.slice none 0 0, .int .i64 0, .slice none 0 0, .int .i64 0] 34)) (w.heap.size + 1 + 1) 3 1
  have hmap : (zs ++ [col]).map (Value.int .i64) = zs.map (Value.int .i64) ++ [.int .i64 col] := by simp
  have HML := Lib.hid hml
  have HMAP := Lib.hid hmap
  have HONE := Lib.hid hone
  have HI := Lib.hid (ints_cells hI)
  have HNE := Lib.hid hne
  have HO := Lib.hid hO
  have H2 := Lib.hid h2
  clear h h2 hI hml hone hO hne hc hmap
  go_enter Try.func42, Try.ntmps42
  go_upto_region 3 with (at_builtin; refine wpList_appm rfl _ _ 32 rfl 3 _ 1 8 Try.underlying32 info3 rfl (by decide) (w.heap.size + 1 + 1) _ _ _ rfl HO.out A zs.length n _ rfl HML.out HNE.out HI.out HONE.out (by unfold maxLen; omega) (by omega) (by simp) ?_; intro v' w1 hown hb; obtain ⟨A', c', rfl⟩ := own_form hown)
  have hx := H2.out.x.below hb (by omega)
  have hy := H2.out.y.below hb (by omega)
  have hz := H2.out.below.trans (hb.mono (by omega))
  have hz1 : w.heap.size + 1 + 1 ≤ w1.heap.size := by have := hb.size; rw [← H2.out.size]; exact this
  have HB := Lib.hid hz
  clear hb hz
  simp only [Nat.zero_add, List.nil_append] at hown ⊢
  go_wp2_with (at_builtin; refine wpList_app1 rfl _ _ 32 rfl 3 _ 1 8 Try.underlying32 info3 rfl (by decide) w1 [.int .i64 col] rfl _ rfl (w.heap.size + 1 + 1) _ _ _ rfl hown rfl rfl (by simp [Value.oneCell']) (by unfold maxLen; omega) (by omega) hz1 ?_; intro g c w2 hown2 hB2 _ _; obtain ⟨x0, x1, x2, x3, g0, g1, g2, g3⟩ := hx.below hB2 (by omega); obtain ⟨y0, y1, y2, y3, h0, h1, h2, h3⟩ := hy.below hB2 (by omega))
  exact bodyPost_ret (v := .agg #[.slice A0 n0 c0, .int .i64 p, .slice (some ⟨g, 0, none⟩) (zs.length + 1) c, .int .i64 wt]) (by simp [results, Try.results42, go_sem, y0, y1, y2, y3]) rfl
    ⟨_, rfl, own_mono (base := w.heap.size + 1 + 1) (by rw [HMAP.out, List.length_append]; exact endW_own _ _ _ _ hown2) (by omega), endW_below _ _ _ _ (HB.out.trans (hB2.mono (by omega)))⟩
end Go.Proofs.Ytnophjkiecalpaa
