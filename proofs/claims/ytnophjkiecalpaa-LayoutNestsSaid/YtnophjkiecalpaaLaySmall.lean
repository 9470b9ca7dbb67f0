/- The small functions of the layer layout and of its reference: may, top, opened, closed, a token that nobody wrote. -/
import Derived.Test.YtnophjkiecalpaaLayBase
namespace Go.Proofs.Ytnophjkiecalpaa
open Go.RowKit

set_option maxHeartbeats 400000 in
theorem ltop_any (a b c' : Value) (A' : Option Addr) (zs : List Int) (n : Nat) (w : World) (hn : zs.length ≤ 1048576) (h : Ints w.heap.size w A' zs) :
    Calls Try.prog 45 #[.agg #[a, b, .slice A' zs.length n, c']] w fun e w' => e = .returned (.int .i64 (topOf zs)) ∧ Below w.heap.size w w' := by
  have hB : Below w.heap.size w (w.alloc (.cells #[a, b, .slice A' zs.length n, c'] 34)) := (Below.refl _ _).alloc (Nat.le_refl _) _
  by_cases h0 : zs.length = 0
  · obtain rfl := List.eq_nil_of_length_eq_zero h0
    clear h0 hn
    have ht : topOf [] = 0 := rfl
    have HT := Lib.hid ht
    have HB := Lib.hid hB
    clear ht hB h
    go_enter Try.func45, Try.ntmps45
    go_wp2
    go_ret
    exact ⟨ret_int HT.out.symm, HB.out⟩
  · have hpos : 0 < zs.length := by omega
    obtain ⟨b, o, rfl, hb, hc⟩ := (h.below hB) _ _ (topOf_at hpos)
    have h1 : (0 : Int) ≤ (zs.length : Int) - 1 := by omega
    have h2 : (zs.length : Int) - 1 < zs.length := by omega
    have h3 : ((zs.length : Int) - 1).toNat = zs.length - 1 := by omega
    have HB := Lib.hid hB
    clear hB h
    go_enter Try.func45, Try.ntmps45
    go_wp2
    go_ret
    exact ⟨rfl, HB.out⟩

set_option maxHeartbeats 400000 in
theorem rtop_any (a b c' : Value) (A' : Option Addr) (zs : List Int) (n : Nat) (w : World) (hn : zs.length ≤ 1048576) (h : Ints w.heap.size w A' zs) :
    Calls Try.prog 41 #[.agg #[a, b, .slice A' zs.length n, c']] w fun e w' => e = .returned (.int .i64 (topOf zs)) ∧ Below w.heap.size w w' := by
  have hB : Below w.heap.size w (w.alloc (.cells #[a, b, .slice A' zs.length n, c'] 34)) := (Below.refl _ _).alloc (Nat.le_refl _) _
  by_cases h0 : zs.length = 0
  · obtain rfl := List.eq_nil_of_length_eq_zero h0
    clear h0 hn
    have ht : topOf [] = 0 := rfl
    have HT := Lib.hid ht
    have HB := Lib.hid hB
    clear ht hB h
    go_enter Try.func41, Try.ntmps41
    go_wp2
    go_ret
    exact ⟨ret_int HT.out.symm, HB.out⟩
  · have hpos : 0 < zs.length := by omega
    have h0i : ((zs.length : Int) == 0) = false := by simpa using h0
    obtain ⟨b, o, rfl, hb, hc⟩ := (h.below hB) _ _ (topOf_at hpos)
    have h1 : (0 : Int) ≤ (zs.length : Int) - 1 := by omega
    have h2 : (zs.length : Int) - 1 < zs.length := by omega
    have h3 : ((zs.length : Int) - 1).toNat = zs.length - 1 := by omega
    have HB := Lib.hid hB
    clear hB h
    go_enter Try.func41, Try.ntmps41
    go_wp2
    go_ret
    exact ⟨rfl, HB.out⟩

set_option maxHeartbeats 400000 in
theorem unwritten_any (k : Int) (t : Tok) (w : World) :
    Calls Try.prog 53 #[.int .i64 k, .agg #[.int .i64 t.kind, .string t.text, .int .i64 t.line, .int .i64 t.col]] w fun e w' => e = .returned (.agg #[.int .i64 k, .string ⟨#[]⟩, .int .i64 t.line, .int .i64 t.col]) ∧ Below w.heap.size w w' := by
  go_enter Try.func53, Try.ntmps53
  go_wp2
  exact bodyPost_ret (v := .agg #[.int .i64 k, .string ⟨#[]⟩, .int .i64 t.line, .int .i64 t.col]) (by simp [results, Try.results53, go_sem]) rfl ⟨rfl, ((Below.refl _ _).alloc (Nat.le_refl _) _).alloc (by simp) _⟩

set_option maxHeartbeats 400000 in
theorem rat_any (k : Int) (t : Tok) (w : World) :
    Calls Try.prog 43 #[.int .i64 k, .agg #[.int .i64 t.kind, .string t.text, .int .i64 t.line, .int .i64 t.col]] w fun e w' => e = .returned (.agg #[.int .i64 k, .string ⟨#[]⟩, .int .i64 t.line, .int .i64 t.col]) ∧ Below w.heap.size w w' := by
  go_enter Try.func43, Try.ntmps43
  go_wp2
  exact bodyPost_ret (v := .agg #[.int .i64 k, .string ⟨#[]⟩, .int .i64 t.line, .int .i64 t.col]) (by simp [results, Try.results43, go_sem]) rfl ⟨rfl, ((Below.refl _ _).alloc (Nat.le_refl _) _).alloc (by simp) _⟩

set_option maxHeartbeats 400000 in
theorem clone_any (A : Option Addr) (zs : List Int) (c : Nat) (w : World) (hn : zs.length ≤ 1048576) (hc : A = none → c = 0) (h : Ints w.heap.size w A zs) :
    Calls Try.prog 55 #[.slice A zs.length c] w fun e w' => ∃ v, e = .returned v ∧ w'.ownsRow w.heap.size 3 1 v zs.length (zs.map (Value.int .i64)) ∧ Below w.heap.size w w' := by
  cases A with
  | none =>
    obtain rfl := h.none
    have := hc rfl
    subst this
    have hnil := fun w : World => Lib.run_eql_slice_nil (P := Try.prog) w 32 3 none 0 0 0 0 Try.underlying32
    go_enter Try.func55, Try.ntmps55
    go_wp2
    go_ret
    exact ⟨_, rfl, World.ownsRow_nil _ _ _ _, Below.refl _ _⟩
  | some ad =>
    have hB0 := (Below.refl w.heap.size w).alloc (Nat.le_refl _) (.cells #[] 3)
    have hO := World.ownsRow_made (base := w.heap.size) (e := 3) (size := 1) w #[] 0 (Nat.le_refl _) (by omega) rfl
    have hl : (zs.map (Value.int .i64)).length = zs.length * 1 := by simp
    have hcell : ∀ ad', some ad = some ad' → ∀ j u, (zs.map (Value.int .i64))[j]? = some u → (w.alloc (.cells #[] 3)).cell? (ad'.add j) = some u := by
      intro ad' e j u hu
      simp only [Option.some.injEq] at e
      subst e
      rw [List.getElem?_map] at hu
      obtain ⟨z, hz, rfl⟩ := Option.map_eq_some_iff.1 hu
      obtain ⟨b, o, e, hb, hcl⟩ := (h.below hB0) j z hz
      simp only [Option.some.injEq] at e
      subst e
      rw [show (⟨b, o, none⟩ : Addr).add j = ⟨b, o + j, none⟩ by unfold Addr.add; split <;> simp_all]
      exact hcl
    have HB0 := Lib.hid hB0
    have HO := Lib.hid hO
    have HL := Lib.hid hl
    have HC := Lib.hid hcell
    clear hB0 hO hl hcell h hc
    have hnil := fun w : World => Lib.run_eql_slice_nil (P := Try.prog) w 32 3 (some ad) zs.length c 0 0 Try.underlying32
    go_enter Try.func55, Try.ntmps55
    go_wp2_with (at_builtin; refine wpList_appm rfl _ _ 32 rfl 3 _ 1 8 Try.underlying32 info3 rfl (by decide) w.heap.size _ _ _ rfl HO.out (some ad) _ _ _ rfl HL.out (fun e => by simp at e) HC.out (by simp [Value.oneCell']) (by unfold maxLen; omega) (by omega) (by simp) ?_; intro v' w1 hown1 hB1)
    go_ret
    simp only [Nat.zero_add, List.nil_append] at hown1
    exact ⟨_, rfl, hown1, HB0.out.trans hB1⟩

/-- Four cells in a box of their own, each of which may be written. -/
structure Box4 (w : World) (b : Nat) (v0 v1 v2 v3 : Value) : Prop where
  c0 : w.cell? ⟨b, 0, none⟩ = some v0
  c1 : w.cell? ⟨b, 1, none⟩ = some v1
  c2 : w.cell? ⟨b, 2, none⟩ = some v2
  c3 : w.cell? ⟨b, 3, none⟩ = some v3
  f0 : w.frozen? ⟨b, 0, none⟩ = false
  f1 : w.frozen? ⟨b, 1, none⟩ = false
  f2 : w.frozen? ⟨b, 2, none⟩ = false
  f3 : w.frozen? ⟨b, 3, none⟩ = false
theorem Box4.new (w : World) (v0 v1 v2 v3 : Value) (T : TypeId) : Box4 (w.alloc (.cells #[v0, v1, v2, v3] T)) w.heap.size v0 v1 v2 v3 :=
  ⟨by simp, by simp, by simp, by simp, by simp, by simp, by simp, by simp⟩
theorem Box4.below {w w' : World} {b B : Nat} {v0 v1 v2 v3 : Value} (h : Box4 w b v0 v1 v2 v3) (hb : Below B w w') (hlt : b < B) : Box4 w' b v0 v1 v2 v3 :=
  ⟨(hb.cell (p := ⟨b, 0, none⟩) hlt).trans h.c0, (hb.cell (p := ⟨b, 1, none⟩) hlt).trans h.c1, (hb.cell (p := ⟨b, 2, none⟩) hlt).trans h.c2, (hb.cell (p := ⟨b, 3, none⟩) hlt).trans h.c3,
    (hb.frozen (p := ⟨b, 0, none⟩) hlt).trans h.f0, (hb.frozen (p := ⟨b, 1, none⟩) hlt).trans h.f1, (hb.frozen (p := ⟨b, 2, none⟩) hlt).trans h.f2, (hb.frozen (p := ⟨b, 3, none⟩) hlt).trans h.f3⟩
theorem Box4.alloc {w : World} {b : Nat} {v0 v1 v2 v3 : Value} (h : Box4 w b v0 v1 v2 v3) (o : Obj) (hlt : b < w.heap.size) : Box4 (w.alloc o) b v0 v1 v2 v3 :=
  h.below ((Below.refl w.heap.size w).alloc (Nat.le_refl _) o) hlt

/-- The numbers zs lie in a row of the call's own, in a block from base on. -/
def Fresh (base : Nat) (w : World) (v : Value) (zs : List Int) : Prop := w.ownsRow base 3 1 v zs.length (zs.map (Value.int .i64))
theorem Fresh.isInts {base : Nat} {w : World} {v : Value} {zs : List Int} (h : Fresh base w v zs) : IsInts w.heap.size w v zs := isInts_of_own h
theorem own_mono {w : World} {base base' : Nat} {e : TypeId} {size : Nat} {v : Value} {n : Nat} {xs : List Value} (h : w.ownsRow base e size v n xs) (hb : base' ≤ base) : w.ownsRow base' e size v n xs := by
  refine ⟨h.1, ?_⟩
  rcases h.2 with hn | ⟨g, cap, cur, rfl, hbb, rest⟩
  · exact .inl hn
  · exact .inr ⟨g, cap, cur, rfl, Nat.le_trans hb hbb, rest⟩

set_option maxHeartbeats 800000 in
theorem opened_any (A0 A : Option Addr) (n0 c0 : Nat) (p wt col : Int) (zs : List Int) (n : Nat) (w : World) (hn : zs.length ≤ 1000000) (hc : A = none → n = 0) (h : Ints w.heap.size w A zs) :
    Calls Try.prog 54 #[.agg #[.slice A0 n0 c0, .int .i64 p, .slice A zs.length n, .int .i64 wt], .int .i64 col] w fun e w' =>
      ∃ v, e = .returned (.agg #[.slice A0 n0 c0, .int .i64 p, v, .int .i64 wt]) ∧ Fresh w.heap.size w' v (zs ++ [col]) ∧ Below w.heap.size w w' := by
  have hbx := (Box4.new w (.slice A0 n0 c0) (.int .i64 p) (.slice A zs.length n) (.int .i64 wt) 34).alloc (.cells #[.slice none 0 0, .int .i64 0, .slice none 0 0, .int .i64 0] 34) (by simp)
  have hby := Box4.new (w.alloc (.cells #[.slice A0 n0 c0, .int .i64 p, .slice A zs.length n, .int .i64 wt] 34)) (.slice none 0 0) (.int .i64 0) (.slice none 0 0) (.int .i64 0) 34
  have hB0 : Below w.heap.size w ((w.alloc (.cells #[.slice A0 n0 c0, .int .i64 p, .slice A zs.length n, .int .i64 wt] 34)).alloc (.cells #[.slice none 0 0, .int .i64 0, .slice none 0 0, .int .i64 0] 34)) :=
    ((Below.refl _ _).alloc (Nat.le_refl _) _).alloc (by simp) _
  have HI := Lib.hid ((h.below hB0).mono hB0.size)
  have HB0 := Lib.hid hB0
  have HC := Lib.hid hc
  have HX := Lib.hid hbx
  have HY := Lib.hid hby
  clear h hB0 hc hbx hby
  go_enter Try.func54, Try.ntmps54
  go_wp2_with fail
  refine (clone_any A zs n _ (by omega) HC.out HI.out).mono ?_
  rintro e w1 ⟨v, rfl, hown, hb⟩
  have hbx := HX.out.below hb (by simp; omega)
  have hby := HY.out.below hb (by simp)
  have hz := hb.size
  simp only [World.size_alloc] at hown hb hby hz
  have HB := Lib.hid hb
  clear hb
  have hzl : (zs.map (Value.int .i64)).length = zs.length := List.length_map _
  go_wp2_with (at_builtin; refine wpList_app1 rfl _ _ 32 rfl 3 _ 1 8 Try.underlying32 info3 rfl (by decide) w1 [.int .i64 col] rfl _ rfl (w.heap.size + 1 + 1) _ _ _ rfl hown rfl rfl (by simp [Value.oneCell']) (by unfold maxLen; omega) (by omega) hz ?_; intro g c w2 hown2 hB2 _ _; obtain ⟨x0, x1, x2, x3, g0, g1, g2, g3⟩ := hbx.below hB2 (by omega); obtain ⟨y0, y1, y2, y3, h0, h1, h2, h3⟩ := hby.below hB2 (by omega))
  have ho5 := ownsRow_setCell_below (ownsRow_setCell_below (ownsRow_setCell_below (ownsRow_setCell_below (ownsRow_setCell_below hown2 (a := ⟨w.heap.size, 2, none⟩) (by simp; omega) (.slice (some ⟨g, 0, none⟩) (zs.length + 1) c)) (a := ⟨w.heap.size + 1, 0, none⟩) (by simp) (.slice A0 n0 c0)) (a := ⟨w.heap.size + 1, 1, none⟩) (by simp) (.int .i64 p)) (a := ⟨w.heap.size + 1, 2, none⟩) (by simp) (.slice (some ⟨g, 0, none⟩) (zs.length + 1) c)) (a := ⟨w.heap.size + 1, 3, none⟩) (by simp) (.int .i64 wt)
  have hb5 := (((((HB0.out.trans (HB.out.mono (by omega))).trans (hB2.mono (by omega))).setCell (p := ⟨w.heap.size, 2, none⟩) (by simp) (.slice (some ⟨g, 0, none⟩) (zs.length + 1) c)).setCell (p := ⟨w.heap.size + 1, 0, none⟩) (by simp) (.slice A0 n0 c0)).setCell (p := ⟨w.heap.size + 1, 1, none⟩) (by simp) (.int .i64 p)).setCell (p := ⟨w.heap.size + 1, 2, none⟩) (by simp) (.slice (some ⟨g, 0, none⟩) (zs.length + 1) c)
  exact bodyPost_ret (v := .agg #[.slice A0 n0 c0, .int .i64 p, .slice (some ⟨g, 0, none⟩) (zs.length + 1) c, .int .i64 wt]) (by simp [results, Try.results54, go_sem, y0, y1, y2, y3]) rfl
    ⟨_, rfl, own_mono (base := w.heap.size + 1 + 1) (by simpa using ho5) (by omega), hb5.setCell (by simp) _⟩
end Go.Proofs.Ytnophjkiecalpaa
