/- States of the layout as plain data; what a slice of numbers holds; a row appended whole. -/
import Derived.Test.YtnophjkiecalpaaMarkC
import Derived.Laws.AppendOwnNone
namespace Go.Proofs.Ytnophjkiecalpaa
open Go.RowKit

/-- From address A on lie the numbers zs, in a block below n₀. -/
def Ints (n₀ : Nat) (w : World) (A : Option Addr) (zs : List Int) : Prop :=
  ∀ k z, zs[k]? = some z → ∃ b o, A = some ⟨b, o, none⟩ ∧ b < n₀ ∧ w.cell? ⟨b, o + k, none⟩ = some (.int .i64 z)
/-- The value v is a slice that holds the numbers zs. -/
def IsInts (n₀ : Nat) (w : World) (v : Value) (zs : List Int) : Prop := ∃ A c, v = .slice A zs.length c ∧ zs.length ≤ c ∧ (A = none → c = 0) ∧ Ints n₀ w A zs
section
variable {w w' : World} {A : Option Addr} {zs : List Int} {B B' : Nat} {v : Value}
theorem Ints.below (h : Ints B w A zs) (hb : Below B w w') : Ints B w' A zs := fun k z hk => by
  obtain ⟨b, o, e, hlt, hc⟩ := h k z hk
  exact ⟨b, o, e, hlt, (hb.cell (p := ⟨b, o + k, none⟩) hlt).trans hc⟩
theorem Ints.mono (h : Ints B w A zs) (hB : B ≤ B') : Ints B' w A zs := fun k z hk => by
  obtain ⟨b, o, e, hlt, hc⟩ := h k z hk
  exact ⟨b, o, e, by omega, hc⟩
theorem Ints.take (h : Ints B w A zs) (n : Nat) : Ints B w A (zs.take n) := fun k z hk => by
  have hkn : k < n := by have := (List.getElem?_eq_some_iff.1 hk).1; rw [List.length_take] at this; omega
  rw [List.getElem?_take_of_lt hkn] at hk
  exact h k z hk
theorem Ints.nil : Ints B w A [] := fun k z hk => by simp at hk
theorem Ints.none (h : Ints B w none zs) : zs = [] := by
  cases zs with
  | nil => rfl
  | cons z zs => obtain ⟨b, o, e, _⟩ := h 0 z rfl; cases e
theorem IsInts.below (h : IsInts B w v zs) (hb : Below B w w') : IsInts B w' v zs := by
  obtain ⟨A, c, e, h1, h2, h3⟩ := h
  exact ⟨A, c, e, h1, h2, h3.below hb⟩
theorem IsInts.mono (h : IsInts B w v zs) (hB : B ≤ B') : IsInts B' w v zs := by
  obtain ⟨A, c, e, h1, h2, h3⟩ := h
  exact ⟨A, c, e, h1, h2, h3.mono hB⟩
theorem IsInts.nil : IsInts B w (.slice none 0 0) [] := ⟨none, 0, rfl, Nat.le_refl _, fun _ => rfl, Ints.nil⟩
theorem IsInts.put (h : IsInts B w v zs) (b : Nat) (hb : B ≤ b) (o : Nat) (x : Value) : IsInts B (w.setCell ⟨b, o, .none⟩ x) v zs := by
  obtain ⟨A, c, e, h1, h2, h3⟩ := h
  refine ⟨A, c, e, h1, h2, fun k z hk => ?_⟩
  obtain ⟨b', o', e', hlt, hc⟩ := h3 k z hk
  exact ⟨b', o', e', hlt, by rw [World.cell?_setCell_other]; exact hc; intro e; simp at e⟩
end

theorem isInts_of_own {w : World} {base : Nat} {e : TypeId} {v : Value} {zs : List Int} (h : w.ownsRow base e 1 v zs.length (zs.map (Value.int .i64))) : IsInts w.heap.size w v zs := by
  rcases h.2 with ⟨rfl, hn⟩ | ⟨g, cap, cur, rfl, _, hg, hc, _⟩
  · obtain rfl : zs = [] := List.eq_nil_of_length_eq_zero hn
    exact IsInts.nil
  · refine ⟨_, _, rfl, hc, fun e => by simp at e, fun k z hk => ⟨g, 0, rfl, (Array.getElem?_eq_some_iff.1 hg).1, ?_⟩⟩
    have h3 := h.cells (g := g) rfl k (.int .i64 z) (by simp [hk])
    have hadd : (⟨g, 0, none⟩ : Addr).add k = ⟨g, 0 + k, none⟩ := by unfold Addr.add; split <;> simp_all
    rwa [hadd] at h3

section
variable {P : Program}
/-- append of a slice onto a row of the call's own: the source may be nil. -/
theorem wpList_appm {ops : Array Oper} {rest : List Oper} {o : Oper} {a : Act} {w : World} {Q : Exit → Act → World → Prop} (hgd : o.guard = none) (s x : Operand) (t : TypeId)
    (ho : o.op = .call { callee := .builtin .append, args := #[s, x], argTypes := #[t, t] })
    (e : TypeId) (z : Value) (size bytes : Nat) (ht : P.underlying t = some (.slice e)) (hinfo : (P.info? e).map (fun i => (i.zero, i.size, i.bytes)) = some (some z, size, bytes)) (hzs : z.cells.size = size) (hsz : 0 < size)
    (B : Nat) (v : Value) (n : Nat) (xs : List Value) (hs : a.eval s = v) (hown : w.ownsRow B e size v n xs) (ao : Option Addr) (m c : Nat) (news : List Value) (hx : a.eval x = .slice ao m c)
    (hl : news.length = m * size) (hnone : ao = none → m = 0 ∧ c = 0) (hc : ∀ ad, ao = some ad → ∀ j u, news[j]? = some u → w.cell? (ad.add j) = some u) (h1 : ∀ u ∈ news, u.oneCell' = true)
    (h63 : n + m ≤ maxLen) (hbytes : (n + m) * bytes ≤ 140737488355328) (hB : B ≤ w.heap.size)
    (h : ∀ v' w', w'.ownsRow B e size v' (n + m) (xs ++ news) → Below B w w' → wpList P ops Q rest (a.put o.dst v') w') : wpList P ops Q (o :: rest) a w := by
  obtain ⟨i0, hi, hz0, hz1, hz2⟩ := info_parts hinfo
  cases ao with
  | none =>
    obtain ⟨rfl, rfl⟩ := hnone rfl
    have hnews : news = [] := List.eq_nil_of_length_eq_zero (by simpa using hl)
    subst hnews
    exact wpList_append_own_none hgd s x t ho B e i0 size ht hi v n xs hs hown hx (h _ _ (by simpa using hown) (Below.refl _ _))
  | some ad =>
    exact wpList_append_own w hgd s x t ho B e i0 z size bytes ht hi hz0 hz1 hz2 hzs hsz v n xs hs hown ad m c news hx hl (hc ad rfl) h1 h63 hbytes hB
      (fun v' w' h2 h3 _ => h v' w' h2 ((Below.refl B w).grown h3 hB (fun k hk => (hown.lt k hk).1)))
end

/-- A state as plain data. -/
structure LSt where
  toks : List Tok
  pos : Int
  opens : List Int
  wait : Int

/-- The innermost block's column. -/
def topOf (zs : List Int) : Int := zs.getLast?.getD 0
theorem topOf_nil : topOf [] = 0 := rfl
theorem topOf_at {zs : List Int} (h : 0 < zs.length) : zs[zs.length - 1]? = some (topOf zs) := by
  unfold topOf
  rw [List.getLast?_eq_getElem?, List.getElem?_eq_getElem (by omega)]
  rfl
theorem topOf_snoc (zs : List Int) (z : Int) : topOf (zs ++ [z]) = z := by simp [topOf]

/-- May a state be? -/
def LSt.may (s : LSt) : Bool :=
  decide (0 ≤ s.pos) && decide (s.pos ≤ s.toks.length) && decide (0 ≤ s.wait) && decide (s.wait ≤ 2) &&
    (decide (s.wait ≤ 0) || (decide (s.pos < s.toks.length) && (tk s.toks s.pos.toNat).kind == 16)) && s.opens.all (fun z => decide (0 ≤ z))
end Go.Proofs.Ytnophjkiecalpaa
