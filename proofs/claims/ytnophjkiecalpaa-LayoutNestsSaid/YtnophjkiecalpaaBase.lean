/- What a slice of tokens holds, said of cells: plain data and the predicates over the memory; no statement is proved here. -/
import Derived.Test.YtnophjkiecalpaaRows
import Derived.WalkKit
import Derived.WalkSpells
import Derived.WalkLawsBesides
import Derived.Deep.QuietTactic
import Derived.Deep.RegionHeld3
import Derived.BigQuiet
import Derived.Outline
import Derived.Lib.Hide
import Derived.RangeFuncBox
import Derived.Maps.AppendAt
namespace Go.Proofs.Ytnophjkiecalpaa
open Go.RowKit

/-- A token as plain data. -/
structure Tok where
  kind : Int
  text : ByteArray
  line : Int
  col : Int

def Tok.val (t : Tok) : Value := .agg #[.int .i64 t.kind, .string t.text, .int .i64 t.line, .int .i64 t.col]
def Tok.cells (t : Tok) : List Value := [.int .i64 t.kind, .string t.text, .int .i64 t.line, .int .i64 t.col]

theorem Tok.ext_ {a b : Tok} (h1 : a.kind = b.kind) (h2 : a.text = b.text) (h3 : a.line = b.line) (h4 : a.col = b.col) : a = b := by
  cases a; cases b; simp_all

/-- Token t lies in the four cells from o on. -/
structure TokAt (w : World) (b o : Nat) (t : Tok) : Prop where
  kind : w.cell? ⟨b, o, none⟩ = some (.int .i64 t.kind)
  text : w.cell? ⟨b, o + 1, none⟩ = some (.string t.text)
  line : w.cell? ⟨b, o + 2, none⟩ = some (.int .i64 t.line)
  col : w.cell? ⟨b, o + 3, none⟩ = some (.int .i64 t.col)

/-- From address A on lie the tokens l, in a block below n₀. -/
def Toks (n₀ : Nat) (w : World) (A : Option Addr) (l : List Tok) : Prop :=
  ∀ k t, l[k]? = some t → ∃ b o, A = some ⟨b, o, none⟩ ∧ b < n₀ ∧ TokAt w b (o + k * 4) t

/-- The value v is a slice that holds the tokens l. -/
def IsToks (n₀ : Nat) (w : World) (v : Value) (l : List Tok) : Prop := ∃ A c, v = .slice A l.length c ∧ Toks n₀ w A l

section
variable {w w' : World} {A : Option Addr} {l : List Tok} {B B' : Nat} {v : Value}
theorem TokAt.below {b o : Nat} {t : Tok} (h : TokAt w b o t) (hb : Below B w w') (hlt : b < B) : TokAt w' b o t :=
  ⟨(hb.cell (p := ⟨b, o, none⟩) hlt).trans h.kind, (hb.cell (p := ⟨b, o + 1, none⟩) hlt).trans h.text, (hb.cell (p := ⟨b, o + 2, none⟩) hlt).trans h.line, (hb.cell (p := ⟨b, o + 3, none⟩) hlt).trans h.col⟩
theorem Toks.below (h : Toks B w A l) (hb : Below B w w') : Toks B w' A l := fun k t hk => by
  obtain ⟨b, o, e, hlt, ht⟩ := h k t hk
  exact ⟨b, o, e, hlt, ht.below hb hlt⟩
theorem Toks.mono (h : Toks B w A l) (hB : B ≤ B') : Toks B' w A l := fun k t hk => by
  obtain ⟨b, o, e, hlt, ht⟩ := h k t hk
  exact ⟨b, o, e, by omega, ht⟩
theorem Toks.nil : Toks B w A [] := fun k t hk => by simp at hk
theorem IsToks.below (h : IsToks B w v l) (hb : Below B w w') : IsToks B w' v l := by
  obtain ⟨A, c, e, ht⟩ := h
  exact ⟨A, c, e, ht.below hb⟩
theorem IsToks.mono (h : IsToks B w v l) (hB : B ≤ B') : IsToks B' w v l := by
  obtain ⟨A, c, e, ht⟩ := h
  exact ⟨A, c, e, ht.mono hB⟩
/-- Below the heap's size as it was, and what is new lies below the heap's new size. -/
theorem Below.toks (hb : Below w.heap.size w w') (h : Toks w.heap.size w A l) : Toks w'.heap.size w' A l := (h.below hb).mono hb.size
theorem Below.isToks (hb : Below w.heap.size w w') (h : IsToks w.heap.size w v l) : IsToks w'.heap.size w' v l := (h.below hb).mono hb.size
end

/-- The cells of the tokens l, one behind the other. -/
def flat (l : List Tok) : List Value := l.flatMap Tok.cells
theorem flat_length (l : List Tok) : (flat l).length = l.length * 4 := by
  induction l with
  | nil => rfl
  | cons t l ih => simp only [flat, List.flatMap_cons, List.length_append, List.length_cons] at *; simp only [Tok.cells, List.length_cons, List.length_nil]; omega
theorem flat_snoc (l : List Tok) (t : Tok) : flat (l ++ [t]) = flat l ++ t.cells := by simp [flat]
theorem flat_get (l : List Tok) : ∀ (k : Nat) (t : Tok), l[k]? = some t → ∀ j, j < 4 → (flat l)[k * 4 + j]? = t.cells[j]? := by
  induction l with
  | nil => intro k t h; simp at h
  | cons u l ih =>
    intro k t h j hj
    cases k with
    | zero =>
      simp only [List.getElem?_cons_zero, Option.some.injEq] at h
      subst h
      simp only [flat, List.flatMap_cons, Nat.zero_mul, Nat.zero_add]
      rw [List.getElem?_append_left (by simpa [Tok.cells] using hj)]
    | succ k =>
      simp only [List.getElem?_cons_succ] at h
      have := ih k t h j hj
      simp only [flat, List.flatMap_cons] at this ⊢
      rw [List.getElem?_append_right (by simp [Tok.cells]; omega)]
      rw [show (k + 1) * 4 + j - (Tok.cells u).length = k * 4 + j from by simp [Tok.cells]; omega]
      exact this

theorem isToks_of_own {w : World} {base : Nat} {e : TypeId} {v : Value} {l : List Tok} (h : w.ownsRow base e 4 v l.length (flat l)) : IsToks w.heap.size w v l := by
  rcases h.2 with ⟨rfl, hn⟩ | ⟨g, cap, cur, rfl, _, hg, _⟩
  · have : l = [] := List.eq_nil_of_length_eq_zero hn
    subst this
    exact ⟨none, 0, rfl, Toks.nil⟩
  · refine ⟨_, _, rfl, fun k t hk => ⟨g, 0, rfl, (Array.getElem?_eq_some_iff.1 hg).1, ?_⟩⟩
    have hc : ∀ j, j < 4 → w.cell? ⟨g, k * 4 + j, none⟩ = t.cells[j]? := fun j hj => by
      have h1 := flat_get l k t hk j hj
      have h2 : j < t.cells.length := by simpa [Tok.cells] using hj
      rw [List.getElem?_eq_getElem h2] at h1 ⊢
      have h3 := h.cells (g := g) rfl _ _ h1
      have hadd : (⟨g, 0, none⟩ : Addr).add (k * 4 + j) = ⟨g, k * 4 + j, none⟩ := by unfold Addr.add; split <;> simp_all
      rwa [hadd] at h3
    simp only [Nat.zero_add]
    exact ⟨hc 0 (by omega), hc 1 (by omega), hc 2 (by omega), hc 3 (by omega)⟩

/-- Two tokens, held against one another by Go's '=='. -/
def eqTok (k : Int) (s : ByteArray) (l c k' : Int) (s' : ByteArray) (l' c' : Int) : Bool := k == k' && s.toList == s'.toList && l == l' && c == c'

@[go_sem ↓ high] theorem run_neq_tok (k : Int) (s : ByteArray) (l c k' : Int) (s' : ByteArray) (l' c' : Int) (w : World) : (binOp .neq 23 (.agg #[.int .i64 k, .string s, .int .i64 l, .int .i64 c]) (.agg #[.int .i64 k', .string s', .int .i64 l', .int .i64 c'])).run Try.prog w = .ok (.bool !(eqTok k s l c k' s' l' c')) w := by
  simp [go_sem]
  by_cases h1 : k = k' <;> by_cases h2 : s.toList = s'.toList <;> by_cases h3 : l = l' <;> by_cases h4 : c = c' <;> simp [h1, h2, h3, h4, eqTok]
@[go_sem ↓ high] theorem run_eql_tok (k : Int) (s : ByteArray) (l c k' : Int) (s' : ByteArray) (l' c' : Int) (w : World) : (binOp .eql 23 (.agg #[.int .i64 k, .string s, .int .i64 l, .int .i64 c]) (.agg #[.int .i64 k', .string s', .int .i64 l', .int .i64 c'])).run Try.prog w = .ok (.bool (eqTok k s l c k' s' l' c')) w := by
  simp [go_sem]
  by_cases h1 : k = k' <;> by_cases h2 : s.toList = s'.toList <;> by_cases h3 : l = l' <;> by_cases h4 : c = c' <;> simp [h1, h2, h3, h4, eqTok]
@[go_sem] theorem eqTok_self (k : Int) (s : ByteArray) (l c : Int) : eqTok k s l c k s l c = true := by simp [eqTok]

theorem below_drewN {B : Nat} {a w : World} (h : Below B a w) (n : Nat) : Below B a (w.drewN n) := ⟨h.os, h.tape, h.output, h.size, h.block⟩

theorem info23 : (Try.prog.info? 23).map (fun i => (i.zero, i.size, i.bytes)) = some (some (.agg #[.int .i64 0, .string .empty, .int .i64 0, .int .i64 0]), 4, 40) := by kernel_rfl
theorem info9 : (Try.prog.info? 9).map (fun i => (i.zero, i.size, i.bytes)) = some (some (.string .empty), 1, 16) := by kernel_rfl
theorem info3 : (Try.prog.info? 3).map (fun i => (i.zero, i.size, i.bytes)) = some (some (.int .i64 0), 1, 8) := by kernel_rfl

theorem ret_int {k : IntKind} {a b : Int} (h : a = b) : Ending.returned (.int k a) = .returned (.int k b) := by rw [h]
theorem ret_bool {a b : Bool} (h : a = b) : Ending.returned (.bool a) = .returned (.bool b) := by rw [h]

/-! What a region's cells hold behind a callee that has turned nothing of what was there. -/
theorem held1 {w0 wx w1 : World} {a0 : Addr} {u0 : Value} (h : wx.cell? a0 = some u0 ∧ Below w0.heap.size w0 wx) (hb : Below wx.heap.size wx w1) (l0 : a0.block < w0.heap.size) : w1.cell? a0 = some u0 ∧ Below w0.heap.size w0 w1 := by
  obtain ⟨h0, q⟩ := h
  exact ⟨(hb.cell (Nat.lt_of_lt_of_le l0 q.size)).trans h0, q.trans (hb.mono q.size)⟩
theorem held2 {w0 wx w1 : World} {a0 a1 : Addr} {u0 u1 : Value} (h : wx.cell? a0 = some u0 ∧ wx.cell? a1 = some u1 ∧ Below w0.heap.size w0 wx) (hb : Below wx.heap.size wx w1) (l0 : a0.block < w0.heap.size) (l1 : a1.block < w0.heap.size) : w1.cell? a0 = some u0 ∧ w1.cell? a1 = some u1 ∧ Below w0.heap.size w0 w1 := by
  obtain ⟨h0, h1, q⟩ := h
  exact ⟨(hb.cell (Nat.lt_of_lt_of_le l0 q.size)).trans h0, (hb.cell (Nat.lt_of_lt_of_le l1 q.size)).trans h1, q.trans (hb.mono q.size)⟩
theorem held3 {w0 wx w1 : World} {a0 a1 a2 : Addr} {u0 u1 u2 : Value} (h : wx.cell? a0 = some u0 ∧ wx.cell? a1 = some u1 ∧ wx.cell? a2 = some u2 ∧ Below w0.heap.size w0 wx) (hb : Below wx.heap.size wx w1) (l0 : a0.block < w0.heap.size) (l1 : a1.block < w0.heap.size) (l2 : a2.block < w0.heap.size) : w1.cell? a0 = some u0 ∧ w1.cell? a1 = some u1 ∧ w1.cell? a2 = some u2 ∧ Below w0.heap.size w0 w1 := by
  obtain ⟨h0, h1, h2, q⟩ := h
  exact ⟨(hb.cell (Nat.lt_of_lt_of_le l0 q.size)).trans h0, (hb.cell (Nat.lt_of_lt_of_le l1 q.size)).trans h1, (hb.cell (Nat.lt_of_lt_of_le l2 q.size)).trans h2, q.trans (hb.mono q.size)⟩
theorem held4 {w0 wx w1 : World} {a0 a1 a2 a3 : Addr} {u0 u1 u2 u3 : Value} (h : wx.cell? a0 = some u0 ∧ wx.cell? a1 = some u1 ∧ wx.cell? a2 = some u2 ∧ wx.cell? a3 = some u3 ∧ Below w0.heap.size w0 wx) (hb : Below wx.heap.size wx w1) (l0 : a0.block < w0.heap.size) (l1 : a1.block < w0.heap.size) (l2 : a2.block < w0.heap.size) (l3 : a3.block < w0.heap.size) : w1.cell? a0 = some u0 ∧ w1.cell? a1 = some u1 ∧ w1.cell? a2 = some u2 ∧ w1.cell? a3 = some u3 ∧ Below w0.heap.size w0 w1 := by
  obtain ⟨h0, h1, h2, h3, q⟩ := h
  exact ⟨(hb.cell (Nat.lt_of_lt_of_le l0 q.size)).trans h0, (hb.cell (Nat.lt_of_lt_of_le l1 q.size)).trans h1, (hb.cell (Nat.lt_of_lt_of_le l2 q.size)).trans h2, (hb.cell (Nat.lt_of_lt_of_le l3 q.size)).trans h3, q.trans (hb.mono q.size)⟩
theorem held5 {w0 wx w1 : World} {a0 a1 a2 a3 a4 : Addr} {u0 u1 u2 u3 u4 : Value} (h : wx.cell? a0 = some u0 ∧ wx.cell? a1 = some u1 ∧ wx.cell? a2 = some u2 ∧ wx.cell? a3 = some u3 ∧ wx.cell? a4 = some u4 ∧ Below w0.heap.size w0 wx) (hb : Below wx.heap.size wx w1) (l0 : a0.block < w0.heap.size) (l1 : a1.block < w0.heap.size) (l2 : a2.block < w0.heap.size) (l3 : a3.block < w0.heap.size) (l4 : a4.block < w0.heap.size) : w1.cell? a0 = some u0 ∧ w1.cell? a1 = some u1 ∧ w1.cell? a2 = some u2 ∧ w1.cell? a3 = some u3 ∧ w1.cell? a4 = some u4 ∧ Below w0.heap.size w0 w1 := by
  obtain ⟨h0, h1, h2, h3, h4, q⟩ := h
  exact ⟨(hb.cell (Nat.lt_of_lt_of_le l0 q.size)).trans h0, (hb.cell (Nat.lt_of_lt_of_le l1 q.size)).trans h1, (hb.cell (Nat.lt_of_lt_of_le l2 q.size)).trans h2, (hb.cell (Nat.lt_of_lt_of_le l3 q.size)).trans h3, (hb.cell (Nat.lt_of_lt_of_le l4 q.size)).trans h4, q.trans (hb.mono q.size)⟩
theorem held6 {w0 wx w1 : World} {a0 a1 a2 a3 a4 a5 : Addr} {u0 u1 u2 u3 u4 u5 : Value} (h : wx.cell? a0 = some u0 ∧ wx.cell? a1 = some u1 ∧ wx.cell? a2 = some u2 ∧ wx.cell? a3 = some u3 ∧ wx.cell? a4 = some u4 ∧ wx.cell? a5 = some u5 ∧ Below w0.heap.size w0 wx) (hb : Below wx.heap.size wx w1) (l0 : a0.block < w0.heap.size) (l1 : a1.block < w0.heap.size) (l2 : a2.block < w0.heap.size) (l3 : a3.block < w0.heap.size) (l4 : a4.block < w0.heap.size) (l5 : a5.block < w0.heap.size) : w1.cell? a0 = some u0 ∧ w1.cell? a1 = some u1 ∧ w1.cell? a2 = some u2 ∧ w1.cell? a3 = some u3 ∧ w1.cell? a4 = some u4 ∧ w1.cell? a5 = some u5 ∧ Below w0.heap.size w0 w1 := by
  obtain ⟨h0, h1, h2, h3, h4, h5, q⟩ := h
  exact ⟨(hb.cell (Nat.lt_of_lt_of_le l0 q.size)).trans h0, (hb.cell (Nat.lt_of_lt_of_le l1 q.size)).trans h1, (hb.cell (Nat.lt_of_lt_of_le l2 q.size)).trans h2, (hb.cell (Nat.lt_of_lt_of_le l3 q.size)).trans h3, (hb.cell (Nat.lt_of_lt_of_le l4 q.size)).trans h4, (hb.cell (Nat.lt_of_lt_of_le l5 q.size)).trans h5, q.trans (hb.mono q.size)⟩
theorem held7 {w0 wx w1 : World} {a0 a1 a2 a3 a4 a5 a6 : Addr} {u0 u1 u2 u3 u4 u5 u6 : Value} (h : wx.cell? a0 = some u0 ∧ wx.cell? a1 = some u1 ∧ wx.cell? a2 = some u2 ∧ wx.cell? a3 = some u3 ∧ wx.cell? a4 = some u4 ∧ wx.cell? a5 = some u5 ∧ wx.cell? a6 = some u6 ∧ Below w0.heap.size w0 wx) (hb : Below wx.heap.size wx w1) (l0 : a0.block < w0.heap.size) (l1 : a1.block < w0.heap.size) (l2 : a2.block < w0.heap.size) (l3 : a3.block < w0.heap.size) (l4 : a4.block < w0.heap.size) (l5 : a5.block < w0.heap.size) (l6 : a6.block < w0.heap.size) : w1.cell? a0 = some u0 ∧ w1.cell? a1 = some u1 ∧ w1.cell? a2 = some u2 ∧ w1.cell? a3 = some u3 ∧ w1.cell? a4 = some u4 ∧ w1.cell? a5 = some u5 ∧ w1.cell? a6 = some u6 ∧ Below w0.heap.size w0 w1 := by
  obtain ⟨h0, h1, h2, h3, h4, h5, h6, q⟩ := h
  exact ⟨(hb.cell (Nat.lt_of_lt_of_le l0 q.size)).trans h0, (hb.cell (Nat.lt_of_lt_of_le l1 q.size)).trans h1, (hb.cell (Nat.lt_of_lt_of_le l2 q.size)).trans h2, (hb.cell (Nat.lt_of_lt_of_le l3 q.size)).trans h3, (hb.cell (Nat.lt_of_lt_of_le l4 q.size)).trans h4, (hb.cell (Nat.lt_of_lt_of_le l5 q.size)).trans h5, (hb.cell (Nat.lt_of_lt_of_le l6 q.size)).trans h6, q.trans (hb.mono q.size)⟩
theorem held8 {w0 wx w1 : World} {a0 a1 a2 a3 a4 a5 a6 a7 : Addr} {u0 u1 u2 u3 u4 u5 u6 u7 : Value} (h : wx.cell? a0 = some u0 ∧ wx.cell? a1 = some u1 ∧ wx.cell? a2 = some u2 ∧ wx.cell? a3 = some u3 ∧ wx.cell? a4 = some u4 ∧ wx.cell? a5 = some u5 ∧ wx.cell? a6 = some u6 ∧ wx.cell? a7 = some u7 ∧ Below w0.heap.size w0 wx) (hb : Below wx.heap.size wx w1) (l0 : a0.block < w0.heap.size) (l1 : a1.block < w0.heap.size) (l2 : a2.block < w0.heap.size) (l3 : a3.block < w0.heap.size) (l4 : a4.block < w0.heap.size) (l5 : a5.block < w0.heap.size) (l6 : a6.block < w0.heap.size) (l7 : a7.block < w0.heap.size) : w1.cell? a0 = some u0 ∧ w1.cell? a1 = some u1 ∧ w1.cell? a2 = some u2 ∧ w1.cell? a3 = some u3 ∧ w1.cell? a4 = some u4 ∧ w1.cell? a5 = some u5 ∧ w1.cell? a6 = some u6 ∧ w1.cell? a7 = some u7 ∧ Below w0.heap.size w0 w1 := by
  obtain ⟨h0, h1, h2, h3, h4, h5, h6, h7, q⟩ := h
  exact ⟨(hb.cell (Nat.lt_of_lt_of_le l0 q.size)).trans h0, (hb.cell (Nat.lt_of_lt_of_le l1 q.size)).trans h1, (hb.cell (Nat.lt_of_lt_of_le l2 q.size)).trans h2, (hb.cell (Nat.lt_of_lt_of_le l3 q.size)).trans h3, (hb.cell (Nat.lt_of_lt_of_le l4 q.size)).trans h4, (hb.cell (Nat.lt_of_lt_of_le l5 q.size)).trans h5, (hb.cell (Nat.lt_of_lt_of_le l6 q.size)).trans h6, (hb.cell (Nat.lt_of_lt_of_le l7 q.size)).trans h7, q.trans (hb.mono q.size)⟩

section
variable {P : Program}
/-- append of one element that the statement itself has just built, onto a row of the call's own: the element's cells lie in the newest block. -/
theorem wp_app1 {o : Oper} {a : Act} {W : World} {K : Act → World → Prop} {Q : Exit → Act → World → Prop} (s x : Operand) (t : TypeId)
    (ho : o.op = .call { callee := .builtin .append, args := #[s, x], argTypes := #[t, t] })
    (e : TypeId) (z : Value) (size bytes : Nat) (ht : P.underlying t = some (.slice e)) (hinfo : (P.info? e).map (fun i => (i.zero, i.size, i.bytes)) = some (some z, size, bytes)) (hzs : z.cells.size = size) (hsz : 0 < size)
    (wr : World) (news : List Value) (hW : W = wr.alloc (.cells news.toArray e)) (G : Nat) (hG : G = wr.heap.size) (B : Nat) (out : Value) (n : Nat) (xs : List Value) (hs : a.eval s = out) (hown : wr.ownsRow B e size out n xs) (hx : a.eval x = .slice (some ⟨G, 0, none⟩) 1 1)
    (hl : news.length = size) (h1 : ∀ u ∈ news, u.oneCell' = true) (h63 : n + 1 ≤ maxLen) (hbytes : (n + 1) * bytes ≤ 140737488355328) (hB : B ≤ wr.heap.size)
    (h : ∀ g c w', w'.ownsRow B e size (.slice (some ⟨g, 0, none⟩) (n + 1) c) (n + 1) (xs ++ news) → Below B wr w' → wr.grownBy w' out.ownBlock → (∀ k, some k ≠ out.ownBlock → k < wr.heap.size → k ≠ g) → K (a.put o.dst (.slice (some ⟨g, 0, none⟩) (n + 1) c)) w') :
    o.wp P a W K Q := by
  subst hW
  subst hG
  obtain ⟨i0, hi, hz0, hz1, hz2⟩ := info_parts hinfo
  obtain ⟨v', w', hr, hown', hgrow, _, hat⟩ := run_append_own_at (P := P) (wr.alloc (.cells news.toArray e)) B t o.type e i0 z size bytes ht hi hz0 hz1 hz2 hzs hsz out n xs (hown.alloc _) ⟨wr.heap.size, 0, none⟩ 1 1 news (by omega) (fun j u hu => by
    have hadd : (⟨wr.heap.size, 0, none⟩ : Addr).add j = ⟨wr.heap.size, j, none⟩ := by unfold Addr.add; split <;> simp_all
    rw [hadd, World.cell?_alloc_new]
    simpa using hu) h1 h63 hbytes (by simp; omega)
  obtain ⟨g', cap', rfl⟩ := ownsRow_succ hown'
  have hg2 : wr.grownBy w' out.ownBlock := ⟨hgrow.os, hgrow.tape, hgrow.output, Nat.le_trans (by simp) hgrow.size, fun k hk hne => (hgrow.block k (by simp; omega) hne).trans (Below.heap_alloc _ _ _ hk)⟩
  unfold Oper.wp execOp
  simp only [ho, resolve, invoke, builtin, Sem.run_bind, Sem.run_pure, Result.andThen_ok, List.map_toArray, List.map_cons, List.map_nil, hs, hx, hr]
  refine h g' cap' w' hown' ((Below.refl B wr).grown hg2 hB (fun k hk => (hown.lt k hk).1)) hg2 (fun k hk hlt he => ?_)
  subst he
  rcases hat with hat | hat
  · exact hk (by rw [← hat]; rfl)
  · simp [Value.ownBlock] at hat
    omega

theorem wpList_app1 {ops : Array Oper} {rest : List Oper} {o : Oper} {a : Act} {W : World} {Q : Exit → Act → World → Prop} (hgd : o.guard = none) (s x : Operand) (t : TypeId)
    (ho : o.op = .call { callee := .builtin .append, args := #[s, x], argTypes := #[t, t] })
    (e : TypeId) (z : Value) (size bytes : Nat) (ht : P.underlying t = some (.slice e)) (hinfo : (P.info? e).map (fun i => (i.zero, i.size, i.bytes)) = some (some z, size, bytes)) (hzs : z.cells.size = size) (hsz : 0 < size)
    (wr : World) (news : List Value) (hW : W = wr.alloc (.cells news.toArray e)) (G : Nat) (hG : G = wr.heap.size) (B : Nat) (out : Value) (n : Nat) (xs : List Value) (hs : a.eval s = out) (hown : wr.ownsRow B e size out n xs) (hx : a.eval x = .slice (some ⟨G, 0, none⟩) 1 1)
    (hl : news.length = size) (h1 : ∀ u ∈ news, u.oneCell' = true) (h63 : n + 1 ≤ maxLen) (hbytes : (n + 1) * bytes ≤ 140737488355328) (hB : B ≤ wr.heap.size)
    (h : ∀ g c w', w'.ownsRow B e size (.slice (some ⟨g, 0, none⟩) (n + 1) c) (n + 1) (xs ++ news) → Below B wr w' → wr.grownBy w' out.ownBlock → (∀ k, some k ≠ out.ownBlock → k < wr.heap.size → k ≠ g) → wpList P ops Q rest (a.put o.dst (.slice (some ⟨g, 0, none⟩) (n + 1) c)) w') :
    wpList P ops Q (o :: rest) a W :=
  wpList_plain hgd fun _ hK => wp_app1 s x t ho e z size bytes ht hinfo hzs hsz wr news hW G hG B out n xs hs hown hx hl h1 h63 hbytes hB fun g c w' h2 h3 h4 h5 => hK _ _ (h g c w' h2 h3 h4 h5)
end

/-- A row of the call's own lies in a block that is there: a newer block is another one. -/
theorem own_ne {w : World} {B e size n : Nat} {v : Value} {xs : List Value} (h : w.ownsRow B e size v n xs) {k : Nat} (hk : w.heap.size ≤ k) : some k ≠ v.ownBlock := by
  intro he
  have := (h.lt k he.symm).2
  omega
theorem own_drewN {w : World} {B e size n : Nat} {v : Value} {xs : List Value} (h : w.ownsRow B e size v n xs) (k : Nat) : (w.drewN k).ownsRow B e size v n xs := h
/-- A row lies on where all that was there lies on. -/
theorem own_below {w w' : World} {B e size n : Nat} {v : Value} {xs : List Value} (h : w.ownsRow B e size v n xs) (hb : Below w.heap.size w w') : w'.ownsRow B e size v n xs := by
  refine ⟨h.1, ?_⟩
  rcases h.2 with hn | ⟨g, cap, cur, rfl, hbb, hgg, rest⟩
  · exact .inl hn
  · exact .inr ⟨g, cap, cur, rfl, hbb, (hb.block g (Array.getElem?_eq_some_iff.1 hgg).1).trans hgg, rest⟩
end Go.Proofs.Ytnophjkiecalpaa
