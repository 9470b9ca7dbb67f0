/- Documents as plain data, and what it means that one lies in the memory. -/
import Derived.Test.YtnpaplfdmpjfgaaDoorRows
import Derived.WalkKit
import Derived.WalkSpells
import Derived.WalkLawsBesides
import Derived.Deep.QuietTactic
import Derived.Deep.RegionHeld3
import Derived.BigQuiet
import Derived.Outline
import Derived.Lib.Hide
import Derived.Maps.AppendAt
import Derived.Laws.AppendOwnNone
namespace Go.Proofs.YtnpaplfdmpjfgaaDoor
open Go.RowKit

/-- A document. -/
structure Doc where
  kind : Int
  text : ByteArray
  n : Int
  kids : List Doc

mutual
/-- How much a document holds: itself, its text's bytes, its kids. -/
def Doc.wt : Doc → Nat
  | ⟨_, t, _, kids⟩ => 1 + t.size + wts kids
def wts : List Doc → Nat
  | [] => 0
  | d :: r => d.wt + wts r
end
theorem wt_eq (d : Doc) : d.wt = 1 + d.text.size + wts d.kids := by cases d; rfl
theorem wts_le {ds : List Doc} {d : Doc} (h : d ∈ ds) : d.wt ≤ wts ds := by
  induction ds with
  | nil => cases h
  | cons a r ih =>
    rcases List.mem_cons.1 h with rfl | h
    · simp [wts]
    · have := ih h; simp [wts]; omega
theorem wt_pos (d : Doc) : 0 < d.wt := by rw [wt_eq]; omega
theorem len_le_wts (ds : List Doc) : ds.length ≤ wts ds := by
  induction ds with
  | nil => simp
  | cons a r ih => have := wt_pos a; simp [wts]; omega
theorem kid_lt {d k : Doc} (h : k ∈ d.kids) : k.wt < d.wt := by have := wts_le h; rw [wt_eq d]; omega
theorem kids_lt (d : Doc) : d.kids.length < d.wt := by have := len_le_wts d.kids; rw [wt_eq d]; omega
theorem text_lt (d : Doc) : d.text.size < d.wt := by rw [wt_eq d]; omega

mutual
/-- A document lies in the four cells from o on. -/
def Doc.At (n₀ : Nat) (w : World) : Doc → Nat → Nat → Prop
  | ⟨k, t, n, kids⟩, b, o => b < n₀ ∧ w.cell? ⟨b, o, none⟩ = some (.int .i64 k) ∧ w.cell? ⟨b, o + 1, none⟩ = some (.string t) ∧ w.cell? ⟨b, o + 2, none⟩ = some (.int .i64 n) ∧
      ∃ A c, w.cell? ⟨b, o + 3, none⟩ = some (.slice A kids.length c) ∧ kids.length ≤ c ∧ (A = none → c = 0) ∧ KidsAt n₀ w kids A
/-- Documents lie one behind the other from address A on. -/
def KidsAt (n₀ : Nat) (w : World) : List Doc → Option Addr → Prop
  | [], _ => True
  | d :: r, A => ∃ b o, A = some ⟨b, o, none⟩ ∧ d.At n₀ w b o ∧ KidsAt n₀ w r (some ⟨b, o + 4, none⟩)
end

/-- What the cells of a document say. -/
structure DocAt (n₀ : Nat) (w : World) (d : Doc) (b o : Nat) (A : Option Addr) (c : Nat) : Prop where
  lt : b < n₀
  kind : w.cell? ⟨b, o, none⟩ = some (.int .i64 d.kind)
  text : w.cell? ⟨b, o + 1, none⟩ = some (.string d.text)
  n : w.cell? ⟨b, o + 2, none⟩ = some (.int .i64 d.n)
  kids : w.cell? ⟨b, o + 3, none⟩ = some (.slice A d.kids.length c)
  cap : d.kids.length ≤ c
  nil : A = none → c = 0
  at_ : KidsAt n₀ w d.kids A
theorem docAt_iff {n₀ : Nat} {w : World} {d : Doc} {b o : Nat} : d.At n₀ w b o ↔ ∃ A c, DocAt n₀ w d b o A c := by
  cases d
  constructor
  · rintro ⟨h1, h2, h3, h4, A, c, h5, h6, h7, h8⟩
    exact ⟨A, c, h1, h2, h3, h4, h5, h6, h7, h8⟩
  · rintro ⟨A, c, h1, h2, h3, h4, h5, h6, h7, h8⟩
    exact ⟨h1, h2, h3, h4, A, c, h5, h6, h7, h8⟩

theorem kidsAt_get {n₀ : Nat} {w : World} : ∀ {ds : List Doc} {A : Option Addr}, KidsAt n₀ w ds A → ∀ {k : Nat} {d : Doc}, ds[k]? = some d → ∃ b o, A = some ⟨b, o, none⟩ ∧ d.At n₀ w b (o + k * 4)
  | [], _, _, k, d, h => by simp at h
  | a :: r, A, h, 0, d, hk => by
    obtain ⟨b, o, e, h1, _⟩ := h
    simp only [List.getElem?_cons_zero, Option.some.injEq] at hk
    subst hk
    exact ⟨b, o, e, by simpa using h1⟩
  | a :: r, A, h, k + 1, d, hk => by
    obtain ⟨b, o, e, _, h2⟩ := h
    obtain ⟨b', o', e', h3⟩ := kidsAt_get h2 (k := k) (by simpa using hk)
    simp only [Option.some.injEq, Addr.mk.injEq, and_true] at e'
    obtain ⟨rfl, rfl⟩ := e'
    exact ⟨b, o, e, by rw [show o + (k + 1) * 4 = o + 4 + k * 4 by omega]; exact h3⟩
theorem kidsAt_of {n₀ : Nat} {w : World} : ∀ {ds : List Doc} {b o : Nat}, (∀ (k : Nat) (d : Doc), ds[k]? = some d → d.At n₀ w b (o + k * 4)) → KidsAt n₀ w ds (some ⟨b, o, none⟩)
  | [], _, _, _ => trivial
  | a :: r, b, o, h => ⟨b, o, rfl, by simpa using h 0 a rfl, kidsAt_of fun k d hk => by
      have := h (k + 1) d (by simpa using hk)
      rwa [show o + (k + 1) * 4 = o + 4 + k * 4 by omega] at this⟩
theorem kidsAt_nil {n₀ : Nat} {w : World} {A : Option Addr} : KidsAt n₀ w [] A := trivial
theorem kidsAt_none {n₀ : Nat} {w : World} {ds : List Doc} (h : KidsAt n₀ w ds none) : ds = [] := by
  cases ds with
  | nil => rfl
  | cons a r => obtain ⟨b, o, e, _⟩ := h; cases e

/-- What holds of a document's cells holds on in a later world: by how much it holds. -/
theorem at_later {n₀ n₁ : Nat} {w w' : World} (hn : n₀ ≤ n₁) (hc : ∀ b o, b < n₀ → w'.cell? ⟨b, o, none⟩ = w.cell? ⟨b, o, none⟩) (m : Nat) :
    (∀ d : Doc, d.wt ≤ m → ∀ b o, d.At n₀ w b o → d.At n₁ w' b o) ∧ (∀ ds : List Doc, wts ds ≤ m → ∀ A, KidsAt n₀ w ds A → KidsAt n₁ w' ds A) := by
  induction m with
  | zero =>
    refine ⟨fun d hd => by have := wt_pos d; omega, fun ds hds A _ => ?_⟩
    have : ds = [] := List.eq_nil_of_length_eq_zero (by have := len_le_wts ds; omega)
    subst this
    trivial
  | succ m ih =>
    have hd : ∀ d : Doc, d.wt ≤ m + 1 → ∀ b o, d.At n₀ w b o → d.At n₁ w' b o := by
      intro d hd b o h
      obtain ⟨A, c, h1, h2, h3, h4, h5, h6, h7, h8⟩ := docAt_iff.1 h
      refine docAt_iff.2 ⟨A, c, by omega, (hc _ _ h1).trans h2, (hc _ _ h1).trans h3, (hc _ _ h1).trans h4, (hc _ _ h1).trans h5, h6, h7, ih.2 _ (by rw [wt_eq] at hd; omega) _ h8⟩
    refine ⟨hd, fun ds => ?_⟩
    induction ds with
    | nil => intro _ _ _; trivial
    | cons a r ihr =>
      intro hw A h
      simp only [wts] at hw
      obtain ⟨b, o, e, h1, h2⟩ := h
      exact ⟨b, o, e, hd a (by omega) b o h1, ihr (by omega) _ h2⟩

section
variable {w w' : World} {A : Option Addr} {ds : List Doc} {d : Doc} {B B' b o : Nat}
theorem kidsAt_below (h : KidsAt B w ds A) (hb : Below B w w') : KidsAt B w' ds A := (at_later (Nat.le_refl _) (fun _ _ hlt => hb.cell (p := ⟨_, _, none⟩) hlt) (wts ds)).2 ds (Nat.le_refl _) A h
theorem kidsAt_mono (h : KidsAt B w ds A) (hB : B ≤ B') : KidsAt B' w ds A := (at_later hB (fun _ _ _ => rfl) (wts ds)).2 ds (Nat.le_refl _) A h
theorem kidsAt_on (h : KidsAt w.heap.size w ds A) (hb : Below w.heap.size w w') : KidsAt w'.heap.size w' ds A := kidsAt_mono (kidsAt_below h hb) hb.size
theorem at_below (h : d.At B w b o) (hb : Below B w w') : d.At B w' b o := (at_later (Nat.le_refl _) (fun _ _ hlt => hb.cell (p := ⟨_, _, none⟩) hlt) d.wt).1 d (Nat.le_refl _) b o h
theorem at_mono (h : d.At B w b o) (hB : B ≤ B') : d.At B' w b o := (at_later hB (fun _ _ _ => rfl) d.wt).1 d (Nat.le_refl _) b o h
end

/-- The four cells of a document's box. -/
structure Box4 (w : World) (b : Nat) (v0 v1 v2 v3 : Value) : Prop where
  c0 : w.cell? ⟨b, 0, none⟩ = some v0
  c1 : w.cell? ⟨b, 1, none⟩ = some v1
  c2 : w.cell? ⟨b, 2, none⟩ = some v2
  c3 : w.cell? ⟨b, 3, none⟩ = some v3
  f0 : w.frozen? ⟨b, 0, none⟩ = false
  f1 : w.frozen? ⟨b, 1, none⟩ = false
  f2 : w.frozen? ⟨b, 2, none⟩ = false
  f3 : w.frozen? ⟨b, 3, none⟩ = false
theorem Box4.new (w : World) (v0 v1 v2 v3 : Value) (T : TypeId) : Box4 (w.alloc (.cells #[v0, v1, v2, v3] T)) w.heap.size v0 v1 v2 v3 :=
  ⟨by simp, by simp, by simp, by simp, by simp, by simp, by simp, by simp⟩
theorem Box4.below {w w' : World} {b B : Nat} {v0 v1 v2 v3 : Value} (h : Box4 w b v0 v1 v2 v3) (hb : Below B w w') (hlt : b < B) : Box4 w' b v0 v1 v2 v3 :=
  ⟨(hb.cell (p := ⟨b, 0, none⟩) hlt).trans h.c0, (hb.cell (p := ⟨b, 1, none⟩) hlt).trans h.c1, (hb.cell (p := ⟨b, 2, none⟩) hlt).trans h.c2, (hb.cell (p := ⟨b, 3, none⟩) hlt).trans h.c3,
    (hb.frozen (p := ⟨b, 0, none⟩) hlt).trans h.f0, (hb.frozen (p := ⟨b, 1, none⟩) hlt).trans h.f1, (hb.frozen (p := ⟨b, 2, none⟩) hlt).trans h.f2, (hb.frozen (p := ⟨b, 3, none⟩) hlt).trans h.f3⟩
/-- A box that the call lays first. -/
theorem box_new (w : World) (v0 v1 v2 v3 : Value) : Box4 (w.alloc (.cells #[v0, v1, v2, v3] 24)) w.heap.size v0 v1 v2 v3 ∧ Below w.heap.size w (w.alloc (.cells #[v0, v1, v2, v3] 24)) ∧ (w.alloc (.cells #[v0, v1, v2, v3] 24)).heap.size = w.heap.size + 1 :=
  ⟨Box4.new w v0 v1 v2 v3 24, (Below.refl _ _).alloc (Nat.le_refl _) _, by simp⟩

theorem ret_int {k : IntKind} {a b : Int} (h : a = b) : Ending.returned (.int k a) = .returned (.int k b) := by rw [h]
theorem ret_bool {a b : Bool} (h : a = b) : Ending.returned (.bool a) = .returned (.bool b) := by rw [h]
theorem below_drewN {B : Nat} {a w : World} (h : Below B a w) (n : Nat) : Below B a (w.drewN n) := ⟨h.os, h.tape, h.output, h.size, h.block⟩

theorem kid_in {ds : List Doc} {k : Nat} (h : k < ds.length) : ds[k]? = some ds[k] := List.getElem?_eq_getElem h

/-- A document as a value: with where its kids lie. -/
structure DV where
  d : Doc
  A : Option Addr
  c : Nat
def DV.cells (v : DV) : List Value := [.int .i64 v.d.kind, .string v.d.text, .int .i64 v.d.n, .slice v.A v.d.kids.length v.c]
/-- May the value be one of world w. -/
structure DV.Ok (n₀ : Nat) (w : World) (v : DV) : Prop where
  cap : v.d.kids.length ≤ v.c
  nil : v.A = none → v.c = 0
  at_ : KidsAt n₀ w v.d.kids v.A
theorem DV.Ok.below {n₀ : Nat} {w w' : World} {v : DV} (h : v.Ok n₀ w) (hb : Below n₀ w w') : v.Ok n₀ w' := ⟨h.cap, h.nil, kidsAt_below h.at_ hb⟩
theorem DV.Ok.mono {n₀ n₁ : Nat} {w : World} {v : DV} (h : v.Ok n₀ w) (hn : n₀ ≤ n₁) : v.Ok n₁ w := ⟨h.cap, h.nil, kidsAt_mono h.at_ hn⟩
theorem DV.Ok.on {w w' : World} {v : DV} (h : v.Ok w.heap.size w) (hb : Below w.heap.size w w') : v.Ok w'.heap.size w' := (h.below hb).mono hb.size

def flatD (l : List DV) : List Value := l.flatMap DV.cells
theorem flatD_length (l : List DV) : (flatD l).length = l.length * 4 := by
  induction l with
  | nil => rfl
  | cons t l ih => simp only [flatD, List.flatMap_cons, List.length_append, List.length_cons] at *; simp only [DV.cells, List.length_cons, List.length_nil]; omega
theorem flatD_snoc (l : List DV) (t : DV) : flatD (l ++ [t]) = flatD l ++ t.cells := by simp [flatD]
theorem flatD_get (l : List DV) : ∀ (k : Nat) (t : DV), l[k]? = some t → ∀ j, j < 4 → (flatD l)[k * 4 + j]? = t.cells[j]? := by
  induction l with
  | nil => intro k t h; simp at h
  | cons u l ih =>
    intro k t h j hj
    cases k with
    | zero =>
      simp only [List.getElem?_cons_zero, Option.some.injEq] at h
      subst h
      simp only [flatD, List.flatMap_cons, Nat.zero_mul, Nat.zero_add]
      rw [List.getElem?_append_left (by simpa [DV.cells] using hj)]
    | succ k =>
      simp only [List.getElem?_cons_succ] at h
      have := ih k t h j hj
      simp only [flatD, List.flatMap_cons] at this ⊢
      rw [List.getElem?_append_right (by simp [DV.cells]; omega)]
      rw [show (k + 1) * 4 + j - (DV.cells u).length = k * 4 + j from by simp [DV.cells]; omega]
      exact this

/-- A row of the call's own that holds documents. -/
def Docs (base : Nat) (w : World) (v : Value) (l : List DV) : Prop := w.ownsRow base 24 4 v l.length (flatD l) ∧ ∀ t ∈ l, t.Ok w.heap.size w
theorem Docs.at_ {base : Nat} {w : World} {v : Value} {l : List DV} (h : Docs base w v l) : ∃ A c, v = .slice A l.length c ∧ l.length ≤ c ∧ (A = none → c = 0) ∧ KidsAt w.heap.size w (l.map DV.d) A := by
  obtain ⟨h, hok⟩ := h
  rcases h.2 with ⟨rfl, hn⟩ | ⟨g, cap, cur, rfl, _, hg, hcap, _⟩
  · have : l = [] := List.eq_nil_of_length_eq_zero hn
    subst this
    exact ⟨none, 0, rfl, Nat.le_refl _, fun _ => rfl, trivial⟩
  · refine ⟨_, _, rfl, hcap, fun e => by simp at e, kidsAt_of fun k d hk => ?_⟩
    rw [List.getElem?_map] at hk
    obtain ⟨t, ht, rfl⟩ := Option.map_eq_some_iff.1 hk
    have hc : ∀ j, j < 4 → w.cell? ⟨g, k * 4 + j, none⟩ = t.cells[j]? := fun j hj => by
      have h1 := flatD_get l k t ht j hj
      have h2 : j < t.cells.length := by simpa [DV.cells] using hj
      rw [List.getElem?_eq_getElem h2] at h1 ⊢
      have h3 := h.cells (g := g) rfl _ _ h1
      have hadd : (⟨g, 0, none⟩ : Addr).add (k * 4 + j) = ⟨g, k * 4 + j, none⟩ := by unfold Addr.add; split <;> simp_all
      rwa [hadd] at h3
    have hk := hok t (List.mem_of_getElem? ht)
    simp only [Nat.zero_add]
    exact docAt_iff.2 ⟨t.A, t.c, (Array.getElem?_eq_some_iff.1 hg).1, hc 0 (by omega), hc 1 (by omega), hc 2 (by omega), hc 3 (by omega), hk.cap, hk.nil, hk.at_⟩

theorem info24 : (Tryd.prog.info? 24).map (fun i => (i.zero, i.size, i.bytes)) = some (some (.agg #[.int .i64 0, .string .empty, .int .i64 0, .slice none 0 0]), 4, 56) := by kernel_rfl
theorem info9 : (Tryd.prog.info? 9).map (fun i => (i.zero, i.size, i.bytes)) = some (some (.string .empty), 1, 16) := by kernel_rfl
end Go.Proofs.YtnpaplfdmpjfgaaDoor
