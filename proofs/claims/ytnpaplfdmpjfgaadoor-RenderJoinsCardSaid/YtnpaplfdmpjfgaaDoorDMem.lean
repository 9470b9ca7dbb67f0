/- Documents that lie in blocks of a set; rows of documents that the call itself makes, and grows. -/
import Derived.Test.YtnpaplfdmpjfgaaDoorDTidy
namespace Go.Proofs.YtnpaplfdmpjfgaaDoor
open Go.RowKit

mutual
/-- A document lies in the four cells from o on, in blocks of S. -/
def Doc.In (S : Nat → Prop) (w : World) : Doc → Nat → Nat → Prop
  | ⟨k, t, n, kids⟩, b, o => S b ∧ w.cell? ⟨b, o, none⟩ = some (.int .i64 k) ∧ w.cell? ⟨b, o + 1, none⟩ = some (.string t) ∧ w.cell? ⟨b, o + 2, none⟩ = some (.int .i64 n) ∧
      ∃ A c, w.cell? ⟨b, o + 3, none⟩ = some (.slice A kids.length c) ∧ kids.length ≤ c ∧ (A = none → c = 0) ∧ KidsIn S w kids A
def KidsIn (S : Nat → Prop) (w : World) : List Doc → Option Addr → Prop
  | [], _ => True
  | d :: r, A => ∃ b o, A = some ⟨b, o, none⟩ ∧ d.In S w b o ∧ KidsIn S w r (some ⟨b, o + 4, none⟩)
end
structure DocIn (S : Nat → Prop) (w : World) (d : Doc) (b o : Nat) (A : Option Addr) (c : Nat) : Prop where
  lt : S b
  kind : w.cell? ⟨b, o, none⟩ = some (.int .i64 d.kind)
  text : w.cell? ⟨b, o + 1, none⟩ = some (.string d.text)
  n : w.cell? ⟨b, o + 2, none⟩ = some (.int .i64 d.n)
  kids : w.cell? ⟨b, o + 3, none⟩ = some (.slice A d.kids.length c)
  cap : d.kids.length ≤ c
  nil : A = none → c = 0
  in_ : KidsIn S w d.kids A
theorem docIn_iff {S : Nat → Prop} {w : World} {d : Doc} {b o : Nat} : d.In S w b o ↔ ∃ A c, DocIn S w d b o A c := by
  cases d
  constructor
  · rintro ⟨h1, h2, h3, h4, A, c, h5, h6, h7, h8⟩
    exact ⟨A, c, h1, h2, h3, h4, h5, h6, h7, h8⟩
  · rintro ⟨A, c, h1, h2, h3, h4, h5, h6, h7, h8⟩
    exact ⟨h1, h2, h3, h4, A, c, h5, h6, h7, h8⟩
theorem in_later {S S' : Nat → Prop} {w w' : World} (hn : ∀ b, S b → S' b) (hc : ∀ b o, S b → w'.cell? ⟨b, o, none⟩ = w.cell? ⟨b, o, none⟩) (m : Nat) :
    (∀ d : Doc, d.wt ≤ m → ∀ b o, d.In S w b o → d.In S' w' b o) ∧ (∀ ds : List Doc, wts ds ≤ m → ∀ A, KidsIn S w ds A → KidsIn S' w' ds A) := by
  induction m with
  | zero =>
    refine ⟨fun d hd => by have := wt_pos d; omega, fun ds hds A _ => ?_⟩
    have : ds = [] := List.eq_nil_of_length_eq_zero (by have := len_le_wts ds; omega)
    subst this
    trivial
  | succ m ih =>
    have hd : ∀ d : Doc, d.wt ≤ m + 1 → ∀ b o, d.In S w b o → d.In S' w' b o := by
      intro d hd b o h
      obtain ⟨A, c, h1, h2, h3, h4, h5, h6, h7, h8⟩ := docIn_iff.1 h
      refine docIn_iff.2 ⟨A, c, hn _ h1, (hc _ _ h1).trans h2, (hc _ _ h1).trans h3, (hc _ _ h1).trans h4, (hc _ _ h1).trans h5, h6, h7, ih.2 _ (by rw [wt_eq] at hd; omega) _ h8⟩
    refine ⟨hd, fun ds => ?_⟩
    induction ds with
    | nil => intro _ _ _; trivial
    | cons a r ihr =>
      intro hw A h
      simp only [wts] at hw
      obtain ⟨b, o, e, h1, h2⟩ := h
      exact ⟨b, o, e, hd a (by omega) b o h1, ihr (by omega) _ h2⟩
theorem kidsIn_later {S S' : Nat → Prop} {w w' : World} {ds : List Doc} {A : Option Addr} (h : KidsIn S w ds A) (hn : ∀ b, S b → S' b) (hc : ∀ b o, S b → w'.cell? ⟨b, o, none⟩ = w.cell? ⟨b, o, none⟩) : KidsIn S' w' ds A := (in_later hn hc (wts ds)).2 ds (Nat.le_refl _) A h
theorem kidsIn_mono {S S' : Nat → Prop} {w : World} {ds : List Doc} {A : Option Addr} (h : KidsIn S w ds A) (hn : ∀ b, S b → S' b) : KidsIn S' w ds A := kidsIn_later h hn fun _ _ _ => rfl
theorem in_at_aux {n₀ : Nat} {w : World} (m : Nat) :
    (∀ d : Doc, d.wt ≤ m → ∀ b o, d.In (fun b => b < n₀) w b o ↔ d.At n₀ w b o) ∧ (∀ ds : List Doc, wts ds ≤ m → ∀ A, KidsIn (fun b => b < n₀) w ds A ↔ KidsAt n₀ w ds A) := by
  induction m with
  | zero =>
    refine ⟨fun d hd => by have := wt_pos d; omega, fun ds hds A => ?_⟩
    have : ds = [] := List.eq_nil_of_length_eq_zero (by have := len_le_wts ds; omega)
    subst this
    exact Iff.rfl
  | succ m ih =>
    have hd : ∀ d : Doc, d.wt ≤ m + 1 → ∀ b o, d.In (fun b => b < n₀) w b o ↔ d.At n₀ w b o := by
      intro d hd b o
      rw [docIn_iff, docAt_iff]
      constructor
      · rintro ⟨A, c, h1, h2, h3, h4, h5, h6, h7, h8⟩
        exact ⟨A, c, h1, h2, h3, h4, h5, h6, h7, (ih.2 _ (by rw [wt_eq] at hd; omega) _).1 h8⟩
      · rintro ⟨A, c, h1, h2, h3, h4, h5, h6, h7, h8⟩
        exact ⟨A, c, h1, h2, h3, h4, h5, h6, h7, (ih.2 _ (by rw [wt_eq] at hd; omega) _).2 h8⟩
    refine ⟨hd, fun ds => ?_⟩
    induction ds with
    | nil => intro _ _; exact Iff.rfl
    | cons a r ihr =>
      intro hw A
      simp only [wts] at hw
      constructor
      · rintro ⟨b, o, e, h1, h2⟩
        exact ⟨b, o, e, (hd a (by omega) b o).1 h1, (ihr (by omega) _).1 h2⟩
      · rintro ⟨b, o, e, h1, h2⟩
        exact ⟨b, o, e, (hd a (by omega) b o).2 h1, (ihr (by omega) _).2 h2⟩
theorem in_at {n₀ : Nat} {w : World} {ds : List Doc} {A : Option Addr} : KidsIn (fun b => b < n₀) w ds A ↔ KidsAt n₀ w ds A := (in_at_aux (wts ds)).2 ds (Nat.le_refl _) A
theorem KidsIn.at_ {S : Nat → Prop} {n₀ : Nat} {w : World} {ds : List Doc} {A : Option Addr} (h : KidsIn S w ds A) (hS : ∀ b, S b → b < n₀) : KidsAt n₀ w ds A := in_at.1 (kidsIn_mono h hS)
theorem kidsIn_get {S : Nat → Prop} {w : World} : ∀ {ds : List Doc} {A : Option Addr}, KidsIn S w ds A → ∀ {k : Nat} {d : Doc}, ds[k]? = some d → ∃ b o, A = some ⟨b, o, none⟩ ∧ d.In S w b (o + k * 4)
  | [], _, _, k, d, h => by simp at h
  | a :: r, A, h, 0, d, hk => by
    obtain ⟨b, o, e, h1, _⟩ := h
    simp only [List.getElem?_cons_zero, Option.some.injEq] at hk
    subst hk
    exact ⟨b, o, e, by simpa using h1⟩
  | a :: r, A, h, k + 1, d, hk => by
    obtain ⟨b, o, e, _, h2⟩ := h
    obtain ⟨b', o', e', h3⟩ := kidsIn_get h2 (k := k) (by simpa using hk)
    simp only [Option.some.injEq, Addr.mk.injEq, and_true] at e'
    obtain ⟨rfl, rfl⟩ := e'
    exact ⟨b, o, e, by rw [show o + (k + 1) * 4 = o + 4 + k * 4 by omega]; exact h3⟩
theorem kidsIn_of {S : Nat → Prop} {w : World} : ∀ {ds : List Doc} {b o : Nat}, (∀ (k : Nat) (d : Doc), ds[k]? = some d → d.In S w b (o + k * 4)) → KidsIn S w ds (some ⟨b, o, none⟩)
  | [], _, _, _ => trivial
  | a :: r, b, o, h => ⟨b, o, rfl, by simpa using h 0 a rfl, kidsIn_of fun k d hk => by
      have := h (k + 1) d (by simpa using hk)
      rwa [show o + (k + 1) * 4 = o + 4 + k * 4 by omega] at this⟩

/-- May the value be one of world w, within S. -/
structure DV.In (S : Nat → Prop) (w : World) (v : DV) : Prop where
  cap : v.d.kids.length ≤ v.c
  nil : v.A = none → v.c = 0
  in_ : KidsIn S w v.d.kids v.A
theorem DV.In.later {S S' : Nat → Prop} {w w' : World} {v : DV} (h : v.In S w) (hn : ∀ b, S b → S' b) (hc : ∀ b o, S b → w'.cell? ⟨b, o, none⟩ = w.cell? ⟨b, o, none⟩) : v.In S' w' := ⟨h.cap, h.nil, kidsIn_later h.in_ hn hc⟩
theorem DV.In.ok {S : Nat → Prop} {n₀ : Nat} {w : World} {v : DV} (h : v.In S w) (hS : ∀ b, S b → b < n₀) : v.Ok n₀ w := ⟨h.cap, h.nil, h.in_.at_ hS⟩
theorem DV.Ok.in_ {n₀ : Nat} {w : World} {v : DV} (h : v.Ok n₀ w) : v.In (fun b => b < n₀) w := ⟨h.cap, h.nil, in_at.2 h.at_⟩

/-- Kids as values, and their cells. -/
theorem kidsIn_dvs {S : Nat → Prop} {w : World} : ∀ {ds : List Doc} {b o : Nat}, KidsIn S w ds (some ⟨b, o, none⟩) → ∃ l : List DV, l.map DV.d = ds ∧ (∀ t ∈ l, t.In S w) ∧ ∀ j u, (flatD l)[j]? = some u → w.cell? ⟨b, o + j, none⟩ = some u
  | [], _, _, _ => ⟨[], rfl, by simp, by simp [flatD]⟩
  | d :: r, b, o, h => by
    obtain ⟨b', o', e, h1, h2⟩ := h
    simp only [Option.some.injEq, Addr.mk.injEq, and_true] at e
    obtain ⟨rfl, rfl⟩ := e
    obtain ⟨A, c, g⟩ := docIn_iff.1 h1
    obtain ⟨l, hl, hok, hcs⟩ := kidsIn_dvs h2
    refine ⟨⟨d, A, c⟩ :: l, by simp [hl], ?_, ?_⟩
    · intro t ht
      rcases List.mem_cons.1 ht with rfl | ht
      · exact ⟨g.cap, g.nil, g.in_⟩
      · exact hok t ht
    · intro j u hu
      simp only [flatD, List.flatMap_cons] at hu hcs
      by_cases hj : j < 4
      · rw [List.getElem?_append_left (by simpa [DV.cells] using hj)] at hu
        rcases (by omega : j = 0 ∨ j = 1 ∨ j = 2 ∨ j = 3) with rfl | rfl | rfl | rfl <;> simp only [DV.cells, List.getElem?_cons_zero, List.getElem?_cons_succ, Option.some.injEq] at hu <;> subst hu
        · exact g.kind
        · exact g.text
        · exact g.n
        · exact g.kids
      · rw [List.getElem?_append_right (by simp [DV.cells]; omega)] at hu
        have h4 : (DV.cells ⟨d, A, c⟩).length = 4 := rfl
        rw [h4] at hu
        have := hcs (j - 4) u hu
        rwa [show o + 4 + (j - 4) = o + j by omega] at this

/-- Blocks from base on that are there and are not the row's own. -/
def Off (base : Nat) (v : Value) (w : World) (b : Nat) : Prop := base ≤ b ∧ b < w.heap.size ∧ some b ≠ v.ownBlock
/-- The row behind an append: it lies where it lay, or in a new block. -/
def Next (v : Value) (w : World) (v' : Value) : Prop := v'.ownBlock = v.ownBlock ∨ ∃ g, v'.ownBlock = some g ∧ w.heap.size ≤ g
/-- A row of documents that the call itself makes. -/
structure DRow (base : Nat) (w : World) (v : Value) (l : List DV) : Prop where
  own : w.ownsRow base 24 4 v l.length (flatD l)
  ins : ∀ t ∈ l, t.In (Off base v w) w
section
variable {base : Nat} {w w' : World} {v v' : Value} {l : List DV} {ds : List Doc} {A : Option Addr} {t : DV}
theorem off_below (hb : Below w.heap.size w w') : (∀ b, Off base v w b → Off base v w' b) ∧ ∀ b o, Off base v w b → w'.cell? ⟨b, o, none⟩ = w.cell? ⟨b, o, none⟩ :=
  ⟨fun _ ⟨h1, h2, h3⟩ => ⟨h1, Nat.lt_of_lt_of_le h2 hb.size, h3⟩, fun _ _ ⟨_, h2, _⟩ => hb.cell (p := ⟨_, _, none⟩) h2⟩
theorem off_grown (hg : w.grownBy w' v.ownBlock) (hn : Next v w v') : (∀ b, Off base v w b → Off base v' w' b) ∧ ∀ b o, Off base v w b → w'.cell? ⟨b, o, none⟩ = w.cell? ⟨b, o, none⟩ := by
  refine ⟨fun b ⟨h1, h2, h3⟩ => ⟨h1, Nat.lt_of_lt_of_le h2 hg.size, ?_⟩, fun b o ⟨_, h2, h3⟩ => hg.cell_far ⟨b, o, none⟩ h2 h3⟩
  rcases hn with h | ⟨g, h, hge⟩
  · rw [h]; exact h3
  · rw [h]; intro e; simp only [Option.some.injEq] at e; omega
theorem kidsOff_below (h : KidsIn (Off base v w) w ds A) (hb : Below w.heap.size w w') : KidsIn (Off base v w') w' ds A := kidsIn_later h (off_below hb).1 (off_below hb).2
theorem kidsOff_grown (h : KidsIn (Off base v w) w ds A) (hg : w.grownBy w' v.ownBlock) (hn : Next v w v') : KidsIn (Off base v' w') w' ds A := kidsIn_later h (off_grown hg hn).1 (off_grown hg hn).2
theorem dvOff_below (h : t.In (Off base v w) w) (hb : Below w.heap.size w w') : t.In (Off base v w') w' := h.later (off_below hb).1 (off_below hb).2
theorem dvOff_grown (h : t.In (Off base v w) w) (hg : w.grownBy w' v.ownBlock) (hn : Next v w v') : t.In (Off base v' w') w' := h.later (off_grown hg hn).1 (off_grown hg hn).2
theorem DRow.below (h : DRow base w v l) (hb : Below w.heap.size w w') : DRow base w' v l := ⟨own_below h.own hb, fun t ht => dvOff_below (h.ins t ht) hb⟩
theorem DRow.app (h : DRow base w v l) {news : List DV} (ho : w'.ownsRow base 24 4 v' (l.length + news.length) (flatD l ++ flatD news)) (hg : w.grownBy w' v.ownBlock) (hn : Next v w v') (hnews : ∀ t ∈ news, t.In (Off base v w) w) : DRow base w' v' (l ++ news) := by
  refine ⟨by rw [List.length_append, show flatD (l ++ news) = flatD l ++ flatD news by simp [flatD]]; exact ho, fun t ht => ?_⟩
  rcases List.mem_append.1 ht with ht | ht
  · exact dvOff_grown (h.ins t ht) hg hn
  · exact dvOff_grown (hnews t ht) hg hn
theorem DRow.nil (base : Nat) (w : World) : DRow base w (.slice none 0 0) [] := ⟨World.ownsRow_nil _ _ _ _, by simp⟩
theorem own_kidsIn {S : Nat → Prop} (h : w.ownsRow base 24 4 v l.length (flatD l)) (hok : ∀ t ∈ l, t.In S w) (hS : ∀ g, v.ownBlock = some g → S g) : ∃ A c, v = .slice A l.length c ∧ l.length ≤ c ∧ (A = none → c = 0) ∧ KidsIn S w (l.map DV.d) A := by
  rcases h.2 with ⟨rfl, hn⟩ | ⟨g, cap, cur, rfl, hbg, hg, hcap, _⟩
  · have : l = [] := List.eq_nil_of_length_eq_zero hn
    subst this
    exact ⟨none, 0, rfl, Nat.le_refl _, fun _ => rfl, trivial⟩
  · refine ⟨_, _, rfl, hcap, fun e => by simp at e, kidsIn_of fun k d hk => ?_⟩
    rw [List.getElem?_map] at hk
    obtain ⟨t, ht, rfl⟩ := Option.map_eq_some_iff.1 hk
    have hc : ∀ j, j < 4 → w.cell? ⟨g, k * 4 + j, none⟩ = t.cells[j]? := fun j hj => by
      have h1 := flatD_get l k t ht j hj
      have h2 : j < t.cells.length := by simpa [DV.cells] using hj
      rw [List.getElem?_eq_getElem h2] at h1 ⊢
      have h3 := h.cells (g := g) rfl _ _ h1
      have hadd : (⟨g, 0, none⟩ : Addr).add (k * 4 + j) = ⟨g, k * 4 + j, none⟩ := by unfold Addr.add; split <;> simp_all
      rwa [hadd] at h3
    have hk := hok t (List.mem_of_getElem? ht)
    simp only [Nat.zero_add]
    exact docIn_iff.2 ⟨t.A, t.c, hS g rfl, hc 0 (by omega), hc 1 (by omega), hc 2 (by omega), hc 3 (by omega), hk.cap, hk.nil, hk.in_⟩
theorem DRow.at_ (h : DRow base w v l) : ∃ A c, v = .slice A l.length c ∧ l.length ≤ c ∧ (A = none → c = 0) ∧ KidsIn (fun b => base ≤ b ∧ b < w.heap.size) w (l.map DV.d) A :=
  own_kidsIn h.own (fun t ht => (h.ins t ht).later (fun _ ⟨h1, h2, _⟩ => ⟨h1, h2⟩) fun _ _ _ => rfl) h.own.lt
theorem DRow.base_le (h : DRow base w v l) : ∀ k, v.ownBlock = some k → base ≤ k := fun k hk => (h.own.lt k hk).1
theorem DRow.below_grown (h : DRow base w v l) {a : World} (hb : Below base a w) (hB : base ≤ w.heap.size) (hg : w.grownBy w' v.ownBlock) : Below base a w' := hb.grown hg hB h.base_le
end
theorem gb_trans {a w w' : World} {row : Option Nat} (h : a.grownBy w row) (k : w.grownBy w' row) : a.grownBy w' row :=
  ⟨k.os.trans h.os, k.tape.trans h.tape, k.output.trans h.output, Nat.le_trans h.size k.size, fun i hi hr => (k.block i (Nat.lt_of_lt_of_le hi h.size) hr).trans (h.block i hi hr)⟩
theorem gb_set (w : World) (b i : Nat) (v : Value) : w.grownBy (w.setCell ⟨b, i, none⟩ v) (some b) :=
  ⟨rfl, rfl, rfl, by simp [World.setCell], fun k _ hk => Below.heap_setCell _ _ _ _ (fun e => hk (by simp [e]))⟩
/-- A box whose four cells are written. -/
theorem Box4.set {w : World} {b : Nat} {v0 v1 v2 v3 : Value} (h : Box4 w b v0 v1 v2 v3) (u0 u1 u2 u3 : Value) :
    Box4 ((((w.setCell ⟨b, 0, none⟩ u0).setCell ⟨b, 1, none⟩ u1).setCell ⟨b, 2, none⟩ u2).setCell ⟨b, 3, none⟩ u3) b u0 u1 u2 u3 ∧
    w.grownBy ((((w.setCell ⟨b, 0, none⟩ u0).setCell ⟨b, 1, none⟩ u1).setCell ⟨b, 2, none⟩ u2).setCell ⟨b, 3, none⟩ u3) (some b) := by
  obtain ⟨c0, c1, c2, c3, f0, f1, f2, f3⟩ := h
  refine ⟨⟨?_, ?_, ?_, ?_, ?_, ?_, ?_, ?_⟩, gb_trans (gb_trans (gb_trans (gb_set _ _ _ _) (gb_set _ _ _ _)) (gb_set _ _ _ _)) (gb_set _ _ _ _)⟩
  all_goals go_simp
theorem gb_below {a w w' : World} {B b : Nat} (h : Below B a w) (hg : w.grownBy w' (some b)) (hB : B ≤ w.heap.size) (hb : B ≤ b) : Below B a w' := h.grown hg hB fun k hk => by simp only [Option.some.injEq] at hk; omega
/-- What a call has made lies off a row that was there. -/
theorem off_fresh {base : Nat} {w w' : World} {v : Value} {l : List DV} (h : DRow base w v l) (hB : base ≤ w.heap.size) {b : Nat} (hb : w.heap.size ≤ b ∧ b < w'.heap.size) : Off base v w' b := by
  refine ⟨by omega, hb.2, fun e => ?_⟩
  have := (h.own.lt b e.symm).2
  omega

section
variable {P : Program}
/-- append of documents that lie in the memory onto a row of the call's own. -/
theorem wpList_appk {ops : Array Oper} {rest : List Oper} {o : Oper} {a : Act} {w : World} {Q : Exit → Act → World → Prop} (hgd : o.guard = none) (s x : Operand) (t : TypeId)
    (ho : o.op = .call { callee := .builtin .append, args := #[s, x], argTypes := #[t, t] })
    (ht : P.underlying t = some (.slice 24)) (hinfo : (P.info? 24).map (fun i => (i.zero, i.size, i.bytes)) = some (some (.agg #[.int .i64 0, .string .empty, .int .i64 0, .slice none 0 0]), 4, 56))
    (base : Nat) (v : Value) (l : List DV) (hs : a.eval s = v) (hown : DRow base w v l) (b oo m c : Nat) (news : List DV) (hx : a.eval x = .slice (some ⟨b, oo, none⟩) m c) (hm : m = news.length)
    (hc : ∀ j u, (flatD news)[j]? = some u → w.cell? ⟨b, oo + j, none⟩ = some u) (hins : ∀ t ∈ news, t.In (Off base v w) w)
    (h63 : l.length + m ≤ 2513169434916) (hB : base ≤ w.heap.size)
    (h : ∀ A c' w', DRow base w' (.slice A (l.length + m) c') (l ++ news) → w.grownBy w' v.ownBlock → Next v w (.slice A (l.length + m) c') → wpList P ops Q rest (a.put o.dst (.slice A (l.length + m) c')) w') : wpList P ops Q (o :: rest) a w := by
  subst hm
  obtain ⟨i0, hi, hz0, hz1, hz2⟩ := info_parts hinfo
  obtain ⟨v', w', hr, hown', hgrow, _, hat⟩ := run_append_own_at (P := P) w base t o.type 24 i0 _ 4 56 ht hi hz0 hz1 hz2 rfl (by decide) v l.length (flatD l) hown.own ⟨b, oo, none⟩ news.length c (flatD news) (by rw [flatD_length]) (fun j u hu => by
    have hadd : (⟨b, oo, none⟩ : Addr).add j = ⟨b, oo + j, none⟩ := by unfold Addr.add; split <;> simp_all
    rw [hadd]
    exact hc j u hu) (fun u hu => by
      simp only [flatD, List.mem_flatMap] at hu
      obtain ⟨d, _, hu⟩ := hu
      simp only [DV.cells, List.mem_cons, List.not_mem_nil, or_false] at hu
      rcases hu with rfl | rfl | rfl | rfl <;> rfl) (by unfold maxLen; omega) (by omega) hB
  have hn : Next v w v' := by
    rcases hat with h | h
    · exact .inl h
    · exact .inr ⟨_, h, Nat.le_refl _⟩
  have hR := hown.app hown' hgrow hn hins
  obtain ⟨A, c', rfl⟩ := own_form hown'
  refine wpList_plain hgd fun K hK => ?_
  unfold Oper.wp execOp
  simp only [ho, resolve, invoke, builtin, Sem.run_bind, Sem.run_pure, Result.andThen_ok, List.map_toArray, List.map_cons, List.map_nil, hs, hx, hr]
  exact hK _ _ (h A c' w' hR hgrow hn)
/-- append of one document that the statement has just put into a row, onto a row of the call's own. -/
theorem wpList_app1d {ops : Array Oper} {rest : List Oper} {o : Oper} {a : Act} {W : World} {Q : Exit → Act → World → Prop} (hgd : o.guard = none) (s x : Operand) (t : TypeId)
    (ho : o.op = .call { callee := .builtin .append, args := #[s, x], argTypes := #[t, t] })
    (ht : P.underlying t = some (.slice 24)) (hinfo : (P.info? 24).map (fun i => (i.zero, i.size, i.bytes)) = some (some (.agg #[.int .i64 0, .string .empty, .int .i64 0, .slice none 0 0]), 4, 56))
    (wr : World) (d : DV) (hW : W = wr.alloc (.cells d.cells.toArray 24)) (G : Nat) (hG : G = wr.heap.size) (base : Nat) (v : Value) (l : List DV) (hs : a.eval s = v) (hown : DRow base wr v l) (hd : d.In (Off base v wr) wr) (hx : a.eval x = .slice (some ⟨G, 0, none⟩) 1 1)
    (h63 : l.length + 1 ≤ 2513169434916) (hB : base ≤ wr.heap.size)
    (h : ∀ A c' w', DRow base w' (.slice A (l.length + 1) c') (l ++ [d]) → wr.grownBy w' v.ownBlock → Next v wr (.slice A (l.length + 1) c') → wpList P ops Q rest (a.put o.dst (.slice A (l.length + 1) c')) w') : wpList P ops Q (o :: rest) a W := by
  refine wpList_app1 hgd s x t ho 24 _ 4 56 ht hinfo rfl (by decide) wr d.cells hW G hG base v l.length (flatD l) hs hown.own hx rfl (fun u hu => by
    simp only [DV.cells, List.mem_cons, List.not_mem_nil, or_false] at hu
    rcases hu with rfl | rfl | rfl | rfl <;> rfl) (by unfold maxLen; omega) (by omega) hB ?_
  intro g c w' ho' _ hg hn
  have hnx : Next v wr (.slice (some ⟨g, 0, none⟩) (l.length + 1) c) := by
    by_cases hk : some g = v.ownBlock
    · exact .inl hk
    · exact .inr ⟨g, rfl, Nat.le_of_not_lt fun hlt => hn g hk hlt rfl⟩
  have hf : flatD [d] = d.cells := by simp [flatD]
  have hR := hown.app (news := [d]) (by rw [hf]; exact ho') hg hnx (fun t ht => by rw [List.mem_singleton.1 ht]; exact hd)
  exact h _ _ w' hR hg hnx
/-- append of one document that lies in the memory, at a step of a region that draws its order. -/
theorem step_app1 {ops : Array Oper} {o : Oper} {a : Act} {K : Act → World → Prop} {Q : Exit → Act → World → Prop} {E : Prop} (hgd : o.guard = none) (s x : Operand) (t : TypeId)
    (ho : o.op = .call { callee := .builtin .append, args := #[s, x], argTypes := #[t, t] })
    (ht : P.underlying t = some (.slice 24)) (hinfo : (P.info? 24).map (fun i => (i.zero, i.size, i.bytes)) = some (some (.agg #[.int .i64 0, .string .empty, .int .i64 0, .slice none 0 0]), 4, 56))
    (w : World) (base : Nat) (v : Value) (l : List DV) (hs : a.eval s = v) (hown : DRow base w v l) (b : Nat) (d : DV) (hx : a.eval x = .slice (some ⟨b, 0, none⟩) 1 1)
    (hc : ∀ j u, d.cells[j]? = some u → w.cell? ⟨b, j, none⟩ = some u) (hins : d.In (Off base v w) w)
    (h63 : l.length + 1 ≤ 2513169434916) (hB : base ≤ w.heap.size)
    (h : ∀ A c' w', DRow base w' (.slice A (l.length + 1) c') (l ++ [d]) → w.grownBy w' v.ownBlock → Next v w (.slice A (l.length + 1) c') → K (a.put o.dst (.slice A (l.length + 1) c')) w') :
    if Region.wanted o (yielded ops a.tmps) = true then Oper.wp P o a w K Q else E := by
  have hw : Region.wanted o (yielded ops a.tmps) = true := by simp [Region.wanted, hgd]
  rw [if_pos hw]
  obtain ⟨i0, hi, hz0, hz1, hz2⟩ := info_parts hinfo
  have hf : flatD [d] = d.cells := by simp [flatD]
  obtain ⟨v', w', hr, hown', hgrow, _, hat⟩ := run_append_own_at (P := P) w base t o.type 24 i0 _ 4 56 ht hi hz0 hz1 hz2 rfl (by decide) v l.length (flatD l) hown.own ⟨b, 0, none⟩ 1 1 d.cells rfl (fun j u hu => by
    have hadd : (⟨b, 0, none⟩ : Addr).add j = ⟨b, j, none⟩ := by unfold Addr.add; split <;> simp_all
    rw [hadd]
    exact hc j u hu) (fun u hu => by
      simp only [DV.cells, List.mem_cons, List.not_mem_nil, or_false] at hu
      rcases hu with rfl | rfl | rfl | rfl <;> rfl) (by unfold maxLen; omega) (by omega) hB
  have hn : Next v w v' := by
    rcases hat with h | h
    · exact .inl h
    · exact .inr ⟨_, h, Nat.le_refl _⟩
  have hR := hown.app (news := [d]) (by rw [hf]; exact hown') hgrow hn (fun t ht => by rw [List.mem_singleton.1 ht]; exact hins)
  obtain ⟨A, c', rfl⟩ := own_form hown'
  unfold Oper.wp execOp
  simp only [ho, resolve, invoke, builtin, Sem.run_bind, Sem.run_pure, Result.andThen_ok, List.map_toArray, List.map_cons, List.map_nil, hs, hx, hr]
  exact h A c' w' hR hgrow hn
end
end Go.Proofs.YtnpaplfdmpjfgaaDoor
