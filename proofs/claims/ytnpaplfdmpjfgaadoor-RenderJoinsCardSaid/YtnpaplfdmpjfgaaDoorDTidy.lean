/- Documents without what makes no difference: plain. -/
import Derived.Test.YtnpaplfdmpjfgaaDoorDVoid
namespace Go.Proofs.YtnpaplfdmpjfgaaDoor
open Go.RowKit

def joinsK (k : Int) : Bool := k == 3 || k == 4 || k == 5 || k == 6
def noB : ByteArray := ⟨#[]⟩
def emptyD : Doc := ⟨0, noB, 0, []⟩
def strD (t : ByteArray) : Doc := ⟨1, t, 0, []⟩
/-- One kid more; texts that stand side by side are one. -/
def push (k : Int) (l : List Doc) (x : Doc) : List Doc :=
  if k == 3 then match l.getLast? with
    | some y => if y.kind == 1 && x.kind == 1 then l.dropLast ++ [strD (y.text ++ x.text)] else l ++ [x]
    | none => l ++ [x]
  else l ++ [x]
/-- What a tidy kid is among the kids of a kind. -/
def taken (k : Int) (t : Doc) : List Doc := if joinsK k && t.kind == k then t.kids else [t]
/-- Nests within nests, as long as their sum may be. -/
def nestD : Nat → Int → Doc → Int × Doc
  | 0, n, x => (n, x)
  | f + 1, n, x => match x.kids with
    | [y] => if x.kind == 2 && decide (-1000 ≤ n + x.n) && decide (n + x.n ≤ 1000) then nestD f (n + x.n) y else (n, x)
    | _ => (n, x)
def nestE (p : Int × Doc) : Doc := if p.1 == 0 then p.2 else ⟨2, noB, p.1, [p.2]⟩
/-- A document of tidy kids. -/
def tidyW (k n : Int) (l : List Doc) : Doc :=
  match l with
  | [] => ⟨k, noB, 0, []⟩
  | x :: r => if k == 2 then nestE (nestD x.wt n x) else if r.isEmpty then x else ⟨k, noB, 0, x :: r⟩
mutual
def Doc.tidy : Doc → Doc
  | ⟨k, t, n, kids⟩ => if k == 1 then ⟨k, t, n, kids⟩ else if voids kids then emptyD else tidyW k n ((spreads k kids).foldl (push k) [])
def spreads (k : Int) : List Doc → List Doc
  | [] => []
  | d :: r => if d.void then spreads k r else taken k d.tidy ++ spreads k r
end
theorem tidy_eq (d : Doc) : d.tidy = if d.kind == 1 then d else if voids d.kids then emptyD else tidyW d.kind d.n ((spreads d.kind d.kids).foldl (push d.kind) []) := by cases d; simp only [Doc.tidy]
theorem spreads_there (k : Int) (ds : List Doc) : spreads k ds = (ds.filter Doc.there).flatMap fun d => taken k d.tidy := by
  induction ds with
  | nil => rfl
  | cons d r ih =>
    cases hv : d.void with
    | true => rw [List.filter_cons_of_neg (by simp [Doc.there, hv]), ← ih]; simp [spreads, hv]
    | false => rw [List.filter_cons_of_pos (by simp [Doc.there, hv]), List.flatMap_cons, ← ih]; simp [spreads, hv]

theorem tidy_void {d : Doc} (h : d.void = true) : d.tidy = emptyD := by
  rw [void_eq, Bool.and_eq_true] at h
  rw [tidy_eq, if_neg (by simpa using h.1), if_pos h.2]

/-! The weight. -/
theorem wts_app (a b : List Doc) : wts (a ++ b) = wts a + wts b := by
  induction a with
  | nil => simp [wts]
  | cons x r ih => simp only [List.cons_append, wts, ih]; omega
theorem noB_size : noB.size = 0 := rfl
theorem wt_str (t : ByteArray) : (strD t).wt = 1 + t.size := by simp [strD, Doc.wt, wts]
theorem push_wt (k : Int) (l : List Doc) (x : Doc) : wts (push k l x) ≤ wts l + x.wt := by
  have h0 : wts (l ++ [x]) = wts l + x.wt := by rw [wts_app]; simp [wts]
  unfold push
  split
  · split
    · rename_i y hy
      split
      · obtain ⟨l', rfl⟩ := List.getLast?_eq_some_iff.1 hy
        rw [List.dropLast_concat, wts_app, wts_app]
        simp only [wts, wt_str, ByteArray.size_append]
        rw [wt_eq y, wt_eq x]
        omega
      · omega
    · omega
  · omega
theorem pushes_wt (k : Int) (xs : List Doc) : ∀ l, wts (xs.foldl (push k) l) ≤ wts l + wts xs := by
  induction xs with
  | nil => intro l; simp [wts]
  | cons x r ih => intro l; have := ih (push k l x); have := push_wt k l x; simp only [List.foldl_cons, wts]; omega
theorem taken_wt (k : Int) (t : Doc) : wts (taken k t) ≤ t.wt := by
  unfold taken
  split
  · rw [wt_eq]; omega
  · simp [wts]
theorem nestD_wt (f : Nat) : ∀ n x, (nestD f n x).2.wt ≤ x.wt := by
  induction f with
  | zero => intro n x; exact Nat.le_refl _
  | succ f ih =>
    intro n x
    unfold nestD
    split
    · rename_i y hy
      split
      · have := ih (n + x.n) y
        rw [wt_eq x, hy]
        simp only [wts]
        omega
      · exact Nat.le_refl _
    · exact Nat.le_refl _
theorem tidyW_wt (k n : Int) (l : List Doc) : (tidyW k n l).wt ≤ 1 + wts l := by
  unfold tidyW
  split
  · simp [Doc.wt, wts, noB_size]
  · rename_i x r
    split
    · unfold nestE
      have := nestD_wt x.wt n x
      split
      · simp only [wts]; omega
      · simp only [Doc.wt, wts, noB_size]; omega
    · split
      · simp only [wts]; omega
      · simp [Doc.wt, wts, noB_size]
theorem tidy_wt_aux (m : Nat) : ∀ d : Doc, d.wt ≤ m → d.tidy.wt ≤ d.wt := by
  induction m with
  | zero => intro d h; have := wt_pos d; omega
  | succ m ih =>
    intro d h
    have hs : ∀ ds : List Doc, wts ds ≤ m → wts (spreads d.kind ds) ≤ wts ds := by
      intro ds
      induction ds with
      | nil => intro _; simp [spreads]
      | cons a r ihr =>
        intro h
        simp only [wts] at h ⊢
        have := ih a (by omega)
        have := ihr (by omega)
        simp only [spreads]
        split
        · omega
        · rw [wts_app]
          have := taken_wt d.kind a.tidy
          omega
    rw [tidy_eq]
    split
    · exact Nat.le_refl _
    · split
      · have := wt_pos d; simp only [emptyD, Doc.wt, wts, noB_size]; omega
      · have h1 := tidyW_wt d.kind d.n ((spreads d.kind d.kids).foldl (push d.kind) [])
        have h2 := pushes_wt d.kind (spreads d.kind d.kids) []
        rw [wt_eq] at h
        have h3 := hs d.kids (by omega)
        rw [wt_eq d]
        simp only [wts] at h2
        omega
theorem tidy_wt (d : Doc) : d.tidy.wt ≤ d.wt := tidy_wt_aux d.wt d (Nat.le_refl _)
theorem spreads_wt (k : Int) (ds : List Doc) : wts (spreads k ds) ≤ wts ds := by
  induction ds with
  | nil => simp [spreads]
  | cons a r ih =>
    have := tidy_wt a
    simp only [spreads, wts]
    split
    · omega
    · rw [wts_app]
      have := taken_wt k a.tidy
      omega

/-! The form: all that a document must be, but for its texts. -/
def formF (k : Int) (t : ByteArray) (n : Int) (L : Nat) : Bool :=
  decide (0 ≤ k) && decide (k < 11) && (k == 1 || t.size == 0) && (k == 2 || n == 0) && decide (-1000 ≤ n) && decide (n ≤ 1000) && (decide (1 < k) || L == 0) && (k != 2 || L == 1)
mutual
def Doc.form : Doc → Bool
  | ⟨k, t, n, kids⟩ => formF k t n kids.length && forms kids
def forms : List Doc → Bool
  | [] => true
  | d :: r => d.form && forms r
end
theorem form_eq (d : Doc) : d.form = (formF d.kind d.text d.n d.kids.length && forms d.kids) := by cases d; rfl
theorem forms_iff {ds : List Doc} : forms ds = true ↔ ∀ d ∈ ds, d.form = true := by
  induction ds with
  | nil => simp [forms]
  | cons a r ih => simp [forms, ih]
theorem formF_iff {k : Int} {t : ByteArray} {n : Int} {L : Nat} : formF k t n L = true ↔ 0 ≤ k ∧ k < 11 ∧ (k = 1 ∨ t.size = 0) ∧ (k = 2 ∨ n = 0) ∧ -1000 ≤ n ∧ n ≤ 1000 ∧ (1 < k ∨ L = 0) ∧ (k ≠ 2 ∨ L = 1) := by
  simp [formF, and_assoc]
/-- What is told of a document's form. -/
structure FormAt (d : Doc) : Prop where
  k0 : 0 ≤ d.kind
  k1 : d.kind < 11
  t : d.kind = 1 ∨ d.text.size = 0
  n : d.kind = 2 ∨ d.n = 0
  n0 : -1000 ≤ d.n
  n1 : d.n ≤ 1000
  l : 1 < d.kind ∨ d.kids.length = 0
  l1 : d.kind ≠ 2 ∨ d.kids.length = 1
  kids : ∀ k ∈ d.kids, k.form = true
theorem form_at {d : Doc} : d.form = true ↔ FormAt d := by
  rw [form_eq, Bool.and_eq_true, formF_iff, forms_iff]
  exact ⟨fun ⟨⟨a, b, c, d, e, f, g, h⟩, i⟩ => ⟨a, b, c, d, e, f, g, h, i⟩, fun ⟨a, b, c, d, e, f, g, h, i⟩ => ⟨⟨a, b, c, d, e, f, g, h⟩, i⟩⟩

/-! What is tidy and there: no Empty, and kids within all but texts. -/
mutual
def Doc.solid : Doc → Bool
  | ⟨k, _, _, kids⟩ => k != 0 && (k == 1 || !kids.isEmpty) && solids kids
def solids : List Doc → Bool
  | [] => true
  | d :: r => d.solid && solids r
end
theorem solid_eq (d : Doc) : d.solid = (d.kind != 0 && (d.kind == 1 || !d.kids.isEmpty) && solids d.kids) := by cases d; rfl
theorem solids_iff {ds : List Doc} : solids ds = true ↔ ∀ d ∈ ds, d.solid = true := by
  induction ds with
  | nil => simp [solids]
  | cons a r ih => simp [solids, ih]
structure SolidAt (d : Doc) : Prop where
  k : d.kind ≠ 0
  l : d.kind = 1 ∨ d.kids ≠ []
  kids : ∀ k ∈ d.kids, k.solid = true
theorem solid_at {d : Doc} : d.solid = true ↔ SolidAt d := by
  rw [solid_eq, Bool.and_eq_true, Bool.and_eq_true, solids_iff]
  constructor
  · rintro ⟨⟨a, b⟩, c⟩
    exact ⟨by simpa using a, by simpa using b, c⟩
  · rintro ⟨a, b, c⟩
    exact ⟨⟨by simpa using a, by simpa using b⟩, c⟩
theorem solid_void_aux (m : Nat) : ∀ d : Doc, d.wt ≤ m → d.solid = true → d.void = false := by
  induction m with
  | zero => intro d h; have := wt_pos d; omega
  | succ m ih =>
    intro d hm h
    have hs := solid_at.1 h
    rw [void_eq]
    rcases hs.l with h1 | h1
    · simp [h1]
    · cases hk : d.kids with
      | nil => exact absurd hk h1
      | cons a r =>
        have ha : a ∈ d.kids := by rw [hk]; exact List.mem_cons_self
        have := ih a (by have := kid_lt ha; omega) (hs.kids a ha)
        simp [voids, this]
theorem solid_void {d : Doc} (h : d.solid = true) : d.void = false := solid_void_aux d.wt d (Nat.le_refl _) h

/-- Tidy kids: formed and solid. -/
def Fine (d : Doc) : Prop := d.form = true ∧ d.solid = true
theorem fine_str (t : ByteArray) : Fine (strD t) := ⟨form_at.2 ⟨by simp [strD], by simp [strD], .inl rfl, .inr rfl, by simp [strD], by simp [strD], .inr rfl, .inl (by simp [strD]), by simp [strD]⟩, solid_at.2 ⟨by simp [strD], .inl rfl, by simp [strD]⟩⟩
theorem push_fine {k : Int} {l : List Doc} {x : Doc} (hl : ∀ d ∈ l, Fine d) (hx : Fine x) : ∀ d ∈ push k l x, Fine d := by
  have h0 : ∀ d ∈ l ++ [x], Fine d := by
    intro d hd
    rcases List.mem_append.1 hd with h | h
    · exact hl d h
    · rw [List.mem_singleton.1 h]; exact hx
  unfold push
  split
  · split
    · split
      · intro d hd
        rcases List.mem_append.1 hd with h | h
        · exact hl d (List.dropLast_subset _ h)
        · rw [List.mem_singleton.1 h]; exact fine_str _
      · exact h0
    · exact h0
  · exact h0
theorem push_ne {k : Int} {l : List Doc} {x : Doc} : push k l x ≠ [] := by
  unfold push
  split
  · split
    · split <;> simp
    · simp
  · simp
theorem pushes_fine {k : Int} {xs : List Doc} : ∀ {l}, (∀ d ∈ l, Fine d) → (∀ d ∈ xs, Fine d) → ∀ d ∈ xs.foldl (push k) l, Fine d := by
  induction xs with
  | nil => intro l hl _; exact hl
  | cons x r ih => intro l hl hx; exact ih (push_fine hl (hx x List.mem_cons_self)) (fun d hd => hx d (List.mem_cons_of_mem _ hd))
theorem pushes_ne {k : Int} {xs : List Doc} : ∀ {l : List Doc}, xs ≠ [] ∨ l ≠ [] → xs.foldl (push k) l ≠ [] := by
  induction xs with
  | nil => intro l h; rcases h with h | h; exact absurd rfl h; exact h
  | cons x r ih => intro l _; exact ih (.inr push_ne)
theorem fine_kids {d : Doc} (h : Fine d) : ∀ k ∈ d.kids, Fine k := fun k hk => ⟨(form_at.1 h.1).kids k hk, (solid_at.1 h.2).kids k hk⟩
theorem taken_fine {k : Int} {t : Doc} (h : Fine t) : ∀ d ∈ taken k t, Fine d := by
  unfold taken
  split
  · exact fine_kids h
  · intro d hd; rw [List.mem_singleton.1 hd]; exact h
theorem taken_ne {k : Int} {t : Doc} (h : Fine t) : taken k t ≠ [] := by
  unfold taken
  split
  · rename_i hj
    rw [Bool.and_eq_true] at hj
    rcases (solid_at.1 h.2).l with h1 | h1
    · have h2 : t.kind = k := by simpa using hj.2
      rw [h1] at h2
      subst h2
      exact absurd hj.1 (by decide)
    · exact h1
  · simp
theorem nestD_fine (f : Nat) : ∀ n x, Fine x → -1000 ≤ n → n ≤ 1000 → Fine (nestD f n x).2 ∧ -1000 ≤ (nestD f n x).1 ∧ (nestD f n x).1 ≤ 1000 := by
  induction f with
  | zero => intro n x hx h1 h2; exact ⟨hx, h1, h2⟩
  | succ f ih =>
    intro n x hx h1 h2
    unfold nestD
    split
    · rename_i y hy
      split
      · rename_i hc
        simp only [Bool.and_eq_true, decide_eq_true_eq] at hc
        exact ih _ _ (fine_kids hx y (by rw [hy]; exact List.mem_cons_self)) hc.1.2 hc.2
      · exact ⟨hx, h1, h2⟩
    · exact ⟨hx, h1, h2⟩
theorem tidyW_fine {k n : Int} {l : List Doc} (hl : ∀ d ∈ l, Fine d) (hne : l ≠ []) (hk0 : 1 < k) (hk1 : k < 11) (hn0 : -1000 ≤ n) (hn1 : n ≤ 1000) : Fine (tidyW k n l) := by
  cases l with
  | nil => exact absurd rfl hne
  | cons x r =>
    have hx := hl x List.mem_cons_self
    simp only [tidyW]
    split
    · obtain ⟨h1, h2, h3⟩ := nestD_fine x.wt n x hx hn0 hn1
      unfold nestE
      split
      · exact h1
      · refine ⟨form_at.2 ⟨by simp, by simp, .inr rfl, .inl rfl, h2, h3, .inl (by simp), .inr rfl, ?_⟩, solid_at.2 ⟨by simp, .inr (by simp), ?_⟩⟩
        · intro d hd; rw [List.mem_singleton.1 hd]; exact h1.1
        · intro d hd; rw [List.mem_singleton.1 hd]; exact h1.2
    · rename_i hk2
      split
      · exact hx
      · have hk2' : k ≠ 2 := by simpa using hk2
        exact ⟨form_at.2 ⟨by simp only; omega, hk1, .inr rfl, .inr rfl, by simp, by simp, .inl hk0, .inl hk2', fun d hd => (hl d hd).1⟩, solid_at.2 ⟨by simp only; omega, .inr (by simp), fun d hd => (hl d hd).2⟩⟩
theorem tidy_fine_aux (m : Nat) : ∀ d : Doc, d.wt ≤ m → d.form = true → d.void = false → Fine d.tidy := by
  induction m with
  | zero => intro d h; have := wt_pos d; omega
  | succ m ih =>
    intro d hm hf hv
    have F := form_at.1 hf
    rw [tidy_eq]
    split
    · rename_i h1
      have h1' : d.kind = 1 := by simpa using h1
      exact ⟨hf, solid_at.2 ⟨by omega, .inl h1', by
        have : d.kids = [] := List.eq_nil_of_length_eq_zero (by rcases F.l with h | h <;> omega)
        simp [this]⟩⟩
    · rename_i h1
      have h1' : d.kind ≠ 1 := by simpa using h1
      have hvs : voids d.kids = false := by
        rw [void_eq] at hv
        simpa [h1'] using hv
      rw [if_neg (by simp [hvs])]
      have hk1 : 1 < d.kind := by
        rcases F.l with h | h
        · exact h
        · have : d.kids = [] := List.eq_nil_of_length_eq_zero h
          rw [this] at hvs
          simp [voids] at hvs
      have hsp : (∀ x ∈ spreads d.kind d.kids, Fine x) ∧ spreads d.kind d.kids ≠ [] := by
        rw [spreads_there]
        constructor
        · intro x hx
          obtain ⟨a, ha, hx⟩ := List.mem_flatMap.1 hx
          obtain ⟨ha, hav⟩ := List.mem_filter.1 ha
          exact taken_fine (ih a (by have := kid_lt ha; omega) (F.kids a ha) (by simpa [Doc.there] using hav)) x hx
        · intro he
          have h0 : (d.kids.filter Doc.there) = [] := by
            cases hh : d.kids.filter Doc.there with
            | nil => rfl
            | cons a r =>
              rw [hh, List.flatMap_cons] at he
              have ha : a ∈ d.kids.filter Doc.there := by rw [hh]; exact List.mem_cons_self
              obtain ⟨ha, hav⟩ := List.mem_filter.1 ha
              exact absurd (List.append_eq_nil_iff.1 he).1 (taken_ne (ih a (by have := kid_lt ha; omega) (F.kids a ha) (by simpa [Doc.there] using hav)))
          have := there_none d.kids
          rw [h0, hvs] at this
          simp at this
      exact tidyW_fine (pushes_fine (by simp) hsp.1) (pushes_ne (.inl hsp.2)) hk1 F.k1 F.n0 F.n1
theorem tidy_fine {d : Doc} (hf : d.form = true) (hv : d.void = false) : Fine d.tidy := tidy_fine_aux d.wt d (Nat.le_refl _) hf hv
theorem tidy_kind {d : Doc} (hf : d.form = true) : (d.tidy.kind == 0) = d.void := by
  cases hv : d.void with
  | true => rw [tidy_void hv]; rfl
  | false => simpa using (solid_at.1 (tidy_fine hf hv).2).k
end Go.Proofs.YtnpaplfdmpjfgaaDoor
