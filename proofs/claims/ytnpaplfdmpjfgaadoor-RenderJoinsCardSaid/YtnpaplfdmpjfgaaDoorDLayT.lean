/- What is tidy is laid out as what it was made of: plain. -/
import Derived.Test.YtnpaplfdmpjfgaaDoorDLayM
namespace Go.Proofs.YtnpaplfdmpjfgaaDoor
open Go.RowKit

/-! What is tidy may be. -/
theorem may_iff {d : Doc} : d.may = true ↔ formF d.kind d.text d.n d.kids.length = true ∧ plainF d.text = true ∧ ∀ k ∈ d.kids, k.may = true := by
  rw [may_eq, here_form, Bool.and_eq_true, Bool.and_eq_true, List.all_eq_true, and_assoc]
theorem plainF_no : plainF noB = true := by
  unfold plainF lowless good
  simp only [Bool.and_eq_true, decide_eq_true_eq]
  exact ⟨rfl, fun j hj => absurd hj (by simp [noB, ByteArray.size])⟩
theorem may_mk {k n : Int} {L : List Doc} (h0 : 0 ≤ k) (h1 : k < 11) (h2 : k = 2 ∨ n = 0) (h3 : -1000 ≤ n) (h4 : n ≤ 1000) (h5 : 1 < k ∨ L.length = 0) (h6 : k ≠ 2 ∨ L.length = 1) (hL : ∀ x ∈ L, x.may = true) : (⟨k, noB, n, L⟩ : Doc).may = true :=
  may_iff.2 ⟨formF_iff.2 ⟨h0, h1, .inr rfl, h2, h3, h4, h5, h6⟩, plainF_no, hL⟩
theorem may_str {t : ByteArray} (h : plainF t = true) : (strD t).may = true :=
  may_iff.2 ⟨formF_iff.2 ⟨by simp [strD], by simp [strD], .inl rfl, .inr rfl, by simp [strD], by simp [strD], .inr rfl, .inl (by simp [strD])⟩, h, by simp [strD]⟩
theorem push_may {k : Int} {l : List Doc} {x : Doc} (hl : ∀ d ∈ l, d.may = true) (hx : x.may = true) : ∀ d ∈ push k l x, d.may = true := by
  have h0 : ∀ d ∈ l ++ [x], d.may = true := by
    intro d hd
    rcases List.mem_append.1 hd with h | h
    · exact hl d h
    · rw [List.mem_singleton.1 h]; exact hx
  unfold push
  split
  · split
    · rename_i y hy
      split
      · intro d hd
        rcases List.mem_append.1 hd with h | h
        · exact hl d (List.dropLast_subset _ h)
        · rw [List.mem_singleton.1 h]
          exact may_str (plainF_app (may_plain (hl y (List.mem_of_getLast? hy))) (may_plain hx))
      · exact h0
    · exact h0
  · exact h0
theorem pushes_may {k : Int} {xs : List Doc} : ∀ {l}, (∀ d ∈ l, d.may = true) → (∀ d ∈ xs, d.may = true) → ∀ d ∈ xs.foldl (push k) l, d.may = true := by
  induction xs with
  | nil => intro l hl _; exact hl
  | cons x r ih => intro l hl hx; exact ih (push_may hl (hx x List.mem_cons_self)) (fun d hd => hx d (List.mem_cons_of_mem _ hd))
theorem taken_may {k : Int} {t : Doc} (h : t.may = true) : ∀ x ∈ taken k t, x.may = true := by
  unfold taken
  split
  · exact may_kids h
  · intro x hx; rw [List.mem_singleton.1 hx]; exact h
theorem nestD_may (f : Nat) : ∀ n x, x.may = true → (nestD f n x).2.may = true := by
  induction f with
  | zero => intro n x hx; exact hx
  | succ f ih =>
    intro n x hx
    unfold nestD
    split
    · rename_i y hy
      split
      · exact ih _ _ (may_kids hx y (by rw [hy]; exact List.mem_cons_self))
      · exact hx
    · exact hx
theorem tidyW_may {k n : Int} {L : List Doc} (hL : ∀ d ∈ L, d.may = true) (hF : ∀ d ∈ L, Fine d) (hne : L ≠ []) (hk0 : 1 < k) (hk1 : k < 11) (hn0 : -1000 ≤ n) (hn1 : n ≤ 1000) : (tidyW k n L).may = true := by
  match L, hne with
  | x :: r, _ =>
    have hx := hL x List.mem_cons_self
    simp only [tidyW]
    split
    · have hb := nestD_fine x.wt n x (hF x List.mem_cons_self) hn0 hn1
      have hm := nestD_may x.wt n x hx
      unfold nestE
      split
      · exact hm
      · exact may_mk (by omega) (by omega) (.inl rfl) hb.2.1 hb.2.2 (.inl (by omega)) (.inr rfl) (fun y hy => by rw [List.mem_singleton.1 hy]; exact hm)
    · rename_i hk2
      split
      · exact hx
      · exact may_mk (by omega) hk1 (.inr rfl) (by omega) (by omega) (.inl hk0) (.inl (by simpa using hk2)) hL
theorem may_empty : emptyD.may = true := may_mk (k := 0) (n := 0) (L := []) (by omega) (by omega) (.inr rfl) (by omega) (by omega) (.inr rfl) (.inl (by omega)) (by simp)
theorem tidy_may_aux (m : Nat) : ∀ d : Doc, d.wt ≤ m → d.may = true → d.tidy.may = true := by
  induction m with
  | zero => intro d h; have := wt_pos d; omega
  | succ m ih =>
    intro d hm hmay
    have hf := may_form hmay
    cases hv : d.void with
    | true => rw [tidy_void hv]; exact may_empty
    | false =>
      by_cases h1 : d.kind = 1
      · rw [tidy_str (by simpa using h1)]; exact hmay
      · have h1' : (d.kind == 1) = false := by simpa using h1
        have hF := form_at.1 hf
        have hok := spreads_ok hf hv h1'
        have hk1 : 1 < d.kind := by
          rcases hF.l with h | h
          · exact h
          · have hkn : d.kids = [] := List.eq_nil_of_length_eq_zero h
            rw [void_eq, hkn] at hv
            simp [bne, h1', voids] at hv
        rw [tidy_else h1' hv]
        have hsp : ∀ x ∈ spreads d.kind d.kids, x.may = true := by
          rw [spreads_there]
          intro x hx
          obtain ⟨a, ha, hx⟩ := List.mem_flatMap.1 hx
          have ha := (List.mem_filter.1 ha).1
          exact taken_may (ih a (by have := kid_lt ha; omega) (may_kids hmay a ha)) x hx
        have hfi : ∀ x ∈ spreads d.kind d.kids, Fine x := by
          rw [spreads_there]
          intro x hx
          obtain ⟨a, ha, hx⟩ := List.mem_flatMap.1 hx
          have ha2 := List.mem_filter.1 ha
          exact taken_fine (tidy_fine (hF.kids a ha2.1) (by simpa [Doc.there] using ha2.2)) x hx
        exact tidyW_may (pushes_may (by simp) hsp) (pushes_fine (by simp) hfi) (pushes_ne (.inl hok.2)) hk1 hF.k1 hF.n0 hF.n1
theorem tidy_may {d : Doc} (h : d.may = true) : d.tidy.may = true := tidy_may_aux d.wt d (Nat.le_refl _) h

/-! How many documents there are. -/
theorem nums_app (a b : List Doc) : nums (a ++ b) = nums a + nums b := by
  induction a with
  | nil => simp [nums]
  | cons x r ih => simp only [List.cons_append, nums, ih]; omega
theorem num_pos (d : Doc) : 0 < d.num := by rw [num_eq]; omega
theorem num_str (t : ByteArray) : (strD t).num = 1 := rfl
theorem push_num (k : Int) (l : List Doc) (x : Doc) : nums (push k l x) ≤ nums l + x.num := by
  have h0 : nums (l ++ [x]) = nums l + x.num := by rw [nums_app]; simp [nums]
  unfold push
  split
  · split
    · rename_i y hy
      split
      · obtain ⟨l', rfl⟩ := List.getLast?_eq_some_iff.1 hy
        rw [List.dropLast_concat, nums_app, nums_app]
        simp only [nums, num_str]
        have := num_pos x
        have := num_pos y
        omega
      · omega
    · omega
  · omega
theorem pushes_num (k : Int) (xs : List Doc) : ∀ l, nums (xs.foldl (push k) l) ≤ nums l + nums xs := by
  induction xs with
  | nil => intro l; simp [nums]
  | cons x r ih => intro l; have := ih (push k l x); have := push_num k l x; simp only [List.foldl_cons, nums]; omega
theorem taken_num (k : Int) (t : Doc) : nums (taken k t) ≤ t.num := by
  unfold taken
  split
  · rw [num_eq]; omega
  · simp [nums]
theorem nestD_num (f : Nat) : ∀ n x, (nestD f n x).2.num ≤ x.num := by
  induction f with
  | zero => intro n x; exact Nat.le_refl _
  | succ f ih =>
    intro n x
    unfold nestD
    split
    · rename_i y hy
      split
      · have := ih (n + x.n) y
        rw [num_eq x, hy]
        simp only [nums]
        omega
      · exact Nat.le_refl _
    · exact Nat.le_refl _
theorem tidyW_num (k n : Int) (l : List Doc) : (tidyW k n l).num ≤ 1 + nums l := by
  unfold tidyW
  split
  · simp [Doc.num, nums]
  · rename_i x r
    split
    · unfold nestE
      have := nestD_num x.wt n x
      split
      · simp only [nums]; omega
      · simp only [Doc.num, nums]; omega
    · split
      · simp only [nums]; omega
      · simp [Doc.num, nums]
theorem tidy_num_aux (m : Nat) : ∀ d : Doc, d.wt ≤ m → d.tidy.num ≤ d.num := by
  induction m with
  | zero => intro d h; have := wt_pos d; omega
  | succ m ih =>
    intro d h
    have hs : ∀ ds : List Doc, wts ds ≤ m → nums (spreads d.kind ds) ≤ nums ds := by
      intro ds
      induction ds with
      | nil => intro _; simp [spreads]
      | cons a r ihr =>
        intro h
        simp only [wts] at h
        have := ih a (by omega)
        have := ihr (by omega)
        simp only [spreads, nums]
        split
        · omega
        · rw [nums_app]
          have := taken_num d.kind a.tidy
          omega
    rw [tidy_eq]
    split
    · exact Nat.le_refl _
    · split
      · have := num_pos d; show 1 ≤ d.num; omega
      · have h1 := tidyW_num d.kind d.n ((spreads d.kind d.kids).foldl (push d.kind) [])
        have h2 := pushes_num d.kind (spreads d.kind d.kids) []
        rw [wt_eq] at h
        have h3 := hs d.kids (by omega)
        rw [num_eq d]
        simp only [nums] at h2
        omega
theorem tidy_num (d : Doc) : d.tidy.num ≤ d.num := tidy_num_aux d.wt d (Nat.le_refl _)
theorem check_parts {d : Doc} (h : checkN d = 0) : d.num ≤ 65536 ∧ d.may = true := by
  unfold checkN at h
  split at h
  · cases h
  · split at h
    · exact ⟨by omega, by assumption⟩
    · cases h
theorem tidy_check {d : Doc} (h : checkN d = 0) : checkN d.tidy = 0 := by
  obtain ⟨h1, h2⟩ := check_parts h
  exact check_ok (by have := tidy_num d; omega) (tidy_may h2)

/-! It is laid out alike. -/
/-- Two documents that are laid alike wherever. -/
structure Alike (x y : Doc) : Prop where
  void : x.void = y.void
  lead : x.lead0 = y.lead0
  flat : x.flat = y.flat
  lay : ∀ c p base fresh, x.lay c p base fresh = y.lay c p base fresh
theorem besides_cons {c : Cfg} {k : Int} {x y : Doc} {r r' : List Doc} (h : Alike x y) (hr : ∀ f p base fresh, besides c k r f p base fresh = besides c k r' f p base fresh) : ∀ f p base fresh, besides c k (x :: r) f p base fresh = besides c k (y :: r') f p base fresh := by
  intro f p base fresh
  simp only [besides, h.void, h.lay, hr]
theorem belows_cons {c : Cfg} {ov : Bool} {x y : Doc} {r r' : List Doc} (h : Alike x y) (hr : ∀ f p base fresh, belows c ov r f p base fresh = belows c ov r' f p base fresh) : ∀ f p base fresh, belows c ov (x :: r) f p base fresh = belows c ov (y :: r') f p base fresh := by
  intro f p base fresh
  simp only [belows, h.void, h.lay, h.lead, hr]
theorem fills_cons {c : Cfg} {k : Int} {x y : Doc} {r r' : List Doc} (h : Alike x y) (hr : ∀ f one p base fresh, fills c k r f one p base fresh = fills c k r' f one p base fresh) : ∀ f one p base fresh, fills c k (x :: r) f one p base fresh = fills c k (y :: r') f one p base fresh := by
  intro f one p base fresh
  simp only [fills, h.void, h.lay, h.flat, hr]
theorem spreads_void {k : Int} {x : Doc} {r : List Doc} (h : x.void = true) : spreads k (x :: r) = spreads k r := by simp [spreads, h]
theorem spreads_cons {k : Int} {x : Doc} {r : List Doc} (h : x.void = false) : spreads k (x :: r) = taken k x.tidy ++ spreads k r := by simp [spreads, h]
theorem besides_spreads {k : Int} (hk : k = 3 ∨ k = 4) (c : Cfg) (ds : List Doc) (h : ∀ d ∈ ds, Alike d.tidy d) : ∀ f p base fresh, besides c k (spreads k ds) f p base fresh = besides c k ds f p base fresh := by
  induction ds with
  | nil => intro f p base fresh; rfl
  | cons x r ih =>
    have ih := ih (fun d hd => h d (List.mem_cons_of_mem _ hd))
    have hx := h x List.mem_cons_self
    intro f p base fresh
    cases hv : x.void with
    | true => rw [spreads_void hv, besides_void hv, ih]
    | false =>
      rw [spreads_cons hv]
      unfold taken
      split
      · rename_i ht
        rw [Bool.and_eq_true, beq_iff_eq] at ht
        rw [← besides_splice hk ht.2]
        exact besides_cons hx ih f p base fresh
      · exact besides_cons hx ih f p base fresh
theorem belows_spreads {k : Int} (hk : k = 5 ∨ k = 6) (c : Cfg) (ds : List Doc) (h : ∀ d ∈ ds, Alike d.tidy d) (hf : ∀ d ∈ ds, d.tidy.form = true) : ∀ f p base fresh, belows c (k == 5) (spreads k ds) f p base fresh = belows c (k == 5) ds f p base fresh := by
  induction ds with
  | nil => intro f p base fresh; rfl
  | cons x r ih =>
    have ih := ih (fun d hd => h d (List.mem_cons_of_mem _ hd)) (fun d hd => hf d (List.mem_cons_of_mem _ hd))
    have hx := h x List.mem_cons_self
    intro f p base fresh
    cases hv : x.void with
    | true => rw [spreads_void hv, belows_void hv, ih]
    | false =>
      rw [spreads_cons hv]
      unfold taken
      split
      · rename_i ht
        rw [Bool.and_eq_true, beq_iff_eq] at ht
        rw [← belows_splice hk (hf x List.mem_cons_self) ht.2]
        exact belows_cons hx ih f p base fresh
      · exact belows_cons hx ih f p base fresh
theorem belows_spreads' {k : Int} (hk : joinsK k = false) (c : Cfg) (ov : Bool) (ds : List Doc) (h : ∀ d ∈ ds, Alike d.tidy d) : ∀ f p base fresh, belows c ov (spreads k ds) f p base fresh = belows c ov ds f p base fresh := by
  induction ds with
  | nil => intro f p base fresh; rfl
  | cons x r ih =>
    have ih := ih (fun d hd => h d (List.mem_cons_of_mem _ hd))
    have hx := h x List.mem_cons_self
    intro f p base fresh
    cases hv : x.void with
    | true => rw [spreads_void hv, belows_void hv, ih]
    | false =>
      rw [spreads_cons hv]
      unfold taken
      rw [hk]
      exact belows_cons hx ih f p base fresh
theorem fills_spreads {k : Int} (hk : joinsK k = false) (c : Cfg) (ds : List Doc) (h : ∀ d ∈ ds, Alike d.tidy d) : ∀ f one p base fresh, fills c k (spreads k ds) f one p base fresh = fills c k ds f one p base fresh := by
  induction ds with
  | nil => intro f one p base fresh; rfl
  | cons x r ih =>
    have ih := ih (fun d hd => h d (List.mem_cons_of_mem _ hd))
    have hx := h x List.mem_cons_self
    intro f one p base fresh
    cases hv : x.void with
    | true => rw [spreads_void hv, fills_void hv, ih]
    | false =>
      rw [spreads_cons hv]
      unfold taken
      rw [hk]
      exact fills_cons hx ih f one p base fresh
theorem push_other {k : Int} (hk : k ≠ 3) (l : List Doc) (x : Doc) : push k l x = l ++ [x] := by
  unfold push
  rw [if_neg (by simpa using hk)]
theorem pushes_other {k : Int} (hk : k ≠ 3) (xs : List Doc) : ∀ l, xs.foldl (push k) l = l ++ xs := by
  induction xs with
  | nil => intro l; simp
  | cons x r ih => intro l; rw [List.foldl_cons, push_other hk, ih]; simp
theorem besides3_two (c : Cfg) {y x : Doc} (hy : y.kind = 1) (hx : x.kind = 1) (hg : good y.text = true) (r : List Doc) : ∀ f p base fresh, besides c 3 (strD (y.text ++ x.text) :: r) f p base fresh = besides c 3 (y :: x :: r) f p base fresh := by
  intro f p base fresh
  have hl : ∀ (t : Doc), t.kind = 1 → ∀ p base fresh, t.lay c p base fresh = put c p t.text base fresh := fun t ht p base fresh => by rw [lay_eq, ht]; rfl
  have hvs : (strD (y.text ++ x.text)).void = false := str_void rfl
  have h4 : ((3 : Int) == 4) = false := rfl
  cases f with
  | true =>
    rw [besides_first hvs, besides_first (str_void hy), hl _ rfl, hl y hy]
    show (put c p (y.text ++ x.text) base fresh).bind _ = _
    rw [put_app hg, Option.bind_assoc]
    congr 1
    funext q
    rw [besides_next (str_void hx), h4]
    simp only [Bool.false_eq_true, if_false, Option.bind_some]
    rw [hl x hx, put_nf c q x.text q.col 0]
  | false =>
    rw [besides_next hvs, besides_next (str_void hy), h4]
    simp only [Bool.false_eq_true, if_false, Option.bind_some]
    rw [hl _ rfl, hl y hy]
    show (put c p (y.text ++ x.text) p.col false).bind _ = _
    rw [put_app hg, Option.bind_assoc]
    congr 1
    funext q
    rw [besides_next (str_void hx), h4]
    simp only [Bool.false_eq_true, if_false, Option.bind_some]
    rw [hl x hx, put_nf c q x.text q.col 0]
theorem besides3_push (c : Cfg) (l : List Doc) (x : Doc) (hl : ∀ d ∈ l, d.may = true) (r : List Doc) : ∀ f p base fresh, besides c 3 (push 3 l x ++ r) f p base fresh = besides c 3 (l ++ x :: r) f p base fresh := by
  intro f p base fresh
  have h0 : l ++ [x] ++ r = l ++ x :: r := by simp
  unfold push
  rw [if_pos (by rfl)]
  split
  · rename_i y hy
    obtain ⟨l', rfl⟩ := List.getLast?_eq_some_iff.1 hy
    split
    · rename_i hk
      rw [Bool.and_eq_true, beq_iff_eq, beq_iff_eq] at hk
      rw [List.dropLast_concat, List.append_assoc, List.append_assoc, besides_append, besides_append]
      congr 1
      funext q
      exact besides3_two c hk.1 hk.2 (may_good (hl y (by simp))) r _ q base fresh
    · rw [h0]
  · rw [h0]
theorem besides3_pushes (c : Cfg) (xs : List Doc) : ∀ (l : List Doc), (∀ d ∈ l, d.may = true) → (∀ d ∈ xs, d.may = true) → ∀ f p base fresh, besides c 3 (xs.foldl (push 3) l) f p base fresh = besides c 3 (l ++ xs) f p base fresh := by
  induction xs with
  | nil => intro l _ _ f p base fresh; simp
  | cons x r ih =>
    intro l hl hx f p base fresh
    rw [List.foldl_cons, ih (push 3 l x) (push_may hl (hx x List.mem_cons_self)) (fun d hd => hx d (List.mem_cons_of_mem _ hd)), besides3_push c l x hl r]
theorem nestD_lay (m : Nat) : ∀ (n : Int) (x : Doc) (c : Cfg) (p : Pen) (base : Int) (fresh : Bool), (nestE (nestD m n x)).lay c p base fresh = x.lay c p (if fresh then base + n else base) fresh := by
  have h0 : ∀ (n : Int) (x : Doc) (c : Cfg) (p : Pen) (base : Int) (fresh : Bool), (nestE (n, x)).lay c p base fresh = x.lay c p (if fresh then base + n else base) fresh := by
    intro n x c p base fresh
    unfold nestE
    split
    · rename_i hn
      have hn : n = 0 := by simpa using hn
      rw [hn]
      cases fresh <;> simp
    · rw [lay_eq]
      rfl
  induction m with
  | zero => exact h0
  | succ m ih =>
    intro n x c p base fresh
    unfold nestD
    split
    · rename_i y hy
      split
      · rename_i hc
        simp only [Bool.and_eq_true, beq_iff_eq] at hc
        rw [ih, lay_eq c x, hc.1.1, hy]
        show y.lay c p _ fresh = y.lay c p _ fresh
        cases fresh <;> simp [Int.add_assoc]
      · exact h0 n x c p base fresh
    · exact h0 n x c p base fresh
theorem besides_single {c : Cfg} {k : Int} {x : Doc} (hv : x.void = false) (p : Pen) (base : Int) (fresh : Bool) : besides c k [x] true p base fresh = x.lay c p base fresh := by
  rw [besides_first hv]
  cases x.lay c p base fresh <;> rfl
theorem belows_single {c : Cfg} {ov : Bool} {x : Doc} (hv : x.void = false) (p : Pen) (base : Int) (fresh : Bool) : belows c ov [x] true p base fresh = x.lay c p base fresh := by
  rw [belows_first hv]
  cases x.lay c p base fresh <;> rfl
theorem fills_single {c : Cfg} {k : Int} {one : Bool} {x : Doc} (hv : x.void = false) (p : Pen) (base : Int) (fresh : Bool) : fills c k [x] true one p base fresh = x.lay c p base fresh := by
  rw [fills_first hv]
  cases x.lay c p base fresh <;> rfl
theorem lay_tidy_aux (m : Nat) : ∀ d : Doc, d.wt ≤ m → d.may = true → ∀ c p base fresh, d.tidy.lay c p base fresh = d.lay c p base fresh := by
  induction m with
  | zero => intro d h; have := wt_pos d; omega
  | succ m ih =>
    intro d hm hmay c p base fresh
    have hf := may_form hmay
    have hF := form_at.1 hf
    have hal : ∀ k ∈ d.kids, Alike k.tidy k := fun k hk =>
      ⟨tidy_void_eq (hF.kids k hk), tidy_lead_aux k.wt k (Nat.le_refl _) (hF.kids k hk), tidy_flat (hF.kids k hk), ih k (by have := kid_lt hk; omega) (may_kids hmay k hk)⟩
    cases hv : d.void with
    | true =>
      rw [tidy_void hv, lay_void hv, lay_void (d := emptyD) rfl]
    | false =>
      by_cases h1 : d.kind = 1
      · rw [tidy_str (by simpa using h1)]
      · have h1' : (d.kind == 1) = false := by simpa using h1
        have hok := spreads_ok hf hv h1'
        have htf := tidy_flat hf
        have htl := tidy_lead_aux d.wt d (Nat.le_refl _) hf
        have htv := tidy_void_eq hf
        have htm := tidy_may hmay
        have hte := tidy_else h1' hv
        have hk0 := hF.k0
        have hk1 := hF.k1
        have hsm : ∀ x ∈ spreads d.kind d.kids, x.may = true := by
          rw [spreads_there]
          intro x hx
          obtain ⟨a, ha, hx⟩ := List.mem_flatMap.1 hx
          exact taken_may (tidy_may (may_kids hmay a (List.mem_filter.1 ha).1)) x hx
        have hsf : ∀ x ∈ spreads d.kind d.kids, Fine x := by
          rw [spreads_there]
          intro x hx
          obtain ⟨a, ha, hx⟩ := List.mem_flatMap.1 hx
          have ha2 := List.mem_filter.1 ha
          exact taken_fine (tidy_fine (hF.kids a ha2.1) (by simpa [Doc.there] using ha2.2)) x hx
        have hLf : ∀ x ∈ (spreads d.kind d.kids).foldl (push d.kind) [], Fine x := pushes_fine (by simp) hsf
        have hLne : (spreads d.kind d.kids).foldl (push d.kind) [] ≠ [] := pushes_ne (.inl hok.2)
        rcases (by omega : d.kind = 0 ∨ d.kind = 2 ∨ (d.kind = 3 ∨ d.kind = 4) ∨ (d.kind = 5 ∨ d.kind = 6) ∨ (d.kind = 7 ∨ d.kind = 8) ∨ (d.kind = 9 ∨ d.kind = 10)) with e | e | e | e | e | e
        · have hkids : d.kids = [] := List.eq_nil_of_length_eq_zero (hF.l.resolve_left (by omega))
          rw [void_eq, e, hkids] at hv
          cases hv
        · -- a Nest
          obtain ⟨x, hx⟩ : ∃ x, d.kids = [x] := by
            have := hF.l1.resolve_left (by omega)
            match hd : d.kids with
            | [x] => exact ⟨x, rfl⟩
            | [] => rw [hd] at this; simp at this
            | _ :: _ :: _ => rw [hd] at this; simp at this
          have hxv : x.void = false := by
            rw [void_eq, e, hx] at hv
            simpa [voids] using hv
          have hsp : (spreads d.kind d.kids).foldl (push d.kind) [] = [x.tidy] := by
            rw [pushes_other (by omega), hx, spreads_cons hxv]
            unfold taken
            rw [e]
            rfl
          rw [hte, hsp, e]
          show (nestE (nestD _ d.n x.tidy)).lay c p base fresh = _
          rw [nestD_lay, (hal x (by rw [hx]; exact List.mem_cons_self)).lay, lay_eq c d, e, hx]
          rfl
        · have hd : d.lay c p base fresh = besides c d.kind d.kids true p base fresh := by
            rw [lay_eq]
            rcases e with e | e <;> rw [e] <;> rfl
          have hL : besides c d.kind ((spreads d.kind d.kids).foldl (push d.kind) []) true p base fresh = besides c d.kind d.kids true p base fresh := by
            rw [← besides_spreads e c d.kids hal]
            rcases e with e | e
            · rw [e]; rw [e] at hsm; rw [besides3_pushes c _ [] (by simp) hsm]; rfl
            · rw [pushes_other (by omega)]; rfl
          rw [hd, ← hL, hte]
          generalize (spreads d.kind d.kids).foldl (push d.kind) [] = L at hLf hLne ⊢
          match L, hLne with
          | x :: r, _ =>
            have hxv := solid_void (hLf x List.mem_cons_self).2
            simp only [tidyW]
            rw [if_neg (by rcases e with e | e <;> rw [e] <;> decide)]
            split
            · rename_i hr
              have : r = [] := by simpa using hr
              rw [this, besides_single hxv]
            · rw [lay_eq]
              rcases e with e | e <;> rw [e] <;> rfl
        · have hsep : ∀ (D : Doc), D.kind = d.kind → sepT c D.kind p D.flat D.void (base + D.lead0) fresh = none := fun D hD => by
            unfold sepT
            rw [hD]
            rcases e with e | e <;> rw [e] <;> rfl
          have hd : d.lay c p base fresh = belows c (d.kind == 5) d.kids true p base fresh := by
            rw [lay_eq, hsep d rfl]
            rcases e with e | e <;> rw [e] <;> rfl
          have hL : belows c (d.kind == 5) ((spreads d.kind d.kids).foldl (push d.kind) []) true p base fresh = belows c (d.kind == 5) d.kids true p base fresh := by
            rw [← belows_spreads e c d.kids hal (fun k hk => may_form (tidy_may (may_kids hmay k hk)))]
            rw [pushes_other (by omega)]
            rfl
          rw [hd, ← hL, hte]
          generalize (spreads d.kind d.kids).foldl (push d.kind) [] = L at hLf hLne ⊢
          match L, hLne with
          | x :: r, _ =>
            have hxv := solid_void (hLf x List.mem_cons_self).2
            simp only [tidyW]
            rw [if_neg (by rcases e with e | e <;> rw [e] <;> decide)]
            split
            · rename_i hr
              have : r = [] := by simpa using hr
              rw [this, belows_single hxv]
            · rw [lay_eq, hsep ⟨d.kind, noB, 0, x :: r⟩ rfl]
              rcases e with e | e <;> rw [e] <;> rfl
        · have hj : joinsK d.kind = false := by rcases e with e | e <;> rw [e] <;> rfl
          have hd : d.lay c p base fresh = match sepT c d.kind p d.flat d.void (base + d.lead0) fresh with
              | some s => put c p s (base + d.lead0) fresh
              | none => belows c false d.kids true p base fresh := by
            rw [lay_eq]
            rcases e with e | e <;> rw [e] <;> rfl
          have hL : ∀ f p base fresh, belows c false ((spreads d.kind d.kids).foldl (push d.kind) []) f p base fresh = belows c false d.kids f p base fresh := by
            intro f p base fresh
            rw [← belows_spreads' hj c false d.kids hal, pushes_other (by omega)]
            rfl
          rw [hte] at htf htl htv htm ⊢
          rw [hd, ← hL]
          generalize (spreads d.kind d.kids).foldl (push d.kind) [] = L at hLf hLne htf htl htv htm ⊢
          match L, hLne with
          | x :: r, _ =>
            have hxv := solid_void (hLf x List.mem_cons_self).2
            simp only [tidyW] at htf htl htv htm ⊢
            rw [if_neg (by rcases e with e | e <;> rw [e] <;> decide)] at htf htl htv htm ⊢
            split at htf
            · rename_i hr
              have hr : r = [] := by simpa using hr
              subst hr
              simp only [List.isEmpty_nil, if_true] at htl htv htm ⊢
              rw [belows_single hxv]
              cases hs : sepT c d.kind p d.flat d.void (base + d.lead0) fresh with
              | none => rfl
              | some s =>
                have hsf : d.flat = some s ∧ fitsB c p s (base + d.lead0) fresh = true := by
                  unfold sepT at hs
                  split at hs
                  · split at hs
                    · rename_i t ht
                      split at hs
                      · rename_i hfit
                        obtain rfl : t = s := Option.some.inj hs
                        exact ⟨ht, hfit⟩
                      · cases hs
                    · cases hs
                  · cases hs
                rw [← htl]
                exact lay_flat htm hxv s (by rw [htf]; exact hsf.1) c p base fresh (by rw [htl]; exact hsf.2)
            · rename_i hr
              rw [if_neg hr] at htl htv htm ⊢
              rw [lay_eq, htf, htl, htv]
              rcases e with e | e <;> rw [e] <;> rfl
        · have hj : joinsK d.kind = false := by rcases e with e | e <;> rw [e] <;> rfl
          have hd : d.lay c p base fresh = fills c d.kind d.kids true false p base fresh := by
            rw [lay_eq]
            rcases e with e | e <;> rw [e] <;> rfl
          have hL : fills c d.kind ((spreads d.kind d.kids).foldl (push d.kind) []) true false p base fresh = fills c d.kind d.kids true false p base fresh := by
            rw [← fills_spreads hj c d.kids hal, pushes_other (by omega)]
            rfl
          rw [hd, ← hL, hte]
          generalize (spreads d.kind d.kids).foldl (push d.kind) [] = L at hLf hLne ⊢
          match L, hLne with
          | x :: r, _ =>
            have hxv := solid_void (hLf x List.mem_cons_self).2
            simp only [tidyW]
            rw [if_neg (by rcases e with e | e <;> rw [e] <;> decide)]
            split
            · rename_i hr
              have : r = [] := by simpa using hr
              rw [this, fills_single hxv]
            · rw [lay_eq]
              rcases e with e | e <;> rw [e] <;> rfl
/-- What is tidy is laid out as what it was made of. -/
theorem lay_tidy {d : Doc} (hm : d.may = true) (c : Cfg) (p : Pen) (base : Int) (fresh : Bool) : d.tidy.lay c p base fresh = d.lay c p base fresh := lay_tidy_aux d.wt d (Nat.le_refl _) hm c p base fresh
end Go.Proofs.YtnpaplfdmpjfgaaDoor
