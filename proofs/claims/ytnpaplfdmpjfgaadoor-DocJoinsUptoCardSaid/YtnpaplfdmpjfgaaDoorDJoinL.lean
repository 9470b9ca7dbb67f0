/- Documents beside others that stand beside one another are tidied alike, however they are taken together: plain. -/
import Derived.Test.YtnpaplfdmpjfgaaDoorDTidyR
namespace Go.Proofs.YtnpaplfdmpjfgaaDoor
open Go.RowKit

mutual
/-- No kid of a document of a joining kind has that kind, however deep. -/
def Doc.deep : Doc → Bool
  | ⟨k, _, _, kids⟩ => (!joinsK k || kids.all (fun x => x.kind != k)) && deeps kids
def deeps : List Doc → Bool
  | [] => true
  | d :: r => d.deep && deeps r
end
theorem deep_eq (d : Doc) : d.deep = ((!joinsK d.kind || d.kids.all (fun x => x.kind != d.kind)) && deeps d.kids) := by cases d; rfl
theorem deeps_iff {ds : List Doc} : deeps ds = true ↔ ∀ d ∈ ds, d.deep = true := by
  induction ds with
  | nil => simp [deeps]
  | cons a r ih => simp [deeps, ih]
theorem deep_kids {d : Doc} (h : d.deep = true) : ∀ k ∈ d.kids, k.deep = true := by
  rw [deep_eq, Bool.and_eq_true] at h
  exact deeps_iff.1 h.2
theorem deep_kind {d : Doc} (h : d.deep = true) (hj : joinsK d.kind = true) : ∀ k ∈ d.kids, k.kind ≠ d.kind := by
  rw [deep_eq, Bool.and_eq_true] at h
  have h1 := h.1
  rw [hj] at h1
  simp only [Bool.not_true, Bool.false_or, List.all_eq_true] at h1
  intro k hk
  simpa using h1 k hk
theorem deep_mk {k n : Int} {t : ByteArray} {L : List Doc} (h1 : joinsK k = true → ∀ x ∈ L, x.kind ≠ k) (h2 : ∀ x ∈ L, x.deep = true) : (⟨k, t, n, L⟩ : Doc).deep = true := by
  rw [deep_eq, Bool.and_eq_true]
  refine ⟨?_, deeps_iff.2 h2⟩
  cases hj : joinsK k with
  | false => simp
  | true =>
    simp only [Bool.not_true, Bool.false_or, List.all_eq_true]
    intro x hx
    simpa using h1 hj x hx
theorem deep_str (t : ByteArray) : (strD t).deep = true := deep_mk (fun h => absurd h (by decide)) (by simp)
/-- What goes among the kids of a kind: deep, and of another kind if it joins. -/
def Apt (k : Int) (x : Doc) : Prop := x.deep = true ∧ (joinsK k = true → x.kind ≠ k)
theorem taken_apt {k : Int} {t : Doc} (h : t.deep = true) : ∀ x ∈ taken k t, Apt k x := by
  unfold taken
  split
  · rename_i hj
    rw [Bool.and_eq_true, beq_iff_eq] at hj
    intro x hx
    refine ⟨deep_kids h x hx, fun _ => ?_⟩
    have := deep_kind h (by rw [hj.2]; exact hj.1) x hx
    rw [hj.2] at this
    exact this
  · rename_i hj
    intro x hx
    rw [List.mem_singleton.1 hx]
    refine ⟨h, fun hjk e => hj ?_⟩
    rw [hjk, e]
    simp
theorem push_apt {k : Int} {l : List Doc} {x : Doc} (hl : ∀ d ∈ l, Apt k d) (hx : Apt k x) : ∀ d ∈ push k l x, Apt k d := by
  have h0 : ∀ d ∈ l ++ [x], Apt k d := by
    intro d hd
    rcases List.mem_append.1 hd with h | h
    · exact hl d h
    · rw [List.mem_singleton.1 h]; exact hx
  unfold push
  split
  · rename_i hk
    have hk : k = 3 := by simpa using hk
    split
    · split
      · intro d hd
        rcases List.mem_append.1 hd with h | h
        · exact hl d (List.dropLast_subset _ h)
        · rw [List.mem_singleton.1 h]
          exact ⟨deep_str _, fun _ => by rw [hk]; simp [strD]⟩
      · exact h0
    · exact h0
  · exact h0
theorem pushes_apt {k : Int} {xs : List Doc} : ∀ {l}, (∀ d ∈ l, Apt k d) → (∀ d ∈ xs, Apt k d) → ∀ d ∈ xs.foldl (push k) l, Apt k d := by
  induction xs with
  | nil => intro l hl _; exact hl
  | cons x r ih => intro l hl hx; exact ih (push_apt hl (hx x List.mem_cons_self)) (fun d hd => hx d (List.mem_cons_of_mem _ hd))
theorem nestD_deep (f : Nat) : ∀ n x, x.deep = true → (nestD f n x).2.deep = true := by
  induction f with
  | zero => intro n x hx; exact hx
  | succ f ih =>
    intro n x hx
    unfold nestD
    split
    · rename_i y hy
      split
      · exact ih _ _ (deep_kids hx y (by rw [hy]; exact List.mem_cons_self))
      · exact hx
    · exact hx
theorem tidyW_deep {k n : Int} {L : List Doc} (hL : ∀ d ∈ L, Apt k d) (hne : L ≠ []) : (tidyW k n L).deep = true := by
  match L, hne with
  | x :: r, _ =>
    have hx := hL x List.mem_cons_self
    simp only [tidyW]
    split
    · unfold nestE
      split
      · exact nestD_deep _ _ _ hx.1
      · exact deep_mk (fun h => absurd h (by decide)) (by
          intro y hy
          rw [List.mem_singleton.1 hy]
          exact nestD_deep _ _ _ hx.1)
    · split
      · exact hx.1
      · exact deep_mk (fun h y hy => (hL y hy).2 h) (fun y hy => (hL y hy).1)
theorem deep_str1 {d : Doc} (hf : d.form = true) (h1 : d.kind = 1) : d.deep = true := by
  have hk : d.kids = [] := List.eq_nil_of_length_eq_zero ((form_at.1 hf).l.resolve_left (by omega))
  rw [deep_eq, hk, h1]
  rfl
theorem tidy_deep_aux (m : Nat) : ∀ d : Doc, d.wt ≤ m → d.form = true → d.tidy.deep = true := by
  induction m with
  | zero => intro d h; have := wt_pos d; omega
  | succ m ih =>
    intro d hm hf
    cases hv : d.void with
    | true => rw [tidy_void hv]; rfl
    | false =>
      by_cases h1 : d.kind = 1
      · rw [tidy_str (by simpa using h1)]; exact deep_str1 hf h1
      · have h1' : (d.kind == 1) = false := by simpa using h1
        have hok := spreads_ok hf hv h1'
        rw [tidy_else h1' hv]
        refine tidyW_deep (pushes_apt (by simp) ?_) (pushes_ne (.inl hok.2))
        rw [spreads_there]
        intro x hx
        obtain ⟨a, ha, hx⟩ := List.mem_flatMap.1 hx
        have ha := (List.mem_filter.1 ha).1
        exact taken_apt (ih a (by have := kid_lt ha; omega) ((form_at.1 hf).kids a ha)) x hx
theorem tidy_deep {d : Doc} (hf : d.form = true) : d.tidy.deep = true := tidy_deep_aux d.wt d (Nat.le_refl _) hf

/-! Texts are merged alike, however they are taken together. -/
theorem push_push {M : List Doc} {y x : Doc} (hy : y.kind = 1) (hx : x.kind = 1) : push 3 (push 3 M y) x = push 3 M (strD (y.text ++ x.text)) := by
  rcases eq_nil_or_snoc M with rfl | ⟨M', z, rfl⟩
  · rw [push_not (l := []) (.inr (.inr (.inl rfl))), push_str (l := []) hy hx, push_not (l := []) (.inr (.inr (.inl rfl)))]
  · by_cases hz : z.kind = 1
    · rw [push_str hz hy, push_str (y := strD (z.text ++ y.text)) rfl hx, push_str hz rfl]
      simp only [strD]
      rw [ByteArray.append_assoc]
    · rw [push_not (x := y) (.inr (.inr (.inr ⟨z, M', rfl, hz⟩))), push_str hy hx, push_not (x := strD _) (.inr (.inr (.inr ⟨z, M', rfl, hz⟩)))]
theorem pushes_pushes (k : Int) (xs : List Doc) : ∀ acc, (xs.foldl (push k) []).foldl (push k) acc = xs.foldl (push k) acc := by
  by_cases hk : k = 3
  · subst hk
    have h : ∀ (n : Nat) (xs : List Doc), xs.length = n → ∀ acc, (xs.foldl (push 3) []).foldl (push 3) acc = xs.foldl (push 3) acc := by
      intro n
      induction n with
      | zero => intro xs hx acc; rw [List.eq_nil_of_length_eq_zero hx]; rfl
      | succ n ih =>
        intro xs hx acc
        rcases eq_nil_or_snoc xs with rfl | ⟨xs', x, rfl⟩
        · simp at hx
        · have hx' : xs'.length = n := by simpa using hx
          have ih := ih xs' hx'
          rw [List.foldl_append, List.foldl_append]
          simp only [List.foldl_cons, List.foldl_nil]
          have hN := ih acc
          rcases eq_nil_or_snoc (xs'.foldl (push 3) []) with h0 | ⟨l', y, h0⟩
          · rw [h0] at hN ⊢
            rw [push_not (l := []) (.inr (.inr (.inl rfl)))]
            simp only [List.nil_append, List.foldl_cons, List.foldl_nil] at hN ⊢
            rw [← hN]
          · rw [h0] at hN ⊢
            by_cases hx1 : x.kind = 1
            · by_cases hy1 : y.kind = 1
              · rw [push_str hy1 hx1, List.foldl_append, ← hN, List.foldl_append]
                simp only [List.foldl_cons, List.foldl_nil]
                exact (push_push hy1 hx1).symm
              · rw [push_not (.inr (.inr (.inr ⟨y, l', rfl, hy1⟩))), List.foldl_append, hN]
                rfl
            · rw [push_not (.inr (.inl hx1)), List.foldl_append, hN]
              rfl
    exact h xs.length xs rfl
  · intro acc
    rw [foldl_push_ne hk, foldl_push_ne hk, foldl_push_ne hk]
    rfl

/-- Documents of a kind, taken together. -/
def ofD (k : Int) (xs : List Doc) : Doc := ⟨k, ⟨#[]⟩, 0, xs⟩
theorem of_taken {k : Int} (hj : joinsK k = true) {xs : List Doc} (hf : (ofD k xs).form = true) (hv : (ofD k xs).void = false) : ∀ acc, (taken k (ofD k xs).tidy).foldl (push k) acc = (spreads k xs).foldl (push k) acc := by
  have hk1 : k ≠ 1 := by intro e; rw [e] at hj; exact absurd hj (by decide)
  have hk2 : k ≠ 2 := by intro e; rw [e] at hj; exact absurd hj (by decide)
  have h1' : ((ofD k xs).kind == 1) = false := by simpa [ofD] using hk1
  have hok := spreads_ok hf hv h1'
  have hap : ∀ d ∈ (spreads k xs).foldl (push k) [], Apt k d := by
    refine pushes_apt (by simp) ?_
    rw [spreads_there]
    intro x hx
    obtain ⟨a, ha, hx⟩ := List.mem_flatMap.1 hx
    exact taken_apt (tidy_deep ((form_at.1 hf).kids a (List.mem_filter.1 ha).1)) x hx
  have hne : (spreads k xs).foldl (push k) [] ≠ [] := pushes_ne (.inl hok.2)
  have ht : taken k (ofD k xs).tidy = (spreads k xs).foldl (push k) [] := by
    rw [tidy_else h1' hv]
    show taken k (tidyW k 0 ((spreads k xs).foldl (push k) [])) = _
    match hL : (spreads k xs).foldl (push k) [], hne with
    | x :: r, _ =>
      rw [hL] at hap
      simp only [tidyW]
      rw [if_neg (by simpa using hk2)]
      split
      · rename_i hr
        have hr : r = [] := by simpa using hr
        subst hr
        have hx := (hap x List.mem_cons_self).2 hj
        exact taken_no (.inr (by simpa using hx))
      · exact taken_yes hj (by simp)
  intro acc
  rw [ht, pushes_pushes]
theorem of_spreads {k : Int} (hj : joinsK k = true) {xs : List Doc} (hf : (ofD k xs).form = true) (r : List Doc) (acc : List Doc) : (spreads k (ofD k xs :: r)).foldl (push k) acc = (spreads k r).foldl (push k) ((spreads k xs).foldl (push k) acc) := by
  have hk1 : k ≠ 1 := by intro e; rw [e] at hj; exact absurd hj (by decide)
  simp only [spreads]
  cases hv : (ofD k xs).void with
  | true =>
    simp only [if_true]
    have hvs : voids xs = true := by
      rw [void_eq] at hv
      have : ((ofD k xs).kind != 1) = true := by simp [ofD, bne, hk1]
      rw [this, Bool.true_and] at hv
      exact hv
    have : ∀ ds : List Doc, voids ds = true → spreads k ds = [] := by
      intro ds
      induction ds with
      | nil => intro _; rfl
      | cons a r ih =>
        intro h
        simp only [voids, Bool.and_eq_true] at h
        simp only [spreads, h.1, if_true]
        exact ih h.2
    rw [this xs hvs]
    rfl
  | false =>
    simp only [Bool.false_eq_true, if_false]
    rw [List.foldl_append, of_taken hj hf hv]
theorem of_void {k : Int} (hk : k ≠ 1) (xs : List Doc) : (ofD k xs).void = voids xs := by
  rw [void_eq]
  simp [ofD, bne, hk]
theorem voids_app (a b : List Doc) : voids (a ++ b) = (voids a && voids b) := by
  rw [voids_all, voids_all, voids_all, List.all_append]
/-- The stage's theorem. -/
theorem joins_tidy {k : Int} (hj : joinsK k = true) (a b c : List Doc) (hy : (ofD k [ofD k a, ofD k [ofD k b, ofD k c]]).form = true) : (ofD k (a ++ b ++ c)).tidy = (ofD k [ofD k a, ofD k [ofD k b, ofD k c]]).tidy := by
  have hk1 : k ≠ 1 := by intro e; rw [e] at hj; exact absurd hj (by decide)
  have hya := (form_at.1 hy).kids (ofD k a) (by simp [ofD])
  have hybc := (form_at.1 hy).kids (ofD k [ofD k b, ofD k c]) (by simp [ofD])
  have hyb := (form_at.1 hybc).kids (ofD k b) (by simp [ofD])
  have hyc := (form_at.1 hybc).kids (ofD k c) (by simp [ofD])
  have hv : (ofD k (a ++ b ++ c)).void = (ofD k [ofD k a, ofD k [ofD k b, ofD k c]]).void := by
    rw [of_void hk1, of_void hk1, voids_app, voids_app]
    simp only [voids, of_void hk1, Bool.and_true]
    rw [Bool.and_assoc]
  have hg : (spreads k (a ++ b ++ c)).foldl (push k) [] = (spreads k [ofD k a, ofD k [ofD k b, ofD k c]]).foldl (push k) [] := by
    rw [of_spreads hj hya, of_spreads hj hybc, of_spreads hj hyb, of_spreads hj hyc, spreads_app, spreads_app, List.foldl_append, List.foldl_append]
    rfl
  cases hvx : (ofD k (a ++ b ++ c)).void with
  | true => rw [tidy_void hvx, tidy_void (by rw [← hv]; exact hvx)]
  | false =>
    have h1 : ∀ xs, ((ofD k xs).kind == 1) = false := fun xs => by simpa [ofD] using hk1
    rw [tidy_else (h1 _) hvx, tidy_else (h1 _) (by rw [← hv]; exact hvx)]
    show tidyW k 0 ((spreads k (a ++ b ++ c)).foldl (push k) []) = tidyW k 0 ((spreads k [ofD k a, ofD k [ofD k b, ofD k c]]).foldl (push k) [])
    rw [hg]
end Go.Proofs.YtnpaplfdmpjfgaaDoor
