/- How documents are laid out: a text is laid like its parts; what has a line that fits is laid in that: plain. -/
import Derived.Test.YtnpaplfdmpjfgaaDoorDCols
namespace Go.Proofs.YtnpaplfdmpjfgaaDoor
open Go.RowKit

/-- May a document be, by itself and all within. -/
theorem may_kids {d : Doc} (h : d.may = true) : ∀ k ∈ d.kids, k.may = true := by
  rw [may_eq, Bool.and_eq_true, List.all_eq_true] at h
  exact h.2
theorem may_plain {d : Doc} (h : d.may = true) : plainF d.text = true := by
  rw [may_eq, Bool.and_eq_true, here_form, Bool.and_eq_true] at h
  exact h.1.2
theorem may_good {d : Doc} (h : d.may = true) : good d.text = true := by
  have := may_plain h
  unfold plainF at this
  rw [Bool.and_eq_true] at this
  exact this.1

theorem noB_app (a : ByteArray) : noB ++ a = a := no_app a
theorem begins_nf (c : Cfg) (p : Pen) (a : Int) : begins c p a false = p.col := rfl
theorem opened_nf (c : Cfg) (p : Pen) (a b : Int) : opened c p a false = opened c p b false := rfl
theorem put_nf (c : Cfg) (p : Pen) (s : ByteArray) (a b : Int) : put c p s a false = put c p s b false := rfl
theorem fits_nf (c : Cfg) (p : Pen) (s : ByteArray) (a b : Int) : fitsB c p s a false = fitsB c p s b false := rfl
theorem opened_op {c : Cfg} {p : Pen} (h : p.op = true) (a : Int) : opened c p a false = p := by
  unfold opened firstC begins
  cases p
  simp only at h
  subst h
  simp only [Bool.false_and, Bool.false_eq_true, if_false, if_true]
  congr 1
  omega
theorem put_no {c : Cfg} {p : Pen} (h : p.op = true) (a : Int) : put c p noB a false = some p := by
  unfold put
  rw [if_pos (show noB.size = 0 from rfl), opened_op h]
theorem put_op {c : Cfg} {p q : Pen} {s : ByteArray} {a : Int} {f : Bool} (h : put c p s a f = some q) : q.op = true := by
  unfold put at h
  split at h
  · cases h; rfl
  · split at h
    · cases h
    · cases h; rfl
theorem put_lines {c : Cfg} {p q : Pen} {s : ByteArray} {a : Int} {f : Bool} (h : put c p s a f = some q) : q.lines = p.lines := by
  unfold put at h
  split at h
  · cases h; rfl
  · split at h
    · cases h
    · cases h; rfl
theorem put_col {c : Cfg} {p q : Pen} {s : ByteArray} {a : Int} {f : Bool} (h : put c p s a f = some q) : q.col = begins c p a f + cols s := by
  unfold put at h
  split at h
  · rename_i hs
    cases h
    rw [size_no hs, cols_no]
    show begins c p a f = _
    omega
  · split at h
    · cases h
    · cases h; rfl
theorem put_start {c : Cfg} {p q : Pen} {s : ByteArray} {a : Int} {f : Bool} (h : put c p s a f = some q) : q.start = firstC c p a f := by
  unfold put at h
  split at h
  · cases h; rfl
  · split at h
    · cases h
    · cases h; rfl
/-- A text is laid like its parts. -/
theorem put_app {c : Cfg} {p : Pen} {s t : ByteArray} {a : Int} {f : Bool} (hs : good s = true) : put c p (s ++ t) a f = (put c p s a f).bind fun q => put c q t 0 false := by
  by_cases h0 : s.size = 0
  · rw [size_no h0, noB_app]
    have h1 : put c p noB a f = some (opened c p a f) := if_pos rfl
    rw [h1, Option.bind_some]
    have ho : (opened c p a f).op = true := rfl
    unfold put
    rw [opened_op ho]
    have hb : begins c (opened c p a f) 0 false = begins c p a f := rfl
    have hu : (opened c p a f).out = p.out := rfl
    rw [hb, hu]
  · have hsz : (s ++ t).size = s.size + t.size := size_app s t
    by_cases h1 : 16777216 < p.out.length + (opened c p a f).owed.toNat + s.size
    · have e1 : put c p s a f = none := by unfold put; rw [if_neg h0, if_pos h1]
      have e2 : put c p (s ++ t) a f = none := by unfold put; rw [if_neg (by omega), if_pos (by omega)]
      rw [e1, e2]; rfl
    · have e1 : put c p s a f = some { opened c p a f with out := p.out ++ List.replicate (opened c p a f).owed.toNat 32 ++ s.data.toList, owed := 0, col := begins c p a f + cols s } := by
        unfold put; rw [if_neg h0, if_neg h1]
      rw [e1, Option.bind_some]
      generalize hq : ({ opened c p a f with out := p.out ++ List.replicate (opened c p a f).owed.toNat 32 ++ s.data.toList, owed := 0, col := begins c p a f + cols s } : Pen) = q
      have hop : q.op = true := by rw [← hq]; rfl
      have how : q.owed = 0 := by rw [← hq]
      have hout : q.out = p.out ++ List.replicate (opened c p a f).owed.toNat 32 ++ s.data.toList := by rw [← hq]
      have hcol : q.col = begins c p a f + cols s := by rw [← hq]
      have hlen : q.out.length = p.out.length + (opened c p a f).owed.toNat + s.size := by rw [hout, List.length_append, List.length_append, List.length_replicate, data_len]
      by_cases ht : t.size = 0
      · rw [size_no ht, put_no hop]
        have : s ++ noB = s := by
          have := ByteArray.append_empty (b := s)
          exact this
        rw [this, e1, hq]
      · unfold put
        rw [if_neg (by omega), if_neg ht, opened_op hop, how, hlen]
        by_cases h2 : 16777216 < p.out.length + (opened c p a f).owed.toNat + s.size + t.size
        · rw [if_pos (by omega), if_pos (by simpa using h2)]
        · rw [if_neg (by omega), if_neg (by simpa using h2)]
          rw [← hq]
          simp only [begins_nf, cols_app hs, data_app, Int.toNat_zero, List.replicate_zero, List.append_nil, List.append_assoc, Int.add_assoc]

/-- What fits, fits by its head. -/
theorem fits_mono {c : Cfg} {p : Pen} {s t : ByteArray} {a : Int} {f : Bool} (h : fitsB c p s a f = true) (hle : cols t ≤ cols s) : fitsB c p t a f = true := by
  unfold fitsB at h ⊢
  rw [Bool.or_eq_true, Bool.and_eq_true, decide_eq_true_eq, decide_eq_true_eq] at h ⊢
  rcases h with h | h
  · exact .inl h
  · exact .inr (by omega)
/-- Behind its head the rest fits. -/
theorem fits_rest {c : Cfg} {p q : Pen} {s t : ByteArray} {a : Int} {f : Bool} (hs : good s = true) (h : fitsB c p (s ++ t) a f = true) (hq : put c p s a f = some q) : fitsB c q t 0 false = true := by
  unfold fitsB at h ⊢
  rw [Bool.or_eq_true, Bool.and_eq_true, decide_eq_true_eq, decide_eq_true_eq] at h ⊢
  rcases h with h | h
  · exact .inl h
  · right
    rw [cols_app hs] at h
    have hc := put_col hq
    have hst := put_start hq
    have ho := put_op hq
    unfold firstC at h ⊢
    rw [begins_nf, hc, ho, hst]
    simp only [if_true]
    unfold firstC
    split at h
    · rename_i hop
      rw [hop]
      simp only [if_true]
      omega
    · rename_i hop
      rw [if_neg hop]
      omega
theorem good_flats_aux (m : Nat) : (∀ d : Doc, d.wt ≤ m → d.may = true → ∀ s, d.flat = some s → good s = true) ∧ (∀ ds : List Doc, wts ds ≤ m → (∀ d ∈ ds, d.may = true) → ∀ k f acc s, good acc = true → flats k f acc ds = some s → good s = true) := by
  induction m with
  | zero =>
    refine ⟨fun d hd => by have := wt_pos d; omega, fun ds hds _ k f acc s hg h => ?_⟩
    have : ds = [] := List.eq_nil_of_length_eq_zero (by have := len_le_wts ds; omega)
    subst this
    simp [flats] at h
    subst h
    exact hg
  | succ m ih =>
    have hd : ∀ d : Doc, d.wt ≤ m + 1 → d.may = true → ∀ s, d.flat = some s → good s = true := by
      intro d hd hm s h
      rw [flat_eq] at h
      split at h
      · cases h; exact may_good hm
      · rw [wt_eq] at hd
        exact ih.2 d.kids (by omega) (may_kids hm) _ _ _ _ good_no h
    refine ⟨hd, fun ds => ?_⟩
    induction ds with
    | nil => intro _ _ k f acc s hg h; simp [flats] at h; subst h; exact hg
    | cons a r ihr =>
      intro hw hm k f acc s hg h
      simp only [wts] at hw
      simp only [flats] at h
      have hmr := fun d hd => hm d (List.mem_cons_of_mem _ hd)
      split at h
      · exact ihr (by omega) hmr _ _ _ _ hg h
      · split at h
        · cases h
        · rename_i t ht
          have h1 := hd a (by omega) (hm a List.mem_cons_self) t ht
          split at h
          · cases h
          · refine ihr (by omega) hmr _ _ _ _ (good_app ?_ h1) h
            split
            · exact good_app hg good_blank
            · exact hg
theorem good_flat {d : Doc} (hm : d.may = true) {s : ByteArray} (h : d.flat = some s) : good s = true := (good_flats_aux d.wt).1 d (Nat.le_refl _) hm s h

/-! What is void lays nothing. -/
theorem besides_voids (c : Cfg) (k : Int) (ds : List Doc) (h : voids ds = true) : ∀ f p base fresh, besides c k ds f p base fresh = some p := by
  induction ds with
  | nil => intro f p base fresh; rfl
  | cons x r ih =>
    simp only [voids, Bool.and_eq_true] at h
    intro f p base fresh
    rw [besides_void h.1, ih h.2]
theorem belows_voids (c : Cfg) (ov : Bool) (ds : List Doc) (h : voids ds = true) : ∀ f p base fresh, belows c ov ds f p base fresh = some p := by
  induction ds with
  | nil => intro f p base fresh; rfl
  | cons x r ih =>
    simp only [voids, Bool.and_eq_true] at h
    intro f p base fresh
    rw [belows_void h.1, ih h.2]
theorem fills_voids (c : Cfg) (k : Int) (ds : List Doc) (h : voids ds = true) : ∀ f one p base fresh, fills c k ds f one p base fresh = some p := by
  induction ds with
  | nil => intro f one p base fresh; rfl
  | cons x r ih =>
    simp only [voids, Bool.and_eq_true] at h
    intro f one p base fresh
    rw [fills_void h.1, ih h.2]
theorem lay_void_aux (m : Nat) : ∀ d : Doc, d.wt ≤ m → d.void = true → ∀ c p base fresh, d.lay c p base fresh = some p := by
  induction m with
  | zero => intro d h; have := wt_pos d; omega
  | succ m ih =>
    intro d hm hv c p base fresh
    have hv' := hv
    rw [void_eq, Bool.and_eq_true] at hv'
    have h1 : (d.kind == 1) = false := by simpa [bne] using hv'.1
    rw [lay_eq, h1]
    simp only [Bool.false_eq_true, if_false]
    split
    · cases hk : d.kids with
      | nil => rfl
      | cons x r =>
        rw [hk] at hv'
        simp only [voids, Bool.and_eq_true] at hv'
        simp only [lay0]
        exact ih x (by have := kid_lt (d := d) (k := x) (by rw [hk]; exact List.mem_cons_self); omega) hv'.2.1 _ _ _ _
    · split
      · exact besides_voids c _ _ hv'.2 _ _ _ _
      · split
        · exact fills_voids c _ _ hv'.2 _ _ _ _ _
        · unfold sepT
          rw [hv]
          simp only [Bool.not_true, Bool.and_false, Bool.false_eq_true, if_false]
          exact belows_voids c _ _ hv'.2 _ _ _ _
theorem lay_void {d : Doc} (h : d.void = true) (c : Cfg) (p : Pen) (base : Int) (fresh : Bool) : d.lay c p base fresh = some p := lay_void_aux d.wt d (Nat.le_refl _) h c p base fresh

/-! What has a line that fits is laid in that. -/
/-- The law for a document. -/
def FlatLaw (x : Doc) : Prop := ∀ s, x.flat = some s → ∀ c p base fresh, fitsB c p s (base + x.lead0) fresh = true → x.lay c p base fresh = put c p s (base + x.lead0) fresh
theorem flats_pre {k : Int} {f : Bool} {acc s : ByteArray} {ds : List Doc} (h : flats k f acc ds = some s) : ∃ u, s = acc ++ u ∧ flats k f noB ds = some u := by
  have := flats_acc k ds f acc noB
  rw [show acc ++ noB = acc from ByteArray.append_empty] at this
  rw [this] at h
  obtain ⟨u, hu, rfl⟩ := Option.map_eq_some_iff.1 h
  exact ⟨u, rfl, hu⟩
theorem good_tail {k : Int} {f : Bool} {s : ByteArray} {ds : List Doc} (hm : ∀ d ∈ ds, d.may = true) (h : flats k f noB ds = some s) : good s = true := (good_flats_aux (wts ds)).2 ds (Nat.le_refl _) hm k f noB s good_no h
theorem besides_flat {k : Int} (hk : k = 3 ∨ k = 4) (ds : List Doc) (hm : ∀ d ∈ ds, d.may = true) (hl : ∀ d ∈ ds, d.void = false → FlatLaw d) : ∀ u, flats k false noB ds = some u → ∀ c p base fresh, p.op = true → fitsB c p u 0 false = true → besides c k ds false p base fresh = put c p u 0 false := by
  induction ds with
  | nil =>
    intro u h c p base fresh hop _
    simp only [flats, Option.some.injEq] at h
    subst h
    rw [put_no hop]
    rfl
  | cons x r ih =>
    have ih := ih (fun d hd => hm d (List.mem_cons_of_mem _ hd)) (fun d hd => hl d (List.mem_cons_of_mem _ hd))
    intro u h c p base fresh hop hfit
    cases hv : x.void with
    | true =>
      rw [flats_void hv] at h
      rw [besides_void hv]
      exact ih u h c p base fresh hop hfit
    | false =>
      have hx := hl x List.mem_cons_self hv
      have hmx := hm x List.mem_cons_self
      cases hf : x.flat with
      | none => rw [flats_none hv hf] at h; cases h
      | some t =>
        have hb : below56 k = false := by rcases hk with rfl | rfl <;> rfl
        have hgt := good_flat hmx hf
        rw [besides_next hv]
        rcases hk with rfl | rfl
        · rw [flats_next hv hf hb rfl, noB_app] at h
          obtain ⟨u', rfl, hu'⟩ := flats_pre h
          simp only [show ((3 : Int) == 4) = false from rfl, Bool.false_eq_true, if_false, Option.bind_some]
          rw [hx t hf c p p.col false (by rw [fits_nf c p t _ 0]; exact fits_mono hfit (by rw [cols_app hgt]; have := cols_nn u'; omega)), put_nf c p t _ 0, put_app hgt]
          cases hp : put c p t 0 false with
          | none => rfl
          | some q =>
            simp only [Option.bind_some]
            exact ih u' hu' c q base fresh (put_op hp) (fits_rest hgt hfit hp)
        · rw [flats_blank hv hf hb rfl] at h
          obtain ⟨u', rfl, hu'⟩ := flats_pre h
          have hn : noB ++ (⟨#[32]⟩ : ByteArray) = blankB := no_app _
          rw [hn] at hfit ⊢
          rw [app_assoc] at hfit ⊢
          simp only [show ((4 : Int) == 4) = true from rfl, if_true]
          rw [put_app good_blank]
          cases hp : put c p blankB 0 false with
          | none => rfl
          | some q =>
            have hfq := fits_rest good_blank hfit hp
            simp only [Option.bind_some]
            rw [hx t hf c q q.col false (by rw [fits_nf c q t _ 0]; exact fits_mono hfq (by rw [cols_app hgt]; have := cols_nn u'; omega)), put_nf c q t _ 0, put_app hgt]
            cases hp2 : put c q t 0 false with
            | none => rfl
            | some q2 =>
              simp only [Option.bind_some]
              exact ih u' hu' c q2 base fresh (put_op hp2) (fits_rest hgt hfq hp2)
theorem fills_flat {k : Int} (hk : k = 9 ∨ k = 10) (ds : List Doc) (hm : ∀ d ∈ ds, d.may = true) : ∀ u, flats k false noB ds = some u → ∀ c p base fresh, p.op = true → fitsB c p u 0 false = true → fills c k ds false true p base fresh = put c p u 0 false := by
  induction ds with
  | nil =>
    intro u h c p base fresh hop _
    simp only [flats, Option.some.injEq] at h
    subst h
    rw [put_no hop]
    rfl
  | cons x r ih =>
    have ih := ih (fun d hd => hm d (List.mem_cons_of_mem _ hd))
    intro u h c p base fresh hop hfit
    cases hv : x.void with
    | true =>
      rw [flats_void hv] at h
      rw [fills_void hv]
      exact ih u h c p base fresh hop hfit
    | false =>
      have hmx := hm x List.mem_cons_self
      cases hf : x.flat with
      | none => rw [flats_none hv hf] at h; cases h
      | some t =>
        have hb : below56 k = false := by rcases hk with rfl | rfl <;> rfl
        have hgt := good_flat hmx hf
        have hall : ∃ u', u = (fblank k ++ t) ++ u' ∧ flats k false noB r = some u' := by
          rcases hk with rfl | rfl
          · rw [flats_blank hv hf hb rfl] at h
            obtain ⟨u', e, hu'⟩ := flats_pre h
            exact ⟨u', by rw [e]; rfl, hu'⟩
          · rw [flats_next hv hf hb rfl] at h
            obtain ⟨u', e, hu'⟩ := flats_pre h
            exact ⟨u', e, hu'⟩
        obtain ⟨u', rfl, hu'⟩ := hall
        have hgb : good (fblank k ++ t) = true := by
          refine good_app ?_ hgt
          rcases hk with rfl | rfl
          · exact good_blank
          · exact good_no
        have hfit1 : fitsB c p (fblank k ++ t) 0 false = true := fits_mono hfit (by rw [cols_app hgb]; have := cols_nn u'; omega)
        have hT : fillT c k true p x.flat = some (fblank k ++ t) := by
          rw [hf]
          simp only [fillT, if_true, hfit1]
        rw [fills_some hv hT, put_app hgb]
        cases hp : put c p (fblank k ++ t) 0 false with
        | none => rfl
        | some q =>
          simp only [Option.bind_some]
          rw [show (p.lines == q.lines) = true by rw [put_lines hp]; simp]
          exact ih u' hu' c q base fresh (put_op hp) (fits_rest hgb hfit hp)
end Go.Proofs.YtnpaplfdmpjfgaaDoor
