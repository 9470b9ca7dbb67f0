/- What has a line that fits is laid in that; laws of what is laid: plain. -/
import Derived.Test.YtnpaplfdmpjfgaaDoorDLayL
namespace Go.Proofs.YtnpaplfdmpjfgaaDoor
open Go.RowKit

theorem filter_voids {ds : List Doc} (h : ds.filter Doc.there = []) : voids ds = true := by
  have := there_none ds
  rw [h] at this
  rw [← this]
  rfl
theorem besides_flat1 {k : Int} (hk : k = 3 ∨ k = 4) (ds : List Doc) (hm : ∀ d ∈ ds, d.may = true) (hl : ∀ d ∈ ds, d.void = false → FlatLaw d) : ∀ s, flats k true noB ds = some s → ∀ x r, ds.filter Doc.there = x :: r → ∀ c p base fresh, fitsB c p s (base + x.lead0) fresh = true →
    besides c k ds true p base fresh = put c p s (base + x.lead0) fresh := by
  induction ds with
  | nil => intro s _ x r h; cases h
  | cons y r' ih =>
    intro s hs x r hx c p base fresh hfit
    have hm' := fun d hd => hm d (List.mem_cons_of_mem _ hd)
    have hl' := fun d hd => hl d (List.mem_cons_of_mem _ hd)
    cases hv : y.void with
    | true =>
      rw [filter_cons_void hv] at hx
      rw [flats_void hv] at hs
      rw [besides_void hv]
      exact ih hm' hl' s hs x r hx c p base fresh hfit
    | false =>
      rw [filter_cons_there hv] at hx
      obtain ⟨rfl, rfl⟩ := List.cons.inj hx
      cases hf : y.flat with
      | none => rw [flats_none hv hf] at hs; cases hs
      | some t =>
        rw [flats_first hv hf, noB_app] at hs
        obtain ⟨u, rfl, hu⟩ := flats_pre hs
        have hgt := good_flat (hm y List.mem_cons_self) hf
        rw [besides_first hv, hl y List.mem_cons_self hv t hf c p base fresh (fits_mono hfit (by rw [cols_app hgt]; have := cols_nn u; omega)), put_app hgt]
        cases hp : put c p t (base + y.lead0) fresh with
        | none => rfl
        | some q =>
          simp only [Option.bind_some]
          exact besides_flat hk r' hm' hl' u hu c q base fresh (put_op hp) (fits_rest hgt hfit hp)
theorem fills_flat1 {k : Int} (hk : k = 9 ∨ k = 10) (ds : List Doc) (hm : ∀ d ∈ ds, d.may = true) (hl : ∀ d ∈ ds, d.void = false → FlatLaw d) : ∀ s, flats k true noB ds = some s → ∀ x r, ds.filter Doc.there = x :: r → ∀ c p base fresh, fitsB c p s (base + x.lead0) fresh = true →
    fills c k ds true false p base fresh = put c p s (base + x.lead0) fresh := by
  induction ds with
  | nil => intro s _ x r h; cases h
  | cons y r' ih =>
    intro s hs x r hx c p base fresh hfit
    have hm' := fun d hd => hm d (List.mem_cons_of_mem _ hd)
    have hl' := fun d hd => hl d (List.mem_cons_of_mem _ hd)
    cases hv : y.void with
    | true =>
      rw [filter_cons_void hv] at hx
      rw [flats_void hv] at hs
      rw [fills_void hv]
      exact ih hm' hl' s hs x r hx c p base fresh hfit
    | false =>
      rw [filter_cons_there hv] at hx
      obtain ⟨rfl, rfl⟩ := List.cons.inj hx
      cases hf : y.flat with
      | none => rw [flats_none hv hf] at hs; cases hs
      | some t =>
        rw [flats_first hv hf, noB_app] at hs
        obtain ⟨u, rfl, hu⟩ := flats_pre hs
        have hgt := good_flat (hm y List.mem_cons_self) hf
        rw [fills_first hv, hl y List.mem_cons_self hv t hf c p base fresh (fits_mono hfit (by rw [cols_app hgt]; have := cols_nn u; omega)), put_app hgt]
        cases hp : put c p t (base + y.lead0) fresh with
        | none => rfl
        | some q =>
          simp only [Option.bind_some]
          rw [show (p.lines == q.lines) = true by rw [put_lines hp]; simp]
          exact fills_flat hk r' hm' u hu c q base fresh (put_op hp) (fits_rest hgt hfit hp)
theorem belows_flat1 {k : Int} (hk : k = 5 ∨ k = 6) (ov : Bool) (ds : List Doc) (hl : ∀ d ∈ ds, d.void = false → FlatLaw d) : ∀ s, flats k true noB ds = some s → ∀ x r, ds.filter Doc.there = x :: r → ∀ c p base fresh, fitsB c p s (base + x.lead0) fresh = true →
    belows c ov ds true p base fresh = put c p s (base + x.lead0) fresh := by
  induction ds with
  | nil => intro s _ x r h; cases h
  | cons y r' ih =>
    intro s hs x r hx c p base fresh hfit
    have hl' := fun d hd => hl d (List.mem_cons_of_mem _ hd)
    cases hv : y.void with
    | true =>
      rw [filter_cons_void hv] at hx
      rw [flats_void hv] at hs
      rw [belows_void hv]
      exact ih hl' s hs x r hx c p base fresh hfit
    | false =>
      rw [filter_cons_there hv] at hx
      obtain ⟨rfl, rfl⟩ := List.cons.inj hx
      cases hf : y.flat with
      | none => rw [flats_none hv hf] at hs; cases hs
      | some t =>
        rw [flats_first hv hf, noB_app, flats_tail] at hs
        have hb : below56 k = true := by rcases hk with rfl | rfl <;> rfl
        rw [hb] at hs
        simp only [if_true] at hs
        split at hs
        · rename_i he
          obtain rfl : t = s := Option.some.inj hs
          rw [belows_first hv, hl y List.mem_cons_self hv t hf c p base fresh hfit]
          cases hp : put c p t (base + y.lead0) fresh with
          | none => rfl
          | some q => exact belows_voids c ov r' (filter_voids he) false q base fresh
        · cases hs
theorem lead0_first {d : Doc} (hf : d.form = true) (h1 : d.kind ≠ 1) (h2 : d.kind ≠ 2) (hv : d.void = false) : ∃ x r, d.kids.filter Doc.there = x :: r ∧ d.lead0 = x.lead0 := by
  have hk1 : (d.kind == 1) = false := by simpa using h1
  have hvk : voids d.kids = false := by
    rw [void_eq] at hv
    have : (d.kind != 1) = true := by simp [bne, hk1]
    rw [this, Bool.true_and] at hv
    exact hv
  cases hx : d.kids.filter Doc.there with
  | nil => rw [filter_voids hx] at hvk; cases hvk
  | cons x r =>
    refine ⟨x, r, rfl, ?_⟩
    rw [lead0_eq, hk1]
    simp only [Bool.false_eq_true, if_false]
    rw [leads0_there _ _ hvk, hx, (form_at.1 hf).n.resolve_left h2]
    simp [hd0]
theorem lay_flat_aux (m : Nat) : ∀ d : Doc, d.wt ≤ m → d.may = true → d.void = false → FlatLaw d := by
  induction m with
  | zero => intro d h; have := wt_pos d; omega
  | succ m ih =>
    intro d hm hmay hv s hs c p base fresh hfit
    have hf := may_form hmay
    have ih' : ∀ k ∈ d.kids, k.void = false → FlatLaw k := fun k hk => ih k (by have := kid_lt hk; omega) (may_kids hmay k hk)
    have hF := form_at.1 hf
    have hk0 := hF.k0
    have hk1 := hF.k1
    rcases (by omega : d.kind = 0 ∨ d.kind = 1 ∨ d.kind = 2 ∨ d.kind = 3 ∨ d.kind = 4 ∨ d.kind = 5 ∨ d.kind = 6 ∨ (d.kind = 7 ∨ d.kind = 8) ∨ d.kind = 9 ∨ d.kind = 10) with e | e | e | e | e | e | e | e | e | e
    · have hkids : d.kids = [] := List.eq_nil_of_length_eq_zero (hF.l.resolve_left (by omega))
      rw [void_eq, e, hkids] at hv
      cases hv
    · rw [flat_str e] at hs
      cases hs
      rw [lead0_str e, Int.add_zero, lay_eq, e]
      rfl
    · obtain ⟨x, hx⟩ : ∃ x, d.kids = [x] := by
        have := hF.l1.resolve_left (by omega)
        match hd : d.kids with
        | [x] => exact ⟨x, rfl⟩
        | [] => rw [hd] at this; simp at this
        | _ :: _ :: _ => rw [hd] at this; simp at this
      have hxv : x.void = false := by
        rw [void_eq, e, hx] at hv
        simpa [voids] using hv
      rw [flat_kids (by omega), hx, e, show (⟨#[]⟩ : ByteArray) = noB from rfl] at hs
      have hs : x.flat = some s := by rw [← flats_one 2 hxv]; exact hs
      have hl : d.lead0 = d.n + x.lead0 := by
        rw [lead0_eq, e, hx]
        simp [leads0, hxv]
      have hx2 := ih' x (by rw [hx]; exact List.mem_cons_self) hxv s hs c p
      rw [lay_eq, e, hx]
      show x.lay c p (if fresh then base + d.n else base) fresh = _
      cases fresh with
      | true =>
        simp only [if_true]
        rw [hl, ← Int.add_assoc] at hfit ⊢
        exact hx2 _ _ hfit
      | false =>
        simp only [Bool.false_eq_true, if_false]
        rw [hx2 base false (by rw [fits_nf c p s _ (base + d.lead0)]; exact hfit), put_nf c p s _ (base + d.lead0)]
    · obtain ⟨x, r, hx, hl⟩ := lead0_first hf (by omega) (by omega) hv
      rw [flat_kids (by omega), e] at hs
      rw [hl] at hfit ⊢
      rw [lay_eq, e]
      exact besides_flat1 (.inl rfl) d.kids (may_kids hmay) ih' s hs x r hx c p base fresh hfit
    · obtain ⟨x, r, hx, hl⟩ := lead0_first hf (by omega) (by omega) hv
      rw [flat_kids (by omega), e] at hs
      rw [hl] at hfit ⊢
      rw [lay_eq, e]
      exact besides_flat1 (.inr rfl) d.kids (may_kids hmay) ih' s hs x r hx c p base fresh hfit
    · obtain ⟨x, r, hx, hl⟩ := lead0_first hf (by omega) (by omega) hv
      rw [flat_kids (by omega), e] at hs
      rw [lay_eq, show sepT c d.kind p d.flat d.void (base + d.lead0) fresh = none by unfold sepT; rw [e]; rfl, e]
      rw [hl] at hfit ⊢
      exact belows_flat1 (.inl rfl) true d.kids ih' s hs x r hx c p base fresh hfit
    · obtain ⟨x, r, hx, hl⟩ := lead0_first hf (by omega) (by omega) hv
      rw [flat_kids (by omega), e] at hs
      rw [lay_eq, show sepT c d.kind p d.flat d.void (base + d.lead0) fresh = none by unfold sepT; rw [e]; rfl, e]
      rw [hl] at hfit ⊢
      exact belows_flat1 (.inr rfl) false d.kids ih' s hs x r hx c p base fresh hfit
    · rw [lay_eq, show sepT c d.kind p d.flat d.void (base + d.lead0) fresh = some s by
        unfold sepT
        rw [hs, hv]
        rcases e with e | e <;> rw [e] <;> simp [hfit]]
      rcases e with e | e <;> rw [e] <;> rfl
    · obtain ⟨x, r, hx, hl⟩ := lead0_first hf (by omega) (by omega) hv
      rw [flat_kids (by omega), e] at hs
      rw [hl] at hfit ⊢
      rw [lay_eq, e]
      exact fills_flat1 (.inl rfl) d.kids (may_kids hmay) ih' s hs x r hx c p base fresh hfit
    · obtain ⟨x, r, hx, hl⟩ := lead0_first hf (by omega) (by omega) hv
      rw [flat_kids (by omega), e] at hs
      rw [hl] at hfit ⊢
      rw [lay_eq, e]
      exact fills_flat1 (.inr rfl) d.kids (may_kids hmay) ih' s hs x r hx c p base fresh hfit
/-- What has a line that fits is laid in that. -/
theorem lay_flat {d : Doc} (hm : d.may = true) (hv : d.void = false) : FlatLaw d := lay_flat_aux d.wt d (Nat.le_refl _) hm hv

/-! Lists that are laid behind one another. -/
theorem besides_append (c : Cfg) (k : Int) (a : List Doc) : ∀ (b : List Doc) f p base fresh, besides c k (a ++ b) f p base fresh = (besides c k a f p base fresh).bind fun q => besides c k b (f && voids a) q base fresh := by
  induction a with
  | nil => intro b f p base fresh; simp [besides, voids]
  | cons x r ih =>
    intro b f p base fresh
    rw [List.cons_append]
    cases hv : x.void with
    | true => rw [besides_void hv, besides_void hv, ih]; simp only [voids, hv, Bool.true_and]
    | false =>
      simp only [voids, hv, Bool.false_and, Bool.and_false]
      cases f with
      | true =>
        rw [besides_first hv, besides_first hv, Option.bind_assoc]
        congr 1
        funext q
        rw [ih]
        simp only [Bool.false_and]
      | false =>
        rw [besides_next hv, besides_next hv, Option.bind_assoc]
        congr 1
        funext q
        rw [Option.bind_assoc]
        congr 1
        funext q
        rw [ih]
        simp only [Bool.false_and]
theorem belows_append (c : Cfg) (ov : Bool) (a : List Doc) : ∀ (b : List Doc) f p base fresh, belows c ov (a ++ b) f p base fresh = (belows c ov a f p base fresh).bind fun q => belows c ov b (f && voids a) q base fresh := by
  induction a with
  | nil => intro b f p base fresh; simp [belows, voids]
  | cons x r ih =>
    intro b f p base fresh
    rw [List.cons_append]
    cases hv : x.void with
    | true => rw [belows_void hv, belows_void hv, ih]; simp only [voids, hv, Bool.true_and]
    | false =>
      simp only [voids, hv, Bool.false_and, Bool.and_false]
      cases f with
      | true =>
        rw [belows_first hv, belows_first hv, Option.bind_assoc]
        congr 1
        funext q
        rw [ih]
        simp only [Bool.false_and]
      | false =>
        rw [belows_next hv, belows_next hv, Option.bind_assoc]
        congr 1
        funext q
        rw [Option.bind_assoc]
        congr 1
        funext q
        rw [ih]
        simp only [Bool.false_and]
/-- In besides' tail neither base nor fresh matters. -/
theorem besides_nf (c : Cfg) (k : Int) (ds : List Doc) : ∀ p b1 f1 b2 f2, besides c k ds false p b1 f1 = besides c k ds false p b2 f2 := by
  induction ds with
  | nil => intro p b1 f1 b2 f2; rfl
  | cons x r ih =>
    intro p b1 f1 b2 f2
    cases hv : x.void with
    | true => rw [besides_void hv, besides_void hv]; exact ih _ _ _ _ _
    | false =>
      rw [besides_next hv, besides_next hv]
      congr 1
      funext q
      congr 1
      funext q
      exact ih _ _ _ _ _
theorem belows_nf (c : Cfg) (ov : Bool) (ds : List Doc) : ∀ p base f1 f2, belows c ov ds false p base f1 = belows c ov ds false p base f2 := by
  induction ds with
  | nil => intro p base f1 f2; rfl
  | cons x r ih =>
    intro p base f1 f2
    cases hv : x.void with
    | true => rw [belows_void hv, belows_void hv]; exact ih _ _ _ _
    | false =>
      rw [belows_next hv, belows_next hv]
      congr 1
      funext q
      congr 1
      funext q
      exact ih _ _ _ _
theorem fills_nf (c : Cfg) (k : Int) (ds : List Doc) : ∀ one p base f1 f2, fills c k ds false one p base f1 = fills c k ds false one p base f2 := by
  induction ds with
  | nil => intro one p base f1 f2; rfl
  | cons x r ih =>
    intro one p base f1 f2
    cases hv : x.void with
    | true => rw [fills_void hv, fills_void hv]; exact ih _ _ _ _ _
    | false =>
      cases hs : fillT c k one p x.flat with
      | some s =>
        rw [fills_some hv hs, fills_some hv hs]
        congr 1
        funext q
        exact ih _ _ _ _ _
      | none =>
        rw [fills_none hv hs, fills_none hv hs]
        congr 1
        funext q
        congr 1
        funext q
        exact ih _ _ _ _ _
/-- The kids of a document of the same kind among the others: beside. -/
theorem besides_splice {c : Cfg} {k : Int} (hk : k = 3 ∨ k = 4) {t : Doc} (ht : t.kind = k) (r : List Doc) : ∀ f p base fresh, besides c k (t :: r) f p base fresh = besides c k (t.kids ++ r) f p base fresh := by
  intro f p base fresh
  have hlay : ∀ p base fresh, t.lay c p base fresh = besides c k t.kids true p base fresh := by
    intro p base fresh
    rw [lay_eq, ht]
    rcases hk with rfl | rfl <;> rfl
  have htv : t.void = voids t.kids := by
    rw [void_eq, ht]
    rcases hk with rfl | rfl <;> rfl
  rw [besides_append]
  cases hv : t.void with
  | true =>
    rw [besides_void hv, besides_voids c k t.kids (by rw [← htv]; exact hv), Option.bind_some, ← htv, hv, Bool.and_true]
  | false =>
    rw [← htv, hv, Bool.and_false]
    cases f with
    | true => rw [besides_first hv, hlay]
    | false =>
      rw [besides_next hv]
      -- the first kid that is there
      have hne : t.kids.filter Doc.there ≠ [] := fun h0 => by
        rw [htv, filter_voids h0] at hv
        cases hv
      rw [← besides_there c k t.kids]
      cases hx : t.kids.filter Doc.there with
      | nil => exact absurd hx hne
      | cons x r' =>
        have hxv : x.void = false := by
          have : x ∈ t.kids.filter Doc.there := by rw [hx]; exact List.mem_cons_self
          simpa [Doc.there] using (List.mem_filter.1 this).2
        rw [besides_next hxv, Option.bind_assoc]
        congr 1
        funext q
        rw [hlay, ← besides_there c k t.kids, hx, besides_first hxv, Option.bind_assoc, Option.bind_assoc]
        congr 1
        funext q2
        rw [besides_nf c k r' q2 q.col false base fresh]
/-- .. below. -/
theorem belows_splice {c : Cfg} {k : Int} (hk : k = 5 ∨ k = 6) {t : Doc} (hf : t.form = true) (ht : t.kind = k) (r : List Doc) : ∀ f p base fresh, belows c (k == 5) (t :: r) f p base fresh = belows c (k == 5) (t.kids ++ r) f p base fresh := by
  intro f p base fresh
  have hlay : ∀ p base fresh, t.lay c p base fresh = belows c (k == 5) t.kids true p base fresh := by
    intro p base fresh
    rw [lay_eq, show sepT c t.kind p t.flat t.void (base + t.lead0) fresh = none by unfold sepT; rw [ht]; rcases hk with rfl | rfl <;> rfl, ht]
    rcases hk with rfl | rfl <;> rfl
  have htv : t.void = voids t.kids := by
    rw [void_eq, ht]
    rcases hk with rfl | rfl <;> rfl
  rw [belows_append]
  cases hv : t.void with
  | true =>
    rw [belows_void hv, belows_voids c _ t.kids (by rw [← htv]; exact hv), Option.bind_some, ← htv, hv, Bool.and_true]
  | false =>
    rw [← htv, hv, Bool.and_false]
    cases f with
    | true => rw [belows_first hv, hlay]
    | false =>
      rw [belows_next hv]
      obtain ⟨x, r', hx, hl⟩ := lead0_first hf (by omega) (by omega) hv
      rw [← belows_there c _ t.kids, hx]
      have hxv : x.void = false := by
        have : x ∈ t.kids.filter Doc.there := by rw [hx]; exact List.mem_cons_self
        simpa [Doc.there] using (List.mem_filter.1 this).2
      rw [belows_next hxv, Option.bind_assoc, hl]
      congr 1
      funext q
      rw [hlay, ← belows_there c _ t.kids, hx, belows_first hxv, Option.bind_assoc, Option.bind_assoc]
      congr 1
      funext q2
      rw [belows_nf c _ r' q2 base true fresh]
end Go.Proofs.YtnpaplfdmpjfgaaDoor
