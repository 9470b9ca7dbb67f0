/- What is tidy has the same in one line, and the same Lead: plain. -/
import Derived.Test.YtnpaplfdmpjfgaaDoorDTidy
import Derived.Test.YtnpaplfdmpjfgaaDoorDGlued
import Derived.Test.YtnpaplfdmpjfgaaDoorDFlat
import Derived.Test.YtnpaplfdmpjfgaaDoorDLead
import Derived.Test.YtnpaplfdmpjfgaaDoorDTidyP
namespace Go.Proofs.YtnpaplfdmpjfgaaDoor
open Go.RowKit

theorem app_assoc (a b c : ByteArray) : a ++ b ++ c = a ++ (b ++ c) := ByteArray.append_assoc
theorem no_app (a : ByteArray) : (⟨#[]⟩ : ByteArray) ++ a = a := ByteArray.empty_append
theorem tidy_void_eq {d : Doc} (hf : d.form = true) : d.tidy.void = d.void := by
  cases hv : d.void with
  | true => rw [tidy_void hv]; rfl
  | false => exact solid_void (tidy_fine hf hv).2

/-! The line. -/
theorem flats_acc (k : Int) (ds : List Doc) : ∀ (f : Bool) (p acc : ByteArray), flats k f (p ++ acc) ds = (flats k f acc ds).map (p ++ ·) := by
  induction ds with
  | nil => intro f p acc; rfl
  | cons d r ih =>
    intro f p acc
    simp only [flats]
    split
    · exact ih f p acc
    · split
      · rfl
      · split
        · rfl
        · split
          · rw [app_assoc, app_assoc, ih, ← app_assoc]
          · rw [app_assoc, ih]
theorem flats_app (k : Int) (a : List Doc) : ∀ (f : Bool) (acc : ByteArray) (b : List Doc), flats k f acc (a ++ b) = (flats k f acc a).bind fun u => flats k (f && voids a) u b := by
  induction a with
  | nil => intro f acc b; simp [flats, voids]
  | cons d r ih =>
    intro f acc b
    simp only [List.cons_append, flats, voids]
    cases hv : d.void with
    | true => simp only [if_true, Bool.true_and]; exact ih f acc b
    | false =>
      simp only [Bool.false_eq_true, if_false, Bool.false_and, Bool.and_false]
      split
      · rfl
      · split
        · rfl
        · rw [ih]; simp
theorem flat_kids {d : Doc} (h : d.kind ≠ 1) : d.flat = flats d.kind true ⟨#[]⟩ d.kids := by
  rw [flat_eq, if_neg (by simpa using h)]
theorem flat_str {d : Doc} (h : d.kind = 1) : d.flat = some d.text := by rw [flat_eq, h]; rfl
theorem flats_one (k : Int) {x : Doc} (hv : x.void = false) : flats k true ⟨#[]⟩ [x] = x.flat := by
  cases hf : x.flat with
  | none => rw [flats_none hv hf]
  | some t => rw [flats_first hv hf, no_app]; rfl
/-- A kid of the same kind and its kids are the same in one line. -/
theorem flats_splice {k : Int} {t : Doc} (hk : t.kind = k) (hk1 : k ≠ 1) (hs : t.solid = true) (f : Bool) (acc : ByteArray) (rest : List Doc) : flats k f acc (t.kids ++ rest) = flats k f acc (t :: rest) := by
  have hv := solid_void hs
  have S := solid_at.1 hs
  have hkids : t.kids ≠ [] := S.l.resolve_left (by omega)
  have hvk : voids t.kids = false := by
    rw [void_eq, hk] at hv
    have : (k != 1) = true := by simp [bne, hk1]
    rw [this, Bool.true_and] at hv
    exact hv
  have h1 : flats k f acc t.kids = flats k f acc [t] := by
    have hfl : t.flat = flats k true ⟨#[]⟩ t.kids := by rw [flat_kids (by omega), hk]
    have hno : acc ++ (⟨#[]⟩ : ByteArray) = acc := ByteArray.append_empty
    cases f with
    | true =>
      have h2 : flats k true acc t.kids = (flats k true ⟨#[]⟩ t.kids).map (acc ++ ·) := by rw [← flats_acc, hno]
      rw [h2, ← hfl]
      cases hf : t.flat with
      | none => rw [flats_none hv hf]; rfl
      | some s => rw [flats_first hv hf]; rfl
    | false =>
      match hkk : t.kids, hkids with
      | x :: r, _ =>
        have hxv := solid_void (S.kids x (by rw [hkk]; exact List.mem_cons_self))
        rw [hkk] at hfl
        cases hxf : x.flat with
        | none =>
          rw [flats_none hxv hxf] at hfl ⊢
          rw [flats_none hv hfl]
        | some u =>
          rw [flats_first hxv hxf, no_app] at hfl
          cases hb : below56 k with
          | true =>
            rw [flats_below hxv hxf hb]
            cases hf : t.flat with
            | none => rw [flats_none hv hf]
            | some s => rw [flats_below hv hf hb]
          | false =>
            cases hsp : spaced k with
            | true =>
              rw [flats_blank hxv hxf hb hsp, flats_acc, ← hfl]
              cases hf : t.flat with
              | none => rw [flats_none hv hf]; rfl
              | some s => rw [flats_blank hv hf hb hsp]; rfl
            | false =>
              rw [flats_next hxv hxf hb hsp, flats_acc, ← hfl]
              cases hf : t.flat with
              | none => rw [flats_none hv hf]; rfl
              | some s => rw [flats_next hv hf hb hsp]; rfl
  rw [flats_app, h1, hvk, show t :: rest = [t] ++ rest from rfl, flats_app]
  simp [voids, hv]
theorem flats_cons_congr {k : Int} {x y : Doc} (hv : x.void = y.void) (hf : x.flat = y.flat) (f : Bool) (acc : ByteArray) (r : List Doc) : flats k f acc (x :: r) = flats k f acc (y :: r) := by
  simp only [flats, hv, hf]
theorem flats_spreads {k : Int} (hk1 : k ≠ 1) : ∀ (ds : List Doc), (∀ d ∈ ds, d.form = true ∧ d.tidy.flat = d.flat) → ∀ f acc, flats k f acc (spreads k ds) = flats k f acc ds := by
  intro ds
  induction ds with
  | nil => intro _ f acc; rfl
  | cons d r ih =>
    intro h f acc
    have hr := ih fun x hx => h x (List.mem_cons_of_mem _ hx)
    obtain ⟨hf, hfl⟩ := h d List.mem_cons_self
    simp only [spreads]
    cases hv : d.void with
    | true => simp only [if_true]; rw [flats_void hv, hr]
    | false =>
      simp only [Bool.false_eq_true, if_false]
      have hfine := tidy_fine hf hv
      have hvt := solid_void hfine.2
      have h1 : flats k f acc (taken k d.tidy ++ spreads k r) = flats k f acc (d.tidy :: spreads k r) := by
        unfold taken
        split
        · rename_i hj
          rw [Bool.and_eq_true, beq_iff_eq] at hj
          exact flats_splice hj.2 hk1 hfine.2 f acc _
        · rfl
      rw [h1, flats_cons_congr (hvt.trans hv.symm) hfl]
      rw [show d :: spreads k r = [d] ++ spreads k r from rfl, show d :: r = [d] ++ r from rfl, flats_app, flats_app]
      congr 1
      funext u
      exact hr _ u
theorem flats3_first (ds : List Doc) (acc : ByteArray) : flats 3 true acc ds = flats 3 false acc ds := by
  cases ds with
  | nil => rfl
  | cons d r =>
    cases hv : d.void with
    | true => rw [flats_void hv, flats_void hv]; exact flats3_first r acc
    | false =>
      cases hf : d.flat with
      | none => rw [flats_none hv hf, flats_none hv hf]
      | some t => rw [flats_first hv hf, flats_next hv hf rfl rfl]
theorem flats3_any (ds : List Doc) (acc : ByteArray) (f g : Bool) : flats 3 f acc ds = flats 3 g acc ds := by
  cases f <;> cases g <;> simp [flats3_first]
theorem str_void {d : Doc} (h : d.kind = 1) : d.void = false := by rw [void_eq, h]; rfl
theorem flats3_push (l : List Doc) (x : Doc) (f : Bool) (acc : ByteArray) (r : List Doc) : flats 3 f acc (push 3 l x ++ r) = flats 3 f acc (l ++ x :: r) := by
  rcases eq_nil_or_snoc l with rfl | ⟨l', y, rfl⟩
  · rw [push_not (.inr (.inr (.inl rfl)))]; rfl
  · by_cases hx : x.kind = 1
    · by_cases hy : y.kind = 1
      · rw [push_str hy hx, List.append_assoc, List.append_assoc, flats_app, flats_app]
        congr 1
        funext u
        have h1 : (strD (y.text ++ x.text)).flat = some (y.text ++ x.text) := rfl
        have h2 : (strD (y.text ++ x.text)).void = false := rfl
        simp only [List.cons_append, List.nil_append]
        rw [flats3_any _ _ _ false, flats_next h2 h1 rfl rfl, flats3_any _ _ (f && voids l') false, flats_next (str_void hy) (flat_str hy) rfl rfl, flats_next (str_void hx) (flat_str hx) rfl rfl, app_assoc]
      · rw [push_not (.inr (.inr (.inr ⟨y, l', rfl, hy⟩)))]; simp
    · rw [push_not (.inr (.inl hx))]; simp
theorem flats3_pushes (xs : List Doc) : ∀ (l : List Doc) (f : Bool) (acc : ByteArray), flats 3 f acc (xs.foldl (push 3) l) = flats 3 f acc (l ++ xs) := by
  induction xs with
  | nil => intro l f acc; simp
  | cons x r ih =>
    intro l f acc
    rw [List.foldl_cons, ih, flats3_push]
theorem flats_pushes (k : Int) (xs : List Doc) (f : Bool) (acc : ByteArray) : flats k f acc (xs.foldl (push k) []) = flats k f acc xs := by
  by_cases hk : k = 3
  · subst hk; rw [flats3_pushes]; rfl
  · rw [foldl_push_ne hk]; rfl
theorem nestD_flat (m : Nat) : ∀ (n : Int) (x : Doc), Fine x → (nestD m n x).2.flat = x.flat := by
  induction m with
  | zero => intro n x _; rfl
  | succ m ih =>
    intro n x hx
    unfold nestD
    split
    · rename_i y hy
      split
      · rename_i hc
        have hy' := fine_kids hx y (by rw [hy]; exact List.mem_cons_self)
        rw [ih _ _ hy']
        have hk : x.kind = 2 := by simp only [Bool.and_eq_true, beq_iff_eq] at hc; exact hc.1.1
        rw [flat_kids (d := x) (by omega), hy, hk, flats_one 2 (solid_void hy'.2)]
      · rfl
    · rfl
theorem tidyW_flat {k n : Int} {L : List Doc} (hL : ∀ d ∈ L, Fine d) (hne : L ≠ []) (hk : k ≠ 1) (h2 : k = 2 → L.length = 1) (hn0 : -1000 ≤ n) (hn1 : n ≤ 1000) : (tidyW k n L).flat = flats k true ⟨#[]⟩ L := by
  match L, hne with
  | x :: r, _ =>
    have hx := hL x List.mem_cons_self
    simp only [tidyW]
    split
    · rename_i hk2
      have hk2 : k = 2 := by simpa using hk2
      have hr : r = [] := List.eq_nil_of_length_eq_zero (by have := h2 hk2; simpa using this)
      subst hr
      have hN := nestD_fine x.wt n x hx hn0 hn1
      rw [flats_one k (solid_void hx.2), ← nestD_flat x.wt n x hx]
      unfold nestE
      split
      · rfl
      · rw [flat_kids (by simp)]
        exact flats_one 2 (solid_void hN.1.2)
    · split
      · rename_i hr
        have hr : r = [] := by simpa using hr
        subst hr
        rw [flats_one k (solid_void hx.2)]
      · rw [flat_kids (by exact hk)]
theorem pushes_one {k : Int} (hk : k = 2) {xs : List Doc} (h : xs.length = 1) : (xs.foldl (push k) []).length = 1 := by
  rw [foldl_push_ne (by omega)]
  simpa using h
theorem tidy_flat_aux (m : Nat) : ∀ d : Doc, d.wt ≤ m → d.form = true → d.tidy.flat = d.flat := by
  induction m with
  | zero => intro d h; have := wt_pos d; omega
  | succ m ih =>
    intro d hm hf
    have F := form_at.1 hf
    by_cases h1 : d.kind = 1
    · rw [tidy_str (by simpa using h1)]
    · have h1' : (d.kind == 1) = false := by simpa using h1
      have hsp := flats_spreads (k := d.kind) h1 d.kids fun x hx => ⟨F.kids x hx, ih x (by have := kid_lt hx; omega) (F.kids x hx)⟩
      cases hv : d.void with
      | true =>
        rw [tidy_void hv]
        have hvk : voids d.kids = true := by
          rw [void_eq] at hv
          simpa [h1] using hv
        rw [flat_kids h1]
        have : ∀ (ds : List Doc), voids ds = true → ∀ f acc, flats d.kind f acc ds = some acc := by
          intro ds
          induction ds with
          | nil => intro _ f acc; rfl
          | cons a r ihr =>
            intro h f acc
            simp only [voids, Bool.and_eq_true] at h
            rw [flats_void h.1]
            exact ihr h.2 f acc
        rw [this _ hvk]
        rfl
      | false =>
        have hok := spreads_ok hf hv h1'
        have hlen : d.kind = 2 → (spreads d.kind d.kids).length = 1 := by
          intro h2
          obtain ⟨x0, hx0⟩ : ∃ x0, d.kids = [x0] := List.length_eq_one_iff.1 (F.l1.resolve_left (by omega))
          have h3 := hok.2
          rw [hx0, h2] at h3 ⊢
          cases hxv : x0.void with
          | true => simp [spreads, hxv] at h3
          | false => simp [spreads, hxv, taken, joinsK]
        rw [tidy_else h1' hv, tidyW_flat (pushes_fine (by simp) hok.1) (pushes_ne (.inl hok.2)) h1 (fun h2 => pushes_one h2 (hlen h2)) F.n0 F.n1, flats_pushes, hsp, ← flat_kids h1]
theorem tidy_flat {d : Doc} (hf : d.form = true) : d.tidy.flat = d.flat := tidy_flat_aux d.wt d (Nat.le_refl _) hf

/-! The Lead. -/
theorem wrap_mod (n : Int) : IntKind.i64.wrap n = (n + 9223372036854775808) % 18446744073709551616 - 9223372036854775808 := by
  simp [IntKind.wrap, IntKind.bits, IntKind.signed]
  split <;> omega
theorem wrap_wrap (a b : Int) : IntKind.i64.wrap (a + IntKind.i64.wrap b) = IntKind.i64.wrap (a + b) := by
  rw [wrap_mod, wrap_mod, wrap_mod]
  omega
mutual
/-- The Lead, as a number. -/
def Doc.lead0 : Doc → Int
  | ⟨k, _, n, kids⟩ => if k == 1 then 0 else leads0 n kids
def leads0 (n : Int) : List Doc → Int
  | [] => 0
  | d :: r => if d.void then leads0 n r else n + d.lead0
end
theorem lead0_eq (d : Doc) : d.lead0 = if d.kind == 1 then 0 else leads0 d.n d.kids := by cases d; simp [Doc.lead0]
theorem lead_wrap_aux (m : Nat) : ∀ d : Doc, d.wt ≤ m → d.lead = IntKind.i64.wrap d.lead0 := by
  induction m with
  | zero => intro d h; have := wt_pos d; omega
  | succ m ih =>
    intro d hm
    have h0 : ∀ (ds : List Doc), (∀ x ∈ ds, x.lead = IntKind.i64.wrap x.lead0) → ∀ n, leads n ds = IntKind.i64.wrap (leads0 n ds) := by
      intro ds
      induction ds with
      | nil => intro _ n; rfl
      | cons a r ihr =>
        intro h n
        simp only [leads, leads0]
        split
        · exact ihr (fun x hx => h x (List.mem_cons_of_mem _ hx)) n
        · rw [h a List.mem_cons_self, wrap_wrap]
    rw [lead_eq, lead0_eq]
    split
    · rfl
    · exact h0 _ (fun x hx => ih x (by have := kid_lt hx; omega)) _
theorem lead_wrap (d : Doc) : d.lead = IntKind.i64.wrap d.lead0 := lead_wrap_aux d.wt d (Nat.le_refl _)
/-- The Lead of the first of documents that are there. -/
def hd0 : List Doc → Int
  | [] => 0
  | x :: _ => x.lead0
theorem leads0_there (n : Int) (ds : List Doc) (h : voids ds = false) : leads0 n ds = n + hd0 (ds.filter Doc.there) := by
  induction ds with
  | nil => simp [voids] at h
  | cons a r ih =>
    simp only [leads0]
    cases hv : a.void with
    | true =>
      rw [List.filter_cons_of_neg (by simp [Doc.there, hv])]
      simp only [if_true]
      exact ih (by simpa [voids, hv] using h)
    | false => rw [List.filter_cons_of_pos (by simp [Doc.there, hv])]; rfl
theorem lead0_head {x : Doc} {r : List Doc} (hv : x.void = false) (k n : Int) (hk : k ≠ 1) (t : ByteArray) : (⟨k, t, n, x :: r⟩ : Doc).lead0 = n + x.lead0 := by
  rw [lead0_eq]
  simp [hk, leads0, hv]
theorem lead0_str {d : Doc} (h : d.kind = 1) : d.lead0 = 0 := by rw [lead0_eq, h]; rfl
theorem fine_n {d : Doc} (h : Fine d) (h2 : d.kind ≠ 2) : d.n = 0 := (form_at.1 h.1).n.resolve_left h2
theorem lead0_kids {d : Doc} (h : Fine d) (h1 : d.kind ≠ 1) : d.lead0 = d.n + hd0 d.kids := by
  have S := solid_at.1 h.2
  match hk : d.kids, S.l.resolve_left h1 with
  | x :: r, _ =>
    have hx := solid_void (S.kids x (by rw [hk]; exact List.mem_cons_self))
    rw [lead0_eq, hk]
    simp [h1, leads0, hx, hd0]
theorem hd0_taken {k : Int} {t : Doc} (h : Fine t) : ∀ r, hd0 (taken k t ++ r) = t.lead0 := by
  intro r
  unfold taken
  split
  · rename_i hj
    rw [Bool.and_eq_true, beq_iff_eq] at hj
    have h1 : t.kind ≠ 1 := by
      intro e
      rw [e] at hj
      rw [← hj.2] at hj
      exact absurd hj.1 (by decide)
    have h2 : t.kind ≠ 2 := by
      intro e
      rw [e] at hj
      rw [← hj.2] at hj
      exact absurd hj.1 (by decide)
    rw [lead0_kids h h1, fine_n h h2]
    match hk : t.kids, (solid_at.1 h.2).l.resolve_left h1 with
    | x :: r', _ => simp [hd0]
  · rfl
theorem hd0_push {k : Int} {l : List Doc} {x : Doc} (hl : l ≠ []) : hd0 (push k l x) = hd0 l := by
  rcases eq_nil_or_snoc l with rfl | ⟨l', y, rfl⟩
  · exact absurd rfl hl
  · by_cases h3 : k = 3
    · subst h3
      by_cases hx : x.kind = 1
      · by_cases hy : y.kind = 1
        · rw [push_str hy hx]
          cases l' with
          | nil => simp only [List.nil_append, hd0]; rw [lead0_str (d := strD _) rfl, lead0_str hy]
          | cons a r => rfl
        · rw [push_not (.inr (.inr (.inr ⟨y, l', rfl, hy⟩)))]
          cases l' <;> rfl
      · rw [push_not (.inr (.inl hx))]; cases l' <;> rfl
    · rw [push_not (.inl h3)]; cases l' <;> rfl
theorem hd0_pushes {k : Int} (xs : List Doc) : ∀ {l : List Doc}, l ≠ [] → hd0 (xs.foldl (push k) l) = hd0 l := by
  induction xs with
  | nil => intro l _; rfl
  | cons x r ih => intro l hl; rw [List.foldl_cons, ih push_ne, hd0_push hl]
theorem hd0_pushes' {k : Int} (xs : List Doc) : hd0 (xs.foldl (push k) []) = hd0 xs := by
  cases xs with
  | nil => rfl
  | cons x r =>
    rw [List.foldl_cons, hd0_pushes r push_ne, push_not (.inr (.inr (.inl rfl)))]
    rfl
theorem nestD_lead (m : Nat) : ∀ (n : Int) (x : Doc), Fine x → (nestD m n x).1 + (nestD m n x).2.lead0 = n + x.lead0 := by
  induction m with
  | zero => intro n x _; rfl
  | succ m ih =>
    intro n x hx
    unfold nestD
    split
    · rename_i y hy
      split
      · rename_i hc
        have hy' := fine_kids hx y (by rw [hy]; exact List.mem_cons_self)
        have hk : x.kind = 2 := by simp only [Bool.and_eq_true, beq_iff_eq] at hc; exact hc.1.1
        rw [ih _ _ hy', lead0_kids hx (by omega), hy]
        simp only [hd0]
        omega
      · rfl
    · rfl
theorem tidyW_lead {k n : Int} {L : List Doc} (hL : ∀ d ∈ L, Fine d) (hne : L ≠ []) (hk : k ≠ 1) (hn : k = 2 ∨ n = 0) (hn0 : -1000 ≤ n) (hn1 : n ≤ 1000) : (tidyW k n L).lead0 = n + hd0 L := by
  match L, hne with
  | x :: r, _ =>
    have hx := hL x List.mem_cons_self
    simp only [tidyW, hd0]
    split
    · have h1 := nestD_lead x.wt n x hx
      have hN := nestD_fine x.wt n x hx hn0 hn1
      unfold nestE
      split
      · rename_i h0
        have h0 : (nestD x.wt n x).1 = 0 := by simpa using h0
        rw [h0] at h1
        omega
      · rw [lead0_head (solid_void hN.1.2) 2 _ (by decide)]
        exact h1
    · rename_i hk2
      have hn : n = 0 := hn.resolve_left (by simpa using hk2)
      split
      · omega
      · rw [lead0_head (solid_void hx.2) k 0 hk]
        omega
theorem tidy_lead_aux (m : Nat) : ∀ d : Doc, d.wt ≤ m → d.form = true → d.tidy.lead0 = d.lead0 := by
  induction m with
  | zero => intro d h; have := wt_pos d; omega
  | succ m ih =>
    intro d hm hf
    have F := form_at.1 hf
    by_cases h1 : d.kind = 1
    · rw [tidy_str (by simpa using h1)]
    · have h1' : (d.kind == 1) = false := by simpa using h1
      cases hv : d.void with
      | true =>
        rw [tidy_void hv, lead0_eq d, h1']
        have hvk : voids d.kids = true := by
          rw [void_eq] at hv
          simpa [h1] using hv
        have : ∀ (ds : List Doc), voids ds = true → leads0 d.n ds = 0 := by
          intro ds
          induction ds with
          | nil => intro _; rfl
          | cons a r ihr =>
            intro h
            simp only [voids, Bool.and_eq_true] at h
            simp only [leads0, h.1, if_true]
            exact ihr h.2
        simp only [Bool.false_eq_true, if_false]
        rw [this _ hvk]
        rfl
      | false =>
        have hok := spreads_ok hf hv h1'
        have hvk : voids d.kids = false := by
          rw [void_eq] at hv
          simpa [h1] using hv
        rw [tidy_else h1' hv, tidyW_lead (pushes_fine (by simp) hok.1) (pushes_ne (.inl hok.2)) h1 F.n F.n0 F.n1, hd0_pushes', lead0_eq d, h1']
        simp only [Bool.false_eq_true, if_false]
        rw [leads0_there _ _ hvk]
        congr 1
        rw [spreads_there]
        match hh : d.kids.filter Doc.there with
        | [] =>
          have := there_none d.kids
          rw [hh, hvk] at this
          simp at this
        | a :: r =>
          have ha : a ∈ d.kids.filter Doc.there := by rw [hh]; exact List.mem_cons_self
          obtain ⟨ha, hav⟩ := List.mem_filter.1 ha
          rw [List.flatMap_cons, hd0_taken (tidy_fine (F.kids a ha) (by simpa [Doc.there] using hav)), ih a (by have := kid_lt ha; omega) (F.kids a ha)]
          rfl
theorem tidy_lead {d : Doc} (hf : d.form = true) : d.tidy.lead = d.lead := by rw [lead_wrap, lead_wrap, tidy_lead_aux d.wt d (Nat.le_refl _) hf]
end Go.Proofs.YtnpaplfdmpjfgaaDoor
