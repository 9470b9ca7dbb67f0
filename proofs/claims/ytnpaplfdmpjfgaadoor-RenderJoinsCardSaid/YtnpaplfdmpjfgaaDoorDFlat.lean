/- What a document has in one line: plain. -/
import Derived.Test.YtnpaplfdmpjfgaaDoorDVoid
import Derived.Lib.Join
namespace Go.Proofs.YtnpaplfdmpjfgaaDoor
open Go.RowKit

def below56 (k : Int) : Bool := k == 5 || k == 6
def spaced (k : Int) : Bool := k == 4 || k == 7 || k == 9
def sepB (k : Int) : ByteArray := if spaced k then ⟨#[32]⟩ else ⟨#[]⟩
mutual
/-- What a document has in one line. -/
def Doc.flat : Doc → Option ByteArray
  | ⟨k, t, _, kids⟩ => if k == 1 then some t else flats k true ⟨#[]⟩ kids
def flats (k : Int) (first : Bool) (acc : ByteArray) : List Doc → Option ByteArray
  | [] => some acc
  | d :: r => if d.void then flats k first acc r else
      match d.flat with
      | none => none
      | some t => if !first && below56 k then none else flats k false ((if !first && spaced k then acc ++ ⟨#[32]⟩ else acc) ++ t) r
end
theorem flat_eq (d : Doc) : d.flat = if d.kind == 1 then some d.text else flats d.kind true ⟨#[]⟩ d.kids := by cases d; simp [Doc.flat]

theorem flats_void {k : Int} {f : Bool} {acc : ByteArray} {d : Doc} {r : List Doc} (h : d.void = true) : flats k f acc (d :: r) = flats k f acc r := by simp [flats, h]
theorem flats_none {k : Int} {f : Bool} {acc : ByteArray} {d : Doc} {r : List Doc} (h : d.void = false) (hf : d.flat = none) : flats k f acc (d :: r) = none := by simp [flats, h, hf]
theorem flats_first {k : Int} {acc t : ByteArray} {d : Doc} {r : List Doc} (h : d.void = false) (hf : d.flat = some t) : flats k true acc (d :: r) = flats k false (acc ++ t) r := by simp [flats, h, hf]
theorem flats_below {k : Int} {acc t : ByteArray} {d : Doc} {r : List Doc} (h : d.void = false) (hf : d.flat = some t) (hk : below56 k = true) : flats k false acc (d :: r) = none := by simp [flats, h, hf, hk]
theorem flats_blank {k : Int} {acc t : ByteArray} {d : Doc} {r : List Doc} (h : d.void = false) (hf : d.flat = some t) (hk : below56 k = false) (hs : spaced k = true) : flats k false acc (d :: r) = flats k false (acc ++ ⟨#[32]⟩ ++ t) r := by simp [flats, h, hf, hk, hs]
theorem flats_next {k : Int} {acc t : ByteArray} {d : Doc} {r : List Doc} (h : d.void = false) (hf : d.flat = some t) (hk : below56 k = false) (hs : spaced k = false) : flats k false acc (d :: r) = flats k false (acc ++ t) r := by simp [flats, h, hf, hk, hs]

theorem size_app (a b : ByteArray) : (a ++ b).size = a.size + b.size := ByteArray.size_append
theorem flat_size_aux (m : Nat) : (∀ d : Doc, d.wt ≤ m → ∀ s, d.flat = some s → s.size + 1 ≤ 2 * d.wt) ∧ (∀ ds : List Doc, wts ds ≤ m → ∀ k f acc s, flats k f acc ds = some s → s.size ≤ acc.size + 2 * wts ds) := by
  induction m with
  | zero =>
    refine ⟨fun d hd => by have := wt_pos d; omega, fun ds hds k f acc s h => ?_⟩
    have : ds = [] := List.eq_nil_of_length_eq_zero (by have := len_le_wts ds; omega)
    subst this
    simp [flats] at h
    subst h
    omega
  | succ m ih =>
    have hd : ∀ d : Doc, d.wt ≤ m + 1 → ∀ s, d.flat = some s → s.size + 1 ≤ 2 * d.wt := by
      intro d hd s h
      rw [flat_eq] at h
      rw [wt_eq] at hd ⊢
      split at h
      · cases h; omega
      · have := ih.2 d.kids (by omega) _ _ _ _ h
        have e : (⟨#[]⟩ : ByteArray).size = 0 := rfl
        omega
    refine ⟨hd, fun ds => ?_⟩
    induction ds with
    | nil => intro _ k f acc s h; simp [flats] at h; subst h; omega
    | cons a r ihr =>
      intro hw k f acc s h
      simp only [wts] at hw ⊢
      simp only [flats] at h
      split at h
      · have := ihr (by omega) _ _ _ _ h; omega
      · split at h
        · cases h
        · rename_i t ht
          have h1 := hd a (by omega) t ht
          split at h
          · cases h
          · have h2 := ihr (by omega) _ _ _ _ h
            rw [size_app] at h2
            split at h2
            · rw [size_app] at h2
              have e : (⟨#[32]⟩ : ByteArray).size = 1 := rfl
              omega
            · omega
theorem flat_size {d : Doc} {s : ByteArray} (h : d.flat = some s) : s.size + 1 ≤ 2 * d.wt := (flat_size_aux d.wt).1 d (Nat.le_refl _) s h
theorem wts_take {ds : List Doc} {k : Nat} (h : k < ds.length) : wts (ds.take (k + 1)) = wts (ds.take k) + ds[k].wt := by
  have hp : ∀ a b : List Doc, wts (a ++ b) = wts a + wts b := by
    intro a b
    induction a with
    | nil => simp [wts]
    | cons x r ih => simp only [List.cons_append, wts, ih]; omega
  rw [List.take_succ_eq_append_getElem h, hp]
  simp [wts]
theorem wts_take_le (ds : List Doc) (k : Nat) : wts (ds.take k) ≤ wts ds := by
  induction ds generalizing k with
  | nil => simp
  | cons a r ih =>
    cases k with
    | zero => simp [wts]
    | succ k => simp only [List.take_succ_cons, wts]; have := ih k; omega

/-- The texts of documents that all have one line. -/
def textsOf : List Doc → Option (List ByteArray)
  | [] => some []
  | d :: r => match d.flat, textsOf r with
    | some t, some ts => some (t :: ts)
    | _, _ => none
def lists (ts : List ByteArray) : List (List UInt8) := ts.map (·.data.toList)
def joinB (ts : List ByteArray) (sep : ByteArray) : ByteArray := ⟨(Lib.join (lists ts) sep.data.toList).toArray⟩
theorem bytes_eq {a b : ByteArray} (h : a.data.toList = b.data.toList) : a = b := by
  cases a; cases b
  simp only at h
  congr 1
  exact Array.toList_inj.1 h
theorem data_app (a b : ByteArray) : (a ++ b).data.toList = a.data.toList ++ b.data.toList := by simp [ByteArray.data_append]
theorem flats_tail (k : Int) (ds : List Doc) : ∀ acc, flats k false acc ds = if below56 k then (if ds.filter Doc.there = [] then some acc else none) else (textsOf (ds.filter Doc.there)).map fun ts => ⟨(acc.data.toList ++ Lib.joinTail (sepB k).data.toList (lists ts)).toArray⟩ := by
  induction ds with
  | nil =>
    intro acc
    simp only [flats, List.filter_nil, if_true, textsOf, Option.map_some, lists, List.map_nil]
    split
    · rfl
    · congr 1
      exact bytes_eq (by simp [Lib.joinTail])
  | cons d r ih =>
    intro acc
    cases hv : d.void with
    | true => rw [flats_void hv, ih, List.filter_cons_of_neg (by simp [Doc.there, hv])]
    | false =>
      rw [List.filter_cons_of_pos (by simp [Doc.there, hv])]
      cases hf : d.flat with
      | none => rw [flats_none hv hf]; simp [textsOf, hf]
      | some t =>
        cases hb : below56 k with
        | true => rw [flats_below hv hf hb]; simp
        | false =>
          have e1 : textsOf (d :: r.filter Doc.there) = (textsOf (r.filter Doc.there)).map (t :: ·) := by simp only [textsOf, hf]; cases textsOf (r.filter Doc.there) <;> rfl
          rw [e1]
          cases hs : spaced k with
          | true =>
            rw [flats_blank hv hf hb hs, ih]
            simp only [hb, Bool.false_eq_true, if_false, Option.map_map]
            congr 1
            funext ts
            exact bytes_eq (by simp [lists, Lib.joinTail, sepB, hs])
          | false =>
            rw [flats_next hv hf hb hs, ih]
            simp only [hb, Bool.false_eq_true, if_false, Option.map_map]
            congr 1
            funext ts
            exact bytes_eq (by simp [lists, Lib.joinTail, sepB, hs])
theorem flats_head (k : Int) (ds : List Doc) : flats k true ⟨#[]⟩ ds = match textsOf (ds.filter Doc.there) with
    | none => none
    | some ts => if below56 k && decide (1 < ts.length) then none else some (joinB ts (sepB k)) := by
  induction ds with
  | nil =>
    simp only [flats, List.filter_nil, textsOf, List.length_nil]
    rw [if_neg (by simp)]
    rfl
  | cons d r ih =>
    cases hv : d.void with
    | true => rw [flats_void hv, ih, List.filter_cons_of_neg (by simp [Doc.there, hv])]
    | false =>
      rw [List.filter_cons_of_pos (by simp [Doc.there, hv])]
      cases hf : d.flat with
      | none => rw [flats_none hv hf]; simp [textsOf, hf]
      | some t =>
        have e1 : textsOf (d :: r.filter Doc.there) = (textsOf (r.filter Doc.there)).map (t :: ·) := by simp only [textsOf, hf]; cases textsOf (r.filter Doc.there) <;> rfl
        rw [e1, flats_first hv hf, flats_tail]
        cases hb : below56 k with
        | true =>
          simp only [if_true, Bool.true_and]
          by_cases he : r.filter Doc.there = []
          · rw [if_pos he, he]
            simp only [textsOf, Option.map_some]
            have : decide (1 < ([t] : List ByteArray).length) = false := rfl
            rw [this]
            simp only [Bool.false_eq_true, if_false]
            congr 1
            exact bytes_eq (by simp [joinB, lists, Lib.join_one])
          · rw [if_neg he]
            cases ht : textsOf (r.filter Doc.there) with
            | none => rfl
            | some ts =>
              simp only [Option.map_some]
              have : ts ≠ [] := by
                rintro rfl
                cases hr : r.filter Doc.there with
                | nil => exact he hr
                | cons x y =>
                  rw [hr] at ht
                  simp only [textsOf] at ht
                  split at ht <;> simp at ht
              rw [if_pos]
              cases ts with
              | nil => exact absurd rfl this
              | cons x y => simp
        | false =>
          simp only [Bool.false_eq_true, if_false, Bool.false_and]
          cases ht : textsOf (r.filter Doc.there) with
          | none => rfl
          | some ts =>
            simp only [Option.map_some]
            congr 1
            exact bytes_eq (by simp [joinB, lists, Lib.join_cons])
end Go.Proofs.YtnpaplfdmpjfgaaDoor
