/- Documents whose texts and rows are each no longer than what the form lets be: nothing is asked of their sum. -/
import Derived.Test.YtnpaplfdmpjfgaaDoorDBase
namespace Go.Proofs.YtnpaplfdmpjfgaaDoor

mutual
/-- Each text, and each row of kids, is no longer than what the form lets be. -/
def Doc.Ok : Doc → Prop
  | ⟨_, t, _, kids⟩ => t.size ≤ 140737488351232 ∧ kids.length ≤ 140737488351232 ∧ oks kids
def oks : List Doc → Prop
  | [] => True
  | d :: r => d.Ok ∧ oks r
end
theorem ok_iff {d : Doc} : d.Ok ↔ d.text.size ≤ 140737488351232 ∧ d.kids.length ≤ 140737488351232 ∧ oks d.kids := by
  cases d
  simp only [Doc.Ok]
theorem oks_iff {ds : List Doc} : oks ds ↔ ∀ d ∈ ds, d.Ok := by
  induction ds with
  | nil => simp [oks]
  | cons a r ih => simp [oks, ih]
theorem ok_kid {d k : Doc} (h : d.Ok) (hk : k ∈ d.kids) : k.Ok := oks_iff.1 (ok_iff.1 h).2.2 k hk
theorem ok_of_wt_aux (m : Nat) : (∀ d : Doc, d.wt ≤ m → d.wt ≤ 140737488351232 → d.Ok) ∧ (∀ ds : List Doc, wts ds ≤ m → wts ds ≤ 140737488351232 → oks ds) := by
  induction m with
  | zero =>
    refine ⟨fun d hd => by have := wt_pos d; omega, fun ds hds _ => ?_⟩
    have : ds = [] := List.eq_nil_of_length_eq_zero (by have := len_le_wts ds; omega)
    subst this
    exact trivial
  | succ m ih =>
    have hd : ∀ d : Doc, d.wt ≤ m + 1 → d.wt ≤ 140737488351232 → d.Ok := by
      intro d hd hb
      have h1 := kids_lt d
      have h2 := text_lt d
      rw [wt_eq] at hd hb
      exact ok_iff.2 ⟨by omega, by have := len_le_wts d.kids; omega, ih.2 d.kids (by omega) (by omega)⟩
    refine ⟨hd, fun ds => ?_⟩
    induction ds with
    | nil => intro _ _; exact trivial
    | cons a r ihr =>
      intro hw hb
      simp only [wts] at hw hb
      exact ⟨hd a (by omega) (by omega), ihr (by omega) (by omega)⟩
theorem ok_of_wt {d : Doc} (h : d.wt ≤ 140737488351232) : d.Ok := (ok_of_wt_aux d.wt).1 d (Nat.le_refl _) h
end Go.Proofs.YtnpaplfdmpjfgaaDoor
