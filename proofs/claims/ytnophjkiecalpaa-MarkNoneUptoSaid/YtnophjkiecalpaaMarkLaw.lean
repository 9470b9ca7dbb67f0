/- What the marks are, in plain Lean: the program's list and the reference's are one; taken away again they leave what was there; each stands once. -/
import Derived.Test.YtnophjkiecalpaaMarkE
namespace Go.Proofs.Ytnophjkiecalpaa
open Go.RowKit

def Lines (l : List Tok) : Prop := ∀ t ∈ l, (Lit.int .i64 t.line).wf = true

theorem Lines.tk_ok {l : List Tok} (h : Lines l) (k : Nat) : (Lit.int .i64 (tk l k).line).wf = true := by
  by_cases hk : k < l.length
  · exact h _ (tk_mem hk)
  · rw [tk_out (by omega)]; rfl

theorem onLine_eq (l : List Tok) (k : Nat) (hk : k ≠ 0) (hl : Lines l) : onLineP l k = onLine l k := by
  obtain ⟨j, rfl⟩ : ∃ j, k = j + 1 := ⟨k - 1, by omega⟩
  have h1 := hl.tk_ok (j + 1)
  have h2 := hl.tk_ok j
  unfold onLineP onLine fresh endLine
  simp only [Nat.add_sub_cancel]
  generalize (tk l (j + 1)).line = y at *
  generalize (tk l j).line = x at *
  generalize (lineCount (tk l j).text : Int) = c
  simp [Lit.wf, IntKind.min, IntKind.max, IntKind.signed, IntKind.bits] at h1 h2
  congr 1
  rw [Bool.eq_iff_iff]
  simp only [bne_iff_ne, ne_eq]
  simp [IntKind.wrap, IntKind.bits, IntKind.signed]
  omega

theorem progOne_eq (l : List Tok) (k : Nat) (hl : Lines l) : progOne l k = pre l k ++ [tk l k] := by
  unfold progOne pre markNo
  cases begins l k with
  | true => simp
  | false =>
    simp only [Bool.false_eq_true, if_false]
    by_cases hk : k = 0
    · subst hk
      simp [onLine]
    · rw [onLine_eq l k hk hl]
      cases onLine l k <;> simp [hk]

theorem flatM_eq (l : List Tok) (hl : Lines l) (k : Nat) (hk : k ≤ l.length) : flatM l (upto l k) = marks l k := by
  induction k with
  | zero => rfl
  | succ k ih =>
    rw [upto_succ (by omega), flatM_snoc, ih (by omega), progOne_eq l k hl]
    simp [marks]

theorem begins_end (l : List Tok) (h : l.length ≠ 0) : begins l l.length = opens (tk l (l.length - 1)) := by
  obtain ⟨j, hj⟩ : ∃ j, l.length = j + 1 := ⟨l.length - 1, by omega⟩
  rw [hj]
  have h0 : brace (tk l (j + 1)) = false := by rw [tk_out (by omega)]; simp [brace, tk0]
  simp [begins, h0]

theorem progAll_eq (l : List Tok) (hl : Lines l) : progAll l = markAll l := by
  unfold progAll markAll
  rw [flatM_eq l hl _ (Nat.le_refl _)]
  by_cases h : l.length = 0
  · simp [h, marks]
  · simp only [h, false_or, if_false]
    rw [begins_end l h]

/-- No token is a mark. -/
def Plain (l : List Tok) : Prop := ∀ t ∈ l, notMark t = true
theorem Plain.tk_ok {l : List Tok} (h : Plain l) (k : Nat) : notMark (tk l k) = true := by
  by_cases hk : k < l.length
  · exact h _ (tk_mem hk)
  · rw [tk_out (by omega)]; rfl

theorem bare_app (a b : List Tok) : bare (a ++ b) = bare a ++ bare b := List.filter_append ..
theorem notMark16 (t : Tok) : notMark (markTok 16 t) = false := rfl
theorem notMark17 (t : Tok) : notMark (markTok 17 t) = false := rfl
theorem pre_cases (l : List Tok) (k : Nat) : pre l k = [] ∨ (pre l k = [markTok 16 (tk l k)] ∧ begins l k = true) ∨ pre l k = [markTok 17 (tk l k)] := by
  unfold pre
  cases begins l k with
  | true => simp
  | false => cases onLine l k <;> simp
theorem bare_pre (l : List Tok) (k : Nat) : bare (pre l k) = [] := by
  rcases pre_cases l k with h | ⟨h, _⟩ | h <;> rw [h] <;> rfl

theorem bare_marks (l : List Tok) (hp : Plain l) (k : Nat) (hk : k ≤ l.length) : bare (marks l k) = l.take k := by
  induction k with
  | zero => rfl
  | succ k ih =>
    simp only [marks]
    rw [bare_app, bare_app, ih (by omega), bare_pre, take_snoc (by omega)]
    have : bare [tk l k] = [tk l k] := by simp [bare, hp.tk_ok k]
    rw [this, List.append_nil]
    congr 1
    simp [tk, List.getElem?_eq_getElem (show k < l.length by omega)]

theorem bare_markAll (l : List Tok) (hp : Plain l) : bare (markAll l) = l := by
  unfold markAll
  by_cases h : l.length = 0
  · obtain rfl := List.eq_nil_of_length_eq_zero h
    rfl
  · simp only [h, if_false]
    rw [bare_app, bare_marks l hp _ (Nat.le_refl _), List.take_length]
    cases begins l l.length <;> simp [bare, notMark16]

/-- How two tokens may stand beside each other. -/
def Next (a b : Tok) : Prop := (notMark a = false → notMark b = true ∧ b.line = a.line ∧ b.col = a.col) ∧ (b.kind = 16 → opens a = true)
structure Once (ys : List Tok) : Prop where
  next : ∀ i a b, ys[i]? = some a → ys[i + 1]? = some b → Next a b
  text : ∀ t ∈ ys, notMark t = false → t.text = .empty

theorem Once.snoc {ys : List Tok} (h : Once ys) (b : Tok) (hn : ∀ a, ys.getLast? = some a → Next a b) (ht : notMark b = false → b.text = .empty) : Once (ys ++ [b]) := by
  refine ⟨fun i x y hx hy => ?_, fun t hm hk => ?_⟩
  · have hi : i + 1 < (ys ++ [b]).length := (List.getElem?_eq_some_iff.1 hy).1
    simp only [List.length_append, List.length_cons, List.length_nil] at hi
    rw [List.getElem?_append_left (by omega)] at hx
    by_cases hlt : i + 1 < ys.length
    · rw [List.getElem?_append_left hlt] at hy
      exact h.next i x y hx hy
    · have he : i + 1 = ys.length := by omega
      rw [List.getElem?_append_right (by omega), he] at hy
      simp at hy
      subst hy
      refine hn x ?_
      rw [List.getLast?_eq_getElem?, ← he]
      exact hx
  · rcases List.mem_append.1 hm with h1 | h1
    · exact h.text t h1 hk
    · simp at h1
      subst h1
      exact ht hk

theorem kind_plain {t : Tok} (h : notMark t = true) : t.kind ≠ 16 ∧ t.kind ≠ 17 := by
  simpa [notMark] using h

theorem marks_last (l : List Tok) (k : Nat) : (marks l (k + 1)).getLast? = some (tk l k) := by simp [marks]

theorem pre_once (l : List Tok) (hp : Plain l) (k : Nat) (h : Once (marks l k)) : Once (marks l k ++ pre l k) := by
  rcases pre_cases l k with e | ⟨e, hb⟩ | e
  · rw [e]; simpa using h
  · rw [e]
    refine h.snoc _ (fun a ha => ⟨fun hm => ?_, fun _ => ?_⟩) (fun _ => rfl)
    all_goals
      obtain _ | j := k
      · simp [marks] at ha
      · rw [marks_last] at ha
        simp at ha
        subst ha
        first | (rw [hp.tk_ok j] at hm; cases hm) | (unfold begins at hb; simp at hb; exact hb.1)
  · rw [e]
    refine h.snoc _ (fun a ha => ⟨fun hm => ?_, fun h16 => by simp [markTok] at h16⟩) (fun _ => rfl)
    obtain _ | j := k
    · simp [marks] at ha
    · rw [marks_last] at ha
      simp at ha
      subst ha
      rw [hp.tk_ok j] at hm
      cases hm

theorem marks_once (l : List Tok) (hp : Plain l) (k : Nat) : Once (marks l k) := by
  induction k with
  | zero => exact ⟨fun i a b h => by simp [marks] at h, fun t h => by simp [marks] at h⟩
  | succ k ih =>
    have hpl := hp.tk_ok k
    refine (pre_once l hp k ih).snoc _ (fun a ha => ⟨fun hm => ⟨hpl, ?_⟩, fun h16 => absurd h16 (kind_plain hpl).1⟩) (fun hm => by rw [hpl] at hm; cases hm)
    rcases pre_cases l k with e | ⟨e, hb⟩ | e
    · rw [e] at ha
      obtain _ | j := k
      · simp [marks] at ha
      · rw [List.append_nil, marks_last] at ha
        simp at ha
        subst ha
        rw [hp.tk_ok j] at hm
        cases hm
    all_goals
      rw [e] at ha
      simp at ha
      subst ha
      exact ⟨rfl, rfl⟩

theorem markAll_once (l : List Tok) (hp : Plain l) : Once (markAll l) ∧ 0 < (markAll l).length := by
  unfold markAll
  by_cases h : l.length = 0
  · simp only [h, if_true]
    refine ⟨⟨fun i a b _ h2 => ?_, fun t hm _ => ?_⟩, by simp⟩
    · have := (List.getElem?_eq_some_iff.1 h2).1
      simp at this
    · simp at hm
      subst hm
      rfl
  · simp only [h, if_false]
    refine ⟨?_, ?_⟩
    · cases hb : begins l l.length with
      | false => simpa using marks_once l hp l.length
      | true =>
        rw [if_pos rfl]
        obtain ⟨j, hj⟩ : ∃ j, l.length = j + 1 := ⟨l.length - 1, by omega⟩
        refine (marks_once l hp l.length).snoc _ (fun a ha => ⟨fun hm => ?_, fun _ => ?_⟩) (fun _ => rfl)
        all_goals
          rw [hj, marks_last] at ha
          simp at ha
          subst ha
        · rw [hp.tk_ok j] at hm
          cases hm
        · rw [begins_end l h, hj] at hb
          simpa using hb
    · obtain ⟨j, hj⟩ : ∃ j, l.length = j + 1 := ⟨l.length - 1, by omega⟩
      rw [hj]
      simp [marks]
      omega

/-- Tokens of one kind on one line: one mark, ahead of all. -/
theorem markAll_flat (l : List Tok) (c : Int) (h0 : l ≠ []) (h : ∀ t ∈ l, t.kind = 1 ∧ t.line = c) : markAll l = markTok 16 (tk l 0) :: l := by
  have hlen : l.length ≠ 0 := fun e => h0 (List.eq_nil_of_length_eq_zero e)
  have hk : ∀ k, k < l.length → (tk l k).kind = 1 ∧ (tk l k).line = c := fun k hk => h _ (tk_mem hk)
  have hop : ∀ k, k < l.length → opens (tk l k) = false := fun k hlt => by simp [opens, (hk k hlt).1]
  have hm : ∀ k, k < l.length → marks l (k + 1) = markTok 16 (tk l 0) :: l.take (k + 1) := by
    intro k
    induction k with
    | zero =>
      intro hlt
      have hb : begins l 0 = true := by simp [begins, brace, isModule, (hk 0 hlt).1]
      simp only [marks, pre, hb, if_true]
      rw [take_snoc hlt]
      simp [tk, List.getElem?_eq_getElem hlt]
    | succ k ih =>
      intro hlt
      have hb : begins l (k + 1) = false := by simp [begins, hop k (by omega)]
      have ho : onLine l (k + 1) = false := by simp [onLine, fresh, (hk k (by omega)).2, (hk (k + 1) hlt).2]
      have hp : pre l (k + 1) = [] := by simp [pre, hb, ho]
      rw [marks, ih (by omega), hp, take_snoc hlt]
      simp [tk, List.getElem?_eq_getElem hlt]
  unfold markAll
  simp only [hlen, if_false]
  rw [begins_end l hlen, hop _ (by omega)]
  obtain ⟨j, hj⟩ : ∃ j, l.length = j + 1 := ⟨l.length - 1, by omega⟩
  have := hm j (by omega)
  rw [← hj, List.take_length] at this
  rw [this]
  simp

theorem progAll_le (l : List Tok) : (progAll l).length ≤ 2 * l.length + 1 := by
  unfold progAll
  have := flatM_le l (upto l l.length)
  rw [upto_length (Nat.le_refl _)] at this
  rw [List.length_append]
  split <;> simp <;> omega
end Go.Proofs.Ytnophjkiecalpaa
