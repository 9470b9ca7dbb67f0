/- The laws of the layout, in plain Lean. -/
import Derived.Test.YtnophjkiecalpaaLayPlain
namespace Go.Proofs.Ytnophjkiecalpaa

/-- May a state be, said of its parts. -/
structure May (l : List Tok) (k : Nat) (zs : List Int) (wt : Int) : Prop where
  pos : k ≤ l.length
  w0 : 0 ≤ wt
  w2 : wt ≤ 2
  wait : 0 < wt → k < l.length ∧ (tk l k).kind = 16
  cols : ∀ z ∈ zs, 0 ≤ z
theorem may_iff {l : List Tok} {k : Nat} {zs : List Int} {wt : Int} : LSt.may ⟨l, (k : Int), zs, wt⟩ = true ↔ May l k zs wt := by
  unfold LSt.may
  simp only [Bool.and_eq_true, Bool.or_eq_true, decide_eq_true_eq, List.all_eq_true, beq_iff_eq, Int.toNat_natCast]
  constructor
  · rintro ⟨⟨⟨⟨⟨_, h1⟩, h2⟩, h3⟩, h4⟩, h5⟩
    refine ⟨by omega, h2, h3, fun h => ?_, h5⟩
    rcases h4 with h4 | ⟨h4, h6⟩
    · omega
    · exact ⟨by omega, h6⟩
  · rintro ⟨h1, h2, h3, h4, h5⟩
    refine ⟨⟨⟨⟨⟨by omega, by omega⟩, h2⟩, h3⟩, ?_⟩, h5⟩
    by_cases h : 0 < wt
    · obtain ⟨a, b⟩ := h4 h
      exact .inr ⟨by omega, b⟩
    · exact .inl (by omega)

theorem May.drop {l : List Tok} {k : Nat} {zs : List Int} {wt : Int} (h : May l k zs wt) : May l k zs.dropLast wt := ⟨h.pos, h.w0, h.w2, h.wait, fun z hz => h.cols z (List.dropLast_subset _ hz)⟩
theorem May.on {l : List Tok} {k : Nat} {zs : List Int} {wt : Int} (h : May l k zs wt) (hk : k < l.length) : May l (k + 1) zs 0 := ⟨by omega, by omega, by omega, fun h => by omega, h.cols⟩
theorem May.add {l : List Tok} {k : Nat} {zs : List Int} {wt z : Int} (h : May l k zs wt) (hz : 0 ≤ z) : May l k (zs ++ [z]) wt := ⟨h.pos, h.w0, h.w2, h.wait, fun y hy => by
  rcases List.mem_append.1 hy with h1 | h1
  · exact h.cols y h1
  · simp at h1; omega⟩
theorem May.top {l : List Tok} {k : Nat} {zs : List Int} {wt : Int} (h : May l k zs wt) : 0 ≤ topOf zs := by
  rcases Nat.eq_zero_or_pos zs.length with e | e
  · rw [List.eq_nil_of_length_eq_zero e]; exact Int.le_refl _
  · exact h.cols _ (List.mem_of_getElem? (topOf_at e))
theorem top_len {zs : List Int} (h : 0 < topOf zs) : 0 < zs.length := by
  rcases Nat.eq_zero_or_pos zs.length with e | e
  · rw [List.eq_nil_of_length_eq_zero e, topOf_nil] at h; omega
  · exact e

/-- How much is still to be told, at most. -/
def pot (l : List Tok) (k : Nat) (zs : List Int) (wt : Int) : Nat := 4 * (l.length - k) + zs.length + (2 - wt).toNat

/-- What Next tells of a state that may be. -/
def NextOk (l : List Tok) (k : Nat) (zs : List Int) (wt : Int) (R : Tok × LSt × Int) : Prop :=
  ∃ k' zs' wt', R.2.1 = ⟨l, (k' : Nat), zs', wt'⟩ ∧ May l k' zs' wt' ∧ k ≤ k' ∧ zs'.length ≤ zs.length + (k' - k) ∧ (R.2.2 = 0 ∨ R.2.2 = 90) ∧ (R.2.2 = 0 → R.1.kind = 21 ∨ pot l k' zs' wt' < pot l k zs wt)

theorem nextF_ok (l : List Tok) (zs : List Int) (f : Nat) : ∀ (k : Nat) (wt : Int), k + f = l.length → May l k zs wt → NextOk l k zs wt (nextF l zs f k wt) := by
  induction f with
  | zero =>
    intro k wt hk hm
    unfold nextF endF
    split
    · exact ⟨k, zs, wt, rfl, hm, Nat.le_refl _, by omega, .inl rfl, fun _ => .inl rfl⟩
    · split
      · rename_i h1
        have := top_len (of_decide_eq_true h1)
        exact ⟨k, zs.dropLast, wt, rfl, hm.drop, Nat.le_refl _, by simp, .inl rfl, fun _ => .inr (by simp [pot]; omega)⟩
      · exact ⟨k, zs, wt, rfl, hm, Nat.le_refl _, by omega, .inr rfl, fun h => by simp at h⟩
  | succ f ih =>
    intro k wt hk hm
    have hlt : k < l.length := by omega
    have htop := hm.top
    have hw0 := hm.w0
    have hw2 := hm.w2
    unfold nextF
    simp only
    split
    · rename_i h1
      simp only [Bool.and_eq_true, beq_iff_eq] at h1
      obtain ⟨h16, rfl⟩ := h1
      split
      · rename_i h2
        have h3 := of_decide_eq_true h2
        exact ⟨k + 1, _, 0, rfl, (hm.on hlt).add (by omega), by omega, by simp, .inl rfl, fun _ => .inr (by simp [pot]; omega)⟩
      · exact ⟨k, zs, 1, rfl, ⟨hm.pos, by omega, by omega, fun _ => ⟨hlt, h16⟩, hm.cols⟩, Nat.le_refl _, by omega, .inl rfl, fun _ => .inr (by simp [pot])⟩
    · split
      · rename_i h1
        simp only [Bool.and_eq_true, beq_iff_eq] at h1
        obtain ⟨h16, rfl⟩ := h1
        exact ⟨k, zs, 2, rfl, ⟨hm.pos, by omega, by omega, fun _ => ⟨hlt, h16⟩, hm.cols⟩, Nat.le_refl _, by omega, .inl rfl, fun _ => .inr (by simp [pot])⟩
      · split
        · split
          · rename_i h1
            simp only [Bool.and_eq_true, decide_eq_true_eq] at h1
            have := top_len h1.1
            exact ⟨k, zs.dropLast, wt, rfl, hm.drop, Nat.le_refl _, by simp, .inl rfl, fun _ => .inr (by simp [pot]; omega)⟩
          · split
            · exact ⟨k + 1, zs, 0, rfl, hm.on hlt, by omega, by omega, .inl rfl, fun _ => .inr (by simp [pot]; omega)⟩
            · obtain ⟨k', zs', wt', e1, e2, e3, e4, e5, e6⟩ := ih (k + 1) 0 (by omega) (hm.on hlt)
              refine ⟨k', zs', wt', e1, e2, by omega, by omega, e5, fun h => ?_⟩
              rcases e6 h with h' | h'
              · exact .inl h'
              · exact .inr (by simp [pot] at *; omega)
        · have hwt : wt = 0 := by
            rename_i h3
            by_cases h : 0 < wt
            · have := (hm.wait h).2
              simp [this] at h3
            · omega
          subst hwt
          unfold oneF
          simp only
          split
          · split
            · exact ⟨k, zs, 0, rfl, hm, Nat.le_refl _, by omega, .inr rfl, fun h => by simp at h⟩
            · exact ⟨k + 1, zs.dropLast, 0, rfl, (hm.on hlt).drop, by omega, by simp; omega, .inl rfl, fun _ => .inr (by simp [pot]; omega)⟩
          · split
            · exact ⟨k + 1, zs ++ [0], 0, rfl, (hm.on hlt).add (by omega), by omega, by simp, .inl rfl, fun _ => .inr (by simp [pot]; omega)⟩
            · exact ⟨k + 1, zs, 0, rfl, hm.on hlt, by omega, by omega, .inl rfl, fun _ => .inr (by simp [pot]; omega)⟩

/-- All that is told from a state on; f: how much is told at most. -/
def allF : Nat → LSt → List Tok → List Tok × Int
  | 0, _, out => (out, 0)
  | f + 1, s, out => let r := nextS s
    if r.2.2 == 0 then (if r.1.kind == 21 then (out, 0) else allF f r.2.1 (out ++ [r.1])) else ([], r.2.2)
def allS (l : List Tok) : List Tok × Int := allF (pot l 0 [] 0 + 1) ⟨l, 0, [], 0⟩ []
theorem nextS_may {l : List Tok} {k : Nat} {zs : List Int} {wt : Int} (h : May l k zs wt) : nextS ⟨l, (k : Int), zs, wt⟩ = nextF l zs (l.length - k) k wt := by
  unfold nextS
  rw [if_pos (may_iff.2 h)]
  simp
end Go.Proofs.Ytnophjkiecalpaa
