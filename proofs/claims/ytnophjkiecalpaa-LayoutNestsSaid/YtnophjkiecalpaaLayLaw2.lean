/- What the layout tells keeps the tokens, and its blocks nest: in plain Lean. -/
import Derived.Test.YtnophjkiecalpaaLayLaw
namespace Go.Proofs.Ytnophjkiecalpaa

theorem allF_next (f : Nat) (s : LSt) (out : List Tok) : allF (f + 1) s out = if (nextS s).2.2 == 0 then (if (nextS s).1.kind == 21 then (out, 0) else allF f (nextS s).2.1 (out ++ [(nextS s).1])) else ([], (nextS s).2.2) := rfl

/-- Was a token written by somebody? -/
def written (t : Tok) : Bool := t.kind != 18 && t.kind != 19 && t.kind != 20
/-- No token is one of those that the layout tells. -/
def Low (l : List Tok) : Prop := ∀ t ∈ l, t.kind < 18
theorem Low.at_ {l : List Tok} (h : Low l) (k : Nat) : (tk l k).kind < 18 := by
  by_cases hk : k < l.length
  · exact h _ (tk_mem hk)
  · rw [tk_out (by omega)]; decide

theorem drop_cons {l : List Tok} {k : Nat} (h : k < l.length) : l.drop k = tk l k :: l.drop (k + 1) := by
  rw [List.drop_eq_getElem_cons h]
  simp [tk, List.getElem?_eq_getElem h]
theorem bare_cons (t : Tok) (r : List Tok) : bare (t :: r) = if notMark t then t :: bare r else bare r := by
  unfold bare
  rw [List.filter_cons]
theorem bare_at {l : List Tok} {k : Nat} (h : k < l.length) : bare (l.drop k) = (if notMark (tk l k) then [tk l k] else []) ++ bare (l.drop (k + 1)) := by
  rw [drop_cons h, bare_cons]
  cases notMark (tk l k) <;> rfl
theorem bare_end {l : List Tok} {k : Nat} (h : l.length ≤ k) : bare (l.drop k) = [] := by rw [List.drop_eq_nil_of_le h]; rfl

/-- The stack of a state: which of its blocks have braces; and the one that waits. -/
def stackOf (zs : List Int) (wt : Int) : List Bool := zs.map (fun z => z == 0) ++ if wt == 1 then [false] else []
/-- One token more, of a stack of blocks; none: it does not nest. -/
def nest (st : List Bool) (t : Tok) : Option (List Bool) :=
  if t.kind == 18 || (t.kind == 15 && t.text.toList == [123]) then some (st ++ [t.kind == 15])
  else if t.kind == 20 || (t.kind == 15 && t.text.toList == [125]) then (if st.getLast? == some (t.kind == 15) then some st.dropLast else none)
  else if t.kind == 19 then (if st.getLast? == some false then some st else none)
  else some st

theorem stack_drop (zs : List Int) : (stackOf zs 0).dropLast = stackOf zs.dropLast 0 := by simp [stackOf]
theorem stack_last {zs : List Int} (h : 0 < zs.length) : (stackOf zs 0).getLast? = some (topOf zs == 0) := by
  have : zs ≠ [] := by intro e; rw [e] at h; simp at h
  simp [stackOf, List.getLast?_map, topOf, List.getLast?_eq_some_getLast this]
theorem stack2 (zs : List Int) : stackOf zs 2 = stackOf zs 0 := by simp [stackOf]
theorem stack1 (zs : List Int) : stackOf zs 1 = stackOf zs 0 ++ [false] := by simp [stackOf]
theorem stack_add (zs : List Int) (z : Int) : stackOf (zs ++ [z]) 0 = stackOf zs 0 ++ [z == 0] := by simp [stackOf]
theorem stack_no {zs : List Int} {wt : Int} (h : wt ≠ 1) : stackOf zs wt = stackOf zs 0 := by simp [stackOf, h]

/-- What a token that is told does: it keeps what was written, and it nests. -/
def StepOk (l : List Tok) (k : Nat) (zs : List Int) (wt : Int) (R : Tok × LSt × Int) : Prop :=
  R.2.2 = 0 → ∃ k' zs' wt', R.2.1 = ⟨l, (k' : Nat), zs', wt'⟩ ∧
    (R.1.kind = 21 → bare (l.drop k) = [] ∧ stackOf zs wt = []) ∧
    (R.1.kind ≠ 21 → (if written R.1 then [R.1] else []) ++ bare (l.drop k') = bare (l.drop k) ∧ nest (stackOf zs wt) R.1 = some (stackOf zs' wt'))

theorem written_low {t : Tok} (h : t.kind < 18) : written t = true := by
  unfold written
  simp only [Bool.and_eq_true, bne_iff_ne, ne_eq]
  omega

theorem nextF_step (l : List Tok) (hlow : Low l) (zs : List Int) (f : Nat) : ∀ (k : Nat) (wt : Int), k + f = l.length → May l k zs wt → StepOk l k zs wt (nextF l zs f k wt) := by
  induction f with
  | zero =>
    intro k wt hk hm
    have hb := bare_end (l := l) (k := k) (by omega)
    have hwt : wt = 0 := by
      by_cases h : 0 < wt
      · have := (hm.wait h).1; omega
      · have := hm.w0; omega
    subst hwt
    unfold nextF endF
    split
    · rename_i h0
      simp only [beq_iff_eq] at h0
      exact fun _ => ⟨k, zs, 0, rfl, fun _ => ⟨hb, by rw [List.eq_nil_of_length_eq_zero h0]; rfl⟩, fun h => absurd rfl h⟩
    · split
      · rename_i h1
        have h2 := of_decide_eq_true h1
        have hl := stack_last (top_len h2)
        refine fun _ => ⟨k, zs.dropLast, 0, rfl, fun h => by simp at h, fun _ => ⟨by simp [written, hb], ?_⟩⟩
        have e : (topOf zs == 0) = false := by rw [beq_eq_false_iff_ne]; omega
        rw [e] at hl
        simp [nest, hl, stack_drop]
      · exact fun h => by simp at h
  | succ f ih =>
    intro k wt hk hm
    have hlt : k < l.length := by omega
    have htop := hm.top
    have hba := bare_at hlt
    have hkd := hlow.at_ k
    have hw0 := hm.w0
    have hw2 := hm.w2
    unfold nextF
    simp only
    split
    · rename_i h1
      simp only [Bool.and_eq_true, beq_iff_eq] at h1
      obtain ⟨h16, rfl⟩ := h1
      have hn : notMark (tk l k) = false := by simp [notMark, h16]
      rw [hn] at hba
      split
      · rename_i h2
        have h3 := of_decide_eq_true h2
        refine fun _ => ⟨k + 1, _, 0, rfl, fun h => by simp [markTok] at h, fun _ => ⟨by rw [hba]; simp [written, markTok], ?_⟩⟩
        have e : ((tk l k).col == 0) = false := by rw [beq_eq_false_iff_ne]; omega
        simp [nest, markTok, stack_add, e]
      · exact fun _ => ⟨k, zs, 1, rfl, fun h => by simp [markTok] at h, fun _ => ⟨by simp [written, markTok], by simp [nest, markTok, stack1]⟩⟩
    · split
      · rename_i h1
        simp only [Bool.and_eq_true, beq_iff_eq] at h1
        obtain ⟨h16, rfl⟩ := h1
        exact fun _ => ⟨k, zs, 2, rfl, fun h => by simp [markTok] at h, fun _ => ⟨by simp [written, markTok], by simp [nest, markTok, stack1, stack2]⟩⟩
      · rename_i hn0 hn1
        have hw1 : wt ≠ 1 := by
          intro e
          subst e
          have := (hm.wait (by omega)).2
          simp [this] at hn1
        rw [show StepOk l k zs wt = StepOk l k zs 0 by unfold StepOk; rw [stack_no hw1]]
        split
        · rename_i h3
          have hn : notMark (tk l k) = false := by
            simp only [Bool.or_eq_true, beq_iff_eq] at h3
            rcases h3 with h3 | h3 <;> simp [notMark, h3]
          rw [hn] at hba
          split
          · rename_i h1
            simp only [Bool.and_eq_true, decide_eq_true_eq] at h1
            have hl := stack_last (top_len h1.1)
            have e : (topOf zs == 0) = false := by rw [beq_eq_false_iff_ne]; omega
            rw [e] at hl
            refine fun _ => ⟨k, zs.dropLast, wt, rfl, fun h => by simp [markTok] at h, fun _ => ⟨by simp [written, markTok], ?_⟩⟩
            rw [stack_no hw1]
            simp [nest, markTok, hl, stack_drop]
          · split
            · rename_i h4
              simp only [Bool.and_eq_true, decide_eq_true_eq] at h4
              have hl := stack_last (top_len h4.1)
              have e : (topOf zs == 0) = false := by rw [beq_eq_false_iff_ne]; omega
              rw [e] at hl
              exact fun _ => ⟨k + 1, zs, 0, rfl, fun h => by simp [markTok] at h, fun _ => ⟨by rw [hba]; simp [written, markTok], by simp [nest, markTok, hl]⟩⟩
            · intro h0
              obtain ⟨k', zs', wt', e1, e2, e3⟩ := ih (k + 1) 0 (by omega) (hm.on hlt) h0
              refine ⟨k', zs', wt', e1, fun h => ?_, fun h => ?_⟩
              · rw [hba]; exact e2 h
              · rw [hba]; exact e3 h
        · rename_i h3
          have hn : notMark (tk l k) = true := by
            simp only [Bool.or_eq_true, beq_iff_eq, not_or] at h3
            simp [notMark, h3.1, h3.2]
          rw [hn, if_pos rfl] at hba
          have hwr := written_low hkd
          have h21 : (tk l k).kind ≠ 21 := by omega
          have h18 : ((tk l k).kind == 18) = false := by rw [beq_eq_false_iff_ne]; omega
          have h20 : ((tk l k).kind == 20) = false := by rw [beq_eq_false_iff_ne]; omega
          have h19 : ((tk l k).kind == 19) = false := by rw [beq_eq_false_iff_ne]; omega
          unfold oneF
          simp only
          split
          · rename_i h5
            simp only [Bool.and_eq_true] at h5
            have h123 : ((tk l k).text.toList == [123]) = false := by rw [beq_iff_eq.1 h5.2]; rfl
            split
            · exact fun h => by simp at h
            · rename_i h6
              simp only [Bool.or_eq_true, beq_iff_eq, decide_eq_true_eq, not_or] at h6
              have hl := stack_last (zs := zs) (by omega)
              have e : (topOf zs == 0) = true := by rw [beq_iff_eq]; omega
              rw [e] at hl
              refine fun _ => ⟨k + 1, zs.dropLast, wt, rfl, fun h => absurd h h21, fun _ => ⟨by rw [hba, hwr]; rfl, ?_⟩⟩
              rw [stack_no hw1]
              simp [nest, h18, h20, h5.1, h5.2, h123, hl, stack_drop]
          · rename_i h5
            split
            · rename_i h7
              simp only [Bool.and_eq_true] at h7
              refine fun _ => ⟨k + 1, zs ++ [0], wt, rfl, fun h => absurd h h21, fun _ => ⟨by rw [hba, hwr]; rfl, ?_⟩⟩
              rw [stack_no hw1]
              simp [nest, h18, h7.1, h7.2, stack_add]
            · rename_i h7
              refine fun _ => ⟨k + 1, zs, wt, rfl, fun h => absurd h h21, fun _ => ⟨by rw [hba, hwr]; rfl, ?_⟩⟩
              rw [stack_no hw1]
              unfold nest
              rw [h18, h19, h20, Bool.false_or, Bool.false_or, if_neg h7, if_neg h5]
              rfl

/-- Tokens one after the other, of a stack. -/
def nests : List Bool → List Tok → Option (List Bool)
  | st, [] => some st
  | st, t :: r => (nest st t).bind fun st' => nests st' r
theorem nests_snoc (ts : List Tok) (t : Tok) : ∀ st, nests st (ts ++ [t]) = (nests st ts).bind fun st' => nest st' t := by
  induction ts with
  | nil => intro st; simp only [List.nil_append, nests, Option.bind_some]; cases nest st t <;> rfl
  | cons u ts ih =>
    intro st
    simp only [List.cons_append, nests]
    cases nest st u with
    | none => rfl
    | some st' => simp only [Option.bind_some]; exact ih st'

theorem allF_law (l : List Tok) (hlow : Low l) (g : Nat) : ∀ (k : Nat) (zs : List Int) (wt : Int) (ys all : List Tok), May l k zs wt → pot l k zs wt < g → nests [] ys = some (stackOf zs wt) → allF g ⟨l, (k : Int), zs, wt⟩ ys = (all, 0) →
    all.filter written = ys.filter written ++ bare (l.drop k) ∧ nests [] all = some [] := by
  induction g with
  | zero => intro k zs wt ys all _ hp; omega
  | succ g ih =>
    intro k zs wt ys all hm hp hn ha
    rw [allF_next, nextS_may hm] at ha
    obtain ⟨k', zs', wt', e1, hm', _, _, _, hdec⟩ := nextF_ok l zs (l.length - k) k wt (by have := hm.pos; omega) hm
    have hst := nextF_step l hlow zs (l.length - k) k wt (by have := hm.pos; omega) hm
    generalize nextF l zs (l.length - k) k wt = R at *
    obtain ⟨t, s', err⟩ := R
    simp only at e1 ha hdec
    subst e1
    by_cases h0 : err = 0
    · subst h0
      obtain ⟨k2, zs2, wt2, e2, hend, hgo⟩ := hst rfl
      simp only at e2 hend hgo
      simp only [LSt.mk.injEq, true_and] at e2
      obtain ⟨e3, rfl, rfl⟩ := e2
      obtain rfl : k' = k2 := by omega
      simp only [beq_self_eq_true, if_true] at ha
      by_cases h21 : t.kind = 21
      · simp only [h21, beq_self_eq_true, if_true, Prod.mk.injEq, and_true] at ha
        subst ha
        obtain ⟨h1, h2⟩ := hend h21
        rw [h1, hn, h2]
        simp
      · have hk21 : (t.kind == 21) = false := by simpa using h21
        rw [hk21] at ha
        simp only [Bool.false_eq_true, if_false] at ha
        obtain ⟨h1, h2⟩ := hgo h21
        have hp' : pot l k' zs' wt' < pot l k zs wt := by
          rcases hdec rfl with h | h
          · exact absurd h h21
          · exact h
        obtain ⟨h3, h4⟩ := ih k' zs' wt' (ys ++ [t]) all hm' (by omega) (by rw [nests_snoc, hn]; exact h2) ha
        refine ⟨?_, h4⟩
        rw [h3, ← h1, List.filter_append]
        cases hwr : written t <;> simp [hwr]
    · have hb : (err == 0) = false := by simpa using h0
      rw [hb] at ha
      simp at ha
      exact absurd ha.2 h0

theorem allS_law (l : List Tok) (hlow : Low l) (all : List Tok) (h : allS l = (all, 0)) : all.filter written = bare l ∧ nests [] all = some [] := by
  have := allF_law l hlow (pot l 0 [] 0 + 1) 0 [] 0 [] all ⟨by omega, by omega, by omega, fun h => by omega, by simp⟩ (by omega) rfl h
  simpa using this

theorem allF_err (g : Nat) : ∀ (s : LSt) (ys : List Tok), (allF g s ys).2 ≠ 0 → (allF g s ys).1 = [] := by
  induction g with
  | zero => intro s ys h; exact absurd rfl h
  | succ g ih =>
    intro s ys h
    rw [allF_next] at h ⊢
    split at h
    · split at h
      · exact absurd rfl h
      · rename_i h1 h2
        rw [if_pos h1, if_neg h2]
        exact ih _ _ h
    · rename_i h1
      rw [if_neg h1]
end Go.Proofs.Ytnophjkiecalpaa
