/- An argument that is a state of the layout, opened; a law's row over it shut. -/
import Derived.Test.YtnophjkiecalpaaOpen
import Derived.Test.YtnophjkiecalpaaLayBase
namespace Go.Proofs.Ytnophjkiecalpaa
open Go.ChangeShapes Go.WideShapes Go.ChangeAt Go.RowKit Go.Deep Go.Joins

section
variable {H : Type} {enc : TypeId × Value → H} {W : World}

theorem open_num_slice {v : Value} {y : DataW H × List MemPlace} {n : Nat} (h : DataW.trod enc Try.prog W 0 (fun _ => true) true n 32 [v] = some y) :
    ∃ (A : Option Addr) (zs : List Int) (c : Nat), v = .slice A zs.length c ∧ zs.length ≤ c ∧ (A = none → c = 0) ∧ Ints W.heap.size W A zs ∧ ((zs = [] ∧ y.1 = .nil) ∨ ∃ es sp, y.1 = .slice es sp ∧ es.length = zs.length) := by
  rcases open_ints Try.underlying32 Try.underlying3 (by kernel_rfl) h with ⟨h1, h2⟩ | ⟨a, len, cap, zs, h1, hb, hl, hm, hz, hx, hcell, _⟩
  · simp only [List.cons.injEq, and_true] at h1
    subst h1 h2
    exact ⟨none, [], 0, rfl, Nat.le_refl _, fun _ => rfl, Ints.nil, .inl ⟨rfl, rfl⟩⟩
  · simp only [List.cons.injEq, and_true] at h1
    subst h1 hx
    have hz' : len ≤ zs.length := by simp only [if_true] at hz; omega
    have hlen : (zs.take len).length = len := by rw [List.length_take]; omega
    refine ⟨some a, zs.take len, cap, by rw [hlen], by omega, fun e => by simp at e, fun k z hk => ?_, .inr ⟨_, _, rfl, by simp [lits]⟩⟩
    have hkn : k < len := by have := (List.getElem?_eq_some_iff.1 hk).1; omega
    have hc := hcell k (by omega)
    have hs : zs.getD k 0 = z := by
      rw [List.getElem?_take_of_lt hkn] at hk
      simp [List.getD, hk]
    rw [hs] at hc
    have hsp : a.spot = none := by simpa [Addr.add] using World.cell?_spot (hcell 0 (by omega))
    obtain ⟨b, o, spot⟩ := a
    have hspot : spot = none := hsp
    subst hspot
    rw [add_plain] at hc
    exact ⟨b, o, rfl, cell_block hc, hc⟩

theorem open_tok_slice {v : Value} {y : DataW H × List MemPlace} {n : Nat} (h : DataW.trod enc Try.prog W 0 (fun _ => true) true n 26 [v] = some y) :
    ∃ (A : Option Addr) (l : List Tok) (c : Nat), v = .slice A l.length c ∧ Toks W.heap.size W A l ∧ ((l = [] ∧ y.1 = .nil) ∨ ∃ es sp, y.1 = .slice es sp ∧ es.length = l.length) := by
  have hs : ∃ A m c, v = .slice A m c := by
    rcases open_slice_fields Try.underlying26 Try.underlying23 (by kernel_rfl) (by kernel_rfl) h with ⟨h1, _⟩ | ⟨a, len, cap, m, D, Pl, h1, _⟩
    · simp only [List.cons.injEq, and_true] at h1
      exact ⟨_, _, _, h1⟩
    · simp only [List.cons.injEq, and_true] at h1
      exact ⟨_, _, _, h1⟩
  obtain ⟨A, m, c, rfl⟩ := hs
  obtain ⟨A', l, c', e, hT, _, _, _, hsh⟩ := open_toks (v := .slice A m c) (d := y.1) (p := y.2) ⟨_, _, _, rfl⟩ ⟨n, by simpa [Value.cells] using h⟩
  exact ⟨A', l, c', e, hT, hsh⟩

/-- An argument that is a state. -/
theorem open_state {r : Reach} {b0 : Nat} {v : Value} {d : DataW H} {p : List MemPlace} (hv : Value.okWide Try.prog W r b0 34 v) (h : DataW.Trod enc Try.prog W 0 (fun _ => true) true 34 v d p) :
    ∃ (A0 A : Option Addr) (l : List Tok) (n0 n : Nat) (pos wt : Int) (zs : List Int) (parts : List (DataW H)), v = .agg #[.slice A0 l.length n0, .int .i64 pos, .slice A zs.length n, .int .i64 wt] ∧ Toks W.heap.size W A0 l ∧ zs.length ≤ n ∧ (A = none → n = 0) ∧ Ints W.heap.size W A zs ∧
      d = .agg parts ∧ (∃ d0, parts[0]? = some d0 ∧ ((l = [] ∧ d0 = .nil) ∨ ∃ es sp, d0 = .slice es sp ∧ es.length = l.length)) ∧ (∃ d2, parts[2]? = some d2 ∧ ((zs = [] ∧ d2 = .nil) ∨ ∃ es sp, d2 = .slice es sp ∧ es.length = zs.length)) := by
  obtain ⟨x0, x1, x2, x3, y0, y1, y2, y3, n, rfl, rfl, rfl, t0, t1, t2, t3⟩ := open_agg4 Try.underlying34 (by kernel_rfl) (by kernel_rfl) hv h
  obtain ⟨A0, l, n0, rfl, hT, hs0⟩ := open_tok_slice t0
  obtain ⟨k1, e1, _, _⟩ := DataW.trod_int Try.underlying3 t1
  obtain ⟨A, zs, c, rfl, h1, h2, h3, hs2⟩ := open_num_slice t2
  obtain ⟨k3, e3, _, _⟩ := DataW.trod_int Try.underlying3 t3
  simp only [List.cons.injEq, and_true] at e1 e3
  subst e1 e3
  exact ⟨A0, A, l, n0, c, k1, k3, zs, _, rfl, hT, h1, h2, h3, rfl, ⟨_, rfl, hs0⟩, ⟨_, rfl, hs2⟩⟩

/-- What the form's own reach says of a state's slices. -/
theorem state_reach {ts : List TypeId} {ds : List (DataW H)} (h : (DataW.weightsEach Try.prog ts ds).all (· ≤ reachBytes) = true) {parts : List (DataW H)} {l : List Tok} {zs : List Int} (ht : ts[0]? = some 34) (hd : ds[0]? = some (.agg parts))
    (h0 : ∃ d0, parts[0]? = some d0 ∧ ((l = [] ∧ d0 = .nil) ∨ ∃ es sp, d0 = .slice es sp ∧ es.length = l.length)) (h2 : ∃ d2, parts[2]? = some d2 ∧ ((zs = [] ∧ d2 = .nil) ∨ ∃ es sp, d2 = .slice es sp ∧ es.length = zs.length)) :
    l.length * 40 ≤ 140737488351232 ∧ zs.length * 8 ≤ 140737488351232 := by
  have hin : (DataW.weightsEach Try.prog [26, 3, 32, 3] parts).all (· ≤ reachBytes) = true := by
    rw [List.all_eq_true] at h ⊢
    intro n hn
    exact h n (DataW.weights_mem_each ht hd n (by simpa [DataW.weights, Try.underlying34] using hn))
  obtain ⟨d0, e0, s0⟩ := h0
  obtain ⟨d2, e2, s2⟩ := h2
  refine ⟨toks_reach hin (j := 0) (d := d0) rfl e0 s0, ?_⟩
  rcases s2 with ⟨rfl, _⟩ | ⟨es, sp, rfl, he⟩
  · simp
  · have := sized_slice hin (j := 2) rfl e2 Try.underlying32
    rw [show Try.prog.bytesOf 3 = 8 by kernel_rfl] at this
    simp only [reachBytes] at this
    omega
end
end Go.Proofs.Ytnophjkiecalpaa
