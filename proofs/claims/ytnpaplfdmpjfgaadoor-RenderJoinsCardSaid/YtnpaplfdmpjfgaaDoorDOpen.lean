/- A law's argument opened to a document, or to documents; the law's row shut: shared by all the laws of this seat. -/
import Derived.Test.YtnpaplfdmpjfgaaDoorDMem
import Derived.Test.YtnpaplfdmpjfgaaDoorDOk
import Derived.SizedLaws
import Derived.Test.YtnpaplfdmpjfgaaDoorCards
import Derived.Test.YtnpaplfdmpjfgaaDoorTie
import Derived.ProofKit
import Derived.OpenShut
import Derived.Below
import Derived.Carry
import Derived.Deep.Slices
import Derived.Deep.Fields
import Derived.ChangeSame
import Derived.Deep.DeepHandedRow
import Derived.Lib.LaidTab
import Derived.SevenTiedAt
import Derived.LaidByTextLater
import Derived.Lib.LaidU8
import Derived.Lib.SmallJoins
import Derived.SliceStrings
namespace Go.Proofs.YtnpaplfdmpjfgaaDoor
open Go.ChangeShapes Go.WideShapes Go.ChangeAt Go.RowKit Go.Deep

theorem own : ownKnob Tryd.prog.godebug = none := by kernel_rfl
theorem laidOut : laidOutB Tryd.prog = true := by kernel_rfl
theorem cells24 : Tryd.prog.cellsOf 24 = 4 := by kernel_rfl
theorem bytes24 : Tryd.prog.bytesOf 24 = 56 := by kernel_rfl
theorem cells22 : Tryd.prog.cellsOf 22 = 1 := by kernel_rfl
theorem cells3 : Tryd.prog.cellsOf 3 = 1 := by kernel_rfl
theorem cells9 : Tryd.prog.cellsOf 9 = 1 := by kernel_rfl

section
variable {H : Type} {enc : TypeId × Value → H} {W : World} {spare : Nat → Bool} {held : Bool}
theorem cell_block {w : World} {a : Addr} {v : Value} (h : w.cell? a = some v) : a.block < w.heap.size := by
  unfold World.cell? at h
  cases hb : w.heap[a.block]? with
  | none => simp [hb] at h
  | some o => exact (Array.getElem?_eq_some_iff.1 hb).1

theorem add_plain (b o j : Nat) : (⟨b, o, none⟩ : Addr).add j = ⟨b, o + j, none⟩ := by unfold Addr.add; split <;> simp_all
theorem choose_lt {α : Type} [Inhabited α] {n : Nat} {P : Nat → α → Prop} (h : ∀ i, i < n → ∃ x, P i x) : ∃ f : Nat → α, ∀ i, i < n → P i (f i) := by
  have h' : ∀ i, ∃ x, i < n → P i x := fun i => by
    by_cases hi : i < n
    · obtain ⟨x, hx⟩ := h i hi; exact ⟨x, fun _ => hx⟩
    · exact ⟨default, fun hh => absurd hh hi⟩
  exact ⟨fun i => Classical.choose (h' i), fun i hi => Classical.choose_spec (h' i) hi⟩
theorem bulk_map {α : Type} (f : α → DataW H) (g : α → Nat) : ∀ l : List α, (∀ x ∈ l, g x ≤ Rows.uptoBulk (f x)) → (l.map g).sum ≤ Rows.uptoBulkAll (l.map f)
  | [], _ => by simp
  | x :: l, h => by
    have := bulk_map f g l (fun y hy => h y (by simp [hy]))
    have h0 := h x (by simp)
    simp only [List.map_cons, List.sum_cons, Rows.uptoBulkAll]
    omega

theorem sum_ge_mul {α : Type} (g : α → Nat) (k : Nat) : ∀ l : List α, (∀ x ∈ l, k ≤ g x) → k * l.length ≤ (l.map g).sum
  | [], _ => by simp
  | x :: l, h => by
    have := sum_ge_mul g k l (fun y hy => h y (by simp [hy]))
    have h0 := h x (by simp)
    simp only [List.map_cons, List.sum_cons, List.length_cons, Nat.mul_add]
    omega

theorem le_sum {α : Type} (g : α → Nat) : ∀ (l : List α), ∀ x ∈ l, g x ≤ (l.map g).sum
  | [], _, h => by cases h
  | y :: l, x, h => by
    simp only [List.map_cons, List.sum_cons]
    rcases List.mem_cons.1 h with rfl | h
    · omega
    · have := le_sum g l x h
      omega


instance : Inhabited Doc := ⟨⟨0, .empty, 0, []⟩⟩
theorem wts_sum (l : List Doc) : wts l = (l.map Doc.wt).sum := by
  induction l with
  | nil => rfl
  | cons a r ih => simp [wts, ih]

theorem mem_weightsAll {P : Program} {t : TypeId} {l : List (DataW H)} {d : DataW H} {k : Nat} (hd : d ∈ l) (hk : k ∈ d.weights P t) : k ∈ DataW.weightsAll P t l := by
  induction l with
  | nil => cases hd
  | cons a r ih =>
    simp only [DataW.weightsAll, List.mem_append]
    rcases List.mem_cons.1 hd with rfl | h
    · exact Or.inl hk
    · exact Or.inr (ih h)

/-- What is read of a document's cells. -/
def DocOpened (W : World) (cs : List Value) (dd : DataW H) (d : Doc) : Prop := ∃ A c, cs = [.int .i64 d.kind, .string d.text, .int .i64 d.n, .slice A d.kids.length c] ∧ d.kids.length ≤ c ∧ (A = none → c = 0) ∧ KidsAt W.heap.size W d.kids A ∧ d.wt ≤ Rows.uptoBulk dd ∧ ((∀ k ∈ dd.weights Tryd.prog 24, k ≤ reachBytes) → d.Ok)

set_option maxRecDepth 100000 in
/-- A slice of documents, its elements being opened. -/
theorem open_docs_of {fuel : Nat} {A : Option Addr} {n c : Nat} {x : DataW H × List MemPlace} (h : DataW.trod enc Tryd.prog W 0 spare held fuel 22 [.slice A n c] = some x)
    (ih : ∀ f, f < fuel → ∀ cs x, DataW.trod enc Tryd.prog W 0 spare held f 24 cs = some x → ∃ d, DocOpened W cs x.1 d) :
    ∃ ds : List Doc, ds.length = n ∧ n ≤ c ∧ (A = none → c = 0) ∧ KidsAt W.heap.size W ds A ∧ wts ds + 1 ≤ Rows.uptoBulk x.1 ∧ ((∀ k ∈ x.1.weights Tryd.prog 22, k ≤ reachBytes) → oks ds ∧ n * 56 ≤ reachBytes) := by
  rcases DataW.trod_slice Tryd.underlying22 h with ⟨h1, rfl⟩ | ⟨a, len, cap, elems, rest, m, rfl, h1, rfl, _, hlc, _, hlen, hel, _⟩
  · simp only [List.cons.injEq, Value.slice.injEq, and_true] at h1
    obtain ⟨rfl, rfl, rfl⟩ := h1
    exact ⟨[], rfl, Nat.le_refl _, fun _ => rfl, trivial, by simp [wts, Rows.uptoBulk], fun _ => ⟨trivial, by omega⟩⟩
  · simp only [List.cons.injEq, Value.slice.injEq, and_true] at h1
    obtain ⟨rfl, rfl, rfl⟩ := h1
    have hspot0 : 0 < n → a.spot = none := by
      intro hi
      have he := hel 0 hi
      rw [List.getElem?_eq_getElem (by omega)] at he
      obtain ⟨cs', hcs, _⟩ := Option.bind_eq_some_iff.1 he
      obtain ⟨_, _, hat⟩ := World.cells?_some hcs
      rw [cells24] at hat
      have c0 := hat 0 (by omega)
      obtain ⟨v0, hv0⟩ : ∃ v, cs'[0]? = some v := ⟨_, List.getElem?_eq_getElem (by have := (World.cells?_some hcs).2.1; rw [cells24] at this; omega)⟩
      rw [hv0] at c0
      simpa [Addr.add] using World.cell?_spot c0
    have each : ∀ i, i < n → ∃ d : Doc, ∃ e, elems[i]? = some e ∧ d.wt ≤ Rows.uptoBulk e.1 ∧ ((∀ k ∈ e.1.weights Tryd.prog 24, k ≤ reachBytes) → d.Ok) ∧ ∃ b o, a = ⟨b, o, none⟩ ∧ d.At W.heap.size W b (o + i * 4) := by
      intro i hi
      have he := hel i hi
      rw [cells24] at he
      have hei : elems[i]? = some (elems[i]'(by omega)) := List.getElem?_eq_getElem (by omega)
      rw [hei] at he
      obtain ⟨cs', hcs, ht⟩ := Option.bind_eq_some_iff.1 he
      obtain ⟨d, A', c', rfl, h1, h2, h3, h4, h5⟩ := ih m (by omega) _ _ ht
      obtain ⟨_, _, hat⟩ := World.cells?_some hcs
      have c0 := hat 0 (by omega)
      have c1 := hat 1 (by omega)
      have c2 := hat 2 (by omega)
      have c3 := hat 3 (by omega)
      have hspot : a.spot = none := hspot0 (by omega)
      obtain ⟨b, o, spot⟩ := a
      have hspot : spot = none := hspot
      subst hspot
      rw [add_plain, add_plain] at c0 c1 c2 c3
      exact ⟨d, _, hei, h4, h5, b, o, rfl, docAt_iff.2 ⟨A', c', cell_block c0, c0, c1, c2, c3, h1, h2, h3⟩⟩
    obtain ⟨f, hf⟩ := choose_lt each
    have hds : ((List.range n).map f).length = n := by simp
    refine ⟨(List.range n).map f, hds, hlc, fun e => (nomatch e), ?_, ?_, ?_⟩
    · by_cases hn : n = 0
      · subst hn; exact trivial
      · obtain ⟨_, _, _, _, b, o, rfl, _⟩ := hf 0 (by omega)
        refine kidsAt_of fun k d hk => ?_
        obtain ⟨hkn, rfl⟩ : k < n ∧ f k = d := by
          rw [List.getElem?_map] at hk
          rcases Nat.lt_or_ge k n with h | h
          · rw [List.getElem?_range h] at hk
            exact ⟨h, by simpa using hk⟩
          · rw [List.getElem?_eq_none (by simpa using h)] at hk
            simp at hk
        obtain ⟨_, _, _, _, b', o', e, hat⟩ := hf k hkn
        simp only [Addr.mk.injEq, and_true] at e
        obtain ⟨rfl, rfl⟩ := e
        exact hat
    · have hb := bulk_map (H := H) (fun i : Nat => (elems.map (·.1)).getD i .nil) (fun i => (f i).wt) (List.range n) (fun i hi => by
        obtain ⟨e, he, hw, _⟩ := hf i (List.mem_range.1 hi)
        simp only [List.getD, List.getElem?_map, he, Option.map_some, Option.getD_some]
        exact hw)
      have he : (List.range n).map (fun i : Nat => (elems.map (·.1)).getD i .nil) = elems.map (·.1) := by
        refine List.ext_getElem? fun i => ?_
        rw [List.getElem?_map]
        rcases Nat.lt_or_ge i n with h | h
        · rw [List.getElem?_range h]
          simp only [Option.map_some, List.getD]
          rw [List.getElem?_eq_getElem (by simpa [hlen] using h)]
          rfl
        · rw [List.getElem?_eq_none (by simpa using h), List.getElem?_eq_none (by simpa [hlen] using h)]
          rfl
      rw [he] at hb
      rw [wts_sum, List.map_map]
      simp only [Rows.uptoBulk]
      have : (List.map (fun i => (f i).wt) (List.range n)).sum = (List.map (Doc.wt ∘ f) (List.range n)).sum := rfl
      omega
    · intro hz
      simp only [DataW.weights, Tryd.underlying22, List.mem_cons, List.mem_append, bytes24] at hz
      refine ⟨oks_iff.2 fun d hd => ?_, ?_⟩
      · obtain ⟨i, hi, rfl⟩ := List.mem_map.1 hd
        obtain ⟨e, he, _, hok, _⟩ := hf i (List.mem_range.1 hi)
        exact hok fun k hk => hz k (Or.inr (Or.inl (mem_weightsAll (List.mem_map.2 ⟨e, List.mem_of_getElem? he, rfl⟩) hk)))
      · have := hz _ (Or.inl rfl)
        rw [List.length_map, hlen, Nat.add_mul] at this
        omega
set_option maxRecDepth 100000 in
theorem open_doc_aux (fuel : Nat) : ∀ cs x, DataW.trod enc Tryd.prog W 0 spare held fuel 24 cs = some x → ∃ d, DocOpened W cs x.1 d := by
  induction fuel using Nat.strongRecOn with
  | _ fuel ih =>
    intro cs x h
    obtain ⟨ys, m, rfl, rfl, hcl, hyl, hf⟩ := DataW.trod_struct Tryd.underlying24 h
    rw [cells24] at hcl
    match cs, hcl with
    | [v0, v1, v2, v3], _ =>
    have hyl : ys.length = 4 := hyl
    match ys, hyl with
    | [y0, y1, y2, y3], _ =>
    have t0 : DataW.trod enc Tryd.prog W 0 spare held m 3 (([v0, v1, v2, v3].drop 0).take (Tryd.prog.cellsOf 3)) = some y0 := hf 0 _ rfl
    have t1 : DataW.trod enc Tryd.prog W 0 spare held m 9 (([v0, v1, v2, v3].drop 1).take (Tryd.prog.cellsOf 9)) = some y1 := hf 1 _ rfl
    have t2 : DataW.trod enc Tryd.prog W 0 spare held m 3 (([v0, v1, v2, v3].drop 2).take (Tryd.prog.cellsOf 3)) = some y2 := hf 2 _ rfl
    have t3 : DataW.trod enc Tryd.prog W 0 spare held m 22 (([v0, v1, v2, v3].drop 3).take (Tryd.prog.cellsOf 22)) = some y3 := hf 3 _ rfl
    rw [cells3] at t0 t2
    rw [cells9] at t1
    rw [cells22] at t3
    simp only [List.drop_zero, List.drop_succ_cons, List.take_succ_cons, List.take_zero] at t0 t1 t2 t3
    obtain ⟨k0, e0, rfl, _⟩ := DataW.trod_int Tryd.underlying3 t0
    obtain ⟨k1, e1, rfl, _⟩ := DataW.trod_string Tryd.underlying9 t1
    obtain ⟨k2, e2, rfl, _⟩ := DataW.trod_int Tryd.underlying3 t2
    simp only [List.cons.injEq, and_true] at e0 e1 e2
    subst e0 e1 e2
    obtain ⟨A, n, c, rfl⟩ : ∃ A n c, v3 = .slice A n c := by
      rcases DataW.trod_slice Tryd.underlying22 t3 with ⟨h1, _⟩ | ⟨a, len, cap, _, _, _, _, h1, _⟩
      · exact ⟨_, _, _, (List.cons.inj h1).1⟩
      · exact ⟨_, _, _, (List.cons.inj h1).1⟩
    obtain ⟨ds, rfl, hnc, hnil, hk, hw, hok⟩ := open_docs_of t3 (fun f hf => ih f (by omega))
    refine ⟨⟨k0, k1, k2, ds⟩, A, c, rfl, hnc, hnil, hk, ?_, fun hz => ?_⟩
    · simp only [List.map_cons, List.map_nil, Rows.uptoBulk, Rows.uptoBulkAll, Doc.wt]
      rw [show k1.data.toList.length = k1.size from Array.length_toList]
      omega
    · simp only [List.map_cons, List.map_nil, DataW.weights, Tryd.underlying24, DataW.weightsEach, List.mem_append, List.mem_singleton, List.not_mem_nil, false_or, or_false] at hz
      have h1 := hz _ (Or.inl rfl)
      rw [show k1.data.toList.length = k1.size from Array.length_toList] at h1
      obtain ⟨h2, h3⟩ := hok fun k hk => hz k (Or.inr hk)
      simp only [reachBytes] at h1 h3
      exact ok_iff.2 ⟨h1, by show ds.length ≤ _; omega, h2⟩
end

section
variable {H : Type} {enc : TypeId × Value → H} {W : World}
/-- An argument that is a document. -/
theorem open_doc {v : Value} {d : DataW H} {p : List MemPlace} (hv : ∃ cs, v = .agg cs) (h : DataW.Trod enc Tryd.prog W 0 (fun _ => true) true 24 v d p) :
    ∃ (x : Doc) (A : Option Addr) (c : Nat), v = .agg #[.int .i64 x.kind, .string x.text, .int .i64 x.n, .slice A x.kids.length c] ∧ x.kids.length ≤ c ∧ (A = none → c = 0) ∧ KidsAt W.heap.size W x.kids A ∧ x.wt ≤ Rows.uptoBulk d := by
  obtain ⟨cs, rfl⟩ := hv
  obtain ⟨fuel, hf⟩ := h
  obtain ⟨x, A, c, h1, h2, h3, h4, h5, _⟩ := open_doc_aux fuel _ _ hf
  refine ⟨x, A, c, ?_, h2, h3, h4, h5⟩
  simp only [Value.cells] at h1
  rw [show cs = #[.int .i64 x.kind, .string x.text, .int .i64 x.n, .slice A x.kids.length c] from Array.toList_inj.1 h1]
/-- An argument of documents. -/
theorem open_docs {v : Value} {d : DataW H} {p : List MemPlace} (hv : ∃ A n c, v = .slice A n c) (h : DataW.Trod enc Tryd.prog W 0 (fun _ => true) true 22 v d p) :
    ∃ (ds : List Doc) (A : Option Addr) (c : Nat), v = .slice A ds.length c ∧ ds.length ≤ c ∧ (A = none → c = 0) ∧ KidsAt W.heap.size W ds A ∧ wts ds + 1 ≤ Rows.uptoBulk d := by
  obtain ⟨A, n, c, rfl⟩ := hv
  obtain ⟨fuel, hf⟩ := h
  obtain ⟨ds, rfl, h2, h3, h4, h5, _⟩ := open_docs_of (x := (d, p)) hf (fun f _ => open_doc_aux f)
  exact ⟨ds, A, c, rfl, h2, h3, h4, h5⟩
/-- The same, with what the form lets be. -/
theorem open_doc_ok {v : Value} {d : DataW H} {p : List MemPlace} (hv : ∃ cs, v = .agg cs) (h : DataW.Trod enc Tryd.prog W 0 (fun _ => true) true 24 v d p) (hz : ∀ k ∈ d.weights Tryd.prog 24, k ≤ reachBytes) :
    ∃ (x : Doc) (A : Option Addr) (c : Nat), v = .agg #[.int .i64 x.kind, .string x.text, .int .i64 x.n, .slice A x.kids.length c] ∧ x.kids.length ≤ c ∧ (A = none → c = 0) ∧ KidsAt W.heap.size W x.kids A ∧ x.Ok := by
  obtain ⟨cs, rfl⟩ := hv
  obtain ⟨fuel, hf⟩ := h
  obtain ⟨x, A, c, h1, h2, h3, h4, _, h6⟩ := open_doc_aux fuel _ _ hf
  refine ⟨x, A, c, ?_, h2, h3, h4, h6 hz⟩
  simp only [Value.cells] at h1
  rw [show cs = #[.int .i64 x.kind, .string x.text, .int .i64 x.n, .slice A x.kids.length c] from Array.toList_inj.1 h1]
theorem open_docs_ok {v : Value} {d : DataW H} {p : List MemPlace} (hv : ∃ A n c, v = .slice A n c) (h : DataW.Trod enc Tryd.prog W 0 (fun _ => true) true 22 v d p) (hz : ∀ k ∈ d.weights Tryd.prog 22, k ≤ reachBytes) :
    ∃ (ds : List Doc) (A : Option Addr) (c : Nat), v = .slice A ds.length c ∧ ds.length ≤ c ∧ (A = none → c = 0) ∧ KidsAt W.heap.size W ds A ∧ oks ds ∧ ds.length * 56 ≤ reachBytes := by
  obtain ⟨A, n, c, rfl⟩ := hv
  obtain ⟨fuel, hf⟩ := h
  obtain ⟨ds, rfl, h2, h3, h4, _, h6⟩ := open_docs_of (x := (d, p)) hf (fun f _ => open_doc_aux f)
  exact ⟨ds, A, c, rfl, h2, h3, h4, h6 hz⟩
/-- A weight of one argument is one of all. -/
theorem sized_at {ts : List TypeId} {ds : List (DataW H)} (h : (DataW.weightsEach Tryd.prog ts ds).all (· ≤ reachBytes) = true) {j : Nat} {t : TypeId} {d : DataW H} (ht : ts[j]? = some t) (hd : ds[j]? = some d) : ∀ k ∈ d.weights Tryd.prog t, k ≤ reachBytes := fun k hk => by
  have := List.all_eq_true.1 h k (DataW.weights_mem_each ht hd k hk)
  simpa using this

/-- A law's arguments read as they read, in whatever world is the same below. -/
theorem args_stay {W W' : World} (hsame : ∀ p : MemPlace, p.block < W.heap.size → W.sameAt W' p) {sp' : Nat → Bool} : ∀ {ts : List TypeId} {vs : List Value} {ds : List (DataW H)} {ps : List MemPlace},
    (∀ t ∈ ts, Tryd.prog.readableRec t = true ∧ t < Tryd.prog.types.size) → DataW.TrodAll enc Tryd.prog W 0 (fun _ => true) true ts vs ds ps → (∀ p ∈ ps, p.block < W.heap.size ∧ sp' p.block = true) → DataW.TrodAll enc Tryd.prog W' 0 sp' true ts vs ds ps
  | [], vs, ds, ps, _, h, _ => by
    obtain ⟨rfl, rfl, rfl⟩ := trodAll_nil h
    exact trodAll_mk0
  | t :: ts, vs, ds, ps, hts, h, hps => by
    obtain ⟨v, vs', d, ds', p, q, rfl, rfl, rfl, h0, h1⟩ := trodAll_cons h
    exact trodAll_cons_mk (WideElems.Trod_stays laidOut (hts t (by simp)).1 (hts t (by simp)).2 h0 (fun x hx => hsame x (hps x (by simp [hx])).1) (fun x hx => (hps x (by simp [hx])).2))
      (args_stay hsame (fun u hu => hts u (by simp [hu])) h1 (fun x hx => hps x (by simp [hx])))

/-- (a lemma of the how-to's page on small things) The row's last step, of a world of which 'Below' is known. -/
theorem post_of_below {P : Program} {f : Func} {s : ChangeSpec} {apart fresh handsOn again : Bool} {W W' : World} {args : Array Value} {v : Value} {ds gs : List (DataW H)} {before pa pv : List MemPlace}
    (hW : DataW.Whole enc P f.params.toList s.vars apart W args.toList ds gs before)
    (hres : ∀ (b : Nat) (sp : Nat → Bool) (hd : Bool), DataW.TrodAll enc P W' b sp hd f.resultTypes.toList (v.resultList f.resultTypes.size) (s.fn H (ds ++ gs)).results [])
    (hargs : ∀ sp : Nat → Bool, (∀ p ∈ before, sp p.block = true) → DataW.TrodAll enc P W' 0 sp true f.params.toList args.toList (s.fn H (ds ++ gs)).args pa)
    (hvars : ∀ sp : Nat → Bool, (∀ p ∈ before, sp p.block = true) → DataW.TrodVars enc P W' sp s.vars (s.fn H (ds ++ gs)).vars pv)
    (hps : before = pa ++ pv) (hb : Below W.heap.size W W')
    (hok : ∀ (j : Nat) (t : TypeId) (r : Value), f.resultTypes[j]? = some t → (v.resultList f.resultTypes.size)[j]? = some r → Value.okWide P W' .any 0 t r) :
    s.post enc P f apart fresh handsOn again W args v W' := by
  have hlt : ∀ p ∈ before, p.block < W.heap.size := fun p hp => hW.lt p hp
  have hold : ∀ p ∈ before, (fun b => decide (b < W.heap.size)) p.block = true := fun p hp => by simpa using hlt p hp
  refine ⟨ds, gs, before, [], pa, pv, hW, hres _ _ _, hargs _ hold, hvars _ hold, World.keptBut_mono (fun p hp => ⟨hp, ?_⟩) (hb.frame (· ∈ before)), fun _ => ?_⟩
  · rw [hps, List.mem_append] at hp
    exact Or.inr hp
  · obtain ⟨_, _, _, _, _, hz, hn⟩ := hW
    refine ⟨hok, _, _, ([] ++ pa) ++ pv, ⟨[] ++ pa, pv, trodAll_append (hargs _ (fun _ _ => rfl)) (hres _ _ _), hvars _ (fun _ _ => rfl), rfl, ?_, ?_⟩, ?_⟩
    · intro b off hp
      have hin : MemPlace.cell b off ∈ before := by rw [hps]; simpa using hp
      rw [hb.frozen (hlt _ hin)]
      exact hz b off hin
    · intro ha
      have := hn ha
      rw [hps] at this
      simpa using this
    · intro p hp _
      rw [hps]
      simpa using hp

set_option maxRecDepth 100000 in
/-- A LAW's ROW SHUT: it answered true and left all that was there. -/
theorem law_post {f : Func} {s : ChangeSpec} {apart fresh handsOn again : Bool} {W W' : World} {args : Array Value} {ds gs : List (DataW H)} {before p : List MemPlace}
    (hW : DataW.Whole enc Tryd.prog f.params.toList s.vars apart W args.toList ds gs before) (hA : DataW.TrodAll enc Tryd.prog W 0 (fun _ => true) true f.params.toList args.toList ds p) (hp : before = p)
    (hr : f.resultTypes = #[4]) (hv : s.vars = []) (hfn : s.fn H (ds ++ gs) = { results := [.lit (.bool true)], args := ds })
    (hts : ∀ t ∈ f.params.toList, Tryd.prog.readableRec t = true ∧ t < Tryd.prog.types.size) (hb : Below W.heap.size W W') : s.post enc Tryd.prog f apart fresh handsOn again W args (.bool true) W' := by
  have hlt : ∀ x ∈ before, x.block < W.heap.size := fun x hx => hW.lt x hx
  refine post_of_below (pa := p) (pv := []) hW ?_ ?_ ?_ (by rw [hp]; simp) hb ?_
  · intro b sp hd
    rw [hfn, hr]
    exact trodAll_mk1 (shut_bool Tryd.underlying4 true)
  · intro sp hsp
    rw [hfn]
    exact args_stay (fun q hq => hb.same hq) hts hA (fun x hx => ⟨hlt x (by rw [hp]; exact hx), hsp x (by rw [hp]; exact hx)⟩)
  · intro sp _
    rw [hfn, hv]
    exact rfl
  · exact ok_one hr rfl (okWide_bool_mk Tryd.underlying4 _)
end
end Go.Proofs.YtnpaplfdmpjfgaaDoor
