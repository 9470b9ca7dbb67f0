/- A law's argument opened to plain data, and the law's row shut: shared by all the laws of this seat. -/
import Derived.Test.YtnophjkiecalpaaBase
import Derived.ProofKit
import Derived.OpenShut
import Derived.JoinedCond
import Derived.SizedLaws
import Derived.Below
import Derived.Carry
import Derived.Deep.Slices
import Derived.Deep.Fields
import Derived.ChangeSame
import Derived.Lib.SmallJoins
import Derived.SliceStrings
namespace Go.Proofs.Ytnophjkiecalpaa
open Go.ChangeShapes Go.WideShapes Go.ChangeAt Go.RowKit Go.Deep Go.Joins

theorem own : ownKnob Try.prog.godebug = none := by kernel_rfl
theorem laidOut : laidOutB Try.prog = true := by kernel_rfl

/-- Each number of the token fits the machine's int. -/
structure Tok.Ok (t : Tok) : Prop where
  kind : (Lit.int .i64 t.kind).wf = true
  line : (Lit.int .i64 t.line).wf = true
  col : (Lit.int .i64 t.col).wf = true
  text : t.text.size ≤ maxLen

section
variable {H : Type} {enc : TypeId × Value → H} {P : Program} {w : World} {base : Nat} {spare : Nat → Bool} {held : Bool}
/-- (a lemma of the how-to's page on structs) A slice of structs, opened at every index and field. -/
theorem open_slice_fields {t e : TypeId} {fs : Array Field} {fuel : Nat} {cs : List Value} {x : DataW H × List MemPlace} (ht : P.underlying t = some (.slice e)) (he : P.underlying e = some (.struct fs))
    (hone : oneCellFields P fs = true) (hC : P.cellsOf e = fs.size) (h : DataW.trod enc P w base spare held fuel t cs = some x) :
    (cs = [.slice none 0 0] ∧ x = (.nil, [])) ∨
    ∃ (a : Addr) (len cap m : Nat) (D : Nat → DataW H) (Pl : Nat → List MemPlace), cs = [.slice (some a) len cap] ∧ base ≤ a.block ∧ len ≤ cap ∧ cap ≤ maxLen ∧ m = (if spare a.block then cap else len) ∧
      x = (.slice ((List.range len).map D) ((List.range (m - len)).map fun j => D (len + j)), MemPlace.row a (m * fs.size) ++ (List.range m).flatMap Pl) ∧
      ∀ i, i < m → ∃ (ys : List (DataW H × List MemPlace)) (n : Nat), D i = .agg (ys.map (·.1)) ∧ Pl i = ys.flatMap (·.2) ∧ ys.length = fs.size ∧
        ∀ (j : Nat) (f : Field), fs[j]? = some f → ∃ (v : Value) (y : DataW H × List MemPlace), w.cell? (a.add (i * fs.size + j)) = some v ∧ ys[j]? = some y ∧ DataW.trod enc P w base spare held n f.type [v] = some y := by
  rcases open_slice ht h with h0 | ⟨a, len, cap, m, n, D, Pl, hcs, hb, hl, hm, hmm, hx, hi⟩
  · exact .inl h0
  · refine .inr ⟨a, len, cap, m, D, Pl, hcs, hb, hl, hm, hmm, by rw [hC] at hx; exact hx, fun i him => ?_⟩
    obtain ⟨cs', hc, ht'⟩ := hi i him
    rw [hC] at hc
    obtain ⟨ys, n', hn', hy, hlen, hyl, hf⟩ := DataW.trod_struct he ht'
    obtain ⟨_, hcl, hat⟩ := World.cells?_some hc
    simp only [Prod.mk.injEq] at hy
    refine ⟨ys, n', hy.1, hy.2, hyl, fun j f hj => ?_⟩
    obtain ⟨ho, hk⟩ := hone_of hone j f hj
    have hjl : j < fs.size := (Array.getElem?_eq_some_iff.1 hj).1
    have hcell := hat j hjl
    have hv : cs'[j]? = some (cs'[j]'(by omega)) := List.getElem?_eq_getElem (by omega)
    have h1 := hf j f hj
    rw [ho, hk] at h1
    have hone' : (cs'.drop j).take 1 = [cs'[j]'(by omega)] := by
      rw [List.drop_eq_getElem_cons (by omega)]
      rfl
    rw [hone'] at h1
    have hys : ys[j]? = some (ys[j]'(by omega)) := List.getElem?_eq_getElem (by omega)
    refine ⟨_, _, ?_, hys, h1.trans hys⟩
    rw [← Go.Deep.add_add, hcell, hv]

theorem cell_block {w : World} {a : Addr} {v : Value} (h : w.cell? a = some v) : a.block < w.heap.size := by
  unfold World.cell? at h
  cases hb : w.heap[a.block]? with
  | none => simp [hb] at h
  | some o => exact (Array.getElem?_eq_some_iff.1 hb).1
end

section
variable {H : Type} {enc : TypeId × Value → H} {W : World}

/-- What the datum of a token is. -/
def Tok.data (t : Tok) : DataW H := .agg [.lit (.int .i64 t.kind), .lit (.string t.text.data.toList), .lit (.int .i64 t.line), .lit (.int .i64 t.col)]

theorem bulk_tok (t : Tok) : Rows.uptoBulk (t.data (H := H)) = t.text.size + 5 := by
  simp only [Tok.data, Rows.uptoBulk, Rows.uptoBulkAll]
  rw [show t.text.data.toList.length = t.text.size from Array.length_toList]
  omega

theorem bulk_map {α : Type} (f : α → DataW H) (g : α → Nat) : ∀ l : List α, (∀ x ∈ l, g x ≤ Rows.uptoBulk (f x)) → (l.map g).sum ≤ Rows.uptoBulkAll (l.map f)
  | [], _ => by simp
  | x :: l, h => by
    have := bulk_map f g l (fun y hy => h y (by simp [hy]))
    have h0 := h x (by simp)
    simp only [List.map_cons, List.sum_cons, Rows.uptoBulkAll]
    omega

theorem sum_ge_mul {α : Type} (g : α → Nat) (k : Nat) : ∀ l : List α, (∀ x ∈ l, k ≤ g x) → k * l.length ≤ (l.map g).sum
  | [], _ => by simp
  | x :: l, h => by
    have := sum_ge_mul g k l (fun y hy => h y (by simp [hy]))
    have h0 := h x (by simp)
    simp only [List.map_cons, List.sum_cons, List.length_cons, Nat.mul_add]
    omega

theorem le_sum {α : Type} (g : α → Nat) : ∀ (l : List α), ∀ x ∈ l, g x ≤ (l.map g).sum
  | [], _, h => by cases h
  | y :: l, x, h => by
    simp only [List.map_cons, List.sum_cons]
    rcases List.mem_cons.1 h with rfl | h
    · omega
    · have := le_sum g l x h
      omega

instance : Inhabited Tok := ⟨⟨0, .empty, 0, 0⟩⟩

/-- An argument of tokens. -/
theorem open_toks {v : Value} {d : DataW H} {p : List MemPlace} (hv2 : ∃ A n c, v = .slice A n c) (h : DataW.Trod enc Try.prog W 0 (fun _ => true) true 26 v d p) :
    ∃ (A : Option Addr) (l : List Tok) (c : Nat), v = .slice A l.length c ∧ Toks W.heap.size W A l ∧ (∀ t ∈ l, t.Ok) ∧ 5 * l.length ≤ Rows.uptoBulk d ∧ (∀ t ∈ l, t.text.size ≤ Rows.uptoBulk d) ∧
      ((l = [] ∧ d = .nil) ∨ ∃ es sp, d = .slice es sp ∧ es.length = l.length) := by
  obtain ⟨A, n, c, rfl⟩ := hv2
  obtain ⟨fuel, hf⟩ := h
  rcases open_slice_fields Try.underlying26 Try.underlying23 (by kernel_rfl) (by kernel_rfl) hf with ⟨h1, h2⟩ | ⟨a, len, cap, m, D, Pl, h1, hb, hl, hm, hmm, hx, hi⟩
  · simp [Value.cells] at h1
    obtain ⟨rfl, rfl, rfl⟩ := h1
    simp only [Prod.mk.injEq] at h2
    obtain ⟨rfl, rfl⟩ := h2
    exact ⟨none, [], 0, rfl, fun k t hk => by simp at hk, by simp, by simp [Rows.uptoBulk], by simp, .inl ⟨rfl, rfl⟩⟩
  · simp [Value.cells] at h1
    obtain ⟨rfl, rfl, rfl⟩ := h1
    simp only [Prod.mk.injEq] at hx
    obtain ⟨rfl, rfl⟩ := hx
    have hm' : n ≤ m := by simp only [if_true] at hmm; omega
    have hspot0 : 0 < n → a.spot = none := by
      intro hn
      obtain ⟨ys, nn, hD, _, hys, hj⟩ := hi 0 (by omega)
      obtain ⟨v0, y0, c0, g0, t0⟩ := hj 0 _ rfl
      simpa [Addr.add] using World.cell?_spot c0
    have each : ∀ i, i < n → ∃ t : Tok, D i = t.data ∧ t.Ok ∧ ∃ b o, a = ⟨b, o, none⟩ ∧ b < W.heap.size ∧ TokAt W b (o + i * 4) t := by
      intro i hin
      obtain ⟨ys, nn, hD, _, hys, hj⟩ := hi i (by omega)
      obtain ⟨v0, y0, c0, g0, t0⟩ := hj 0 _ rfl
      obtain ⟨v1, y1, c1, g1, t1⟩ := hj 1 _ rfl
      obtain ⟨v2, y2, c2, g2, t2⟩ := hj 2 _ rfl
      obtain ⟨v3, y3, c3, g3, t3⟩ := hj 3 _ rfl
      obtain ⟨k0, e0, rfl, w0⟩ := DataW.trod_int Try.underlying3 t0
      obtain ⟨k1, e1, rfl, w1⟩ := DataW.trod_string Try.underlying9 t1
      obtain ⟨k2, e2, rfl, w2⟩ := DataW.trod_int Try.underlying3 t2
      obtain ⟨k3, e3, rfl, w3⟩ := DataW.trod_int Try.underlying3 t3
      simp only [List.cons.injEq, and_true] at e0 e1 e2 e3
      subst e0 e1 e2 e3
      obtain ⟨b, o, spot⟩ := a
      have hspot : spot = none := hspot0 (by omega)
      subst hspot
      rw [add_plain] at c0 c1 c2 c3
      refine ⟨⟨k0, k1, k2, k3⟩, ?_, ⟨w0, w2, w3, w1⟩, b, o, rfl, cell_block c0, ⟨c0, c1, c2, c3⟩⟩
      rw [hD]
      match ys, hys with
      | [z0, z1, z2, z3], _ =>
        simp at g0 g1 g2 g3
        subst g0 g1 g2 g3
        rfl
    obtain ⟨T, hT⟩ := choose_lt each
    have hlen : ((List.range n).map T).length = n := by simp
    have hD : (List.range n).map D = ((List.range n).map T).map Tok.data := by
      rw [List.map_map]
      exact List.map_congr_left fun i hi => (hT i (List.mem_range.1 hi)).1
    have hbulk : (((List.range n).map T).map fun t => t.text.size + 5).sum ≤ Rows.uptoBulkAll ((List.range n).map D) := by
      rw [hD]
      exact bulk_map _ _ _ fun t _ => by rw [bulk_tok]; exact Nat.le_refl _
    refine ⟨some a, (List.range n).map T, c, by rw [hlen], ?_, ?_, ?_, ?_, .inr ⟨_, _, rfl, by simp⟩⟩
    · intro k t hk
      obtain ⟨hkn, rfl⟩ : k < n ∧ T k = t := by
        rw [List.getElem?_map] at hk
        rcases Nat.lt_or_ge k n with h | h
        · rw [List.getElem?_range h] at hk
          exact ⟨h, by simpa using hk⟩
        · rw [List.getElem?_eq_none (by simpa using h)] at hk
          simp at hk
      obtain ⟨_, _, b, o, rfl, hb', hat⟩ := hT k hkn
      exact ⟨b, o, rfl, hb', hat⟩
    · intro t ht
      obtain ⟨i, hi, rfl⟩ := List.mem_map.1 ht
      exact (hT i (List.mem_range.1 hi)).2.1
    · have := sum_ge_mul (fun t : Tok => t.text.size + 5) 5 ((List.range n).map T) (fun t _ => by omega)
      simp only [Rows.uptoBulk]
      omega
    · intro t ht
      have := le_sum (fun t : Tok => t.text.size + 5) _ t ht
      simp only [Rows.uptoBulk]
      omega

/-- The slice of tokens, by the form's own reach. -/
theorem toks_reach {ts : List TypeId} {ds : List (DataW H)} (h : (DataW.weightsEach Try.prog ts ds).all (· ≤ reachBytes) = true) {j : Nat} {d : DataW H} {l : List Tok} (ht : ts[j]? = some 26) (hd : ds[j]? = some d)
    (hs : (l = [] ∧ d = .nil) ∨ ∃ es sp, d = .slice es sp ∧ es.length = l.length) : l.length * 40 ≤ 140737488351232 := by
  rcases hs with ⟨rfl, _⟩ | ⟨es, sp, rfl, he⟩
  · simp
  · have := sized_slice h ht hd Try.underlying26
    rw [show Try.prog.bytesOf 23 = 40 by kernel_rfl] at this
    simp only [reachBytes] at this
    omega

/-- A law's arguments read as they read, in whatever world is the same below. -/
theorem args_stay {W W' : World} (hsame : ∀ p : MemPlace, p.block < W.heap.size → W.sameAt W' p) {sp' : Nat → Bool} : ∀ {ts : List TypeId} {vs : List Value} {ds : List (DataW H)} {ps : List MemPlace},
    (∀ t ∈ ts, Try.prog.readableRec t = true ∧ t < Try.prog.types.size) → DataW.TrodAll enc Try.prog W 0 (fun _ => true) true ts vs ds ps → (∀ p ∈ ps, p.block < W.heap.size ∧ sp' p.block = true) → DataW.TrodAll enc Try.prog W' 0 sp' true ts vs ds ps
  | [], vs, ds, ps, _, h, _ => by
    obtain ⟨rfl, rfl, rfl⟩ := trodAll_nil h
    exact trodAll_mk0
  | t :: ts, vs, ds, ps, hts, h, hps => by
    obtain ⟨v, vs', d, ds', p, q, rfl, rfl, rfl, h0, h1⟩ := trodAll_cons h
    exact trodAll_cons_mk (WideElems.Trod_stays laidOut (hts t (by simp)).1 (hts t (by simp)).2 h0 (fun x hx => hsame x (hps x (by simp [hx])).1) (fun x hx => (hps x (by simp [hx])).2))
      (args_stay hsame (fun u hu => hts u (by simp [hu])) h1 (fun x hx => hps x (by simp [hx])))

/-- (a lemma of the how-to's page on small things) The row's last step, of a world of which 'Below' is known. -/
theorem post_of_below {P : Program} {f : Func} {s : ChangeSpec} {apart fresh handsOn again : Bool} {W W' : World} {args : Array Value} {v : Value} {ds gs : List (DataW H)} {before pa pv : List MemPlace}
    (hW : DataW.Whole enc P f.params.toList s.vars apart W args.toList ds gs before)
    (hres : ∀ (b : Nat) (sp : Nat → Bool) (hd : Bool), DataW.TrodAll enc P W' b sp hd f.resultTypes.toList (v.resultList f.resultTypes.size) (s.fn H (ds ++ gs)).results [])
    (hargs : ∀ sp : Nat → Bool, (∀ p ∈ before, sp p.block = true) → DataW.TrodAll enc P W' 0 sp true f.params.toList args.toList (s.fn H (ds ++ gs)).args pa)
    (hvars : ∀ sp : Nat → Bool, (∀ p ∈ before, sp p.block = true) → DataW.TrodVars enc P W' sp s.vars (s.fn H (ds ++ gs)).vars pv)
    (hps : before = pa ++ pv) (hb : Below W.heap.size W W')
    (hok : ∀ (j : Nat) (t : TypeId) (r : Value), f.resultTypes[j]? = some t → (v.resultList f.resultTypes.size)[j]? = some r → Value.okWide P W' .any 0 t r) :
    s.post enc P f apart fresh handsOn again W args v W' := by
  have hlt : ∀ p ∈ before, p.block < W.heap.size := fun p hp => hW.lt p hp
  have hold : ∀ p ∈ before, (fun b => decide (b < W.heap.size)) p.block = true := fun p hp => by simpa using hlt p hp
  refine ⟨ds, gs, before, [], pa, pv, hW, hres _ _ _, hargs _ hold, hvars _ hold, World.keptBut_mono (fun p hp => ⟨hp, ?_⟩) (hb.frame (· ∈ before)), fun _ => ?_⟩
  · rw [hps, List.mem_append] at hp
    exact Or.inr hp
  · obtain ⟨_, _, _, _, _, hz, hn⟩ := hW
    refine ⟨hok, _, _, ([] ++ pa) ++ pv, ⟨[] ++ pa, pv, trodAll_append (hargs _ (fun _ _ => rfl)) (hres _ _ _), hvars _ (fun _ _ => rfl), rfl, ?_, ?_⟩, ?_⟩
    · intro b off hp
      have hin : MemPlace.cell b off ∈ before := by rw [hps]; simpa using hp
      rw [hb.frozen (hlt _ hin)]
      exact hz b off hin
    · intro ha
      have := hn ha
      rw [hps] at this
      simpa using this
    · intro p hp _
      rw [hps]
      simpa using hp

/-- A LAW's ROW SHUT: it answered true and left all that was there. -/
theorem law_post {f : Func} {s : ChangeSpec} {apart fresh handsOn again : Bool} {W W' : World} {args : Array Value} {ds gs : List (DataW H)} {before p : List MemPlace}
    (hW : DataW.Whole enc Try.prog f.params.toList s.vars apart W args.toList ds gs before) (hA : DataW.TrodAll enc Try.prog W 0 (fun _ => true) true f.params.toList args.toList ds p) (hp : before = p)
    (hr : f.resultTypes = #[4]) (hv : s.vars = []) (hfn : s.fn H (ds ++ gs) = { results := [.lit (.bool true)], args := ds })
    (hts : ∀ t ∈ f.params.toList, Try.prog.readableRec t = true ∧ t < Try.prog.types.size) (hb : Below W.heap.size W W') : s.post enc Try.prog f apart fresh handsOn again W args (.bool true) W' := by
  have hlt : ∀ x ∈ before, x.block < W.heap.size := fun x hx => hW.lt x hx
  refine post_of_below (pa := p) (pv := []) hW ?_ ?_ ?_ (by rw [hp]; simp) hb ?_
  · intro b sp hd
    rw [hfn, hr]
    exact trodAll_mk1 (shut_bool Try.underlying4 true)
  · intro sp hsp
    rw [hfn]
    exact args_stay (fun q hq => hb.same hq) hts hA (fun x hx => ⟨hlt x (by rw [hp]; exact hx), hsp x (by rw [hp]; exact hx)⟩)
  · intro sp _
    rw [hfn, hv]
    exact rfl
  · exact ok_one hr rfl (okWide_bool_mk Try.underlying4 _)
end
end Go.Proofs.Ytnophjkiecalpaa
