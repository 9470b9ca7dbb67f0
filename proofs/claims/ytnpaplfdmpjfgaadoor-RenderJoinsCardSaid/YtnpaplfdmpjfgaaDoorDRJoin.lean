/- The law RenderJoins, walked. -/
import Derived.Test.YtnpaplfdmpjfgaaDoorDLayJ
import Derived.Test.YtnpaplfdmpjfgaaDoorDTid19
import Derived.Deep.DeepCutAuto
namespace Go.Proofs.YtnpaplfdmpjfgaaDoor
open Go.RowKit

/-! Rows of two documents, as blocks. -/
theorem blk_new {X w' : World} {cs : Array Value} {T : TypeId} (hb : Below (X.alloc (.cells cs T)).heap.size (X.alloc (.cells cs T)) w') : w'.heap[X.heap.size]? = some (.cells cs T (0, 0)) :=
  (hb.block _ (by simp)).trans (heap_alloc_new X _)
theorem blk_on {w w' : World} {g : Nat} {o : Obj} (h : w.heap[g]? = some o) (hb : Below w.heap.size w w') : w'.heap[g]? = some o :=
  (hb.block _ (Array.getElem?_eq_some_iff.1 h).1).trans h
theorem blk_al {w : World} {g : Nat} {o o' : Obj} (h : w.heap[g]? = some o) : (w.alloc o').heap[g]? = some o :=
  blk_on h ((Below.refl _ _).alloc (Nat.le_refl _) o')
theorem box_of {w : World} {g : Nat} {v0 v1 v2 v3 : Value} {T : TypeId} (h : w.heap[g]? = some (.cells #[v0, v1, v2, v3] T (0, 0))) : Box4 w g v0 v1 v2 v3 :=
  ⟨by rw [Lib.cell_of_heap h]; rfl, by rw [Lib.cell_of_heap h]; rfl, by rw [Lib.cell_of_heap h]; rfl, by rw [Lib.cell_of_heap h]; rfl, Lib.frozen_of_heap h 0, Lib.frozen_of_heap h 1, Lib.frozen_of_heap h 2, Lib.frozen_of_heap h 3⟩
theorem undrew {Z w' : World} (h : Below Z.drew.heap.size Z.drew w') : Below Z.heap.size Z w' := ((Below.refl Z.heap.size Z).drew).trans h
theorem bl_call {w w' w'' : World} (h : Below w.heap.size w w') (hb : Below w'.heap.size w' w'') : Below w.heap.size w w'' := h.trans (hb.mono h.size)
theorem bl_alloc {w w' : World} (h : Below w.heap.size w w') (o : Obj) : Below w.heap.size w (w'.alloc o) := h.trans ((Below.refl _ _).alloc h.size o)
/-- A document that lies in the memory now. -/
structure Lies (w : World) (d : Doc) (A : Option Addr) (c : Nat) : Prop where
  cap : d.kids.length ≤ c
  nil : A = none → c = 0
  kids : KidsAt w.heap.size w d.kids A
theorem Lies.on {w w' : World} {d : Doc} {A : Option Addr} {c : Nat} (h : Lies w d A c) (hb : Below w.heap.size w w') : Lies w' d A c := ⟨h.cap, h.nil, kidsAt_on h.kids hb⟩
theorem kids2 {w : World} {r : Nat} {x y : Doc} {Ax Ay : Option Addr} {cx cy : Nat}
    (h : w.heap[r]? = some (.cells #[.int .i64 x.kind, .string x.text, .int .i64 x.n, .slice Ax x.kids.length cx, .int .i64 y.kind, .string y.text, .int .i64 y.n, .slice Ay y.kids.length cy] 24 (0, 0)))
    (hx : Lies w x Ax cx) (hy : Lies w y Ay cy) : KidsAt w.heap.size w [x, y] (some ⟨r, 0, none⟩) := by
  have hr := (Array.getElem?_eq_some_iff.1 h).1
  refine ⟨r, 0, rfl, docAt_iff.2 ⟨Ax, cx, hr, ?_, ?_, ?_, ?_, hx.cap, hx.nil, hx.kids⟩, r, 4, rfl, docAt_iff.2 ⟨Ay, cy, hr, ?_, ?_, ?_, ?_, hy.cap, hy.nil, hy.kids⟩, trivial⟩ <;> (rw [Lib.cell_of_heap h]; rfl)
theorem lies2 {w : World} {r : Nat} {x y : Doc} {Ax Ay : Option Addr} {cx cy : Nat} (k : Int)
    (h : w.heap[r]? = some (.cells #[.int .i64 x.kind, .string x.text, .int .i64 x.n, .slice Ax x.kids.length cx, .int .i64 y.kind, .string y.text, .int .i64 y.n, .slice Ay y.kids.length cy] 24 (0, 0)))
    (hx : Lies w x Ax cx) (hy : Lies w y Ay cy) : Lies w (ofK k [x, y]) (some ⟨r, 0, none⟩) 2 := ⟨Nat.le_refl _, fun e => (nomatch e), kids2 h hx hy⟩
/-- A box of its own is laid full: what lay there lies there still. -/
theorem fill_box {wr w9 : World} {g : Nat} {u0 u1 u2 u3 v0 v1 v2 v3 : Value} (hx : w9.heap[g]? = some (.cells #[u0, u1, u2, u3] 24 (0, 0))) (hw : Below wr.heap.size wr w9) (hg : wr.heap.size ≤ g) :
    Box4 ((((w9.setCell ⟨g, 0, none⟩ v0).setCell ⟨g, 1, none⟩ v1).setCell ⟨g, 2, none⟩ v2).setCell ⟨g, 3, none⟩ v3) g v0 v1 v2 v3 ∧
    Below wr.heap.size wr ((((w9.setCell ⟨g, 0, none⟩ v0).setCell ⟨g, 1, none⟩ v1).setCell ⟨g, 2, none⟩ v2).setCell ⟨g, 3, none⟩ v3) ∧
    (∀ (r : Nat) (cs : Array Value), cs.size = 8 → w9.heap[r]? = some (.cells cs 24 (0, 0)) → ((((w9.setCell ⟨g, 0, none⟩ v0).setCell ⟨g, 1, none⟩ v1).setCell ⟨g, 2, none⟩ v2).setCell ⟨g, 3, none⟩ v3).heap[r]? = some (.cells cs 24 (0, 0))) := by
  refine ⟨?_, ?_, fun r cs hc h => ?_⟩
  · have hb := heap_set (heap_set (heap_set (heap_set hx (i := 0) v0) (i := 1) v1) (i := 2) v2) (i := 3) v3
    simp only [List.setIfInBounds_toArray, List.set_cons_zero, List.set_cons_succ] at hb
    exact box_of hb
  · exact Below.setCell (p := ⟨g, 3, none⟩) (Below.setCell (p := ⟨g, 2, none⟩) (Below.setCell (p := ⟨g, 1, none⟩) (Below.setCell (p := ⟨g, 0, none⟩) hw hg _) hg _) hg _) hg _
  · have hne : r ≠ g := fun e => by
      subst e
      have := h.symm.trans hx
      simp only [Option.some.injEq, Obj.cells.injEq] at this
      rw [this.1] at hc
      simp at hc
    exact (Below.heap_setCell _ _ _ _ hne).trans ((Below.heap_setCell _ _ _ _ hne).trans ((Below.heap_setCell _ _ _ _ hne).trans ((Below.heap_setCell _ _ _ _ hne).trans h)))
theorem finL {wr w9 : World} {g r1 r2 : Nat} {kd : Int} {a b c : Doc} {Aa Ab Ac : Option Addr} {ca cb cc : Nat} {u0 u1 u2 u3 : Value} (ha : Lies wr a Aa ca) (hb : Lies wr b Ab cb) (hc : Lies wr c Ac cc) (hw : Below wr.heap.size wr w9)
    (h1 : w9.heap[r1]? = some (.cells #[.int .i64 a.kind, .string a.text, .int .i64 a.n, .slice Aa a.kids.length ca, .int .i64 b.kind, .string b.text, .int .i64 b.n, .slice Ab b.kids.length cb] 24 (0, 0)))
    (h2 : w9.heap[r2]? = some (.cells #[.int .i64 kd, .string ⟨#[]⟩, .int .i64 0, .slice (some ⟨r1, 0, none⟩) 2 2, .int .i64 c.kind, .string c.text, .int .i64 c.n, .slice Ac c.kids.length cc] 24 (0, 0)))
    (hx : w9.heap[g]? = some (.cells #[u0, u1, u2, u3] 24 (0, 0))) (hg : wr.heap.size ≤ g) :
    Box4 ((((w9.setCell ⟨g, 0, none⟩ (.int .i64 kd)).setCell ⟨g, 1, none⟩ (.string ⟨#[]⟩)).setCell ⟨g, 2, none⟩ (.int .i64 0)).setCell ⟨g, 3, none⟩ (.slice (some ⟨r2, 0, none⟩) 2 2)) g (.int .i64 kd) (.string ⟨#[]⟩) (.int .i64 0) (.slice (some ⟨r2, 0, none⟩) 2 2) ∧
    Lies ((((w9.setCell ⟨g, 0, none⟩ (.int .i64 kd)).setCell ⟨g, 1, none⟩ (.string ⟨#[]⟩)).setCell ⟨g, 2, none⟩ (.int .i64 0)).setCell ⟨g, 3, none⟩ (.slice (some ⟨r2, 0, none⟩) 2 2)) (ofK kd [ofK kd [a, b], c]) (some ⟨r2, 0, none⟩) 2 ∧
    Below wr.heap.size wr ((((w9.setCell ⟨g, 0, none⟩ (.int .i64 kd)).setCell ⟨g, 1, none⟩ (.string ⟨#[]⟩)).setCell ⟨g, 2, none⟩ (.int .i64 0)).setCell ⟨g, 3, none⟩ (.slice (some ⟨r2, 0, none⟩) 2 2)) := by
  obtain ⟨q1, q2, q3⟩ := fill_box (v0 := .int .i64 kd) (v1 := .string ⟨#[]⟩) (v2 := .int .i64 0) (v3 := .slice (some ⟨r2, 0, none⟩) 2 2) hx hw hg
  exact ⟨q1, lies2 (x := ofK kd [a, b]) kd (q3 r2 _ rfl h2) (lies2 kd (q3 r1 _ rfl h1) (ha.on q2) (hb.on q2)) (hc.on q2), q2⟩
theorem finR {wr w9 : World} {g r1 r2 : Nat} {kd : Int} {a b c : Doc} {Aa Ab Ac : Option Addr} {ca cb cc : Nat} {u0 u1 u2 u3 : Value} (ha : Lies wr a Aa ca) (hb : Lies wr b Ab cb) (hc : Lies wr c Ac cc) (hw : Below wr.heap.size wr w9)
    (h1 : w9.heap[r1]? = some (.cells #[.int .i64 b.kind, .string b.text, .int .i64 b.n, .slice Ab b.kids.length cb, .int .i64 c.kind, .string c.text, .int .i64 c.n, .slice Ac c.kids.length cc] 24 (0, 0)))
    (h2 : w9.heap[r2]? = some (.cells #[.int .i64 a.kind, .string a.text, .int .i64 a.n, .slice Aa a.kids.length ca, .int .i64 kd, .string ⟨#[]⟩, .int .i64 0, .slice (some ⟨r1, 0, none⟩) 2 2] 24 (0, 0)))
    (hx : w9.heap[g]? = some (.cells #[u0, u1, u2, u3] 24 (0, 0))) (hg : wr.heap.size ≤ g) :
    Box4 ((((w9.setCell ⟨g, 0, none⟩ (.int .i64 kd)).setCell ⟨g, 1, none⟩ (.string ⟨#[]⟩)).setCell ⟨g, 2, none⟩ (.int .i64 0)).setCell ⟨g, 3, none⟩ (.slice (some ⟨r2, 0, none⟩) 2 2)) g (.int .i64 kd) (.string ⟨#[]⟩) (.int .i64 0) (.slice (some ⟨r2, 0, none⟩) 2 2) ∧
    Lies ((((w9.setCell ⟨g, 0, none⟩ (.int .i64 kd)).setCell ⟨g, 1, none⟩ (.string ⟨#[]⟩)).setCell ⟨g, 2, none⟩ (.int .i64 0)).setCell ⟨g, 3, none⟩ (.slice (some ⟨r2, 0, none⟩) 2 2)) (ofK kd [a, ofK kd [b, c]]) (some ⟨r2, 0, none⟩) 2 ∧
    Below wr.heap.size wr ((((w9.setCell ⟨g, 0, none⟩ (.int .i64 kd)).setCell ⟨g, 1, none⟩ (.string ⟨#[]⟩)).setCell ⟨g, 2, none⟩ (.int .i64 0)).setCell ⟨g, 3, none⟩ (.slice (some ⟨r2, 0, none⟩) 2 2)) := by
  obtain ⟨q1, q2, q3⟩ := fill_box (v0 := .int .i64 kd) (v1 := .string ⟨#[]⟩) (v2 := .int .i64 0) (v3 := .slice (some ⟨r2, 0, none⟩) 2 2) hx hw hg
  exact ⟨q1, lies2 (y := ofK kd [b, c]) kd (q3 r2 _ rfl h2) (ha.on q2) (lies2 kd (q3 r1 _ rfl h1) (hb.on q2) (hc.on q2)), q2⟩
theorem finL0 {wr w9 : World} {r1 r2 : Nat} {kd : Int} {a b c : Doc} {Aa Ab Ac : Option Addr} {ca cb cc : Nat} (ha : Lies wr a Aa ca) (hb : Lies wr b Ab cb) (hc : Lies wr c Ac cc) (hw : Below wr.heap.size wr w9)
    (h1 : w9.heap[r1]? = some (.cells #[.int .i64 a.kind, .string a.text, .int .i64 a.n, .slice Aa a.kids.length ca, .int .i64 b.kind, .string b.text, .int .i64 b.n, .slice Ab b.kids.length cb] 24 (0, 0)))
    (h2 : w9.heap[r2]? = some (.cells #[.int .i64 kd, .string ⟨#[]⟩, .int .i64 0, .slice (some ⟨r1, 0, none⟩) 2 2, .int .i64 c.kind, .string c.text, .int .i64 c.n, .slice Ac c.kids.length cc] 24 (0, 0))) :
    Box4 (w9.alloc (.cells #[.int .i64 kd, .string ⟨#[]⟩, .int .i64 0, .slice (some ⟨r2, 0, none⟩) 2 2] 24)) w9.heap.size (.int .i64 kd) (.string ⟨#[]⟩) (.int .i64 0) (.slice (some ⟨r2, 0, none⟩) 2 2) ∧
    Lies (w9.alloc (.cells #[.int .i64 kd, .string ⟨#[]⟩, .int .i64 0, .slice (some ⟨r2, 0, none⟩) 2 2] 24)) (ofK kd [ofK kd [a, b], c]) (some ⟨r2, 0, none⟩) 2 ∧
    Below wr.heap.size wr (w9.alloc (.cells #[.int .i64 kd, .string ⟨#[]⟩, .int .i64 0, .slice (some ⟨r2, 0, none⟩) 2 2] 24)) := by
  have q2 := bl_alloc hw (.cells #[.int .i64 kd, .string ⟨#[]⟩, .int .i64 0, .slice (some ⟨r2, 0, none⟩) 2 2] 24)
  exact ⟨box_of (heap_alloc_new w9 _), lies2 (x := ofK kd [a, b]) kd (blk_al h2) (lies2 kd (blk_al h1) (ha.on q2) (hb.on q2)) (hc.on q2), q2⟩
theorem finR0 {wr w9 : World} {r1 r2 : Nat} {kd : Int} {a b c : Doc} {Aa Ab Ac : Option Addr} {ca cb cc : Nat} (ha : Lies wr a Aa ca) (hb : Lies wr b Ab cb) (hc : Lies wr c Ac cc) (hw : Below wr.heap.size wr w9)
    (h1 : w9.heap[r1]? = some (.cells #[.int .i64 b.kind, .string b.text, .int .i64 b.n, .slice Ab b.kids.length cb, .int .i64 c.kind, .string c.text, .int .i64 c.n, .slice Ac c.kids.length cc] 24 (0, 0)))
    (h2 : w9.heap[r2]? = some (.cells #[.int .i64 a.kind, .string a.text, .int .i64 a.n, .slice Aa a.kids.length ca, .int .i64 kd, .string ⟨#[]⟩, .int .i64 0, .slice (some ⟨r1, 0, none⟩) 2 2] 24 (0, 0))) :
    Box4 (w9.alloc (.cells #[.int .i64 kd, .string ⟨#[]⟩, .int .i64 0, .slice (some ⟨r2, 0, none⟩) 2 2] 24)) w9.heap.size (.int .i64 kd) (.string ⟨#[]⟩) (.int .i64 0) (.slice (some ⟨r2, 0, none⟩) 2 2) ∧
    Lies (w9.alloc (.cells #[.int .i64 kd, .string ⟨#[]⟩, .int .i64 0, .slice (some ⟨r2, 0, none⟩) 2 2] 24)) (ofK kd [a, ofK kd [b, c]]) (some ⟨r2, 0, none⟩) 2 ∧
    Below wr.heap.size wr (w9.alloc (.cells #[.int .i64 kd, .string ⟨#[]⟩, .int .i64 0, .slice (some ⟨r2, 0, none⟩) 2 2] 24)) := by
  have q2 := bl_alloc hw (.cells #[.int .i64 kd, .string ⟨#[]⟩, .int .i64 0, .slice (some ⟨r2, 0, none⟩) 2 2] 24)
  exact ⟨box_of (heap_alloc_new w9 _), lies2 (y := ofK kd [b, c]) kd (blk_al h2) (ha.on q2) (lies2 kd (blk_al h1) (hb.on q2) (hc.on q2)), q2⟩
theorem boxfirst {X w' : World} {cs : Array Value} {T : TypeId} (hb : Below ((X.alloc (.cells #[.int .i64 0, .string ⟨#[]⟩, .int .i64 0, .slice none 0 0] 24)).alloc (.cells cs T)).heap.size ((X.alloc (.cells #[.int .i64 0, .string ⟨#[]⟩, .int .i64 0, .slice none 0 0] 24)).alloc (.cells cs T)) w') : w'.heap[X.heap.size]? = some (.cells #[.int .i64 0, .string ⟨#[]⟩, .int .i64 0, .slice none 0 0] 24 (0, 0)) ∧ w'.heap[(X.alloc (.cells #[.int .i64 0, .string ⟨#[]⟩, .int .i64 0, .slice none 0 0] 24)).heap.size]? = some (.cells cs T (0, 0)) :=
  ⟨blk_on (blk_al (heap_alloc_new X _)) hb, blk_new hb⟩
theorem rowfirst {X w' : World} {cs : Array Value} {T : TypeId} (hb : Below ((X.alloc (.cells cs T)).alloc (.cells #[.int .i64 0, .string ⟨#[]⟩, .int .i64 0, .slice none 0 0] 24)).heap.size ((X.alloc (.cells cs T)).alloc (.cells #[.int .i64 0, .string ⟨#[]⟩, .int .i64 0, .slice none 0 0] 24)) w') : w'.heap[X.heap.size]? = some (.cells cs T (0, 0)) ∧ w'.heap[(X.alloc (.cells cs T)).heap.size]? = some (.cells #[.int .i64 0, .string ⟨#[]⟩, .int .i64 0, .slice none 0 0] 24 (0, 0)) :=
  ⟨blk_on (blk_al (heap_alloc_new X _)) hb, blk_new hb⟩
/-- A row of four, of which the second is nothing. -/
theorem kids4 {w : World} {r : Nat} {a b c : Doc} {Aa Ab Ac : Option Addr} {ca cb cc : Nat}
    (h : w.heap[r]? = some (.cells #[.int .i64 a.kind, .string a.text, .int .i64 a.n, .slice Aa a.kids.length ca, .int .i64 0, .string ⟨#[]⟩, .int .i64 0, .slice none 0 0, .int .i64 b.kind, .string b.text, .int .i64 b.n, .slice Ab b.kids.length cb, .int .i64 c.kind, .string c.text, .int .i64 c.n, .slice Ac c.kids.length cc] 24 (0, 0)))
    (ha : Lies w a Aa ca) (hb : Lies w b Ab cb) (hc : Lies w c Ac cc) : KidsAt w.heap.size w [a, emptyD, b, c] (some ⟨r, 0, none⟩) := by
  have hr := (Array.getElem?_eq_some_iff.1 h).1
  refine ⟨r, 0, rfl, docAt_iff.2 ⟨Aa, ca, hr, ?_, ?_, ?_, ?_, ha.cap, ha.nil, ha.kids⟩, r, 4, rfl, docAt_iff.2 ⟨none, 0, hr, ?_, ?_, ?_, ?_, Nat.le_refl _, fun _ => rfl, trivial⟩, r, 8, rfl, docAt_iff.2 ⟨Ab, cb, hr, ?_, ?_, ?_, ?_, hb.cap, hb.nil, hb.kids⟩, r, 12, rfl, docAt_iff.2 ⟨Ac, cc, hr, ?_, ?_, ?_, ?_, hc.cap, hc.nil, hc.kids⟩, trivial⟩ <;> (rw [Lib.cell_of_heap h]; rfl)

set_option maxRecDepth 100000 in
set_option maxHeartbeats 32000000 in
theorem renderJoins_any (a b c : Doc) (Aa Ab Ac : Option Addr) (ca cb cc : Nat) (wd rb md : Int) (w : World) (hT : Lib.Utf8Tabs 1 2 w) (hm : MaxI w) (hOa : a.Ok) (hnila : Aa = none → ca = 0) (hcapa : a.kids.length ≤ ca) (hKa : KidsAt w.heap.size w a.kids Aa) (hOb : b.Ok) (hnilb : Ab = none → cb = 0) (hcapb : b.kids.length ≤ cb) (hKb : KidsAt w.heap.size w b.kids Ab) (hOc : c.Ok) (hnilc : Ac = none → cc = 0) (hcapc : c.kids.length ≤ cc) (hKc : KidsAt w.heap.size w c.kids Ac) :
    Calls Tryd.prog 11 #[.agg #[.int .i64 a.kind, .string a.text, .int .i64 a.n, .slice Aa a.kids.length ca], .agg #[.int .i64 b.kind, .string b.text, .int .i64 b.n, .slice Ab b.kids.length cb], .agg #[.int .i64 c.kind, .string c.text, .int .i64 c.n, .slice Ac c.kids.length cc], .agg #[.int .i64 wd, .int .i64 rb, .int .i64 md]] w fun e w' => e = .returned (.bool true) ∧ Below w.heap.size w w' := by
  obtain ⟨hba, hwa, hsa⟩ := box_new w (.int .i64 a.kind) (.string a.text) (.int .i64 a.n) (.slice Aa a.kids.length ca)
  obtain ⟨W1, hW1⟩ : ∃ W, w.alloc (.cells #[.int .i64 a.kind, .string a.text, .int .i64 a.n, .slice Aa a.kids.length ca] 24) = W := ⟨_, rfl⟩
  rw [hW1] at hba hwa hsa
  obtain ⟨hbb, hwb, hsb⟩ := box_new W1 (.int .i64 b.kind) (.string b.text) (.int .i64 b.n) (.slice Ab b.kids.length cb)
  obtain ⟨W2, hW2⟩ : ∃ W, W1.alloc (.cells #[.int .i64 b.kind, .string b.text, .int .i64 b.n, .slice Ab b.kids.length cb] 24) = W := ⟨_, rfl⟩
  rw [hW2] at hbb hwb hsb
  obtain ⟨hbc, hwc, hsc⟩ := box_new W2 (.int .i64 c.kind) (.string c.text) (.int .i64 c.n) (.slice Ac c.kids.length cc)
  obtain ⟨W3, hW3⟩ : ∃ W, W2.alloc (.cells #[.int .i64 c.kind, .string c.text, .int .i64 c.n, .slice Ac c.kids.length cc] 24) = W := ⟨_, rfl⟩
  rw [hW3] at hbc hwc hsc
  have hwx := (Below.refl W3.heap.size W3).alloc (Nat.le_refl _) (.cells #[.int .i64 wd, .int .i64 rb, .int .i64 md] 41)
  have t0 : (W3.alloc (.cells #[.int .i64 wd, .int .i64 rb, .int .i64 md] 41)).cell? ⟨W3.heap.size, 0, none⟩ = some (.int .i64 wd) := by simp
  have t1 : (W3.alloc (.cells #[.int .i64 wd, .int .i64 rb, .int .i64 md] 41)).cell? ⟨W3.heap.size, 1, none⟩ = some (.int .i64 rb) := by simp
  have t2 : (W3.alloc (.cells #[.int .i64 wd, .int .i64 rb, .int .i64 md] 41)).cell? ⟨W3.heap.size, 2, none⟩ = some (.int .i64 md) := by simp
  obtain ⟨W, hW⟩ : ∃ W', W3.alloc (.cells #[.int .i64 wd, .int .i64 rb, .int .i64 md] 41) = W' := ⟨_, rfl⟩
  have hsx : W.heap.size = W3.heap.size + 1 := by rw [← hW]; simp
  rw [hW] at hwx t0 t1 t2
  have hl1 : w.heap.size < W1.heap.size := by omega
  have hl2 : W1.heap.size < W2.heap.size := by omega
  have hl3 : W2.heap.size < W3.heap.size := by omega
  have hl4 : W3.heap.size < W.heap.size := by omega
  have hlw : w.heap.size < W.heap.size := by omega
  have hlb : W1.heap.size < W.heap.size := by omega
  have hlc : W2.heap.size < W.heap.size := by omega
  have HXa := Lib.hid (((hba.below hwb hl1).below hwc (by omega)).below hwx (by omega))
  have HXb := Lib.hid ((hbb.below hwc hl2).below hwx (by omega))
  have HXc := Lib.hid (hbc.below hwx hl3)
  have hbw := ((hwa.trans (hwb.mono (by omega))).trans (hwc.mono (by omega))).trans (hwx.mono (by omega))
  have HB := Lib.hid hbw
  have HT := Lib.hid (Utf8Tabs_below hT hbw)
  have HTT := Lib.hid (And.intro t0 (And.intro t1 t2))
  have HKa := Lib.hid (kidsAt_on hKa hbw)
  have HKb := Lib.hid (kidsAt_on hKb hbw)
  have HKc := Lib.hid (kidsAt_on hKc hbw)
  have HNa := Lib.hid hnila
  have HNb := Lib.hid hnilb
  have HNc := Lib.hid hnilc
  have HC := Lib.hid (awake19_any W HT.out (hm.below hbw))
  clear hba hwa hsa hbb hwb hsb hbc hwc hsc hwx hsx t0 t1 t2 hbw hT hm hKa hKb hKc hnila hnilb hnilc
  go_enter Tryd.func11, Tryd.ntmps11
  go_wp2_with fail
  clear hW hW1 hW2 hW3
  refine HC.out.mono ?_
  rintro e u0 ⟨rfl, hb0⟩
  have HB0 := Lib.hid hb0
  clear hb0 HC
  obtain ⟨x0, x1, x2, x3, _, _, _, _⟩ := HXa.out.below HB0.out hlw
  have HC0 := Lib.hid (much_ok a Aa ca 100 u0 hOa (kidsAt_on HKa.out HB0.out))
  go_wp2_with fail
  refine HC0.out.mono ?_
  rintro e u1 ⟨rfl, hb⟩
  have HB1 := Lib.hid (HB0.out.trans (hb.mono HB0.out.size))
  clear hb HC0 x0 x1 x2 x3
  by_cases ma : 100 < a.cnt 0
  · have g0 : decide (100 < a.cnt 0) = true := decide_eq_true ma
    clear ma
    go_wp2
    go_ret
    exact ⟨rfl, HB.out.trans (HB1.out.mono (Nat.le_of_lt hlw))⟩
  have g0 : decide (100 < a.cnt 0) = false := decide_eq_false ma
  have HMa := Lib.hid ma
  have hBa : a.wt ≤ 4194304 := by have := small_wt (by decide) ma; omega
  clear ma
  obtain ⟨x0, x1, x2, x3, _, _, _, _⟩ := HXb.out.below HB1.out hlb
  have HC1 := Lib.hid (much_ok b Ab cb 100 u1 hOb (kidsAt_on HKb.out HB1.out))
  go_wp2_with fail
  refine HC1.out.mono ?_
  rintro e u2 ⟨rfl, hb⟩
  have HB2 := Lib.hid (HB1.out.trans (hb.mono HB1.out.size))
  clear hb HC1 x0 x1 x2 x3
  by_cases mb : 100 < b.cnt 0
  · have g1 : decide (100 < b.cnt 0) = true := decide_eq_true mb
    clear mb
    go_wp2
    go_ret
    exact ⟨rfl, HB.out.trans (HB2.out.mono (Nat.le_of_lt hlw))⟩
  have g1 : decide (100 < b.cnt 0) = false := decide_eq_false mb
  have HMb := Lib.hid mb
  have hBb : b.wt ≤ 4194304 := by have := small_wt (by decide) mb; omega
  clear mb
  obtain ⟨x0, x1, x2, x3, _, _, _, _⟩ := HXc.out.below HB2.out hlc
  have HC2 := Lib.hid (much_ok c Ac cc 100 u2 hOc (kidsAt_on HKc.out HB2.out))
  go_wp2_with fail
  refine HC2.out.mono ?_
  rintro e u3 ⟨rfl, hb⟩
  have HB3 := Lib.hid (HB2.out.trans (hb.mono HB2.out.size))
  clear hb HC2 x0 x1 x2 x3
  by_cases mc : 100 < c.cnt 0
  · have g2 : decide (100 < c.cnt 0) = true := decide_eq_true mc
    clear mc
    go_wp2
    go_ret
    exact ⟨rfl, HB.out.trans (HB3.out.mono (Nat.le_of_lt hlw))⟩
  have g2 : decide (100 < c.cnt 0) = false := decide_eq_false mc
  have HMc := Lib.hid mc
  have hBc : c.wt ≤ 4194304 := by have := small_wt (by decide) mc; omega
  clear mc
  obtain ⟨x0, x1, x2, x3, _, _, _, _⟩ := HXa.out.below HB3.out hlw
  have HC3 := Lib.hid (pcheck_any a Aa ca u3 (by omega) (Utf8Tabs_below HT.out HB3.out) (kidsAt_on HKa.out HB3.out))
  go_wp2_with fail
  refine HC3.out.mono ?_
  rintro e u4 ⟨rfl, hb⟩
  have HB4 := Lib.hid (HB3.out.trans (hb.mono HB3.out.size))
  clear hb HC3 x0 x1 x2 x3
  cases ka : (checkN a == 0) with
  | false =>
    have g3 : (checkN a != 0) = true := by simp [bne, ka]
    clear ka
    go_wp2
    go_ret
    exact ⟨rfl, HB.out.trans (HB4.out.mono (Nat.le_of_lt hlw))⟩
  | true =>
    have g3 : (checkN a != 0) = false := by simp [bne, ka]
    have HSa := Lib.hid (sm_of (by have := HMa.out; omega) (show checkN a = 0 by simpa using ka))
    clear ka
    obtain ⟨x0, x1, x2, x3, _, _, _, _⟩ := HXb.out.below HB4.out hlb
    have HC4 := Lib.hid (pcheck_any b Ab cb u4 (by omega) (Utf8Tabs_below HT.out HB4.out) (kidsAt_on HKb.out HB4.out))
    go_wp2_with fail
    refine HC4.out.mono ?_
    rintro e u5 ⟨rfl, hb⟩
    have HB5 := Lib.hid (HB4.out.trans (hb.mono HB4.out.size))
    clear hb HC4 x0 x1 x2 x3
    cases kb : (checkN b == 0) with
    | false =>
      have g4 : (checkN b != 0) = true := by simp [bne, kb]
      clear kb
      go_wp2
      go_ret
      exact ⟨rfl, HB.out.trans (HB5.out.mono (Nat.le_of_lt hlw))⟩
    | true =>
      have g4 : (checkN b != 0) = false := by simp [bne, kb]
      have HSb := Lib.hid (sm_of (by have := HMb.out; omega) (show checkN b = 0 by simpa using kb))
      clear kb
      obtain ⟨x0, x1, x2, x3, _, _, _, _⟩ := HXc.out.below HB5.out hlc
      have HC5 := Lib.hid (pcheck_any c Ac cc u5 (by omega) (Utf8Tabs_below HT.out HB5.out) (kidsAt_on HKc.out HB5.out))
      go_wp2_with fail
      refine HC5.out.mono ?_
      rintro e u6 ⟨rfl, hb⟩
      have HB6 := Lib.hid (HB5.out.trans (hb.mono HB5.out.size))
      clear hb HC5 x0 x1 x2 x3
      cases kc : (checkN c == 0) with
      | false =>
        have g5 : (checkN c != 0) = true := by simp [bne, kc]
        clear kc
        go_wp2
        go_ret
        exact ⟨rfl, HB.out.trans (HB6.out.mono (Nat.le_of_lt hlw))⟩
      | true =>
        have g5 : (checkN c != 0) = false := by simp [bne, kc]
        have HSc := Lib.hid (sm_of (by have := HMc.out; omega) (show checkN c = 0 by simpa using kc))
        clear kc
        have hck := Box4.new u6 (.int .i64 3) (.int .i64 4) (.int .i64 5) (.int .i64 6) 3
        have hbk := (Below.refl u6.heap.size u6).alloc (Nat.le_refl _) (.cells #[.int .i64 3, .int .i64 4, .int .i64 5, .int .i64 6] 3)
        obtain ⟨V, hV⟩ : ∃ V, u6.alloc (.cells #[.int .i64 3, .int .i64 4, .int .i64 5, .int .i64 6] 3) = V := ⟨_, rfl⟩
        have hsk : u6.heap.size < V.heap.size := by rw [← hV]; simp
        rw [hV] at hbk hck
        have HCK := Lib.hid hck
        have HV := Lib.hid (HB6.out.trans (hbk.mono HB6.out.size))
        clear hbk hck
        go_wp2_with fail
        clear hV
        have hkV : W.heap.size < V.heap.size := by have := HB6.out.size; omega
        go_loopw [11] (fun i wr => ∃ k : Nat, k ≤ 4 ∧ i = .int .i64 k ∧ Below V.heap.size V wr) (fun i wr => 4 - (intOf i).toNat)
        case atStart => exact ⟨0, by omega, rfl, Below.refl _ _⟩
        case round =>
          obtain ⟨k, hk, rfl, hB⟩ := hrel
          have HR := Lib.hid hB
          have hsr := hB.size
          by_cases hlt : k < 4
          · obtain ⟨kd, hkc, hj1, hj2⟩ : ∃ kd, wr.cell? ⟨u6.heap.size, k, none⟩ = some (.int .i64 kd) ∧ 3 ≤ kd ∧ kd ≤ 6 := by
              have hcell : ∀ j, wr.cell? ⟨u6.heap.size, j, none⟩ = V.cell? ⟨u6.heap.size, j, none⟩ := fun j => hB.cell (p := ⟨_, _, none⟩) hsk
              rcases (by omega : k = 0 ∨ k = 1 ∨ k = 2 ∨ k = 3) with rfl | rfl | rfl | rfl
              · exact ⟨3, by rw [hcell, HCK.out.c0], by omega, by omega⟩
              · exact ⟨4, by rw [hcell, HCK.out.c1], by omega, by omega⟩
              · exact ⟨5, by rw [hcell, HCK.out.c2], by omega, by omega⟩
              · exact ⟨6, by rw [hcell, HCK.out.c3], by omega, by omega⟩
            have HVR := Lib.hid (HV.out.trans (hB.mono (Nat.le_of_lt hkV)))
            clear hB
            obtain ⟨xa0, xa1, xa2, xa3, _, _, _, _⟩ := HXa.out.below HVR.out hlw
            obtain ⟨xb0, xb1, xb2, xb3, _, _, _, _⟩ := HXb.out.below HVR.out hlb
            obtain ⟨xc0, xc1, xc2, xc3, _, _, _, _⟩ := HXc.out.below HVR.out hlc
            have hwr : W.heap.size < wr.heap.size := by omega
            have hur : u6.heap.size < wr.heap.size := by omega
            go_upto_region 8 with (fail)
            have hwr0 : w.heap.size < wr.heap.size := by omega
            have hwr1 : W1.heap.size < wr.heap.size := by omega
            have hwr2 : W2.heap.size < wr.heap.size := by omega
            have HSS := Lib.hid (show ∀ w' : World, Below wr.heap.size wr w' → (w'.cell? ⟨u6.heap.size, k, none⟩ = some (.int .i64 kd) ∧ w'.cell? ⟨w.heap.size, 0, none⟩ = some (.int .i64 a.kind) ∧ w'.cell? ⟨w.heap.size, 1, none⟩ = some (.string a.text) ∧ w'.cell? ⟨w.heap.size, 2, none⟩ = some (.int .i64 a.n) ∧ w'.cell? ⟨w.heap.size, 3, none⟩ = some (.slice Aa a.kids.length ca) ∧ w'.cell? ⟨W1.heap.size, 0, none⟩ = some (.int .i64 b.kind) ∧ w'.cell? ⟨W1.heap.size, 1, none⟩ = some (.string b.text) ∧ w'.cell? ⟨W1.heap.size, 2, none⟩ = some (.int .i64 b.n) ∧ w'.cell? ⟨W1.heap.size, 3, none⟩ = some (.slice Ab b.kids.length cb) ∧ w'.cell? ⟨W2.heap.size, 0, none⟩ = some (.int .i64 c.kind) ∧ w'.cell? ⟨W2.heap.size, 1, none⟩ = some (.string c.text) ∧ w'.cell? ⟨W2.heap.size, 2, none⟩ = some (.int .i64 c.n) ∧ w'.cell? ⟨W2.heap.size, 3, none⟩ = some (.slice Ac c.kids.length cc) ∧ Below wr.heap.size wr w') from fun w' hb => ⟨(hb.cell (p := ⟨u6.heap.size, k, none⟩) hur).trans hkc, (hb.cell (p := ⟨w.heap.size, 0, none⟩) hwr0).trans xa0, (hb.cell (p := ⟨w.heap.size, 1, none⟩) hwr0).trans xa1, (hb.cell (p := ⟨w.heap.size, 2, none⟩) hwr0).trans xa2, (hb.cell (p := ⟨w.heap.size, 3, none⟩) hwr0).trans xa3, (hb.cell (p := ⟨W1.heap.size, 0, none⟩) hwr1).trans xb0, (hb.cell (p := ⟨W1.heap.size, 1, none⟩) hwr1).trans xb1, (hb.cell (p := ⟨W1.heap.size, 2, none⟩) hwr1).trans xb2, (hb.cell (p := ⟨W1.heap.size, 3, none⟩) hwr1).trans xb3, (hb.cell (p := ⟨W2.heap.size, 0, none⟩) hwr2).trans xc0, (hb.cell (p := ⟨W2.heap.size, 1, none⟩) hwr2).trans xc1, (hb.cell (p := ⟨W2.heap.size, 2, none⟩) hwr2).trans xc2, (hb.cell (p := ⟨W2.heap.size, 3, none⟩) hwr2).trans xc3, hb⟩)
            have HLa := Lib.hid (show Lies wr a Aa ca from ⟨hcapa, HNa.out, kidsAt_on HKa.out HVR.out⟩)
            have HLb := Lib.hid (show Lies wr b Ab cb from ⟨hcapb, HNb.out, kidsAt_on HKb.out HVR.out⟩)
            have HLc := Lib.hid (show Lies wr c Ac cc from ⟨hcapc, HNc.out, kidsAt_on HKc.out HVR.out⟩)
            go_cut [12] (fun s12 wx => ∃ g r : Nat, s12 = .pointer (some ⟨g, 0, none⟩) ∧ Box4 wx g (.int .i64 kd) (.string ⟨#[]⟩) (.int .i64 0) (.slice (some ⟨r, 0, none⟩) 2 2) ∧ Lies wx (ofK kd [ofK kd [a, b], c]) (some ⟨r, 0, none⟩) 2 ∧ Below wr.heap.size wr wx)
            case first =>
              go_region_held3 (fun w' : World => w'.cell? ⟨u6.heap.size, k, none⟩ = some (.int .i64 kd) ∧ w'.cell? ⟨w.heap.size, 0, none⟩ = some (.int .i64 a.kind) ∧ w'.cell? ⟨w.heap.size, 1, none⟩ = some (.string a.text) ∧ w'.cell? ⟨w.heap.size, 2, none⟩ = some (.int .i64 a.n) ∧ w'.cell? ⟨w.heap.size, 3, none⟩ = some (.slice Aa a.kids.length ca) ∧ w'.cell? ⟨W1.heap.size, 0, none⟩ = some (.int .i64 b.kind) ∧ w'.cell? ⟨W1.heap.size, 1, none⟩ = some (.string b.text) ∧ w'.cell? ⟨W1.heap.size, 2, none⟩ = some (.int .i64 b.n) ∧ w'.cell? ⟨W1.heap.size, 3, none⟩ = some (.slice Ab b.kids.length cb) ∧ w'.cell? ⟨W2.heap.size, 0, none⟩ = some (.int .i64 c.kind) ∧ w'.cell? ⟨W2.heap.size, 1, none⟩ = some (.string c.text) ∧ w'.cell? ⟨W2.heap.size, 2, none⟩ = some (.int .i64 c.n) ∧ w'.cell? ⟨W2.heap.size, 3, none⟩ = some (.slice Ac c.kids.length cc) ∧ Below wr.heap.size wr w')
                (first | (exact HSS.out _ (fill_box hx9 HW9.out (by have := HW4.out.size; have := HW9.out.size; omega)).2.1) | (exact HSS.out _ (fill_box (heap_alloc_new w9 _) (bl_alloc HW9.out _) (by have := HW4.out.size; have := HW9.out.size; omega)).2.1) | (exact HSS.out _ (bl_alloc HW9.out _)) | (exact HSS.out _ HW9.out) | (exact HSS.out _ (bl_alloc (bl_alloc HW4.out _) _)) | (exact HSS.out _ (bl_alloc HW4.out _)) | (exact HSS.out _ HW4.out) | (exact HSS.out _ (bl_alloc (bl_alloc (Below.refl _ _).drew _) _)) | (exact HSS.out _ (bl_alloc (Below.refl _ _).drew _)) | (exact HSS.out _ (Below.refl _ _).drew) | assumption)
                (first | (go_at_call 38; refine (of19_any _ _ _ _ _).mono ?_; rintro e w9 ⟨rfl, hbf⟩; refine imp_of (And.intro (boxfirst hbf) (blk_on (blk_al (blk_al hr58)) hbf)) ?_; rintro ⟨⟨hx9, hr61⟩, hr9⟩; (try simp only [World.size_alloc] at hx9); (try simp only [World.size_alloc] at hr61); obtain ⟨bc0, bc1, bc2, bc3, bf0, bf1, bf2, bf3⟩ := box_of hx9; have HW9 := Lib.hid (bl_call (bl_alloc (bl_alloc HW4.out _) _) hbf)) | (go_at_call 38; refine (of19_any _ _ _ _ _).mono ?_; rintro e w9 ⟨rfl, hbf⟩; refine imp_of (And.intro (rowfirst hbf) (blk_on (blk_al (blk_al hr58)) hbf)) ?_; rintro ⟨⟨hr61, hx9⟩, hr9⟩; (try simp only [World.size_alloc] at hx9); (try simp only [World.size_alloc] at hr61); obtain ⟨bc0, bc1, bc2, bc3, bf0, bf1, bf2, bf3⟩ := box_of hx9; have HW9 := Lib.hid (bl_call (bl_alloc (bl_alloc HW4.out _) _) hbf)) | (go_at_call 38; refine (of19_any _ _ _ _ _).mono ?_; rintro e w9 ⟨rfl, hbf⟩; refine imp_of (And.intro (blk_new hbf) (And.intro (blk_on (blk_al hr58) hbf) (blk_on (blk_al hx4) hbf))) ?_; rintro ⟨hr61, hr9, hx9⟩; obtain ⟨bc0, bc1, bc2, bc3, bf0, bf1, bf2, bf3⟩ := box_of hx9; have HW9 := Lib.hid (bl_call (bl_alloc HW4.out _) hbf)) | (go_at_call 38; refine (of19_any _ _ _ _ _).mono ?_; rintro e w9 ⟨rfl, hbf⟩; refine imp_of (And.intro (blk_new hbf) (blk_on (blk_al hr58) hbf)) ?_; rintro ⟨hr61, hr9⟩; have HW9 := Lib.hid (bl_call (bl_alloc HW4.out _) hbf)) | (go_at_call 38; refine (of19_any _ _ _ _ _).mono ?_; rintro e w4 ⟨rfl, hbf⟩; refine imp_of (boxfirst (undrew hbf)) ?_; rintro ⟨hx4, hr58⟩; (try simp only [World.size_alloc] at hx4); (try simp only [World.size_alloc] at hr58); have HW4 := Lib.hid (bl_call (bl_alloc (bl_alloc (Below.refl _ _) _) _) (undrew hbf))) | (go_at_call 38; refine (of19_any _ _ _ _ _).mono ?_; rintro e w4 ⟨rfl, hbf⟩; refine imp_of (rowfirst (undrew hbf)) ?_; rintro ⟨hr58, hx4⟩; (try simp only [World.size_alloc] at hx4); (try simp only [World.size_alloc] at hr58); have HW4 := Lib.hid (bl_call (bl_alloc (bl_alloc (Below.refl _ _) _) _) (undrew hbf))) | (go_at_call 38; refine (of19_any _ _ _ _ _).mono ?_; rintro e w4 ⟨rfl, hbf⟩; refine imp_of (blk_new (undrew hbf)) ?_; intro hr58; have HW4 := Lib.hid (bl_call (bl_alloc (Below.refl _ _) _) (undrew hbf))))
              all_goals (go_wp2_with fail; go_meet)
              all_goals first
                | exact ⟨_, _, rfl, finL HLa.out HLb.out HLc.out HW9.out hr9 hr61 hx9 (by have := HW4.out.size; have := HW9.out.size; omega)⟩
                | exact ⟨_, _, rfl, finL0 HLa.out HLb.out HLc.out HW9.out hr9 hr61⟩
            case rest =>
              obtain ⟨g8, r8, rfl, hbx8, hl8, hb8⟩ := hcut
              obtain ⟨V8, rfl⟩ : ∃ V, V = wc := ⟨_, rfl⟩
              have HBX8 := Lib.hid hbx8
              have HL8 := Lib.hid hl8
              have HB8' := Lib.hid hb8
              have hsz8 := hb8.size
              have hlt8 := World.block_lt_of_cell? V8 ⟨g8, 0, none⟩ hbx8.c0
              have HSS8 := Lib.hid (show ∀ w' : World, Below V8.heap.size V8 w' → (w'.cell? ⟨u6.heap.size, k, none⟩ = some (.int .i64 kd) ∧ w'.cell? ⟨w.heap.size, 0, none⟩ = some (.int .i64 a.kind) ∧ w'.cell? ⟨w.heap.size, 1, none⟩ = some (.string a.text) ∧ w'.cell? ⟨w.heap.size, 2, none⟩ = some (.int .i64 a.n) ∧ w'.cell? ⟨w.heap.size, 3, none⟩ = some (.slice Aa a.kids.length ca) ∧ w'.cell? ⟨W1.heap.size, 0, none⟩ = some (.int .i64 b.kind) ∧ w'.cell? ⟨W1.heap.size, 1, none⟩ = some (.string b.text) ∧ w'.cell? ⟨W1.heap.size, 2, none⟩ = some (.int .i64 b.n) ∧ w'.cell? ⟨W1.heap.size, 3, none⟩ = some (.slice Ab b.kids.length cb) ∧ w'.cell? ⟨W2.heap.size, 0, none⟩ = some (.int .i64 c.kind) ∧ w'.cell? ⟨W2.heap.size, 1, none⟩ = some (.string c.text) ∧ w'.cell? ⟨W2.heap.size, 2, none⟩ = some (.int .i64 c.n) ∧ w'.cell? ⟨W2.heap.size, 3, none⟩ = some (.slice Ac c.kids.length cc) ∧ Below V8.heap.size V8 w') from fun w' hb => by
                obtain ⟨p0, p1, p2, p3, p4, p5, p6, p7, p8, p9, p10, p11, p12, p13⟩ := HSS.out w' (HB8'.out.trans (hb.mono HB8'.out.size))
                exact ⟨p0, p1, p2, p3, p4, p5, p6, p7, p8, p9, p10, p11, p12, hb⟩)
              have HLa' := Lib.hid (HLa.out.on hb8)
              have HLb' := Lib.hid (HLb.out.on hb8)
              have HLc' := Lib.hid (HLc.out.on hb8)
              clear hbx8 hl8 hb8 HSS HLa HLb HLc
              have HSS := HSS8
              have HLa := HLa'
              have HLb := HLb'
              have HLc := HLc'
              clear HSS8 HLa' HLb' HLc'
              go_upto_region 9 with (fail)
              go_cut [13] (fun s13 wx => ∃ g r : Nat, s13 = .pointer (some ⟨g, 0, none⟩) ∧ Box4 wx g (.int .i64 kd) (.string ⟨#[]⟩) (.int .i64 0) (.slice (some ⟨r, 0, none⟩) 2 2) ∧ Lies wx (ofK kd [a, ofK kd [b, c]]) (some ⟨r, 0, none⟩) 2 ∧ Below V8.heap.size V8 wx)
              case first =>
                go_region_held3 (fun w' : World => w'.cell? ⟨u6.heap.size, k, none⟩ = some (.int .i64 kd) ∧ w'.cell? ⟨w.heap.size, 0, none⟩ = some (.int .i64 a.kind) ∧ w'.cell? ⟨w.heap.size, 1, none⟩ = some (.string a.text) ∧ w'.cell? ⟨w.heap.size, 2, none⟩ = some (.int .i64 a.n) ∧ w'.cell? ⟨w.heap.size, 3, none⟩ = some (.slice Aa a.kids.length ca) ∧ w'.cell? ⟨W1.heap.size, 0, none⟩ = some (.int .i64 b.kind) ∧ w'.cell? ⟨W1.heap.size, 1, none⟩ = some (.string b.text) ∧ w'.cell? ⟨W1.heap.size, 2, none⟩ = some (.int .i64 b.n) ∧ w'.cell? ⟨W1.heap.size, 3, none⟩ = some (.slice Ab b.kids.length cb) ∧ w'.cell? ⟨W2.heap.size, 0, none⟩ = some (.int .i64 c.kind) ∧ w'.cell? ⟨W2.heap.size, 1, none⟩ = some (.string c.text) ∧ w'.cell? ⟨W2.heap.size, 2, none⟩ = some (.int .i64 c.n) ∧ w'.cell? ⟨W2.heap.size, 3, none⟩ = some (.slice Ac c.kids.length cc) ∧ Below V8.heap.size V8 w')
                  (first | (exact HSS.out _ (fill_box hx9 HW9.out (by have := HW4.out.size; have := HW9.out.size; omega)).2.1) | (exact HSS.out _ (fill_box (heap_alloc_new w9 _) (bl_alloc HW9.out _) (by have := HW4.out.size; have := HW9.out.size; omega)).2.1) | (exact HSS.out _ (bl_alloc HW9.out _)) | (exact HSS.out _ HW9.out) | (exact HSS.out _ (bl_alloc (bl_alloc HW4.out _) _)) | (exact HSS.out _ (bl_alloc HW4.out _)) | (exact HSS.out _ HW4.out) | (exact HSS.out _ (bl_alloc (bl_alloc (Below.refl _ _).drew _) _)) | (exact HSS.out _ (bl_alloc (Below.refl _ _).drew _)) | (exact HSS.out _ (Below.refl _ _).drew) | assumption)
                  (first | (go_at_call 38; refine (of19_any _ _ _ _ _).mono ?_; rintro e w9 ⟨rfl, hbf⟩; refine imp_of (And.intro (boxfirst hbf) (blk_on (blk_al (blk_al hr58)) hbf)) ?_; rintro ⟨⟨hx9, hr61⟩, hr9⟩; (try simp only [World.size_alloc] at hx9); (try simp only [World.size_alloc] at hr61); obtain ⟨bc0, bc1, bc2, bc3, bf0, bf1, bf2, bf3⟩ := box_of hx9; have HW9 := Lib.hid (bl_call (bl_alloc (bl_alloc HW4.out _) _) hbf)) | (go_at_call 38; refine (of19_any _ _ _ _ _).mono ?_; rintro e w9 ⟨rfl, hbf⟩; refine imp_of (And.intro (rowfirst hbf) (blk_on (blk_al (blk_al hr58)) hbf)) ?_; rintro ⟨⟨hr61, hx9⟩, hr9⟩; (try simp only [World.size_alloc] at hx9); (try simp only [World.size_alloc] at hr61); obtain ⟨bc0, bc1, bc2, bc3, bf0, bf1, bf2, bf3⟩ := box_of hx9; have HW9 := Lib.hid (bl_call (bl_alloc (bl_alloc HW4.out _) _) hbf)) | (go_at_call 38; refine (of19_any _ _ _ _ _).mono ?_; rintro e w9 ⟨rfl, hbf⟩; refine imp_of (And.intro (blk_new hbf) (And.intro (blk_on (blk_al hr58) hbf) (blk_on (blk_al hx4) hbf))) ?_; rintro ⟨hr61, hr9, hx9⟩; obtain ⟨bc0, bc1, bc2, bc3, bf0, bf1, bf2, bf3⟩ := box_of hx9; have HW9 := Lib.hid (bl_call (bl_alloc HW4.out _) hbf)) | (go_at_call 38; refine (of19_any _ _ _ _ _).mono ?_; rintro e w9 ⟨rfl, hbf⟩; refine imp_of (And.intro (blk_new hbf) (blk_on (blk_al hr58) hbf)) ?_; rintro ⟨hr61, hr9⟩; have HW9 := Lib.hid (bl_call (bl_alloc HW4.out _) hbf)) | (go_at_call 38; refine (of19_any _ _ _ _ _).mono ?_; rintro e w4 ⟨rfl, hbf⟩; refine imp_of (boxfirst (undrew hbf)) ?_; rintro ⟨hx4, hr58⟩; (try simp only [World.size_alloc] at hx4); (try simp only [World.size_alloc] at hr58); have HW4 := Lib.hid (bl_call (bl_alloc (bl_alloc (Below.refl _ _) _) _) (undrew hbf))) | (go_at_call 38; refine (of19_any _ _ _ _ _).mono ?_; rintro e w4 ⟨rfl, hbf⟩; refine imp_of (rowfirst (undrew hbf)) ?_; rintro ⟨hr58, hx4⟩; (try simp only [World.size_alloc] at hx4); (try simp only [World.size_alloc] at hr58); have HW4 := Lib.hid (bl_call (bl_alloc (bl_alloc (Below.refl _ _) _) _) (undrew hbf))) | (go_at_call 38; refine (of19_any _ _ _ _ _).mono ?_; rintro e w4 ⟨rfl, hbf⟩; refine imp_of (blk_new (undrew hbf)) ?_; intro hr58; have HW4 := Lib.hid (bl_call (bl_alloc (Below.refl _ _) _) (undrew hbf))))
                all_goals (go_wp2_with fail; go_meet)
                all_goals first
                  | exact ⟨_, _, rfl, finR HLa.out HLb.out HLc.out HW9.out hr9 hr61 hx9 (by have := HW4.out.size; have := HW9.out.size; omega)⟩
                  | exact ⟨_, _, rfl, finR0 HLa.out HLb.out HLc.out HW9.out hr9 hr61⟩
              case rest =>
                obtain ⟨g9, r9, rfl, hbx9, hl9, hb9⟩ := hcut
                obtain ⟨V9, rfl⟩ : ∃ V, V = wc := ⟨_, rfl⟩
                have HBX9 := Lib.hid hbx9
                have HL9 := Lib.hid hl9
                have HB9' := Lib.hid hb9
                have hsz9 := hb9.size
                have hlt9 := World.block_lt_of_cell? V9 ⟨g9, 0, none⟩ hbx9.c0
                have HSS9 := Lib.hid (show ∀ w' : World, Below V9.heap.size V9 w' → (w'.cell? ⟨u6.heap.size, k, none⟩ = some (.int .i64 kd) ∧ w'.cell? ⟨w.heap.size, 0, none⟩ = some (.int .i64 a.kind) ∧ w'.cell? ⟨w.heap.size, 1, none⟩ = some (.string a.text) ∧ w'.cell? ⟨w.heap.size, 2, none⟩ = some (.int .i64 a.n) ∧ w'.cell? ⟨w.heap.size, 3, none⟩ = some (.slice Aa a.kids.length ca) ∧ w'.cell? ⟨W1.heap.size, 0, none⟩ = some (.int .i64 b.kind) ∧ w'.cell? ⟨W1.heap.size, 1, none⟩ = some (.string b.text) ∧ w'.cell? ⟨W1.heap.size, 2, none⟩ = some (.int .i64 b.n) ∧ w'.cell? ⟨W1.heap.size, 3, none⟩ = some (.slice Ab b.kids.length cb) ∧ w'.cell? ⟨W2.heap.size, 0, none⟩ = some (.int .i64 c.kind) ∧ w'.cell? ⟨W2.heap.size, 1, none⟩ = some (.string c.text) ∧ w'.cell? ⟨W2.heap.size, 2, none⟩ = some (.int .i64 c.n) ∧ w'.cell? ⟨W2.heap.size, 3, none⟩ = some (.slice Ac c.kids.length cc) ∧ Below V9.heap.size V9 w') from fun w' hb => by
                  obtain ⟨p0, p1, p2, p3, p4, p5, p6, p7, p8, p9, p10, p11, p12, p13⟩ := HSS.out w' (HB9'.out.trans (hb.mono HB9'.out.size))
                  exact ⟨p0, p1, p2, p3, p4, p5, p6, p7, p8, p9, p10, p11, p12, hb⟩)
                have HLa' := Lib.hid (HLa.out.on hb9)
                have HLb' := Lib.hid (HLb.out.on hb9)
                have HLc' := Lib.hid (HLc.out.on hb9)
                clear hbx9 hl9 hb9 HSS HLa HLb HLc
                have HSS := HSS9
                have HLa := HLa'
                have HLb := HLb'
                have HLc := HLc'
                clear HSS9 HLa' HLb' HLc'
                have HL9R := Lib.hid HL9.out
                clear HL9
                have HL9 := Lib.hid (HL8.out.on HB9'.out)
                have HLR := HL9R
                have HBX8' := Lib.hid (HBX8.out.below HB9'.out hlt8)
                have HVW := Lib.hid (HB8'.out.trans (HB9'.out.mono HB8'.out.size))
                have HWV := Lib.hid (HVR.out.trans (HVW.out.mono (Nat.le_of_lt hwr)))
                have HTV := Lib.hid (Utf8Tabs_below HT.out HWV.out)
                have hl4' := hl4
                have HSX := Lib.hid (show ∀ w' : World, Below V9.heap.size V9 w' → (w'.cell? ⟨u6.heap.size, k, none⟩ = some (.int .i64 kd) ∧ w'.cell? ⟨w.heap.size, 0, none⟩ = some (.int .i64 a.kind) ∧ w'.cell? ⟨w.heap.size, 1, none⟩ = some (.string a.text) ∧ w'.cell? ⟨w.heap.size, 2, none⟩ = some (.int .i64 a.n) ∧ w'.cell? ⟨w.heap.size, 3, none⟩ = some (.slice Aa a.kids.length ca) ∧ w'.cell? ⟨W1.heap.size, 0, none⟩ = some (.int .i64 b.kind) ∧ w'.cell? ⟨W1.heap.size, 1, none⟩ = some (.string b.text) ∧ w'.cell? ⟨W1.heap.size, 2, none⟩ = some (.int .i64 b.n) ∧ w'.cell? ⟨W1.heap.size, 3, none⟩ = some (.slice Ab b.kids.length cb) ∧ w'.cell? ⟨W2.heap.size, 0, none⟩ = some (.int .i64 c.kind) ∧ w'.cell? ⟨W2.heap.size, 1, none⟩ = some (.string c.text) ∧ w'.cell? ⟨W2.heap.size, 2, none⟩ = some (.int .i64 c.n) ∧ w'.cell? ⟨W2.heap.size, 3, none⟩ = some (.slice Ac c.kids.length cc) ∧ w'.cell? ⟨W3.heap.size, 0, none⟩ = some (.int .i64 wd) ∧ w'.cell? ⟨W3.heap.size, 1, none⟩ = some (.int .i64 rb) ∧ w'.cell? ⟨W3.heap.size, 2, none⟩ = some (.int .i64 md) ∧ w'.cell? ⟨g8, 0, none⟩ = some (.int .i64 kd) ∧ w'.cell? ⟨g8, 1, none⟩ = some (.string ⟨#[]⟩) ∧ w'.cell? ⟨g8, 2, none⟩ = some (.int .i64 0) ∧ w'.cell? ⟨g8, 3, none⟩ = some (.slice (some ⟨r8, 0, none⟩) 2 2) ∧ w'.cell? ⟨g9, 0, none⟩ = some (.int .i64 kd) ∧ w'.cell? ⟨g9, 1, none⟩ = some (.string ⟨#[]⟩) ∧ w'.cell? ⟨g9, 2, none⟩ = some (.int .i64 0) ∧ w'.cell? ⟨g9, 3, none⟩ = some (.slice (some ⟨r9, 0, none⟩) 2 2) ∧ Below V9.heap.size V9 w') from fun w' hb => by
                  obtain ⟨p0, p1, p2, p3, p4, p5, p6, p7, p8, p9, p10, p11, p12, p13⟩ := HSS.out w' hb
                  have hX := HWV.out.trans (hb.mono HWV.out.size)
                  obtain ⟨l0, l1, l2, l3, _, _, _, _⟩ := HBX8'.out.below hb (Nat.lt_of_lt_of_le hlt8 hsz9)
                  obtain ⟨m0, m1, m2, m3, _, _, _, _⟩ := HBX9.out.below hb hlt9
                  exact ⟨p0, p1, p2, p3, p4, p5, p6, p7, p8, p9, p10, p11, p12, (hX.cell (p := ⟨W3.heap.size, 0, none⟩) hl4').trans HTT.out.1, (hX.cell (p := ⟨W3.heap.size, 1, none⟩) hl4').trans HTT.out.2.1, (hX.cell (p := ⟨W3.heap.size, 2, none⟩) hl4').trans HTT.out.2.2, l0, l1, l2, l3, m0, m1, m2, m3, hb⟩)
                have HWT := Lib.hid (show (ofK kd [ofK kd [a, b], c]).wt ≤ 16777216 ∧ (ofK kd [a, ofK kd [b, c]]).wt ≤ 16777216 ∧ (ofK kd [a, emptyD, b, c]).wt ≤ 16777216 from by refine ⟨?_, ?_, ?_⟩ <;> (simp only [ofK, emptyD, Doc.wt, wts]; have : noB.size = 0 := rfl; omega))
                go_upto_region 10 with (fail)
                go_region_held3 (fun w' : World => w'.cell? ⟨u6.heap.size, k, none⟩ = some (.int .i64 kd) ∧ w'.cell? ⟨w.heap.size, 0, none⟩ = some (.int .i64 a.kind) ∧ w'.cell? ⟨w.heap.size, 1, none⟩ = some (.string a.text) ∧ w'.cell? ⟨w.heap.size, 2, none⟩ = some (.int .i64 a.n) ∧ w'.cell? ⟨w.heap.size, 3, none⟩ = some (.slice Aa a.kids.length ca) ∧ w'.cell? ⟨W1.heap.size, 0, none⟩ = some (.int .i64 b.kind) ∧ w'.cell? ⟨W1.heap.size, 1, none⟩ = some (.string b.text) ∧ w'.cell? ⟨W1.heap.size, 2, none⟩ = some (.int .i64 b.n) ∧ w'.cell? ⟨W1.heap.size, 3, none⟩ = some (.slice Ab b.kids.length cb) ∧ w'.cell? ⟨W2.heap.size, 0, none⟩ = some (.int .i64 c.kind) ∧ w'.cell? ⟨W2.heap.size, 1, none⟩ = some (.string c.text) ∧ w'.cell? ⟨W2.heap.size, 2, none⟩ = some (.int .i64 c.n) ∧ w'.cell? ⟨W2.heap.size, 3, none⟩ = some (.slice Ac c.kids.length cc) ∧ w'.cell? ⟨W3.heap.size, 0, none⟩ = some (.int .i64 wd) ∧ w'.cell? ⟨W3.heap.size, 1, none⟩ = some (.int .i64 rb) ∧ w'.cell? ⟨W3.heap.size, 2, none⟩ = some (.int .i64 md) ∧ w'.cell? ⟨g8, 0, none⟩ = some (.int .i64 kd) ∧ w'.cell? ⟨g8, 1, none⟩ = some (.string ⟨#[]⟩) ∧ w'.cell? ⟨g8, 2, none⟩ = some (.int .i64 0) ∧ w'.cell? ⟨g8, 3, none⟩ = some (.slice (some ⟨r8, 0, none⟩) 2 2) ∧ w'.cell? ⟨g9, 0, none⟩ = some (.int .i64 kd) ∧ w'.cell? ⟨g9, 1, none⟩ = some (.string ⟨#[]⟩) ∧ w'.cell? ⟨g9, 2, none⟩ = some (.int .i64 0) ∧ w'.cell? ⟨g9, 3, none⟩ = some (.slice (some ⟨r9, 0, none⟩) 2 2) ∧ Below V9.heap.size V9 w')
                  (first | (exact HSX.out _ HX4.out) | (exact HSX.out _ HX3.out) | (exact HSX.out _ (bl_alloc HX2.out _)) | (exact HSX.out _ HX2.out) | (exact HSX.out _ (Below.refl _ _).drew) | assumption)
                  (first | (go_at_call 39; refine (same19_any (ofK kd [ofK kd [a, b], c]) (ofK kd [a, emptyD, b, c]) (some ⟨_, 0, none⟩) (some ⟨_, 0, none⟩) 2 4 wd rb md _ HWT.out.1 HWT.out.2.2 (Utf8Tabs_below HTV.out HX3.out) (fun e => (nomatch e)) (fun e => (nomatch e)) (Nat.le_refl _) (Nat.le_refl _) (HL9.out.on HX3.out).kids (kids4 hr3 (HLa.out.on HX3.out) (HLb.out.on HX3.out) (HLc.out.on HX3.out)) (joins_empty hj1 hj2 HSa.out HSb.out HSc.out wd rb md)).mono ?_; rintro e x4 ⟨rfl, hbf⟩; have HX4 := Lib.hid (bl_call HX3.out hbf); clear hbf) | (go_at_call 38; refine (of19_any _ _ _ _ _).mono ?_; rintro e x3 ⟨rfl, hbf⟩; refine imp_of (blk_new hbf) ?_; intro hr3; have HX3 := Lib.hid (bl_call (bl_alloc HX2.out _) hbf); clear hbf) | (go_at_call 39; refine (same19_any (ofK kd [ofK kd [a, b], c]) (ofK kd [a, ofK kd [b, c]]) (some ⟨_, 0, none⟩) (some ⟨_, 0, none⟩) 2 2 wd rb md _ HWT.out.1 HWT.out.2.1 (Utf8Tabs_below HTV.out (Below.refl _ _).drew) (fun e => (nomatch e)) (fun e => (nomatch e)) (Nat.le_refl _) (Nat.le_refl _) (HL9.out.on (Below.refl _ _).drew).kids (HLR.out.on (Below.refl _ _).drew).kids (joins_left hj1 hj2 HSa.out HSb.out HSc.out wd rb md)).mono ?_; rintro e x2 ⟨rfl, hbf⟩; have HX2 := Lib.hid (undrew hbf); clear hbf))
            
                all_goals
                  go_wp2_with fail
                  go_roundw
                  case rel => exact ⟨k + 1, by omega, by go_num, HR.out.trans ((HVW.out.trans (HX4.out.mono (by omega))).mono (by omega))⟩
                  case measure => simp [intOf]; omega
          · obtain rfl : k = 4 := by omega
            go_wp2
            go_ret
            exact ⟨rfl, HB.out.trans ((HV.out.trans (HR.out.mono (Nat.le_of_lt hkV))).mono (Nat.le_of_lt hlw))⟩
end Go.Proofs.YtnpaplfdmpjfgaaDoor
