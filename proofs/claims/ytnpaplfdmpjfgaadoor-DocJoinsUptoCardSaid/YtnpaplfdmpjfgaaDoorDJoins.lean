/- The law DocJoins, walked. -/
import Derived.Test.YtnpaplfdmpjfgaaDoorDJoinL
import Derived.Test.YtnpaplfdmpjfgaaDoorDLaw5
import Derived.Deep.DeepCutAuto
namespace Go.Proofs.YtnpaplfdmpjfgaaDoor
open Go.RowKit

theorem imp_of {a b : Prop} (h : a) (k : a → b) : b := k h
theorem heap_set {w : World} {b i : Nat} {cs : Array Value} {T : TypeId} {fr : Nat × Nat} (hb : w.heap[b]? = some (.cells cs T fr)) (v : Value) : (w.setCell ⟨b, i, none⟩ v).heap[b]? = some (.cells (cs.setIfInBounds i v) T fr) := by
  simp [World.setCell, Array.getElem?_modify, hb]
/-! Rows of two documents, as blocks. -/
theorem blk_new {X w' : World} {cs : Array Value} {T : TypeId} (hb : Below (X.alloc (.cells cs T)).heap.size (X.alloc (.cells cs T)) w') : w'.heap[X.heap.size]? = some (.cells cs T (0, 0)) :=
  (hb.block _ (by simp)).trans (heap_alloc_new X _)
theorem blk_on {w w' : World} {g : Nat} {o : Obj} (h : w.heap[g]? = some o) (hb : Below w.heap.size w w') : w'.heap[g]? = some o :=
  (hb.block _ (Array.getElem?_eq_some_iff.1 h).1).trans h
theorem blk_al {w : World} {g : Nat} {o o' : Obj} (h : w.heap[g]? = some o) : (w.alloc o').heap[g]? = some o :=
  blk_on h ((Below.refl _ _).alloc (Nat.le_refl _) o')
theorem box_of {w : World} {g : Nat} {v0 v1 v2 v3 : Value} {T : TypeId} (h : w.heap[g]? = some (.cells #[v0, v1, v2, v3] T (0, 0))) : Box4 w g v0 v1 v2 v3 :=
  ⟨by rw [Lib.cell_of_heap h]; rfl, by rw [Lib.cell_of_heap h]; rfl, by rw [Lib.cell_of_heap h]; rfl, by rw [Lib.cell_of_heap h]; rfl, Lib.frozen_of_heap h 0, Lib.frozen_of_heap h 1, Lib.frozen_of_heap h 2, Lib.frozen_of_heap h 3⟩
theorem undrew {Z w' : World} (h : Below Z.drew.heap.size Z.drew w') : Below Z.heap.size Z w' := ((Below.refl Z.heap.size Z).drew).trans h
theorem bl_call {w w' w'' : World} (h : Below w.heap.size w w') (hb : Below w'.heap.size w' w'') : Below w.heap.size w w'' := h.trans (hb.mono h.size)
theorem bl_alloc {w w' : World} (h : Below w.heap.size w w') (o : Obj) : Below w.heap.size w (w'.alloc o) := h.trans ((Below.refl _ _).alloc h.size o)
/-- A document that lies in the memory now. -/
structure Lies (w : World) (d : Doc) (A : Option Addr) (c : Nat) : Prop where
  cap : d.kids.length ≤ c
  nil : A = none → c = 0
  kids : KidsAt w.heap.size w d.kids A
theorem Lies.on {w w' : World} {d : Doc} {A : Option Addr} {c : Nat} (h : Lies w d A c) (hb : Below w.heap.size w w') : Lies w' d A c := ⟨h.cap, h.nil, kidsAt_on h.kids hb⟩
theorem kids2 {w : World} {r : Nat} {x y : Doc} {Ax Ay : Option Addr} {cx cy : Nat}
    (h : w.heap[r]? = some (.cells #[.int .i64 x.kind, .string x.text, .int .i64 x.n, .slice Ax x.kids.length cx, .int .i64 y.kind, .string y.text, .int .i64 y.n, .slice Ay y.kids.length cy] 24 (0, 0)))
    (hx : Lies w x Ax cx) (hy : Lies w y Ay cy) : KidsAt w.heap.size w [x, y] (some ⟨r, 0, none⟩) := by
  have hr := (Array.getElem?_eq_some_iff.1 h).1
  refine ⟨r, 0, rfl, docAt_iff.2 ⟨Ax, cx, hr, ?_, ?_, ?_, ?_, hx.cap, hx.nil, hx.kids⟩, r, 4, rfl, docAt_iff.2 ⟨Ay, cy, hr, ?_, ?_, ?_, ?_, hy.cap, hy.nil, hy.kids⟩, trivial⟩ <;> (rw [Lib.cell_of_heap h]; rfl)
theorem lies2 {w : World} {r : Nat} {x y : Doc} {Ax Ay : Option Addr} {cx cy : Nat} (k : Int)
    (h : w.heap[r]? = some (.cells #[.int .i64 x.kind, .string x.text, .int .i64 x.n, .slice Ax x.kids.length cx, .int .i64 y.kind, .string y.text, .int .i64 y.n, .slice Ay y.kids.length cy] 24 (0, 0)))
    (hx : Lies w x Ax cx) (hy : Lies w y Ay cy) : Lies w (ofD k [x, y]) (some ⟨r, 0, none⟩) 2 := ⟨Nat.le_refl _, fun e => (nomatch e), kids2 h hx hy⟩
/-- A box of its own is laid full: what lay there lies there still. -/
theorem fill_box {wr w9 : World} {g : Nat} {u0 u1 u2 u3 v0 v1 v2 v3 : Value} (hx : w9.heap[g]? = some (.cells #[u0, u1, u2, u3] 24 (0, 0))) (hw : Below wr.heap.size wr w9) (hg : wr.heap.size ≤ g) :
    Box4 ((((w9.setCell ⟨g, 0, none⟩ v0).setCell ⟨g, 1, none⟩ v1).setCell ⟨g, 2, none⟩ v2).setCell ⟨g, 3, none⟩ v3) g v0 v1 v2 v3 ∧
    Below wr.heap.size wr ((((w9.setCell ⟨g, 0, none⟩ v0).setCell ⟨g, 1, none⟩ v1).setCell ⟨g, 2, none⟩ v2).setCell ⟨g, 3, none⟩ v3) ∧
    (∀ (r : Nat) (cs : Array Value), cs.size = 8 → w9.heap[r]? = some (.cells cs 24 (0, 0)) → ((((w9.setCell ⟨g, 0, none⟩ v0).setCell ⟨g, 1, none⟩ v1).setCell ⟨g, 2, none⟩ v2).setCell ⟨g, 3, none⟩ v3).heap[r]? = some (.cells cs 24 (0, 0))) := by
  refine ⟨?_, ?_, fun r cs hc h => ?_⟩
  · have hb := heap_set (heap_set (heap_set (heap_set hx (i := 0) v0) (i := 1) v1) (i := 2) v2) (i := 3) v3
    simp only [List.setIfInBounds_toArray, List.set_cons_zero, List.set_cons_succ] at hb
    exact box_of hb
  · exact Below.setCell (p := ⟨g, 3, none⟩) (Below.setCell (p := ⟨g, 2, none⟩) (Below.setCell (p := ⟨g, 1, none⟩) (Below.setCell (p := ⟨g, 0, none⟩) hw hg _) hg _) hg _) hg _
  · have hne : r ≠ g := fun e => by
      subst e
      have := h.symm.trans hx
      simp only [Option.some.injEq, Obj.cells.injEq] at this
      rw [this.1] at hc
      simp at hc
    exact (Below.heap_setCell _ _ _ _ hne).trans ((Below.heap_setCell _ _ _ _ hne).trans ((Below.heap_setCell _ _ _ _ hne).trans ((Below.heap_setCell _ _ _ _ hne).trans h)))
theorem finD {wr w9 : World} {g r1 r2 : Nat} {kd : Int} {a b c : List Doc} {Aa Ab Ac : Option Addr} {ca cb cc : Nat} {u0 u1 u2 u3 : Value} (ha : Lies wr (ofD kd a) Aa ca) (hb : Lies wr (ofD kd b) Ab cb) (hc : Lies wr (ofD kd c) Ac cc) (hw : Below wr.heap.size wr w9)
    (h1 : w9.heap[r1]? = some (.cells #[.int .i64 kd, .string ⟨#[]⟩, .int .i64 0, .slice Ab b.length cb, .int .i64 kd, .string ⟨#[]⟩, .int .i64 0, .slice Ac c.length cc] 24 (0, 0)))
    (h2 : w9.heap[r2]? = some (.cells #[.int .i64 kd, .string ⟨#[]⟩, .int .i64 0, .slice Aa a.length ca, .int .i64 kd, .string ⟨#[]⟩, .int .i64 0, .slice (some ⟨r1, 0, none⟩) 2 2] 24 (0, 0)))
    (hx : w9.heap[g]? = some (.cells #[u0, u1, u2, u3] 24 (0, 0))) (hg : wr.heap.size ≤ g) :
    Box4 ((((w9.setCell ⟨g, 0, none⟩ (.int .i64 kd)).setCell ⟨g, 1, none⟩ (.string ⟨#[]⟩)).setCell ⟨g, 2, none⟩ (.int .i64 0)).setCell ⟨g, 3, none⟩ (.slice (some ⟨r2, 0, none⟩) 2 2)) g (.int .i64 kd) (.string ⟨#[]⟩) (.int .i64 0) (.slice (some ⟨r2, 0, none⟩) 2 2) ∧
    Lies ((((w9.setCell ⟨g, 0, none⟩ (.int .i64 kd)).setCell ⟨g, 1, none⟩ (.string ⟨#[]⟩)).setCell ⟨g, 2, none⟩ (.int .i64 0)).setCell ⟨g, 3, none⟩ (.slice (some ⟨r2, 0, none⟩) 2 2)) (ofD kd [ofD kd a, ofD kd [ofD kd b, ofD kd c]]) (some ⟨r2, 0, none⟩) 2 ∧
    Below wr.heap.size wr ((((w9.setCell ⟨g, 0, none⟩ (.int .i64 kd)).setCell ⟨g, 1, none⟩ (.string ⟨#[]⟩)).setCell ⟨g, 2, none⟩ (.int .i64 0)).setCell ⟨g, 3, none⟩ (.slice (some ⟨r2, 0, none⟩) 2 2)) := by
  obtain ⟨q1, q2, q3⟩ := fill_box (v0 := .int .i64 kd) (v1 := .string ⟨#[]⟩) (v2 := .int .i64 0) (v3 := .slice (some ⟨r2, 0, none⟩) 2 2) hx hw hg
  exact ⟨q1, lies2 (x := ofD kd a) (y := ofD kd [ofD kd b, ofD kd c]) kd (q3 r2 _ rfl h2) (ha.on q2) (lies2 (x := ofD kd b) (y := ofD kd c) kd (q3 r1 _ rfl h1) (hb.on q2) (hc.on q2)), q2⟩
theorem finD0 {wr w9 : World} {r1 r2 : Nat} {kd : Int} {a b c : List Doc} {Aa Ab Ac : Option Addr} {ca cb cc : Nat} (ha : Lies wr (ofD kd a) Aa ca) (hb : Lies wr (ofD kd b) Ab cb) (hc : Lies wr (ofD kd c) Ac cc) (hw : Below wr.heap.size wr w9)
    (h1 : w9.heap[r1]? = some (.cells #[.int .i64 kd, .string ⟨#[]⟩, .int .i64 0, .slice Ab b.length cb, .int .i64 kd, .string ⟨#[]⟩, .int .i64 0, .slice Ac c.length cc] 24 (0, 0)))
    (h2 : w9.heap[r2]? = some (.cells #[.int .i64 kd, .string ⟨#[]⟩, .int .i64 0, .slice Aa a.length ca, .int .i64 kd, .string ⟨#[]⟩, .int .i64 0, .slice (some ⟨r1, 0, none⟩) 2 2] 24 (0, 0))) :
    Box4 (w9.alloc (.cells #[.int .i64 kd, .string ⟨#[]⟩, .int .i64 0, .slice (some ⟨r2, 0, none⟩) 2 2] 24)) w9.heap.size (.int .i64 kd) (.string ⟨#[]⟩) (.int .i64 0) (.slice (some ⟨r2, 0, none⟩) 2 2) ∧
    Lies (w9.alloc (.cells #[.int .i64 kd, .string ⟨#[]⟩, .int .i64 0, .slice (some ⟨r2, 0, none⟩) 2 2] 24)) (ofD kd [ofD kd a, ofD kd [ofD kd b, ofD kd c]]) (some ⟨r2, 0, none⟩) 2 ∧
    Below wr.heap.size wr (w9.alloc (.cells #[.int .i64 kd, .string ⟨#[]⟩, .int .i64 0, .slice (some ⟨r2, 0, none⟩) 2 2] 24)) := by
  have q2 := bl_alloc hw (.cells #[.int .i64 kd, .string ⟨#[]⟩, .int .i64 0, .slice (some ⟨r2, 0, none⟩) 2 2] 24)
  exact ⟨box_of (heap_alloc_new w9 _), lies2 (x := ofD kd a) (y := ofD kd [ofD kd b, ofD kd c]) kd (blk_al h2) (ha.on q2) (lies2 (x := ofD kd b) (y := ofD kd c) kd (blk_al h1) (hb.on q2) (hc.on q2)), q2⟩
theorem boxfirst {X w' : World} {cs : Array Value} {T : TypeId} (hb : Below ((X.alloc (.cells #[.int .i64 0, .string ⟨#[]⟩, .int .i64 0, .slice none 0 0] 24)).alloc (.cells cs T)).heap.size ((X.alloc (.cells #[.int .i64 0, .string ⟨#[]⟩, .int .i64 0, .slice none 0 0] 24)).alloc (.cells cs T)) w') : w'.heap[X.heap.size]? = some (.cells #[.int .i64 0, .string ⟨#[]⟩, .int .i64 0, .slice none 0 0] 24 (0, 0)) ∧ w'.heap[(X.alloc (.cells #[.int .i64 0, .string ⟨#[]⟩, .int .i64 0, .slice none 0 0] 24)).heap.size]? = some (.cells cs T (0, 0)) :=
  ⟨blk_on (blk_al (heap_alloc_new X _)) hb, blk_new hb⟩
theorem rowfirst {X w' : World} {cs : Array Value} {T : TypeId} (hb : Below ((X.alloc (.cells cs T)).alloc (.cells #[.int .i64 0, .string ⟨#[]⟩, .int .i64 0, .slice none 0 0] 24)).heap.size ((X.alloc (.cells cs T)).alloc (.cells #[.int .i64 0, .string ⟨#[]⟩, .int .i64 0, .slice none 0 0] 24)) w') : w'.heap[X.heap.size]? = some (.cells cs T (0, 0)) ∧ w'.heap[(X.alloc (.cells cs T)).heap.size]? = some (.cells #[.int .i64 0, .string ⟨#[]⟩, .int .i64 0, .slice none 0 0] 24 (0, 0)) :=
  ⟨blk_on (blk_al (heap_alloc_new X _)) hb, blk_new hb⟩
theorem tidy_as (d T : Doc) (A : Option Addr) (c : Nat) (w : World) (h : d.tidyV = T) (hB : d.wt ≤ 16777216) (hT : Lib.Utf8Tabs 1 2 w) (hnil : A = none → c = 0) (hK : KidsAt w.heap.size w d.kids A) :
    Calls Tryd.prog 26 #[.agg #[.int .i64 d.kind, .string d.text, .int .i64 d.n, .slice A d.kids.length c]] w fun e w' => ∃ A c, e = .returned (.agg #[.int .i64 T.kind, .string T.text, .int .i64 T.n, .slice A T.kids.length c]) ∧ (⟨T, A, c⟩ : DV).In (fun b => w.heap.size ≤ b ∧ b < w'.heap.size) w' ∧ Below w.heap.size w w' := by
  subst h
  exact (ptidy_any d A c w hB hT hnil hK).mono fun _ _ h => h
/-- An argument's documents as values. -/
theorem kidsAt_dvs {n : Nat} {w : World} {ds : List Doc} {A : Option Addr} {c : Nat} (h : KidsAt n w ds A) (hnil : A = none → c = 0) : ∃ l : List DV, l.map DV.d = ds ∧ (∀ t ∈ l, t.Ok n w) ∧ (A = none → ds.length = 0 ∧ c = 0) ∧ ∀ ad, A = some ad → ∀ j u, (flatD l)[j]? = some u → w.cell? (ad.add j) = some u := by
  cases ds with
  | nil => exact ⟨[], rfl, by simp, fun e => ⟨rfl, hnil e⟩, fun ad _ j u hu => by simp [flatD] at hu⟩
  | cons d r =>
    obtain ⟨b, o, rfl, h1, h2⟩ := h
    obtain ⟨l, hl, hok, hc⟩ := kidsIn_dvs (in_at.2 (show KidsAt n w (d :: r) (some ⟨b, o, none⟩) from ⟨b, o, rfl, h1, h2⟩))
    refine ⟨l, hl, fun t ht => (hok t ht).ok fun _ hb => hb, fun e => (nomatch e), fun ad e j u hu => ?_⟩
    simp only [Option.some.injEq] at e
    subst e
    have hadd : (⟨b, o, none⟩ : Addr).add j = ⟨b, o + j, none⟩ := by unfold Addr.add; split <;> simp_all
    rw [hadd]
    exact hc j u hu

set_option maxRecDepth 100000 in
set_option maxHeartbeats 64000000 in
theorem docJoins_any (a b c : List Doc) (Aa Ab Ac : Option Addr) (ca cb cc : Nat) (w : World) (hB : wts a + wts b + wts c ≤ 4194304) (hT : Lib.Utf8Tabs 1 2 w) (hna : Aa = none → ca = 0) (hnb : Ab = none → cb = 0) (hnc : Ac = none → cc = 0) (hla : a.length ≤ ca) (hlb : b.length ≤ cb) (hlc : c.length ≤ cc)
    (hKa : KidsAt w.heap.size w a Aa) (hKb : KidsAt w.heap.size w b Ab) (hKc : KidsAt w.heap.size w c Ac) :
    Calls Tryd.prog 7 #[.slice Aa a.length ca, .slice Ab b.length cb, .slice Ac c.length cc] w fun e w' => e = .returned (.bool true) ∧ Below w.heap.size w w' := by
  have hal := len_le_wts a
  have hbl := len_le_wts b
  have hcl := len_le_wts c
  have HT := Lib.hid hT
  have HNA := Lib.hid hna
  have HNB := Lib.hid hnb
  have HNC := Lib.hid hnc
  have HKA := Lib.hid hKa
  have HKB := Lib.hid hKb
  have HKC := Lib.hid hKc
  clear hT hna hnb hnc hKa hKb hKc
  go_enter Tryd.func7, Tryd.ntmps7
  go_wp2_with fail
  refine (awake_any w HT.out).mono ?_
  rintro e w1 ⟨rfl, hb1⟩
  have H1 := Lib.hid hb1
  have HKA1 := Lib.hid (kidsAt_on HKA.out hb1)
  have HKB1 := Lib.hid (kidsAt_on HKB.out hb1)
  have HKC1 := Lib.hid (kidsAt_on HKC.out hb1)
  obtain ⟨la, hla1, hoa, hza, hca⟩ := kidsAt_dvs HKA1.out HNA.out
  obtain ⟨lb, hlb1, hob, hzb, hcb⟩ := kidsAt_dvs HKB1.out HNB.out
  obtain ⟨lc, hlc1, hoc, hzc, hcc⟩ := kidsAt_dvs HKC1.out HNC.out
  have hlla : la.length = a.length := by rw [← hla1, List.length_map]
  have hllb : lb.length = b.length := by rw [← hlb1, List.length_map]
  have hllc : lc.length = c.length := by rw [← hlc1, List.length_map]
  have HA := Lib.hid (And.intro hla1 (And.intro hoa (And.intro hza hca)))
  have HBB := Lib.hid (And.intro hlb1 (And.intro hob (And.intro hzb hcb)))
  have HC := Lib.hid (And.intro hlc1 (And.intro hoc (And.intro hzc hcc)))
  have HLL := Lib.hid (And.intro hlla (And.intro hllb hllc))
  have hone : ∀ l : List DV, ∀ u ∈ flatD l, u.oneCell' = true := fun l u hu => by
    simp only [flatD, List.mem_flatMap] at hu
    obtain ⟨d, _, hu⟩ := hu
    simp only [DV.cells, List.mem_cons, List.not_mem_nil, or_false] at hu
    rcases hu with rfl | rfl | rfl | rfl <;> rfl
  have HONE := Lib.hid hone
  clear hb1 hla1 hoa hza hca hlb1 hob hzb hcb hlc1 hoc hzc hcc hlla hllb hllc hone
  go_upto_region 4 with (at_builtin; refine wpList_appm rfl _ _ 22 rfl 24 _ 4 56 Tryd.underlying22 info24 rfl (by decide) w1.heap.size (.slice none 0 0) 0 [] rfl (World.ownsRow_nil _ _ _ _) Aa a.length ca (flatD la) rfl (by rw [flatD_length, HLL.out.1]) HA.out.2.2.1 HA.out.2.2.2 (HONE.out la) (by unfold maxLen; omega) (by omega) (Nat.le_refl _) ?_; intro v2 w2 ho2 hb2)
  have HB2 := Lib.hid hb2
  have hs2 := hb2.size
  rw [Nat.zero_add, List.nil_append] at ho2
  obtain ⟨A2, c2, rfl⟩ := own_form ho2
  have HO2 := Lib.hid ho2
  have HCB := Lib.hid (show ∀ ad, Ab = some ad → ∀ j u, (flatD lb)[j]? = some u → w2.cell? (ad.add j) = some u from fun ad e j u hu => by
    have h := HBB.out.2.2.2 ad e j u hu
    exact (hb2.cell (World.block_lt_of_cell? w1 _ h)).trans h)
  clear ho2 hb2
  go_upto_region 5 with (at_builtin; refine wpList_appm rfl _ _ 22 rfl 24 _ 4 56 Tryd.underlying22 info24 rfl (by decide) w1.heap.size (.slice A2 a.length c2) a.length (flatD la) rfl HO2.out Ab b.length cb (flatD lb) rfl (by rw [flatD_length, HLL.out.2.1]) HBB.out.2.2.1 HCB.out (HONE.out lb) (by unfold maxLen; omega) (by omega) hs2 ?_; intro v3 w3 ho3 hb3)
  have HB3 := Lib.hid (HB2.out.trans hb3)
  have hs3 := HB3.out.size
  obtain ⟨A3, c3, rfl⟩ := own_form ho3
  have HO3 := Lib.hid ho3
  have HCC := Lib.hid (show ∀ ad, Ac = some ad → ∀ j u, (flatD lc)[j]? = some u → w3.cell? (ad.add j) = some u from fun ad e j u hu => by
    have h := HC.out.2.2.2 ad e j u hu
    exact (HB3.out.cell (World.block_lt_of_cell? w1 _ h)).trans h)
  clear ho3 hb3 HO2 HCB
  go_upto_region 6 with (at_builtin; refine wpList_appm rfl _ _ 22 rfl 24 _ 4 56 Tryd.underlying22 info24 rfl (by decide) w1.heap.size (.slice A3 (a.length + b.length) c3) (a.length + b.length) (flatD la ++ flatD lb) rfl HO3.out Ac c.length cc (flatD lc) rfl (by rw [flatD_length, HLL.out.2.2]) HC.out.2.2.1 HCC.out (HONE.out lc) (by unfold maxLen; omega) (by omega) hs3 ?_; intro v4 w4 ho4 hb4)
  have HB4 := Lib.hid (HB3.out.trans hb4)
  have hs4 := HB4.out.size
  have hlen4 : a.length + b.length + c.length = (la ++ lb ++ lc).length := by rw [List.length_append, List.length_append, HLL.out.1, HLL.out.2.1, HLL.out.2.2]
  rw [hlen4, show flatD la ++ flatD lb ++ flatD lc = flatD (la ++ lb ++ lc) by simp [flatD]] at ho4
  obtain ⟨A4, c4, rfl, hc4, hn4, hk4⟩ := own_kidsIn (S := fun b => b < w4.heap.size) ho4 (fun t ht => by
    have hok : t.Ok w1.heap.size w1 := by
      rcases List.mem_append.1 ht with ht | ht
      · rcases List.mem_append.1 ht with ht | ht
        · exact HA.out.2.1 t ht
        · exact HBB.out.2.1 t ht
      · exact HC.out.2.1 t ht
    exact (hok.below HB4.out).in_.later (fun b hb => by omega) fun _ _ _ => rfl) (fun g hg => (ho4.lt g hg).2)
  rw [List.map_append, List.map_append, HA.out.1, HBB.out.1, HC.out.1] at hk4
  obtain ⟨all, hall⟩ : ∃ all, a ++ b ++ c = all := ⟨_, rfl⟩
  have hlall : (la ++ lb ++ lc).length = all.length := by rw [← hlen4, ← hall, List.length_append, List.length_append]
  rw [hall] at hk4
  rw [hlall] at hc4 ⊢
  have HALL := Lib.hid hall
  have HK4 := Lib.hid (in_at.1 hk4)
  have HN4 := Lib.hid hn4
  have HC4 := Lib.hid hc4
  have hwall : wts all ≤ 4194304 := by rw [← hall, wts_app, wts_app]; omega
  have HKA4 := Lib.hid (kidsAt_on HKA1.out HB4.out)
  have HKB4 := Lib.hid (kidsAt_on HKB1.out HB4.out)
  have HKC4 := Lib.hid (kidsAt_on HKC1.out HB4.out)
  have HT4 := Lib.hid (Utf8Tabs_below HT.out (H1.out.trans (HB4.out.mono H1.out.size)))
  have HB04 := Lib.hid (H1.out.trans (HB4.out.mono H1.out.size))
  clear ho4 hb4 hk4 hall hn4 hc4 hlall hlen4 HO3 HCC HB2 HB3 hs2 hs3 HA HBB HC HLL HONE HKA1 HKB1 HKC1 HKA HKB HKC
  have hbk := (Below.refl w4.heap.size w4).alloc (Nat.le_refl _) (.cells #[.int .i64 3, .int .i64 4, .int .i64 5, .int .i64 6] 3)
  have hck := Box4.new w4 (.int .i64 3) (.int .i64 4) (.int .i64 5) (.int .i64 6) 3
  obtain ⟨W5, hW5⟩ : ∃ W5, w4.alloc (.cells #[.int .i64 3, .int .i64 4, .int .i64 5, .int .i64 6] 3) = W5 := ⟨_, rfl⟩
  have hs5 : W5.heap.size = w4.heap.size + 1 := by rw [← hW5]; simp
  rw [hW5] at hbk hck
  have HBK := Lib.hid hbk
  have HCK := Lib.hid hck
  clear hbk hck
  go_wp2_with fail
  clear hW5
  go_loopw [10] (fun i wr => ∃ k : Nat, k ≤ 4 ∧ i = .int .i64 k ∧ Below W5.heap.size W5 wr) (fun i wr => 4 - (intOf i).toNat)
  case atStart => exact ⟨0, by omega, rfl, Below.refl _ _⟩
  case round =>
    obtain ⟨k, hk, rfl, hB⟩ := hrel
    have HBR := Lib.hid hB
    have hsr := hB.size
    by_cases hlt : k < 4
    · obtain ⟨kd, hkc, hjk⟩ : ∃ kd, wr.cell? ⟨w4.heap.size, k, none⟩ = some (.int .i64 kd) ∧ joinsK kd = true := by
        have hcell : ∀ j, wr.cell? ⟨w4.heap.size, j, none⟩ = W5.cell? ⟨w4.heap.size, j, none⟩ := fun j => hB.cell (p := ⟨_, _, none⟩) (by simp only; omega)
        rcases (by omega : k = 0 ∨ k = 1 ∨ k = 2 ∨ k = 3) with rfl | rfl | rfl | rfl
        · exact ⟨3, by rw [hcell, HCK.out.c0], rfl⟩
        · exact ⟨4, by rw [hcell, HCK.out.c1], rfl⟩
        · exact ⟨5, by rw [hcell, HCK.out.c2], rfl⟩
        · exact ⟨6, by rw [hcell, HCK.out.c3], rfl⟩
      have HJ := Lib.hid hjk
      clear hB hjk
      go_wp2_with fail
      refine (of_any kd A4 all.length c4 wr).mono ?_
      rintro e w6 ⟨rfl, hb6⟩
      obtain ⟨hbx, hbx1, hbx2⟩ := box_new w6 (.int .i64 kd) (.string ⟨#[]⟩) (.int .i64 0) (.slice A4 all.length c4)
      obtain ⟨W7, hW7⟩ : ∃ W7, w6.alloc (.cells #[.int .i64 kd, .string ⟨#[]⟩, .int .i64 0, .slice A4 all.length c4] 24) = W7 := ⟨_, rfl⟩
      rw [hW7] at hbx hbx1 hbx2
      have HX := Lib.hid hbx
      have H7 := Lib.hid ((HBR.out.trans (hb6.mono hsr)).trans (hbx1.mono (Nat.le_trans hsr hb6.size)))
      have hs7 : w6.heap.size < W7.heap.size := by omega
      have hkc7 := ((hbx1.cell (p := ⟨w4.heap.size, k, none⟩) (by have := hb6.size; simp only; omega)).trans (hb6.cell (p := ⟨w4.heap.size, k, none⟩) (by simp only; omega))).trans hkc
      have hltk : w4.heap.size < W7.heap.size := by have := hb6.size; omega
      have HS5 := Lib.hid hs5
      clear hb6 hbx hbx1 hbx2 hkc hs5
      have HW47 := Lib.hid (HBK.out.trans (H7.out.mono (by have := HS5.out; omega)))
      have hs47 := HW47.out.size
      have HLa := Lib.hid (show Lies W7 (ofD kd a) Aa ca from ⟨hla, HNA.out, kidsAt_on HKA4.out HW47.out⟩)
      have HLb := Lib.hid (show Lies W7 (ofD kd b) Ab cb from ⟨hlb, HNB.out, kidsAt_on HKB4.out HW47.out⟩)
      have HLc := Lib.hid (show Lies W7 (ofD kd c) Ac cc from ⟨hlc, HNC.out, kidsAt_on HKC4.out HW47.out⟩)
      have HSS := Lib.hid (show ∀ w' : World, Below W7.heap.size W7 w' → (w'.cell? ⟨w4.heap.size, k, none⟩ = some (.int .i64 kd) ∧ Below W7.heap.size W7 w') from fun w' hb => ⟨(hb.cell (p := ⟨w4.heap.size, k, none⟩) hltk).trans hkc7, hb⟩)
      go_upto_region 11 with (fail)
      clear hW7
      go_cut [12] (fun s12 wx => ∃ g r : Nat, s12 = .pointer (some ⟨g, 0, none⟩) ∧ Box4 wx g (.int .i64 kd) (.string ⟨#[]⟩) (.int .i64 0) (.slice (some ⟨r, 0, none⟩) 2 2) ∧ Lies wx (ofD kd [ofD kd a, ofD kd [ofD kd b, ofD kd c]]) (some ⟨r, 0, none⟩) 2 ∧ Below W7.heap.size W7 wx)
      case first =>
        go_region_held3 (fun w' : World => w'.cell? ⟨w4.heap.size, k, none⟩ = some (.int .i64 kd) ∧ Below W7.heap.size W7 w')
          (first | (exact HSS.out _ (fill_box hx Hv5.out (by have h4 := Hv4.out.size; have h5 := Hv5.out.size; have h1 := Hv1.out.size; have h2 := Hv2.out.size; have h3 := Hv3.out.size; omega)).2.1) | (exact HSS.out _ (fill_box (heap_alloc_new v5 _) (bl_alloc Hv5.out _) (by have h4 := Hv4.out.size; have h5 := Hv5.out.size; have h1 := Hv1.out.size; have h2 := Hv2.out.size; have h3 := Hv3.out.size; omega)).2.1) | (exact HSS.out _ (bl_alloc (bl_alloc Hv5.out _) _)) | (exact HSS.out _ (bl_alloc Hv5.out _)) | (exact HSS.out _ Hv5.out) | (exact HSS.out _ (bl_alloc (bl_alloc Hv4.out _) _)) | (exact HSS.out _ (bl_alloc Hv4.out _)) | (exact HSS.out _ Hv4.out) | (exact HSS.out _ (bl_alloc (bl_alloc Hv3.out _) _)) | (exact HSS.out _ (bl_alloc Hv3.out _)) | (exact HSS.out _ Hv3.out) | (exact HSS.out _ (bl_alloc (bl_alloc Hv2.out _) _)) | (exact HSS.out _ (bl_alloc Hv2.out _)) | (exact HSS.out _ Hv2.out) | (exact HSS.out _ (bl_alloc (bl_alloc Hv1.out _) _)) | (exact HSS.out _ (bl_alloc Hv1.out _)) | (exact HSS.out _ Hv1.out) | (exact HSS.out _ (bl_alloc (Below.refl _ _).drew _)) | (exact HSS.out _ (Below.refl _ _).drew) | assumption)
          (first | (go_at_call 28; refine (of_any _ _ _ _ _).mono ?_; rintro e v5 ⟨rfl, hbf⟩; refine imp_of (And.intro (boxfirst hbf) (blk_on (blk_al (blk_al hr62)) hbf)) ?_; rintro ⟨⟨hx, hr64⟩, hr62⟩; (try simp only [World.size_alloc] at hx); (try simp only [World.size_alloc] at hr64); obtain ⟨bc0, bc1, bc2, bc3, bf0, bf1, bf2, bf3⟩ := box_of hx; have Hv5 := Lib.hid (bl_call (bl_alloc (bl_alloc Hv4.out _) _) hbf); clear hbf) | (go_at_call 28; refine (of_any _ _ _ _ _).mono ?_; rintro e v5 ⟨rfl, hbf⟩; refine imp_of (And.intro (rowfirst hbf) (blk_on (blk_al (blk_al hr62)) hbf)) ?_; rintro ⟨⟨hr64, hx⟩, hr62⟩; (try simp only [World.size_alloc] at hx); (try simp only [World.size_alloc] at hr64); obtain ⟨bc0, bc1, bc2, bc3, bf0, bf1, bf2, bf3⟩ := box_of hx; have Hv5 := Lib.hid (bl_call (bl_alloc (bl_alloc Hv4.out _) _) hbf); clear hbf) | (go_at_call 28; refine (of_any _ _ _ _ _).mono ?_; rintro e v5 ⟨rfl, hbf⟩; refine imp_of (And.intro (blk_new hbf) (And.intro (blk_on (blk_al hx) hbf) (blk_on (blk_al hr62) hbf))) ?_; rintro ⟨hr64, hx, hr62⟩; obtain ⟨bc0, bc1, bc2, bc3, bf0, bf1, bf2, bf3⟩ := box_of hx; have Hv5 := Lib.hid (bl_call (bl_alloc Hv4.out _) hbf); clear hbf) | (go_at_call 28; refine (of_any _ _ _ _ _).mono ?_; rintro e v5 ⟨rfl, hbf⟩; refine imp_of (And.intro (blk_new hbf) (blk_on (blk_al hr62) hbf)) ?_; rintro ⟨hr64, hr62⟩; have Hv5 := Lib.hid (bl_call (bl_alloc Hv4.out _) hbf); clear hbf) | (go_at_call 28; refine (of_any _ _ _ _ _).mono ?_; rintro e v4 ⟨rfl, hbf⟩; refine imp_of (boxfirst hbf) ?_; rintro ⟨hx, hr62⟩; (try simp only [World.size_alloc] at hx); (try simp only [World.size_alloc] at hr62); obtain ⟨bc0, bc1, bc2, bc3, bf0, bf1, bf2, bf3⟩ := box_of hx; have Hv4 := Lib.hid (bl_call (bl_alloc (bl_alloc Hv3.out _) _) hbf); clear hbf) | (go_at_call 28; refine (of_any _ _ _ _ _).mono ?_; rintro e v4 ⟨rfl, hbf⟩; refine imp_of (rowfirst hbf) ?_; rintro ⟨hr62, hx⟩; (try simp only [World.size_alloc] at hx); (try simp only [World.size_alloc] at hr62); obtain ⟨bc0, bc1, bc2, bc3, bf0, bf1, bf2, bf3⟩ := box_of hx; have Hv4 := Lib.hid (bl_call (bl_alloc (bl_alloc Hv3.out _) _) hbf); clear hbf) | (go_at_call 28; refine (of_any _ _ _ _ _).mono ?_; rintro e v4 ⟨rfl, hbf⟩; refine imp_of (And.intro (blk_new hbf) (blk_on (blk_al hx) hbf)) ?_; rintro ⟨hr62, hx⟩; obtain ⟨bc0, bc1, bc2, bc3, bf0, bf1, bf2, bf3⟩ := box_of hx; have Hv4 := Lib.hid (bl_call (bl_alloc Hv3.out _) hbf); clear hbf) | (go_at_call 28; refine (of_any _ _ _ _ _).mono ?_; rintro e v4 ⟨rfl, hbf⟩; refine imp_of (blk_new hbf) ?_; intro hr62; have Hv4 := Lib.hid (bl_call (bl_alloc Hv3.out _) hbf); clear hbf) | (go_at_call 28; refine (of_any _ _ _ _ _).mono ?_; rintro e v3 ⟨rfl, hbf⟩; refine imp_of (blk_on hx hbf) ?_; intro hx; have Hv3 := Lib.hid (bl_call Hv2.out hbf); clear hbf) | (go_at_call 28; refine (of_any _ _ _ _ _).mono ?_; rintro e v3 ⟨rfl, hbf⟩; refine imp_of (blk_new hbf) ?_; intro hx; have Hv3 := Lib.hid (bl_call (bl_alloc Hv2.out _) hbf); clear hbf) | (go_at_call 28; refine (of_any _ _ _ _ _).mono ?_; rintro e v3 ⟨rfl, hbf⟩; have Hv3 := Lib.hid (bl_call Hv2.out hbf); clear hbf) | (go_at_call 28; refine (of_any _ _ _ _ _).mono ?_; rintro e v2 ⟨rfl, hbf⟩; refine imp_of (blk_on hx hbf) ?_; intro hx; have Hv2 := Lib.hid (bl_call Hv1.out hbf); clear hbf) | (go_at_call 28; refine (of_any _ _ _ _ _).mono ?_; rintro e v2 ⟨rfl, hbf⟩; refine imp_of (blk_new hbf) ?_; intro hx; have Hv2 := Lib.hid (bl_call (bl_alloc Hv1.out _) hbf); clear hbf) | (go_at_call 28; refine (of_any _ _ _ _ _).mono ?_; rintro e v2 ⟨rfl, hbf⟩; have Hv2 := Lib.hid (bl_call Hv1.out hbf); clear hbf) | (go_at_call 28; refine (of_any _ _ _ _ _).mono ?_; rintro e v1 ⟨rfl, hbf⟩; refine imp_of (blk_new (undrew hbf)) ?_; intro hx; have Hv1 := Lib.hid (bl_call (bl_alloc (Below.refl _ _) _) (undrew hbf)); clear hbf) | (go_at_call 28; refine (of_any _ _ _ _ _).mono ?_; rintro e v1 ⟨rfl, hbf⟩; have Hv1 := Lib.hid (undrew hbf); clear hbf))
        all_goals (go_wp2_with fail; go_meet)
        all_goals first
          | exact ⟨_, _, rfl, finD HLa.out HLb.out HLc.out Hv5.out hr62 hr64 hx (by have h4 := Hv4.out.size; have h5 := Hv5.out.size; have h1 := Hv1.out.size; have h2 := Hv2.out.size; have h3 := Hv3.out.size; omega)⟩
          | exact ⟨_, _, rfl, finD0 HLa.out HLb.out HLc.out Hv5.out hr62 hr64⟩
      case rest =>
        obtain ⟨g8, r8, rfl, hbx8, hl8, hb8⟩ := hcut
        obtain ⟨V8, rfl⟩ : ∃ V, V = wc := ⟨_, rfl⟩
        have HB8 := Lib.hid hb8
        have HX8 := Lib.hid (HX.out.below hb8 hs7)
        have HY8 := Lib.hid hbx8
        have HL8 := Lib.hid hl8
        have hs8 := hb8.size
        have hg8 := World.block_lt_of_cell? V8 ⟨g8, 0, none⟩ hbx8.c0
        have HW48 := Lib.hid (HW47.out.trans (hb8.mono HW47.out.size))
        have hs48 := HW48.out.size
        have HKX := Lib.hid (kidsAt_on HK4.out HW48.out)
        have HT8 := Lib.hid (Utf8Tabs_below HT4.out HW48.out)
        have HW58 := Lib.hid (H7.out.trans (hb8.mono (by have := H7.out.size; omega)))
        have HWX := Lib.hid (show (ofD kd all).wt ≤ 16777216 from by simp only [ofD, Doc.wt]; have : (⟨#[]⟩ : ByteArray).size = 0 := rfl; omega)
        have HWY := Lib.hid (show (ofD kd [ofD kd a, ofD kd [ofD kd b, ofD kd c]]).wt ≤ 16777216 from by simp only [ofD, Doc.wt, wts]; have : (⟨#[]⟩ : ByteArray).size = 0 := rfl; omega)
        clear hbx8 hl8 hb8
        obtain ⟨x0, x1, x2, x3, _, _, _, _⟩ := HX8.out
        have HC := Lib.hid (pcheck_any (ofD kd all) A4 c4 V8 HWX.out HT8.out HKX.out)
        go_wp2_with fail
        refine HC.out.mono ?_
        rintro e v9 ⟨rfl, hb9⟩
        have HB9 := Lib.hid hb9
        have hs9 := hb9.size
        clear hb9 HC x0 x1 x2 x3
        cases kx : (checkN (ofD kd all) == 0) with
        | false =>
          have g3 : (checkN (ofD kd all) != 0) = true := by simp [bne, kx]
          clear kx
          go_wp2_with fail
          go_roundw
          case rel => exact ⟨k + 1, by omega, by go_num, HW58.out.trans (HB9.out.mono (by have := HW58.out.size; omega))⟩
          case measure => simp [intOf]; omega
        | true =>
          have g3 : (checkN (ofD kd all) != 0) = false := by simp [bne, kx]
          have HKX0 := Lib.hid kx
          clear kx
          obtain ⟨y0, y1, y2, y3, _, _, _, _⟩ := HY8.out.below HB9.out hg8
          have HC := Lib.hid (pcheck_any (ofD kd [ofD kd a, ofD kd [ofD kd b, ofD kd c]]) (some ⟨r8, 0, none⟩) 2 v9 HWY.out (Utf8Tabs_below HT8.out HB9.out) (HL8.out.on HB9.out).kids)
          go_wp2_with fail
          refine HC.out.mono ?_
          rintro e v10 ⟨rfl, hb10⟩
          have HB10 := Lib.hid (HB9.out.trans (hb10.mono hs9))
          have hs10 := hb10.size
          clear hb10 HC y0 y1 y2 y3
          cases ky : (checkN (ofD kd [ofD kd a, ofD kd [ofD kd b, ofD kd c]]) == 0) with
          | false =>
            have g4 : (checkN (ofD kd [ofD kd a, ofD kd [ofD kd b, ofD kd c]]) != 0) = true := by simp [bne, ky]
            clear ky
            go_wp2_with fail
            go_roundw
            case rel => exact ⟨k + 1, by omega, by go_num, HW58.out.trans (HB10.out.mono (by have := HW58.out.size; omega))⟩
            case measure => simp [intOf]; omega
          | true =>
            have g4 : (checkN (ofD kd [ofD kd a, ofD kd [ofD kd b, ofD kd c]]) != 0) = false := by simp [bne, ky]
            obtain ⟨T, hT⟩ : ∃ T, (ofD kd all).tidyV = T := ⟨_, rfl⟩
            have HTX := Lib.hid hT
            have HTY := Lib.hid (show (ofD kd [ofD kd a, ofD kd [ofD kd b, ofD kd c]]).tidyV = T from by
              have e1 : (ofD kd all).tidyV = (ofD kd all).tidy := by simp [Doc.tidyV, HKX0.out]
              have e2 : (ofD kd [ofD kd a, ofD kd [ofD kd b, ofD kd c]]).tidyV = (ofD kd [ofD kd a, ofD kd [ofD kd b, ofD kd c]]).tidy := by simp only [Doc.tidyV]; rw [ky]; rfl
              rw [e2, ← HTX.out, e1, ← HALL.out]
              exact (joins_tidy HJ.out a b c (check_form (by simpa using ky))).symm)
            have hTw : T.wt ≤ 16777216 := by rw [← hT]; exact Nat.le_trans (tidyV_wt _) HWX.out
            clear ky hT
            have HX10 := Lib.hid (HX8.out.below HB10.out (by omega))
            have HY10 := Lib.hid (HY8.out.below HB10.out hg8)
            have HSS10 := Lib.hid (show ∀ w' : World, Below v10.heap.size v10 w' → (w'.cell? ⟨w6.heap.size, 0, none⟩ = some (.int .i64 kd) ∧ w'.cell? ⟨w6.heap.size, 1, none⟩ = some (.string ⟨#[]⟩) ∧ w'.cell? ⟨w6.heap.size, 2, none⟩ = some (.int .i64 0) ∧ w'.cell? ⟨w6.heap.size, 3, none⟩ = some (.slice A4 all.length c4) ∧ w'.cell? ⟨g8, 0, none⟩ = some (.int .i64 kd) ∧ w'.cell? ⟨g8, 1, none⟩ = some (.string ⟨#[]⟩) ∧ w'.cell? ⟨g8, 2, none⟩ = some (.int .i64 0) ∧ w'.cell? ⟨g8, 3, none⟩ = some (.slice (some ⟨r8, 0, none⟩) 2 2) ∧ Below v10.heap.size v10 w') from fun w' hb => by
              obtain ⟨l0, l1, l2, l3, _, _, _, _⟩ := HX10.out.below hb (by omega)
              obtain ⟨m0, m1, m2, m3, _, _, _, _⟩ := HY10.out.below hb (by omega)
              exact ⟨l0, l1, l2, l3, m0, m1, m2, m3, hb⟩)
            have HT10 := Lib.hid (Utf8Tabs_below HT8.out HB10.out)
            have HKX10 := Lib.hid (kidsAt_on HKX.out HB10.out)
            have HL10 := Lib.hid (HL8.out.on HB10.out)
            have HN4' := Lib.hid HN4.out
            go_upto_region 13 with (fail)
            go_region_held3 (fun w' : World => w'.cell? ⟨w6.heap.size, 0, none⟩ = some (.int .i64 kd) ∧ w'.cell? ⟨w6.heap.size, 1, none⟩ = some (.string ⟨#[]⟩) ∧ w'.cell? ⟨w6.heap.size, 2, none⟩ = some (.int .i64 0) ∧ w'.cell? ⟨w6.heap.size, 3, none⟩ = some (.slice A4 all.length c4) ∧ w'.cell? ⟨g8, 0, none⟩ = some (.int .i64 kd) ∧ w'.cell? ⟨g8, 1, none⟩ = some (.string ⟨#[]⟩) ∧ w'.cell? ⟨g8, 2, none⟩ = some (.int .i64 0) ∧ w'.cell? ⟨g8, 3, none⟩ = some (.slice (some ⟨r8, 0, none⟩) 2 2) ∧ Below v10.heap.size v10 w')
              (first | (exact HSS10.out _ HV3.out) | (exact HSS10.out _ HV2.out) | (exact HSS10.out _ HV1.out) | (exact HSS10.out _ (Below.refl _ _).drew) | assumption)
              (first | (go_at_call 25; refine (same_any T.wt T Ax Ay cx cy _ (Nat.le_refl _) hTw (kin_later hin1 hbf2) (kin_now hin2)).mono ?_; rintro e w2 ⟨rfl, hbf⟩; have HV3 := Lib.hid (bl_call HV2.out hbf); clear hbf) | (go_at_call 26; refine (tidy_as (ofD kd [ofD kd a, ofD kd [ofD kd b, ofD kd c]]) T (some ⟨r8, 0, none⟩) 2 _ HTY.out HWY.out (Utf8Tabs_below HT10.out HV1.out) (fun e => (nomatch e)) (HL10.out.on HV1.out).kids).mono ?_; rintro e w2 ⟨Ay, cy, rfl, hin2, hbf2⟩; have HV2 := Lib.hid (bl_call HV1.out hbf2)) | (go_at_call 26; refine (tidy_as (ofD kd all) T A4 c4 _ HTX.out HWX.out (Utf8Tabs_below HT10.out (Below.refl _ _).drew) HN4.out (kidsAt_on HKX10.out (Below.refl _ _).drew)).mono ?_; rintro e w2 ⟨Ax, cx, rfl, hin1, hbf⟩; have HV1 := Lib.hid (undrew hbf); clear hbf))
            all_goals
              clear hin1 hin2 hbf2
              go_wp2_with fail
              go_roundw
              case rel => exact ⟨k + 1, by omega, by go_num, HW58.out.trans ((HB10.out.trans (HV3.out.mono (by omega))).mono (by have := HW58.out.size; omega))⟩
              case measure => simp [intOf]; omega
    · obtain rfl : k = 4 := by omega
      go_wp2
      go_ret
      exact ⟨rfl, HB04.out.trans ((HBK.out.trans (HBR.out.mono (by omega))).mono (by have := HB04.out.size; omega))⟩
end Go.Proofs.YtnpaplfdmpjfgaaDoor
