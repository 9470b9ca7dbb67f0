/- The program's pen in the memory, and the Builder that lies in it. -/
import Derived.Test.YtnpaplfdmpjfgaaDoorDMem
import Derived.Lib.Builder
import Derived.Lib.AppendStr
import Derived.Lib.UnsafeStr
import Derived.RegionTactic
namespace Go.Proofs.YtnpaplfdmpjfgaaDoor
open Go.RowKit

/-- What stays where it was: the blocks of T. -/
structure Stay (T : Nat → Prop) (w w' : World) : Prop where
  os : w'.os = w.os
  tape : w'.tape = w.tape
  output : w'.output = w.output
  size : w.heap.size ≤ w'.heap.size
  block : ∀ k, k < w.heap.size → T k → w'.heap[k]? = w.heap[k]?
theorem Stay.refl (T : Nat → Prop) (w : World) : Stay T w w := ⟨rfl, rfl, rfl, Nat.le_refl _, fun _ _ _ => rfl⟩
theorem Stay.trans {T T' : Nat → Prop} {w w1 w2 : World} (h : Stay T w w1) (k : Stay T' w1 w2) (hT : ∀ b, b < w.heap.size → T b → T' b) : Stay T w w2 :=
  ⟨k.os.trans h.os, k.tape.trans h.tape, k.output.trans h.output, Nat.le_trans h.size k.size, fun b hb ht => (k.block b (Nat.lt_of_lt_of_le hb h.size) (hT b hb ht)).trans (h.block b hb ht)⟩
theorem Stay.of_below {T : Nat → Prop} {w w' : World} (h : Below w.heap.size w w') : Stay T w w' := ⟨h.os, h.tape, h.output, h.size, fun b hb _ => h.block b hb⟩
theorem Stay.below {T : Nat → Prop} {w w' : World} {B : Nat} (h : Stay T w w') (hB : B ≤ w.heap.size) (hT : ∀ b, b < B → T b) : Below B w w' := ⟨h.os, h.tape, h.output, h.size, fun b hb => h.block b (Nat.lt_of_lt_of_le hb hB) (hT b hb)⟩
theorem Stay.cell {T : Nat → Prop} {w w' : World} (h : Stay T w w') (a : Addr) (hl : a.block < w.heap.size) (ht : T a.block) : w'.cell? a = w.cell? a := World.cell?_of_block (h.block _ hl ht)
theorem Stay.of_grown {w w' : World} {r : Option Nat} (h : w.grownBy w' r) : Stay (fun k => some k ≠ r) w w' := ⟨h.os, h.tape, h.output, h.size, h.block⟩
theorem Stay.weak {T T' : Nat → Prop} {w w' : World} (h : Stay T w w') (hT : ∀ b, b < w.heap.size → T' b → T b) : Stay T' w w' := ⟨h.os, h.tape, h.output, h.size, fun b hb ht => h.block b hb (hT b hb ht)⟩
theorem Stay.setCell {T : Nat → Prop} {w w' : World} (h : Stay T w w') {b : Nat} (hb : ¬ T b) (i : Nat) (v : Value) : Stay T w (w'.setCell ⟨b, i, none⟩ v) :=
  ⟨h.os, h.tape, h.output, by simpa [World.setCell] using h.size, fun k hk ht => (Below.heap_setCell _ _ _ _ (fun e => hb (by have e' : k = b := e; rw [← e']; exact ht))).trans (h.block k hk ht)⟩

/-- Blocks that are neither the pen's nor its buffer's. -/
def Apart (b : Nat) (V : Value) (k : Nat) : Prop := k ≠ b ∧ some k ≠ V.ownBlock
/-- The pen has moved on: nothing else has. -/
def Moved (b : Nat) (V : Value) (w : World) (V' : Value) (w' : World) : Prop := Stay (Apart b V) w w' ∧ Next V w V'
theorem Moved.refl (b : Nat) (V : Value) (w : World) : Moved b V w V w := ⟨Stay.refl _ _, .inl rfl⟩
theorem next_trans {V V1 V2 : Value} {w w1 : World} (h : Next V w V1) (hs : w.heap.size ≤ w1.heap.size) (k : Next V1 w1 V2) : Next V w V2 := by
  rcases k with k | ⟨g, k, hg⟩
  · rcases h with h | ⟨g, h, hg⟩
    · exact .inl (k.trans h)
    · exact .inr ⟨g, k.trans h, hg⟩
  · exact .inr ⟨g, k, by omega⟩
theorem Moved.trans {b : Nat} {V V1 V2 : Value} {w w1 w2 : World} (h : Moved b V w V1 w1) (k : Moved b V1 w1 V2 w2) : Moved b V w V2 w2 := by
  refine ⟨h.1.trans k.1 fun x hx ⟨h1, h2⟩ => ⟨h1, ?_⟩, next_trans h.2 h.1.size k.2⟩
  rcases h.2 with e | ⟨g, e, hg⟩
  · rw [e]; exact h2
  · rw [e]; intro he; simp only [Option.some.injEq] at he; omega
theorem Moved.of_below {b : Nat} {V : Value} {w w' : World} (h : Below w.heap.size w w') : Moved b V w V w' := ⟨Stay.of_below h, .inl rfl⟩

/-- The pen's fields. -/
structure PF where
  wd : Int
  rb : Int
  md : Int
  cl : Int
  st : Int
  ow : Int
  ln : Int
  op : Bool
  lg : Bool
def PF.cells (f : PF) (P V : Value) : Array Value := #[P, V, .int .i64 f.wd, .int .i64 f.rb, .int .i64 f.md, .int .i64 f.cl, .int .i64 f.st, .int .i64 f.ow, .int .i64 f.ln, .bool f.op, .bool f.lg]
/-- The pen lies in block b, its bytes in a row of the call's own. -/
structure PenAt (B : Nat) (w : World) (b : Nat) (V : Value) (f : PF) (bs : List UInt8) : Prop where
  base : B ≤ b
  blk : ∃ P, (P = .pointer none ∨ P = .pointer (some ⟨b, 0, none⟩)) ∧ w.heap[b]? = some (.cells (f.cells P V) 67 (0, 0))
  own : w.ownsRow B 5 1 V bs.length (Lib.byteCells bs)
section
variable {B b : Nat} {w w' : World} {V : Value} {f : PF} {bs : List UInt8}
theorem PenAt.lt (h : PenAt B w b V f bs) : b < w.heap.size := by
  obtain ⟨P, _, hb⟩ := h.blk
  exact (Array.getElem?_eq_some_iff.1 hb).1
theorem PenAt.ne (h : PenAt B w b V f bs) : V.ownBlock ≠ some b := by
  obtain ⟨P, _, hb⟩ := h.blk
  exact Lib.ownBlock_ne h.own hb (by decide)
theorem PenAt.Ble (h : PenAt B w b V f bs) : B ≤ w.heap.size := Nat.le_trans h.base (Nat.le_of_lt h.lt)
theorem PenAt.ofBlk (h : PenAt B w b V f bs) (hk : w'.heap[b]? = w.heap[b]?) (ho : ∀ g, V.ownBlock = some g → w'.heap[g]? = w.heap[g]?) : PenAt B w' b V f bs := by
  obtain ⟨P, hP, hb⟩ := h.blk
  refine ⟨h.base, ⟨P, hP, hk.trans hb⟩, h.own.1, ?_⟩
  rcases h.own.2 with hn | ⟨g, cap, cur, rfl, hbb, hgg, rest⟩
  · exact .inl hn
  · exact .inr ⟨g, cap, cur, rfl, hbb, (ho g rfl).trans hgg, rest⟩
theorem PenAt.later (h : PenAt B w b V f bs) (hb : Below w.heap.size w w') : PenAt B w' b V f bs :=
  h.ofBlk (hb.block _ h.lt) fun g hg => hb.block _ (h.own.lt g hg).2
/-- The pen's cells. -/
structure PenC (w : World) (b : Nat) (V : Value) (f : PF) : Prop where
  c1 : w.cell? ⟨b, 1, none⟩ = some V
  c2 : w.cell? ⟨b, 2, none⟩ = some (.int .i64 f.wd)
  c3 : w.cell? ⟨b, 3, none⟩ = some (.int .i64 f.rb)
  c4 : w.cell? ⟨b, 4, none⟩ = some (.int .i64 f.md)
  c5 : w.cell? ⟨b, 5, none⟩ = some (.int .i64 f.cl)
  c6 : w.cell? ⟨b, 6, none⟩ = some (.int .i64 f.st)
  c7 : w.cell? ⟨b, 7, none⟩ = some (.int .i64 f.ow)
  c8 : w.cell? ⟨b, 8, none⟩ = some (.int .i64 f.ln)
  c9 : w.cell? ⟨b, 9, none⟩ = some (.bool f.op)
  c10 : w.cell? ⟨b, 10, none⟩ = some (.bool f.lg)
  fz : ∀ j, w.frozen? ⟨b, j, none⟩ = false
theorem PenAt.cells (h : PenAt B w b V f bs) : PenC w b V f := by
  obtain ⟨P, _, hb⟩ := h.blk
  exact ⟨by rw [Lib.cell_of_heap hb]; rfl, by rw [Lib.cell_of_heap hb]; rfl, by rw [Lib.cell_of_heap hb]; rfl, by rw [Lib.cell_of_heap hb]; rfl, by rw [Lib.cell_of_heap hb]; rfl, by rw [Lib.cell_of_heap hb]; rfl, by rw [Lib.cell_of_heap hb]; rfl, by rw [Lib.cell_of_heap hb]; rfl, by rw [Lib.cell_of_heap hb]; rfl, by rw [Lib.cell_of_heap hb]; rfl, fun j => Lib.frozen_of_heap hb j⟩
theorem heap_set {w : World} {b i : Nat} {cs : Array Value} {T : TypeId} {fr : Nat × Nat} (hb : w.heap[b]? = some (.cells cs T fr)) (v : Value) : (w.setCell ⟨b, i, none⟩ v).heap[b]? = some (.cells (cs.setIfInBounds i v) T fr) := by
  simp [World.setCell, Array.getElem?_modify, hb]
/-- A store into one of the pen's fields. -/
theorem PenAt.set (h : PenAt B w b V f bs) (f' : PF) (i : Nat) (v : Value) (hc : ∀ P, (f.cells P V).setIfInBounds i v = f'.cells P V) : PenAt B (w.setCell ⟨b, i, none⟩ v) b V f' bs := by
  obtain ⟨P, hP, hb⟩ := h.blk
  refine ⟨h.base, ⟨P, hP, by rw [heap_set hb, hc]⟩, ?_⟩
  exact h.own.kept (row := some b) ⟨rfl, rfl, rfl, by simp [World.setCell], fun k _ hk => Below.heap_setCell _ _ _ _ (fun e => hk (by simp [e]))⟩ (Or.inr h.ne)
theorem Moved.set {V' : Value} (h : Moved b V w V' w') (i : Nat) (v : Value) : Moved b V w V' (w'.setCell ⟨b, i, none⟩ v) := ⟨h.1.setCell (fun hT => hT.1 rfl) i v, h.2⟩
theorem moved_set (b : Nat) (V : Value) (w : World) (i : Nat) (v : Value) : Moved b V w V (w.setCell ⟨b, i, none⟩ v) := (Moved.refl b V w).set i v
end

/-- What a step of the pen leaves. -/
def PenTo (B b : Nat) (w : World) (V : Value) (r : Value) (Q : PF → List UInt8 → Prop) (e : Ending) (w' : World) : Prop := e = .returned r ∧ ∃ V' f' bs', PenAt B w' b V' f' bs' ∧ Moved b V w V' w' ∧ Q f' bs'

set_option maxHeartbeats 1000000 in
theorem blen_any (B b : Nat) (V : Value) (f : PF) (bs : List UInt8) (w : World) (h : PenAt B w b V f bs) : Calls Tryd.prog 88 #[.pointer (some ⟨b, 0, none⟩)] w fun e w' => e = .returned (.int .i64 bs.length) ∧ w = w' := by
  obtain ⟨A, c, rfl⟩ := own_form h.own
  have c1 := h.cells.c1
  clear h
  go_enter Tryd.func88, Tryd.ntmps88
  go_wp2
  go_ret
  exact ⟨rfl, rfl⟩

set_option maxHeartbeats 1000000 in
set_option maxRecDepth 100000 in
theorem bcheck_any (B b : Nat) (V : Value) (f : PF) (bs : List UInt8) (w : World) (h : PenAt B w b V f bs) : Calls Tryd.prog 85 #[.pointer (some ⟨b, 0, none⟩)] w (PenTo B b w V (.tuple #[]) fun f' bs' => f' = f ∧ bs' = bs) := by
  obtain ⟨P, hP, hb⟩ := h.blk
  have c0 : w.cell? ⟨b, 0, none⟩ = some P := by rw [Lib.cell_of_heap hb]; rfl
  have hsh : w.shape? b = some (67, 11) := by simp [World.shape?, hb, PF.cells]
  have hfz := h.cells.fz 0
  have hset : PenAt B (w.setCell ⟨b, 0, none⟩ (.pointer (some ⟨b, 0, none⟩))) b V f bs := by
    refine ⟨h.base, ⟨_, .inr rfl, by rw [heap_set hb]; rfl⟩, ?_⟩
    exact h.own.kept (row := some b) ⟨rfl, rfl, rfl, by simp [World.setCell], fun k _ hk => Below.heap_setCell _ _ _ _ (fun e => hk (by simp [e]))⟩ (Or.inr h.ne)
  obtain ⟨j, hj, hjs⟩ : ∃ j, Tryd.prog.info? 65 = some j ∧ j.size = 2 := Option.map_eq_some_iff.1 (show (Tryd.prog.info? 65).map (·.size) = some 2 by kernel_rfl)
  have hlies : liesAt Tryd.prog Tryd.prog.depth 67 (11 / Tryd.prog.cellsOf 67) 0 65 1 = true := by kernel_rfl
  have HS := Lib.hid hset
  have H := Lib.hid h
  clear hb hset h
  rcases hP with rfl | rfl
  · go_enter Tryd.func85, Tryd.ntmps85
    go_wp2
    rw [Lib.run_to_unsafe w ⟨b, 0, none⟩ Tryd.underlying62 Tryd.underlying109 hj (by rw [hjs]; decide) hsh (Nat.zero_lt_succ 10)]
    simp only [Result.andThen]
    rw [Oper.upon_value]
    go_wp2
    rw [run_callFunc_extern Tryd.func99 (by kernel_rfl) (by kernel_rfl) (by kernel_rfl) (e := Extern.AbiNoEscape.same) (by kernel_rfl)]
    rw [Lib.run_noEscape]
    simp only [Result.andThen]
    rw [Oper.upon_value]
    go_wp2
    rw [Lib.run_from_unsafe w ⟨b, 0, none⟩ Tryd.underlying109 Tryd.underlying62 hj hsh hlies]
    simp only [Result.andThen]
    rw [Oper.upon_value]
    go_wp2
    go_end0
    exact ⟨rfl, V, f, bs, HS.out, moved_set _ _ _ _ _, rfl, rfl⟩
  · go_enter Tryd.func85, Tryd.ntmps85
    go_wp2
    rw [Lib.run_neq_ptr_same w _ Tryd.underlying62 hj]
    go_wp2
    go_end0
    exact ⟨rfl, V, f, bs, H.out, Moved.refl _ _ _, rfl, rfl⟩

theorem info5 : (Tryd.prog.info? 5).map (fun i => (i.zero, i.size, i.bytes)) = some (some (.int .u8 0), 1, 1) := by kernel_rfl

/-- Where the bytes lie behind an append of a string. -/
theorem str_at {w w' : World} {base : Nat} {v v' : Value} {n : Nat} {xs : List Value} {ty : TypeId} (hown : w.ownsRow base 5 1 v n xs) (s : ByteArray) (hbytes : n + s.size ≤ 140737488355328)
    (hr : (Builtin.append_ #[63, 9] ty #[v, .string s]).run Tryd.prog w = .ok v' w') (hnil : v' = .slice none 0 0 ↔ v = .slice none 0 0 ∧ s.size = 0) : Next v w v' := by
  obtain ⟨i0, hi, hz0, hz1, hz2⟩ := info_parts info5
  have hxl : xs.length = n := by simpa using hown.1
  rcases hown.2 with ⟨rfl, rfl⟩ | ⟨g, cap, cur, rfl, hbg, hg, hnc, hcm, hcs, htake⟩
  · by_cases hm : s.size = 0
    · rw [hnil.2 ⟨rfl, hm⟩]; exact .inl rfl
    · have hr2 := run_append_nil_string (P := Tryd.prog) w 63 9 ty 5 i0 (.int .u8 0) Tryd.underlying63 Tryd.underlying9 hi hz0 s (by omega) (by omega) (by rw [hz2]; omega)
      rw [hr] at hr2
      simp only [Result.ok.injEq] at hr2
      rw [hr2.1]
      exact .inr ⟨_, rfl, Nat.le_refl _⟩
  · by_cases hroom : n + s.size ≤ cap
    · have hcs' : cur.size = cap := by simpa using hcs
      have hr2 := Lib.run_append_room_string (P := Tryd.prog) w 63 9 ty 5 i0 Tryd.underlying63 Tryd.underlying9 hi hz1 g n cap cur hg s hroom (by omega)
      rw [hr] at hr2
      simp only [Result.ok.injEq] at hr2
      rw [hr2.1]
      exact .inl rfl
    · have holds : ∀ j u, xs[j]? = some u → w.cell? ((⟨g, 0, none⟩ : Addr).add j) = some u := hown.cells (g := g) rfl
      have hr2 := Lib.run_append_grow_string (P := Tryd.prog) w 63 9 ty 5 i0 (.int .u8 0) Tryd.underlying63 Tryd.underlying9 hi hz0 ⟨g, 0, none⟩ n cap xs (by rw [hz1]; simpa using hxl) holds s (by omega) (by omega) (by rw [hz2]; exact growslice_fits (by omega) (by omega))
      rw [hr] at hr2
      simp only [Result.ok.injEq] at hr2
      rw [hr2.1]
      exact .inr ⟨_, rfl, Nat.le_refl _⟩
theorem wpList_str_at {ops : Array Oper} {rest : List Oper} {o : Oper} {a : Act} {w : World} {Q : Exit → Act → World → Prop} (hgd : o.guard = none) (sl x : Operand)
    (ho : o.op = .call { callee := .builtin .append, args := #[sl, x], argTypes := #[63, 9] })
    (base : Nat) (v : Value) (n : Nat) (xs : List Value) (hs : a.eval sl = v) (hown : w.ownsRow base 5 1 v n xs) (s : ByteArray) (hx : a.eval x = .string s)
    (hbytes : n + s.size ≤ 140737488355328) (hbase : base ≤ w.heap.size)
    (h : ∀ v' w', w'.ownsRow base 5 1 v' (n + s.size) (xs ++ Lib.strCells s) → w.grownBy w' v.ownBlock → Next v w v' → wpList Tryd.prog ops Q rest (a.put o.dst v') w') : wpList Tryd.prog ops Q (o :: rest) a w := by
  obtain ⟨i0, hi, hz0, hz1, hz2⟩ := info_parts info5
  refine wpList_plain hgd fun K hK => ?_
  obtain ⟨v', w', hr, h2, h3, h4⟩ := Lib.run_append_own_string (P := Tryd.prog) w base 63 9 o.type 5 i0 Tryd.underlying63 Tryd.underlying9 hi hz0 hz1 hz2 v n xs hown s (by unfold maxLen; omega) hbytes hbase
  have hat := str_at hown s hbytes hr h4
  unfold Oper.wp execOp
  simp only [ho, resolve, invoke, builtin, Sem.run_bind, Sem.run_pure, Result.andThen_ok, List.map_toArray, List.map_cons, List.map_nil, hs, hx, hr]
  exact hK _ _ (h v' w' h2 h3 hat)

set_option maxHeartbeats 2000000 in
set_option maxRecDepth 100000 in
theorem bstring_any (B b : Nat) (V : Value) (f : PF) (bs : List UInt8) (s : ByteArray) (w : World) (h : PenAt B w b V f bs) (hlen : bs.length + s.size ≤ 140737488355328) :
    Calls Tryd.prog 64 #[.pointer (some ⟨b, 0, none⟩), .string s] w (PenTo B b w V (.tuple #[.int .i64 s.size, .nilIface]) fun f' bs' => f' = f ∧ bs' = bs ++ s.data.toList) := by
  obtain ⟨i0, hi, hz0, hz1, hz2⟩ := info_parts info5
  have HC := Lib.hid (bcheck_any B b V f bs w h)
  clear h
  go_enter Tryd.func64, Tryd.ntmps64
  go_wp2_with fail
  refine HC.out.mono ?_
  rintro e w1 ⟨rfl, V1, f1, bs1, h1, hm1, rfl, rfl⟩
  have c1 := h1.cells.c1
  have hown := h1.own
  have HM1 := Lib.hid hm1
  have H1 := Lib.hid h1
  have hBw := h1.Ble
  clear h1 hm1 HC
  go_wp2_with (at_builtin; refine wpList_str_at rfl _ _ rfl B V1 bs1.length (Lib.byteCells bs1) rfl hown s rfl hlen hBw ?_)
  intro v' w2 hown' hgrow hnx
  have hlt := H1.out.lt
  obtain ⟨P, hP, hb1⟩ := H1.out.blk
  have hne := H1.out.ne
  have hb2 : w2.heap[b]? = some (.cells (f1.cells P V1) 67 (0, 0)) := (hgrow.block b hlt (fun e => hne e.symm)).trans hb1
  have d1 : w2.cell? ⟨b, 1, none⟩ = some V1 := by rw [Lib.cell_of_heap hb2]; rfl
  have f1z : w2.frozen? ⟨b, 1, none⟩ = false := Lib.frozen_of_heap hb2 1
  have HB2 := Lib.hid hb2
  have HP := Lib.hid hP
  have HOWN' := Lib.hid hown'
  have HG := Lib.hid hgrow
  have HNX := Lib.hid hnx
  obtain ⟨ao, cap, rfl⟩ := own_form hown'
  clear hb1 hb2 hP hown' hgrow hnx hown c1
  go_wp2
  go_ret2
  refine ⟨rfl, .slice ao (bs1.length + s.size) cap, f1, bs1 ++ s.data.toList, ?_, ?_, rfl, rfl⟩
  · have hlen' : (bs1 ++ s.data.toList).length = bs1.length + s.size := by rw [List.length_append]; rfl
    have hne2 : (Value.slice ao (bs1.length + s.size) cap).ownBlock ≠ some b := Lib.ownBlock_ne HOWN'.out HB2.out (by decide)
    refine ⟨H1.out.base, ⟨P, HP.out, by rw [heap_set HB2.out]; rfl⟩, ?_⟩
    rw [hlen', Lib.byteCells_append, ← Lib.strCells_eq]
    exact HOWN'.out.kept (row := some b) ⟨rfl, rfl, rfl, by simp [World.setCell], fun k _ hk => Below.heap_setCell _ _ _ _ (fun e => hk (by simp [e]))⟩ (Or.inr hne2)
  · exact (HM1.out.trans (Moved.set ⟨(Stay.of_grown HG.out).weak fun _ _ h => h.2, HNX.out⟩ 1 _))

set_option maxHeartbeats 2000000 in
set_option maxRecDepth 100000 in
theorem bbyte_any (B b : Nat) (V : Value) (f : PF) (bs : List UInt8) (w : World) (h : PenAt B w b V f bs) (hlen : bs.length + 1 ≤ 140737488355328) :
    Calls Tryd.prog 103 #[.pointer (some ⟨b, 0, none⟩), .int .u8 10] w (PenTo B b w V .nilIface fun f' bs' => f' = f ∧ bs' = bs ++ [10]) := by
  have HC := Lib.hid (bcheck_any B b V f bs w h)
  clear h
  go_enter Tryd.func103, Tryd.ntmps103
  go_wp2_with fail
  refine HC.out.mono ?_
  rintro e w1 ⟨rfl, V1, f1, bs1, h1, hm1, rfl, rfl⟩
  have c1 := h1.cells.c1
  have hown := h1.own
  have HM1 := Lib.hid hm1
  have H1 := Lib.hid h1
  have hBw := h1.Ble
  clear h1 hm1 HC
  go_wp2_with (at_builtin; refine wpList_app1 rfl _ _ 63 rfl 5 _ 1 1 Tryd.underlying63 info5 rfl (by decide) w1 [.int .u8 10] rfl _ rfl B V1 _ _ rfl hown rfl rfl (by simp [Value.oneCell']) (by unfold maxLen; omega) (by omega) hBw ?_)
  intro g c w2 hown' _ hgrow hn
  have hlt := H1.out.lt
  obtain ⟨P, hP, hb1⟩ := H1.out.blk
  have hne := H1.out.ne
  have hb2 : w2.heap[b]? = some (.cells (f1.cells P V1) 67 (0, 0)) := (hgrow.block b hlt (fun e => hne e.symm)).trans hb1
  have d1 : w2.cell? ⟨b, 1, none⟩ = some V1 := by rw [Lib.cell_of_heap hb2]; rfl
  have f1z : w2.frozen? ⟨b, 1, none⟩ = false := Lib.frozen_of_heap hb2 1
  have HB2 := Lib.hid hb2
  have HP := Lib.hid hP
  have HOWN' := Lib.hid hown'
  have HG := Lib.hid hgrow
  have HNX := Lib.hid (show Next V1 w1 (.slice (some ⟨g, 0, none⟩) (bs1.length + 1) c) from by
    by_cases hk : some g = V1.ownBlock
    · exact .inl hk
    · exact .inr ⟨g, rfl, Nat.le_of_not_lt fun hlt => hn g hk hlt rfl⟩)
  clear hb1 hb2 hP hown' hgrow hn hown c1
  go_wp2
  go_ret
  refine ⟨rfl, .slice (some ⟨g, 0, none⟩) (bs1.length + 1) c, f1, bs1 ++ [10], ?_, ?_, rfl, rfl⟩
  · have hlen' : (bs1 ++ [(10 : UInt8)]).length = bs1.length + 1 := by simp
    have hne2 : (Value.slice (some ⟨g, 0, none⟩) (bs1.length + 1) c).ownBlock ≠ some b := Lib.ownBlock_ne HOWN'.out HB2.out (by decide)
    refine ⟨H1.out.base, ⟨P, HP.out, by rw [heap_set HB2.out]; rfl⟩, ?_⟩
    rw [hlen', Lib.byteCells_append]
    exact HOWN'.out.kept (row := some b) ⟨rfl, rfl, rfl, by simp [World.setCell], fun k _ hk => Below.heap_setCell _ _ _ _ (fun e => hk (by simp [e]))⟩ (Or.inr hne2)
  · exact (HM1.out.trans (Moved.set ⟨(Stay.of_grown HG.out).weak fun _ _ h => h.2, HNX.out⟩ 1 _))

set_option maxHeartbeats 2000000 in
set_option maxRecDepth 100000 in
theorem btext_any (B b : Nat) (V : Value) (f : PF) (bs : List UInt8) (w : World) (h : PenAt B w b V f bs) : Calls Tryd.prog 56 #[.pointer (some ⟨b, 0, none⟩)] w fun e w' => e = .returned (.string ⟨bs.toArray⟩) ∧ Below B w w' := by
  have hBw := h.Ble
  have hown := h.own
  obtain ⟨P, hP, hbk⟩ := h.blk
  have hlt := h.lt
  have HB := Lib.hid hbk
  clear h hP
  have cw : ∀ w1 : World, w1.heap[b]? = w.heap[b]? → w1.cell? ⟨b, 1, none⟩ = some V := fun w1 h1 => by rw [Lib.cell_of_heap (h1.trans hbk)]; rfl
  have hc1 : w.drew.cell? ⟨b, 1, none⟩ = some V := cw w.drew rfl
  rcases hown.2 with ⟨rfl, hn⟩ | ⟨g, cap, cur, rfl, hbg, hg, hnc, hcm, hcs, htake⟩
  · have hbs : bs = [] := List.eq_nil_of_length_eq_zero hn
    subst hbs
    have hUS := fun W q => Lib.run_unsafeString_none (P := Tryd.prog) W 91 3 9 q
    have hSD : (Builtin.unsafeSliceData_ #[63] 91 #[.slice none 0 0]).run Tryd.prog w.drew = .ok (.pointer none) w.drew := rfl
    clear hown cw hbk
    go_enter Tryd.func56, Tryd.ntmps56
    go_wp2
    go_region
    all_goals (go_wp2; go_ret; exact ⟨rfl, Below.drew (Below.refl B w)⟩)
  · by_cases hl0 : bs = []
    · subst hl0
      have hUS := fun W q => Lib.run_unsafeString_none (P := Tryd.prog) W 91 3 9 q
      by_cases hc0 : cap = 0
      · subst hc0
        have hSD : (Builtin.unsafeSliceData_ #[63] 91 #[.slice (some ⟨g, 0, none⟩) 0 0]).run Tryd.prog w.drew = .ok (.pointer (some ⟨w.drew.heap.size, 0, none⟩)) (w.drew.alloc (.view ⟨g, 0, none⟩ 5)) :=
          Lib.run_unsafeSliceData_zero w.drew _ _ 5 Tryd.underlying91 ⟨g, 0, none⟩ 0 (5, cur.size) (by have hg' : w.drew.heap[g]? = some (.cells cur 5 (0, 0)) := hg; simp [World.shape?, hg'])
        have c2 : (w.drew.alloc (.view ⟨g, 0, none⟩ 5)).cell? ⟨b, 1, none⟩ = some (.slice (some ⟨g, 0, none⟩) 0 0) := cw _ (Lib.alloc_old w.drew _ b hlt)
        have c3 : (w.alloc (.view ⟨g, 0, none⟩ 5)).drew.cell? ⟨b, 1, none⟩ = some (.slice (some ⟨g, 0, none⟩) 0 0) := c2
        have c0 : w.cell? ⟨b, 1, none⟩ = some (.slice (some ⟨g, 0, none⟩) 0 0) := hc1
        clear hown cw hbk
        go_enter Tryd.func56, Tryd.ntmps56
        go_wp2
        go_region
        all_goals (go_wp2; go_ret; exact ⟨rfl, (Below.drew (Below.refl B w)).alloc hBw _⟩)
      · have hSD : (Builtin.unsafeSliceData_ #[63] 91 #[.slice (some ⟨g, 0, none⟩) 0 cap]).run Tryd.prog w.drew = .ok (.pointer (some ⟨g, 0, none⟩)) w.drew := Lib.run_unsafeSliceData_row _ _ _ _ _ _ hc0
        clear hown cw hbk hc0
        go_enter Tryd.func56, Tryd.ntmps56
        go_wp2
        go_region
        all_goals (go_wp2; go_ret; exact ⟨rfl, Below.drew (Below.refl B w)⟩)
    · have hl1 : bs.length ≠ 0 := by simpa using hl0
      have hSD : (Builtin.unsafeSliceData_ #[63] 91 #[.slice (some ⟨g, 0, none⟩) bs.length cap]).run Tryd.prog w.drew = .ok (.pointer (some ⟨g, 0, none⟩)) w.drew := Lib.run_unsafeSliceData_row _ _ _ _ _ _ (by omega)
      have hUS : (Builtin.unsafeString_ #[91, 3] 9 #[.pointer (some ⟨g, 0, none⟩), .int .i64 bs.length]).run Tryd.prog w.drew = .ok (.string ⟨bs.toArray⟩) (w.drew.freeze ⟨g, 0, none⟩ bs.length) := by
        refine Lib.run_unsafeString_row w.drew 91 3 9 5 Tryd.underlying91 (by kernel_rfl) g cur.size (by have hg' : w.drew.heap[g]? = some (.cells cur 5 (0, 0)) := hg; simp [World.shape?, hg']) bs hl0 (by omega) (by unfold maxLen at hcm; omega) ?_
        intro j x hx
        have := hown.cells (g := g) rfl j (.int .u8 x.toNat) (by simp [Lib.byteCells, hx])
        exact this
      clear hown cw hbk hl0 hcs htake
      go_enter Tryd.func56, Tryd.ntmps56
      go_wp2
      go_region
      all_goals (go_wp2; go_ret; exact ⟨rfl, Lib.below_freeze (Below.drew (Below.refl B w)) (p := ⟨g, 0, none⟩) hbg _⟩)
end Go.Proofs.YtnpaplfdmpjfgaaDoor
