/- The reference's lay, by kind. -/
import Derived.Test.YtnpaplfdmpjfgaaDoorDRefW
import Derived.Test.YtnpaplfdmpjfgaaDoorDRefF
import Derived.Test.YtnpaplfdmpjfgaaDoorDLayP
namespace Go.Proofs.YtnpaplfdmpjfgaaDoor
open Go.RowKit

theorem lay_str {c : Cfg} {q : Pen} {base : Int} {fresh : Bool} {d : Doc} (hk : d.kind = 1) : d.lay c q base fresh = put c q d.text base fresh := by
  rw [lay_eq, show (d.kind == 1) = true by rw [hk]; rfl, if_pos rfl]
theorem lay_bes {c : Cfg} {q : Pen} {base : Int} {fresh : Bool} {d : Doc} (hk : d.kind = 3 ∨ d.kind = 4) : d.lay c q base fresh = besides c d.kind d.kids true q base fresh := by
  rw [lay_eq, show (d.kind == 1) = false by rcases hk with h | h <;> rw [h] <;> rfl, show (d.kind == 2) = false by rcases hk with h | h <;> rw [h] <;> rfl, show (d.kind == 3 || d.kind == 4) = true by rcases hk with h | h <;> rw [h] <;> rfl, if_neg Bool.false_ne_true, if_neg Bool.false_ne_true, if_pos rfl]
theorem lay_fil {c : Cfg} {q : Pen} {base : Int} {fresh : Bool} {d : Doc} (hk : d.kind = 9 ∨ d.kind = 10) : d.lay c q base fresh = fills c d.kind d.kids true false q base fresh := by
  rw [lay_eq, show (d.kind == 1) = false by rcases hk with h | h <;> rw [h] <;> rfl, show (d.kind == 2) = false by rcases hk with h | h <;> rw [h] <;> rfl, show (d.kind == 3 || d.kind == 4) = false by rcases hk with h | h <;> rw [h] <;> rfl, show (d.kind == 9 || d.kind == 10) = true by rcases hk with h | h <;> rw [h] <;> rfl, if_neg Bool.false_ne_true, if_neg Bool.false_ne_true, if_neg Bool.false_ne_true, if_pos rfl]
theorem lay_sep {c : Cfg} {q : Pen} {base : Int} {fresh : Bool} {d : Doc} (hk : d.kind = 7 ∨ d.kind = 8) : d.lay c q base fresh = match sepT c d.kind q d.flat d.void (base + d.lead0) fresh with
      | some s => put c q s (base + d.lead0) fresh
      | none => belows c (d.kind == 5) d.kids true q base fresh := by
  rw [lay_eq, show (d.kind == 1) = false by rcases hk with h | h <;> rw [h] <;> rfl, show (d.kind == 2) = false by rcases hk with h | h <;> rw [h] <;> rfl, show (d.kind == 3 || d.kind == 4) = false by rcases hk with h | h <;> rw [h] <;> rfl, show (d.kind == 9 || d.kind == 10) = false by rcases hk with h | h <;> rw [h] <;> rfl, if_neg Bool.false_ne_true, if_neg Bool.false_ne_true, if_neg Bool.false_ne_true, if_neg Bool.false_ne_true]
  cases sepT c d.kind q d.flat d.void (base + d.lead0) fresh <;> rfl
theorem lay_bel {c : Cfg} {q : Pen} {base : Int} {fresh : Bool} {d : Doc} (hk : d.kind = 0 ∨ d.kind = 5 ∨ d.kind = 6) : d.lay c q base fresh = belows c (d.kind == 5) d.kids true q base fresh := by
  have hs : sepT c d.kind q d.flat d.void (base + d.lead0) fresh = none := by
    unfold sepT
    rw [show (d.kind == 7 || d.kind == 8) = false by rcases hk with h | h | h <;> rw [h] <;> rfl]
    rfl
  rw [lay_eq, show (d.kind == 1) = false by rcases hk with h | h | h <;> rw [h] <;> rfl, show (d.kind == 2) = false by rcases hk with h | h | h <;> rw [h] <;> rfl, show (d.kind == 3 || d.kind == 4) = false by rcases hk with h | h | h <;> rw [h] <;> rfl, show (d.kind == 9 || d.kind == 10) = false by rcases hk with h | h | h <;> rw [h] <;> rfl, if_neg Bool.false_ne_true, if_neg Bool.false_ne_true, if_neg Bool.false_ne_true, if_neg Bool.false_ne_true, hs]
theorem stay_next {B : Nat} {w wr w2 : World} {V0 Vk : Value} {c : Cfg} {pb db rb : Nat} {d : Doc} {A : Option Addr} {cc : Nat} {M : Int} {qk : Pen} {lk : Bool} (h : RSt B w V0 c pb db rb d A cc M wr Vk qk lk) (hs : Stay (fun k => some k ≠ Vk.ownBlock) wr w2) : Stay (fun k => some k ≠ V0.ownBlock) w w2 :=
  h.stay.trans hs fun k hk ht => by
    rcases h.next with e | ⟨x, e, hx⟩
    · rw [e]; exact ht
    · rw [e]; intro he; simp only [Option.some.injEq] at he; omega

set_option maxRecDepth 100000 in
set_option maxHeartbeats 16000000 in
theorem rlay_dead (d : Doc) (B : Nat) (V : Value) (c : Cfg) (q : Pen) (base M : Int) (fresh : Bool) (A : Option Addr) (cc : Nat) (w : World)
    (h : w.ownsRow B 5 1 V q.out.length (Lib.byteCells q.out)) (hB : B ≤ w.heap.size) (hi : Inv M q) :
    Calls Tryd.prog 57 #[.agg #[V, .int .i64 q.col, .int .i64 q.start, .bool q.op, .int .i64 q.owed, .int .i64 q.lines, .bool true, .int .i64 c.width, .int .i64 c.ribbon, .int .i64 c.mode], .agg #[.int .i64 d.kind, .string d.text, .int .i64 d.n, .slice A d.kids.length cc], .int .i64 base, .bool fresh] w (RLaid B w V c (M + 4000 * (d.wt : Int) - 2000) none) := by
  have hwp := wt_pos d
  obtain ⟨A0, c0, rfl⟩ := own_form h
  obtain ⟨hbx, hb0', hs0⟩ := rbox_new w (.slice A0 q.out.length c0) (pfOf c q true)
  simp only [pfOf] at hb0' hs0
  obtain ⟨W0, hW0⟩ : ∃ W, w.alloc (.cells #[(.slice A0 q.out.length c0), .int .i64 q.col, .int .i64 q.start, .bool q.op, .int .i64 q.owed, .int .i64 q.lines, .bool true, .int .i64 c.width, .int .i64 c.ribbon, .int .i64 c.mode] 73) = W := ⟨_, rfl⟩
  have hbx0 : RBox W0 w.heap.size (.slice A0 q.out.length c0) (pfOf c q true) := by rw [← hW0]; exact hbx
  rw [hW0] at hb0' hs0
  obtain ⟨hdx, hbd, hs1⟩ := dbox_new W0 d A cc
  obtain ⟨W1, hW1⟩ : ∃ W, W0.alloc (.cells #[.int .i64 d.kind, .string d.text, .int .i64 d.n, .slice A d.kids.length cc] 24) = W := ⟨_, rfl⟩
  rw [hW1] at hdx hbd hs1
  obtain ⟨hrx, hbr, hs2⟩ := rbox_new W1 (.slice none 0 0) PF0
  simp only [PF0] at hbr hs2
  obtain ⟨W, hW⟩ : ∃ W, W1.alloc (.cells #[.slice none 0 0, .int .i64 0, .int .i64 0, .bool false, .int .i64 0, .int .i64 0, .bool false, .int .i64 0, .int .i64 0, .int .i64 0] 73) = W := ⟨_, rfl⟩
  have hrx0 : RBox W W1.heap.size (.slice none 0 0) PF0 := by rw [← hW]; exact hrx
  rw [hW] at hbr hs2
  have hb2 := (hb0'.trans (hbd.mono (by omega))).trans (hbr.mono (by omega))
  have HS0 := Lib.hid (show RSt B w (.slice A0 q.out.length c0) c w.heap.size W0.heap.size W1.heap.size d A cc M W (.slice A0 q.out.length c0) q true from
    ⟨own_on h hb2, (hbx0.on hbd).on hbr, hrx0, hdx.on hbr, Stay.of_below hb2, .inl rfl, hi, Nat.le_refl _, by omega, by omega, by omega, hB⟩)
  have hord : w.heap.size < W0.heap.size ∧ W0.heap.size < W1.heap.size ∧ W1.heap.size < W.heap.size := ⟨by omega, by omega, by omega⟩
  obtain ⟨ho1, ho2, ho3⟩ := hord
  clear h hi hbx hbx0 hb0' hs0 hdx hbd hs1 hrx hrx0 hbr hs2 hb2
  obtain ⟨e0, e1, e2, e3, e4, e5, e6, e7, e8, e9, ez⟩ := (HS0.out.pbx).cells
  simp only [pfOf] at e1 e2 e3 e4 e5 e6 e7 e8 e9
  have ef0 := ez 0
  have ef1 := ez 1
  have ef2 := ez 2
  have ef3 := ez 3
  have ef4 := ez 4
  have ef5 := ez 5
  have ef6 := ez 6
  have ef7 := ez 7
  have ef8 := ez 8
  have ef9 := ez 9
  clear ez
  obtain ⟨u0, u1, u2, u3, u4, u5, u6, u7, u8, u9, uz⟩ := (HS0.out.rbx).cells
  simp only [PF0] at u1 u2 u3 u4 u5 u6 u7 u8 u9
  have uf0 := uz 0
  have uf1 := uz 1
  have uf2 := uz 2
  have uf3 := uz 3
  have uf4 := uz 4
  have uf5 := uz 5
  have uf6 := uz 6
  have uf7 := uz 7
  have uf8 := uz 8
  have uf9 := uz 9
  clear uz
  go_enter Tryd.func57, Tryd.ntmps57
  go_wp2
  have nr : Value.ownBlock (.slice A0 q.out.length c0) ≠ some W1.heap.size := Lib.ownBlock_ne (HS0.out.own) (HS0.out.rbx).blk (by decide)
  have kz := (HS0.out.rbx).put (.slice A0 q.out.length c0) (pfOf c q true)
  have oz := own_put (HS0.out.own) nr (.slice A0 q.out.length c0) (pfOf c q true)
  have bz := stay_put2 (HS0.out.stay) (b := W1.heap.size) (by omega) (.slice A0 q.out.length c0) (pfOf c q true)
  simp only [pfOf] at kz oz bz
  generalize ((((((((((W.setCell ⟨W1.heap.size, 0, none⟩ (.slice A0 q.out.length c0)).setCell ⟨W1.heap.size, 1, none⟩ (.int .i64 q.col)).setCell ⟨W1.heap.size, 2, none⟩ (.int .i64 q.start)).setCell ⟨W1.heap.size, 3, none⟩ (.bool q.op)).setCell ⟨W1.heap.size, 4, none⟩ (.int .i64 q.owed)).setCell ⟨W1.heap.size, 5, none⟩ (.int .i64 q.lines)).setCell ⟨W1.heap.size, 6, none⟩ (.bool true)).setCell ⟨W1.heap.size, 7, none⟩ (.int .i64 c.width)).setCell ⟨W1.heap.size, 8, none⟩ (.int .i64 c.ribbon)).setCell ⟨W1.heap.size, 9, none⟩ (.int .i64 c.mode)) = WZ at kz oz bz ⊢
  obtain ⟨z0, z1, z2, z3, z4, z5, z6, z7, z8, z9, -⟩ := kz.cells
  simp only at z1 z2 z3 z4 z5 z6 z7 z8 z9
  refine bodyPost_ret (v := .agg #[(.slice A0 q.out.length c0), (.int .i64 q.col), (.int .i64 q.start), (.bool q.op), (.int .i64 q.owed), (.int .i64 q.lines), (.bool true), (.int .i64 c.width), (.int .i64 c.ribbon), (.int .i64 c.mode)]) (by simp [results, Tryd.results57, go_sem, z0, z1, z2, z3, z4, z5, z6, z7, z8, z9]) rfl ?_
  exact ⟨_, q, true, rfl, oz, bz, .inl rfl, HS0.out.inv.mono (by omega), rfl⟩

set_option maxRecDepth 100000 in
set_option maxHeartbeats 16000000 in
theorem rlay_1 (B n₀ : Nat) (V : Value) (c : Cfg) (q : Pen) (base M : Int) (fresh : Bool) (d : Doc) (A : Option Addr) (cc : Nat) (w : World) (hk : d.kind = 1) 
    (h : w.ownsRow B 5 1 V q.out.length (Lib.byteCells q.out)) (hB : B ≤ w.heap.size) (hi : Inv M q) (hsay : ∀ x ∈ d.kids, RLaySays x ∧ x.form = true) (hfm : d.form = true) (hw : d.wt ≤ 4194304) (hfo : d.void = false → FOk c q (base + d.lead0) fresh) (_hb0 : -M ≤ base) (hb1 : base ≤ M) (hM : M + 4000 * (d.wt : Int) - 2000 ≤ 1099511627776) (hn : n₀ ≤ B) (hK : KidsAt n₀ w d.kids A) :
    Calls Tryd.prog 57 #[.agg #[V, .int .i64 q.col, .int .i64 q.start, .bool q.op, .int .i64 q.owed, .int .i64 q.lines, .bool false, .int .i64 c.width, .int .i64 c.ribbon, .int .i64 c.mode], .agg #[.int .i64 d.kind, .string d.text, .int .i64 d.n, .slice A d.kids.length cc], .int .i64 base, .bool fresh] w (RLaid B w V c (M + 4000 * (d.wt : Int) - 2000) (d.lay c q base fresh)) := by
  have hwe := wt_eq d
  have hwp := wt_pos d
  have HFM := Lib.hid hfm
  have HFO := Lib.hid hfo
  clear hfm hfo
  obtain ⟨A0, c0, rfl⟩ := own_form h
  have hkl := kids_lt d
  have hdl := len_le_wts d.kids
  obtain ⟨hbx, hb0', hs0⟩ := rbox_new w (.slice A0 q.out.length c0) (pfOf c q false)
  simp only [pfOf] at hb0' hs0
  obtain ⟨W0, hW0⟩ : ∃ W, w.alloc (.cells #[(.slice A0 q.out.length c0), .int .i64 q.col, .int .i64 q.start, .bool q.op, .int .i64 q.owed, .int .i64 q.lines, .bool false, .int .i64 c.width, .int .i64 c.ribbon, .int .i64 c.mode] 73) = W := ⟨_, rfl⟩
  have hbx0 : RBox W0 w.heap.size (.slice A0 q.out.length c0) (pfOf c q false) := by rw [← hW0]; exact hbx
  rw [hW0] at hb0' hs0
  obtain ⟨hdx, hbd, hs1⟩ := dbox_new W0 d A cc
  obtain ⟨W1, hW1⟩ : ∃ W, W0.alloc (.cells #[.int .i64 d.kind, .string d.text, .int .i64 d.n, .slice A d.kids.length cc] 24) = W := ⟨_, rfl⟩
  rw [hW1] at hdx hbd hs1
  obtain ⟨hrx, hbr, hs2⟩ := rbox_new W1 (.slice none 0 0) PF0
  simp only [PF0] at hbr hs2
  obtain ⟨W, hW⟩ : ∃ W, W1.alloc (.cells #[.slice none 0 0, .int .i64 0, .int .i64 0, .bool false, .int .i64 0, .int .i64 0, .bool false, .int .i64 0, .int .i64 0, .int .i64 0] 73) = W := ⟨_, rfl⟩
  have hrx0 : RBox W W1.heap.size (.slice none 0 0) PF0 := by rw [← hW]; exact hrx
  rw [hW] at hbr hs2
  have hb2 := (hb0'.trans (hbd.mono (by omega))).trans (hbr.mono (by omega))
  have HS0 := Lib.hid (show RSt B w (.slice A0 q.out.length c0) c w.heap.size W0.heap.size W1.heap.size d A cc M W (.slice A0 q.out.length c0) q false from
    ⟨own_on h hb2, (hbx0.on hbd).on hbr, hrx0, hdx.on hbr, Stay.of_below hb2, .inl rfl, hi, Nat.le_refl _, by omega, by omega, by omega, hB⟩)
  have HVB := Lib.hid (show ∀ g, Value.ownBlock (.slice A0 q.out.length c0) = some g → B ≤ g from fun g hg => (h.lt g hg).1)
  have HSAY := Lib.hid hsay
  have HK := Lib.hid hK
  have hord : w.heap.size < W0.heap.size ∧ W0.heap.size < W1.heap.size ∧ W1.heap.size < W.heap.size := ⟨by omega, by omega, by omega⟩
  obtain ⟨ho1, ho2, ho3⟩ := hord
  clear h hi hsay hK hbx hbx0 hb0' hs0 hdx hbd hs1 hrx hrx0 hbr hs2 hb2
  have HLOW := Lib.hid (HS0.out.low HVB.out hn)
  have HKW := Lib.hid (kidsAt_below HK.out HLOW.out)
  obtain ⟨y0, y1, y2, y3, _, _, _, _⟩ := HS0.out.dbx.box
  have k1 : (d.kind == 1) = true := by rw [hk]; rfl
  have k2 : (d.kind == 2) = false := by rw [hk]; rfl
  have k3 : (d.kind == 3) = false := by rw [hk]; rfl
  have k4 : (d.kind == 4) = false := by rw [hk]; rfl
  have k7 : (d.kind == 7) = false := by rw [hk]; rfl
  have k8 : (d.kind == 8) = false := by rw [hk]; rfl
  have k9 : (d.kind == 9) = false := by rw [hk]; rfl
  have k10 : (d.kind == 10) = false := by rw [hk]; rfl
  have HKD := Lib.hid hk
  clear hk
  obtain ⟨e0, e1, e2, e3, e4, e5, e6, e7, e8, e9, ez⟩ := (HS0.out.pbx).cells
  simp only [pfOf] at e1 e2 e3 e4 e5 e6 e7 e8 e9
  have ef0 := ez 0
  have ef1 := ez 1
  have ef2 := ez 2
  have ef3 := ez 3
  have ef4 := ez 4
  have ef5 := ez 5
  have ef6 := ez 6
  have ef7 := ez 7
  have ef8 := ez 8
  have ef9 := ez 9
  clear ez
  have HLAY := Lib.hid (show d.lay c q base fresh = put c q d.text base fresh from lay_str HKD.out)
  have HFP := Lib.hid (show FOk c q base fresh by
    have := HFO.out (by rw [void_eq, HKD.out]; rfl)
    rw [show d.lead0 = 0 by rw [lead0_eq, HKD.out]; rfl, Int.add_zero] at this
    exact this)
  go_enter Tryd.func57, Tryd.ntmps57
  have HC1 := Lib.hid (rput_any B (.slice A0 q.out.length c0) c q false d.text base M fresh W HS0.out.own HS0.out.ble HS0.out.inv HFP.out (by omega) hb1 (by omega))
  go_wp2_with fail
  refine HC1.out.mono ?_
  rintro e v1 ⟨V1, q1, l1, rfl, g1, g2, g3, g4, g5⟩
  obtain ⟨A1, c1, rfl⟩ := own_form g1
  have hr1 := HS0.out.rbx.stay g2 (fun e => Lib.ownBlock_ne HS0.out.own HS0.out.rbx.blk (by decide) e.symm)
  have hs1 := stay_next HS0.out g2
  have hn1 := next_trans HS0.out.next HS0.out.stay.size g3
  have HR1 := Lib.hid hr1
  have HO1 := Lib.hid g1
  have HS1 := Lib.hid hs1
  have HN1 := Lib.hid hn1
  have HI1 := Lib.hid g4
  have HSM := Lib.hid g5
  clear e0 e1 e2 e3 e4 e5 e6 e7 e8 e9 ef0 ef1 ef2 ef3 ef4 ef5 ef6 ef7 ef8 ef9 y0 y1 y2 y3 hW hW0 hW1 k1 k2 k3 k4 k7 k8 k9 k10 hs1 hn1 g1 g2 g3 g4 g5 HC1
  obtain ⟨u0, u1, u2, u3, u4, u5, u6, u7, u8, u9, uz⟩ := (hr1).cells
  simp only [PF0] at u1 u2 u3 u4 u5 u6 u7 u8 u9
  have uf0 := uz 0
  have uf1 := uz 1
  have uf2 := uz 2
  have uf3 := uz 3
  have uf4 := uz 4
  have uf5 := uz 5
  have uf6 := uz 6
  have uf7 := uz 7
  have uf8 := uz 8
  have uf9 := uz 9
  clear uz
  clear hr1
  go_wp2
  have nr : Value.ownBlock (.slice A1 q1.out.length c1) ≠ some W1.heap.size := Lib.ownBlock_ne (HO1.out) (HR1.out).blk (by decide)
  have kz := (HR1.out).put (.slice A1 q1.out.length c1) (pfOf c q1 l1)
  have oz := own_put (HO1.out) nr (.slice A1 q1.out.length c1) (pfOf c q1 l1)
  have bz := stay_put2 (HS1.out) (b := W1.heap.size) (by omega) (.slice A1 q1.out.length c1) (pfOf c q1 l1)
  simp only [pfOf] at kz oz bz
  generalize ((((((((((v1.setCell ⟨W1.heap.size, 0, none⟩ (.slice A1 q1.out.length c1)).setCell ⟨W1.heap.size, 1, none⟩ (.int .i64 q1.col)).setCell ⟨W1.heap.size, 2, none⟩ (.int .i64 q1.start)).setCell ⟨W1.heap.size, 3, none⟩ (.bool q1.op)).setCell ⟨W1.heap.size, 4, none⟩ (.int .i64 q1.owed)).setCell ⟨W1.heap.size, 5, none⟩ (.int .i64 q1.lines)).setCell ⟨W1.heap.size, 6, none⟩ (.bool l1)).setCell ⟨W1.heap.size, 7, none⟩ (.int .i64 c.width)).setCell ⟨W1.heap.size, 8, none⟩ (.int .i64 c.ribbon)).setCell ⟨W1.heap.size, 9, none⟩ (.int .i64 c.mode)) = WZ at kz oz bz ⊢
  obtain ⟨z0, z1, z2, z3, z4, z5, z6, z7, z8, z9, -⟩ := kz.cells
  simp only at z1 z2 z3 z4 z5 z6 z7 z8 z9
  refine bodyPost_ret (v := .agg #[(.slice A1 q1.out.length c1), (.int .i64 q1.col), (.int .i64 q1.start), (.bool q1.op), (.int .i64 q1.owed), (.int .i64 q1.lines), (.bool l1), (.int .i64 c.width), (.int .i64 c.ribbon), (.int .i64 c.mode)]) (by simp [results, Tryd.results57, go_sem, z0, z1, z2, z3, z4, z5, z6, z7, z8, z9]) rfl ?_
  exact ⟨_, q1, l1, rfl, oz, bz, HN1.out, HI1.out.mono (by omega), by rw [HLAY.out]; exact HSM.out⟩

set_option maxRecDepth 100000 in
set_option maxHeartbeats 16000000 in
theorem rlay_0 (B n₀ : Nat) (V : Value) (c : Cfg) (q : Pen) (base M : Int) (fresh : Bool) (d : Doc) (A : Option Addr) (cc : Nat) (w : World) (hk : d.kind = 0) 
    (h : w.ownsRow B 5 1 V q.out.length (Lib.byteCells q.out)) (hB : B ≤ w.heap.size) (hi : Inv M q) (hsay : ∀ x ∈ d.kids, RLaySays x ∧ x.form = true) (hfm : d.form = true) (hw : d.wt ≤ 4194304) (hfo : d.void = false → FOk c q (base + d.lead0) fresh) (hb0 : -M ≤ base) (hb1 : base ≤ M) (hM : M + 4000 * (d.wt : Int) - 2000 ≤ 1099511627776) (hn : n₀ ≤ B) (hK : KidsAt n₀ w d.kids A) :
    Calls Tryd.prog 57 #[.agg #[V, .int .i64 q.col, .int .i64 q.start, .bool q.op, .int .i64 q.owed, .int .i64 q.lines, .bool false, .int .i64 c.width, .int .i64 c.ribbon, .int .i64 c.mode], .agg #[.int .i64 d.kind, .string d.text, .int .i64 d.n, .slice A d.kids.length cc], .int .i64 base, .bool fresh] w (RLaid B w V c (M + 4000 * (d.wt : Int) - 2000) (d.lay c q base fresh)) := by
  have hwe := wt_eq d
  have hwp := wt_pos d
  have HFM := Lib.hid hfm
  have HFO := Lib.hid hfo
  clear hfm hfo
  obtain ⟨A0, c0, rfl⟩ := own_form h
  have hkl := kids_lt d
  have hdl := len_le_wts d.kids
  obtain ⟨hbx, hb0', hs0⟩ := rbox_new w (.slice A0 q.out.length c0) (pfOf c q false)
  simp only [pfOf] at hb0' hs0
  obtain ⟨W0, hW0⟩ : ∃ W, w.alloc (.cells #[(.slice A0 q.out.length c0), .int .i64 q.col, .int .i64 q.start, .bool q.op, .int .i64 q.owed, .int .i64 q.lines, .bool false, .int .i64 c.width, .int .i64 c.ribbon, .int .i64 c.mode] 73) = W := ⟨_, rfl⟩
  have hbx0 : RBox W0 w.heap.size (.slice A0 q.out.length c0) (pfOf c q false) := by rw [← hW0]; exact hbx
  rw [hW0] at hb0' hs0
  obtain ⟨hdx, hbd, hs1⟩ := dbox_new W0 d A cc
  obtain ⟨W1, hW1⟩ : ∃ W, W0.alloc (.cells #[.int .i64 d.kind, .string d.text, .int .i64 d.n, .slice A d.kids.length cc] 24) = W := ⟨_, rfl⟩
  rw [hW1] at hdx hbd hs1
  obtain ⟨hrx, hbr, hs2⟩ := rbox_new W1 (.slice none 0 0) PF0
  simp only [PF0] at hbr hs2
  obtain ⟨W, hW⟩ : ∃ W, W1.alloc (.cells #[.slice none 0 0, .int .i64 0, .int .i64 0, .bool false, .int .i64 0, .int .i64 0, .bool false, .int .i64 0, .int .i64 0, .int .i64 0] 73) = W := ⟨_, rfl⟩
  have hrx0 : RBox W W1.heap.size (.slice none 0 0) PF0 := by rw [← hW]; exact hrx
  rw [hW] at hbr hs2
  have hb2 := (hb0'.trans (hbd.mono (by omega))).trans (hbr.mono (by omega))
  have HS0 := Lib.hid (show RSt B w (.slice A0 q.out.length c0) c w.heap.size W0.heap.size W1.heap.size d A cc M W (.slice A0 q.out.length c0) q false from
    ⟨own_on h hb2, (hbx0.on hbd).on hbr, hrx0, hdx.on hbr, Stay.of_below hb2, .inl rfl, hi, Nat.le_refl _, by omega, by omega, by omega, hB⟩)
  have HVB := Lib.hid (show ∀ g, Value.ownBlock (.slice A0 q.out.length c0) = some g → B ≤ g from fun g hg => (h.lt g hg).1)
  have HSAY := Lib.hid hsay
  have HK := Lib.hid hK
  have hord : w.heap.size < W0.heap.size ∧ W0.heap.size < W1.heap.size ∧ W1.heap.size < W.heap.size := ⟨by omega, by omega, by omega⟩
  obtain ⟨ho1, ho2, ho3⟩ := hord
  clear h hi hsay hK hbx hbx0 hb0' hs0 hdx hbd hs1 hrx hrx0 hbr hs2 hb2
  have HLOW := Lib.hid (HS0.out.low HVB.out hn)
  have HKW := Lib.hid (kidsAt_below HK.out HLOW.out)
  obtain ⟨y0, y1, y2, y3, _, _, _, _⟩ := HS0.out.dbx.box
  have k1 : (d.kind == 1) = false := by rw [hk]; rfl
  have k2 : (d.kind == 2) = false := by rw [hk]; rfl
  have k3 : (d.kind == 3) = false := by rw [hk]; rfl
  have k4 : (d.kind == 4) = false := by rw [hk]; rfl
  have k7 : (d.kind == 7) = false := by rw [hk]; rfl
  have k8 : (d.kind == 8) = false := by rw [hk]; rfl
  have k9 : (d.kind == 9) = false := by rw [hk]; rfl
  have k10 : (d.kind == 10) = false := by rw [hk]; rfl
  have HKD := Lib.hid hk
  clear hk
  obtain ⟨e0, e1, e2, e3, e4, e5, e6, e7, e8, e9, ez⟩ := (HS0.out.pbx).cells
  simp only [pfOf] at e1 e2 e3 e4 e5 e6 e7 e8 e9
  have ef0 := ez 0
  have ef1 := ez 1
  have ef2 := ez 2
  have ef3 := ez 3
  have ef4 := ez 4
  have ef5 := ez 5
  have ef6 := ez 6
  have ef7 := ez 7
  have ef8 := ez 8
  have ef9 := ez 9
  clear ez
  have HLAY := Lib.hid (show d.lay c q base fresh = belows c (d.kind == 5) d.kids true q base fresh from lay_bel (by rw [HKD.out]; decide))
  go_enter Tryd.func57, Tryd.ntmps57
  have HC1 := Lib.hid (rbelow_any d B n₀ (.slice A0 q.out.length c0) c q base M fresh A cc W HS0.out.own HS0.out.ble HS0.out.inv HSAY.out (fok_kids HFM.out (by rw [HKD.out]; decide) (by rw [HKD.out]; decide) HFO.out) hb0 hb1 (by omega) (by omega) hn HKW.out)
  go_wp2_with fail
  refine HC1.out.mono ?_
  rintro e v1 ⟨V1, q1, l1, rfl, g1, g2, g3, g4, g5⟩
  obtain ⟨A1, c1, rfl⟩ := own_form g1
  have hr1 := HS0.out.rbx.stay g2 (fun e => Lib.ownBlock_ne HS0.out.own HS0.out.rbx.blk (by decide) e.symm)
  have hs1 := stay_next HS0.out g2
  have hn1 := next_trans HS0.out.next HS0.out.stay.size g3
  have HR1 := Lib.hid hr1
  have HO1 := Lib.hid g1
  have HS1 := Lib.hid hs1
  have HN1 := Lib.hid hn1
  have HI1 := Lib.hid g4
  have HSM := Lib.hid g5
  clear e0 e1 e2 e3 e4 e5 e6 e7 e8 e9 ef0 ef1 ef2 ef3 ef4 ef5 ef6 ef7 ef8 ef9 y0 y1 y2 y3 hW hW0 hW1 k1 k2 k3 k4 k7 k8 k9 k10 hs1 hn1 g1 g2 g3 g4 g5 HC1
  obtain ⟨u0, u1, u2, u3, u4, u5, u6, u7, u8, u9, uz⟩ := (hr1).cells
  simp only [PF0] at u1 u2 u3 u4 u5 u6 u7 u8 u9
  have uf0 := uz 0
  have uf1 := uz 1
  have uf2 := uz 2
  have uf3 := uz 3
  have uf4 := uz 4
  have uf5 := uz 5
  have uf6 := uz 6
  have uf7 := uz 7
  have uf8 := uz 8
  have uf9 := uz 9
  clear uz
  clear hr1
  go_wp2
  have nr : Value.ownBlock (.slice A1 q1.out.length c1) ≠ some W1.heap.size := Lib.ownBlock_ne (HO1.out) (HR1.out).blk (by decide)
  have kz := (HR1.out).put (.slice A1 q1.out.length c1) (pfOf c q1 l1)
  have oz := own_put (HO1.out) nr (.slice A1 q1.out.length c1) (pfOf c q1 l1)
  have bz := stay_put2 (HS1.out) (b := W1.heap.size) (by omega) (.slice A1 q1.out.length c1) (pfOf c q1 l1)
  simp only [pfOf] at kz oz bz
  generalize ((((((((((v1.setCell ⟨W1.heap.size, 0, none⟩ (.slice A1 q1.out.length c1)).setCell ⟨W1.heap.size, 1, none⟩ (.int .i64 q1.col)).setCell ⟨W1.heap.size, 2, none⟩ (.int .i64 q1.start)).setCell ⟨W1.heap.size, 3, none⟩ (.bool q1.op)).setCell ⟨W1.heap.size, 4, none⟩ (.int .i64 q1.owed)).setCell ⟨W1.heap.size, 5, none⟩ (.int .i64 q1.lines)).setCell ⟨W1.heap.size, 6, none⟩ (.bool l1)).setCell ⟨W1.heap.size, 7, none⟩ (.int .i64 c.width)).setCell ⟨W1.heap.size, 8, none⟩ (.int .i64 c.ribbon)).setCell ⟨W1.heap.size, 9, none⟩ (.int .i64 c.mode)) = WZ at kz oz bz ⊢
  obtain ⟨z0, z1, z2, z3, z4, z5, z6, z7, z8, z9, -⟩ := kz.cells
  simp only at z1 z2 z3 z4 z5 z6 z7 z8 z9
  refine bodyPost_ret (v := .agg #[(.slice A1 q1.out.length c1), (.int .i64 q1.col), (.int .i64 q1.start), (.bool q1.op), (.int .i64 q1.owed), (.int .i64 q1.lines), (.bool l1), (.int .i64 c.width), (.int .i64 c.ribbon), (.int .i64 c.mode)]) (by simp [results, Tryd.results57, go_sem, z0, z1, z2, z3, z4, z5, z6, z7, z8, z9]) rfl ?_
  exact ⟨_, q1, l1, rfl, oz, bz, HN1.out, HI1.out.mono (by omega), by rw [HLAY.out]; exact HSM.out⟩

set_option maxRecDepth 100000 in
set_option maxHeartbeats 16000000 in
theorem rlay_5 (B n₀ : Nat) (V : Value) (c : Cfg) (q : Pen) (base M : Int) (fresh : Bool) (d : Doc) (A : Option Addr) (cc : Nat) (w : World) (hk : d.kind = 5) 
    (h : w.ownsRow B 5 1 V q.out.length (Lib.byteCells q.out)) (hB : B ≤ w.heap.size) (hi : Inv M q) (hsay : ∀ x ∈ d.kids, RLaySays x ∧ x.form = true) (hfm : d.form = true) (hw : d.wt ≤ 4194304) (hfo : d.void = false → FOk c q (base + d.lead0) fresh) (hb0 : -M ≤ base) (hb1 : base ≤ M) (hM : M + 4000 * (d.wt : Int) - 2000 ≤ 1099511627776) (hn : n₀ ≤ B) (hK : KidsAt n₀ w d.kids A) :
    Calls Tryd.prog 57 #[.agg #[V, .int .i64 q.col, .int .i64 q.start, .bool q.op, .int .i64 q.owed, .int .i64 q.lines, .bool false, .int .i64 c.width, .int .i64 c.ribbon, .int .i64 c.mode], .agg #[.int .i64 d.kind, .string d.text, .int .i64 d.n, .slice A d.kids.length cc], .int .i64 base, .bool fresh] w (RLaid B w V c (M + 4000 * (d.wt : Int) - 2000) (d.lay c q base fresh)) := by
  have hwe := wt_eq d
  have hwp := wt_pos d
  have HFM := Lib.hid hfm
  have HFO := Lib.hid hfo
  clear hfm hfo
  obtain ⟨A0, c0, rfl⟩ := own_form h
  have hkl := kids_lt d
  have hdl := len_le_wts d.kids
  obtain ⟨hbx, hb0', hs0⟩ := rbox_new w (.slice A0 q.out.length c0) (pfOf c q false)
  simp only [pfOf] at hb0' hs0
  obtain ⟨W0, hW0⟩ : ∃ W, w.alloc (.cells #[(.slice A0 q.out.length c0), .int .i64 q.col, .int .i64 q.start, .bool q.op, .int .i64 q.owed, .int .i64 q.lines, .bool false, .int .i64 c.width, .int .i64 c.ribbon, .int .i64 c.mode] 73) = W := ⟨_, rfl⟩
  have hbx0 : RBox W0 w.heap.size (.slice A0 q.out.length c0) (pfOf c q false) := by rw [← hW0]; exact hbx
  rw [hW0] at hb0' hs0
  obtain ⟨hdx, hbd, hs1⟩ := dbox_new W0 d A cc
  obtain ⟨W1, hW1⟩ : ∃ W, W0.alloc (.cells #[.int .i64 d.kind, .string d.text, .int .i64 d.n, .slice A d.kids.length cc] 24) = W := ⟨_, rfl⟩
  rw [hW1] at hdx hbd hs1
  obtain ⟨hrx, hbr, hs2⟩ := rbox_new W1 (.slice none 0 0) PF0
  simp only [PF0] at hbr hs2
  obtain ⟨W, hW⟩ : ∃ W, W1.alloc (.cells #[.slice none 0 0, .int .i64 0, .int .i64 0, .bool false, .int .i64 0, .int .i64 0, .bool false, .int .i64 0, .int .i64 0, .int .i64 0] 73) = W := ⟨_, rfl⟩
  have hrx0 : RBox W W1.heap.size (.slice none 0 0) PF0 := by rw [← hW]; exact hrx
  rw [hW] at hbr hs2
  have hb2 := (hb0'.trans (hbd.mono (by omega))).trans (hbr.mono (by omega))
  have HS0 := Lib.hid (show RSt B w (.slice A0 q.out.length c0) c w.heap.size W0.heap.size W1.heap.size d A cc M W (.slice A0 q.out.length c0) q false from
    ⟨own_on h hb2, (hbx0.on hbd).on hbr, hrx0, hdx.on hbr, Stay.of_below hb2, .inl rfl, hi, Nat.le_refl _, by omega, by omega, by omega, hB⟩)
  have HVB := Lib.hid (show ∀ g, Value.ownBlock (.slice A0 q.out.length c0) = some g → B ≤ g from fun g hg => (h.lt g hg).1)
  have HSAY := Lib.hid hsay
  have HK := Lib.hid hK
  have hord : w.heap.size < W0.heap.size ∧ W0.heap.size < W1.heap.size ∧ W1.heap.size < W.heap.size := ⟨by omega, by omega, by omega⟩
  obtain ⟨ho1, ho2, ho3⟩ := hord
  clear h hi hsay hK hbx hbx0 hb0' hs0 hdx hbd hs1 hrx hrx0 hbr hs2 hb2
  have HLOW := Lib.hid (HS0.out.low HVB.out hn)
  have HKW := Lib.hid (kidsAt_below HK.out HLOW.out)
  obtain ⟨y0, y1, y2, y3, _, _, _, _⟩ := HS0.out.dbx.box
  have k1 : (d.kind == 1) = false := by rw [hk]; rfl
  have k2 : (d.kind == 2) = false := by rw [hk]; rfl
  have k3 : (d.kind == 3) = false := by rw [hk]; rfl
  have k4 : (d.kind == 4) = false := by rw [hk]; rfl
  have k7 : (d.kind == 7) = false := by rw [hk]; rfl
  have k8 : (d.kind == 8) = false := by rw [hk]; rfl
  have k9 : (d.kind == 9) = false := by rw [hk]; rfl
  have k10 : (d.kind == 10) = false := by rw [hk]; rfl
  have HKD := Lib.hid hk
  clear hk
  obtain ⟨e0, e1, e2, e3, e4, e5, e6, e7, e8, e9, ez⟩ := (HS0.out.pbx).cells
  simp only [pfOf] at e1 e2 e3 e4 e5 e6 e7 e8 e9
  have ef0 := ez 0
  have ef1 := ez 1
  have ef2 := ez 2
  have ef3 := ez 3
  have ef4 := ez 4
  have ef5 := ez 5
  have ef6 := ez 6
  have ef7 := ez 7
  have ef8 := ez 8
  have ef9 := ez 9
  clear ez
  have HLAY := Lib.hid (show d.lay c q base fresh = belows c (d.kind == 5) d.kids true q base fresh from lay_bel (by rw [HKD.out]; decide))
  go_enter Tryd.func57, Tryd.ntmps57
  have HC1 := Lib.hid (rbelow_any d B n₀ (.slice A0 q.out.length c0) c q base M fresh A cc W HS0.out.own HS0.out.ble HS0.out.inv HSAY.out (fok_kids HFM.out (by rw [HKD.out]; decide) (by rw [HKD.out]; decide) HFO.out) hb0 hb1 (by omega) (by omega) hn HKW.out)
  go_wp2_with fail
  refine HC1.out.mono ?_
  rintro e v1 ⟨V1, q1, l1, rfl, g1, g2, g3, g4, g5⟩
  obtain ⟨A1, c1, rfl⟩ := own_form g1
  have hr1 := HS0.out.rbx.stay g2 (fun e => Lib.ownBlock_ne HS0.out.own HS0.out.rbx.blk (by decide) e.symm)
  have hs1 := stay_next HS0.out g2
  have hn1 := next_trans HS0.out.next HS0.out.stay.size g3
  have HR1 := Lib.hid hr1
  have HO1 := Lib.hid g1
  have HS1 := Lib.hid hs1
  have HN1 := Lib.hid hn1
  have HI1 := Lib.hid g4
  have HSM := Lib.hid g5
  clear e0 e1 e2 e3 e4 e5 e6 e7 e8 e9 ef0 ef1 ef2 ef3 ef4 ef5 ef6 ef7 ef8 ef9 y0 y1 y2 y3 hW hW0 hW1 k1 k2 k3 k4 k7 k8 k9 k10 hs1 hn1 g1 g2 g3 g4 g5 HC1
  obtain ⟨u0, u1, u2, u3, u4, u5, u6, u7, u8, u9, uz⟩ := (hr1).cells
  simp only [PF0] at u1 u2 u3 u4 u5 u6 u7 u8 u9
  have uf0 := uz 0
  have uf1 := uz 1
  have uf2 := uz 2
  have uf3 := uz 3
  have uf4 := uz 4
  have uf5 := uz 5
  have uf6 := uz 6
  have uf7 := uz 7
  have uf8 := uz 8
  have uf9 := uz 9
  clear uz
  clear hr1
  go_wp2
  have nr : Value.ownBlock (.slice A1 q1.out.length c1) ≠ some W1.heap.size := Lib.ownBlock_ne (HO1.out) (HR1.out).blk (by decide)
  have kz := (HR1.out).put (.slice A1 q1.out.length c1) (pfOf c q1 l1)
  have oz := own_put (HO1.out) nr (.slice A1 q1.out.length c1) (pfOf c q1 l1)
  have bz := stay_put2 (HS1.out) (b := W1.heap.size) (by omega) (.slice A1 q1.out.length c1) (pfOf c q1 l1)
  simp only [pfOf] at kz oz bz
  generalize ((((((((((v1.setCell ⟨W1.heap.size, 0, none⟩ (.slice A1 q1.out.length c1)).setCell ⟨W1.heap.size, 1, none⟩ (.int .i64 q1.col)).setCell ⟨W1.heap.size, 2, none⟩ (.int .i64 q1.start)).setCell ⟨W1.heap.size, 3, none⟩ (.bool q1.op)).setCell ⟨W1.heap.size, 4, none⟩ (.int .i64 q1.owed)).setCell ⟨W1.heap.size, 5, none⟩ (.int .i64 q1.lines)).setCell ⟨W1.heap.size, 6, none⟩ (.bool l1)).setCell ⟨W1.heap.size, 7, none⟩ (.int .i64 c.width)).setCell ⟨W1.heap.size, 8, none⟩ (.int .i64 c.ribbon)).setCell ⟨W1.heap.size, 9, none⟩ (.int .i64 c.mode)) = WZ at kz oz bz ⊢
  obtain ⟨z0, z1, z2, z3, z4, z5, z6, z7, z8, z9, -⟩ := kz.cells
  simp only at z1 z2 z3 z4 z5 z6 z7 z8 z9
  refine bodyPost_ret (v := .agg #[(.slice A1 q1.out.length c1), (.int .i64 q1.col), (.int .i64 q1.start), (.bool q1.op), (.int .i64 q1.owed), (.int .i64 q1.lines), (.bool l1), (.int .i64 c.width), (.int .i64 c.ribbon), (.int .i64 c.mode)]) (by simp [results, Tryd.results57, go_sem, z0, z1, z2, z3, z4, z5, z6, z7, z8, z9]) rfl ?_
  exact ⟨_, q1, l1, rfl, oz, bz, HN1.out, HI1.out.mono (by omega), by rw [HLAY.out]; exact HSM.out⟩

set_option maxRecDepth 100000 in
set_option maxHeartbeats 16000000 in
theorem rlay_6 (B n₀ : Nat) (V : Value) (c : Cfg) (q : Pen) (base M : Int) (fresh : Bool) (d : Doc) (A : Option Addr) (cc : Nat) (w : World) (hk : d.kind = 6) 
    (h : w.ownsRow B 5 1 V q.out.length (Lib.byteCells q.out)) (hB : B ≤ w.heap.size) (hi : Inv M q) (hsay : ∀ x ∈ d.kids, RLaySays x ∧ x.form = true) (hfm : d.form = true) (hw : d.wt ≤ 4194304) (hfo : d.void = false → FOk c q (base + d.lead0) fresh) (hb0 : -M ≤ base) (hb1 : base ≤ M) (hM : M + 4000 * (d.wt : Int) - 2000 ≤ 1099511627776) (hn : n₀ ≤ B) (hK : KidsAt n₀ w d.kids A) :
    Calls Tryd.prog 57 #[.agg #[V, .int .i64 q.col, .int .i64 q.start, .bool q.op, .int .i64 q.owed, .int .i64 q.lines, .bool false, .int .i64 c.width, .int .i64 c.ribbon, .int .i64 c.mode], .agg #[.int .i64 d.kind, .string d.text, .int .i64 d.n, .slice A d.kids.length cc], .int .i64 base, .bool fresh] w (RLaid B w V c (M + 4000 * (d.wt : Int) - 2000) (d.lay c q base fresh)) := by
  have hwe := wt_eq d
  have hwp := wt_pos d
  have HFM := Lib.hid hfm
  have HFO := Lib.hid hfo
  clear hfm hfo
  obtain ⟨A0, c0, rfl⟩ := own_form h
  have hkl := kids_lt d
  have hdl := len_le_wts d.kids
  obtain ⟨hbx, hb0', hs0⟩ := rbox_new w (.slice A0 q.out.length c0) (pfOf c q false)
  simp only [pfOf] at hb0' hs0
  obtain ⟨W0, hW0⟩ : ∃ W, w.alloc (.cells #[(.slice A0 q.out.length c0), .int .i64 q.col, .int .i64 q.start, .bool q.op, .int .i64 q.owed, .int .i64 q.lines, .bool false, .int .i64 c.width, .int .i64 c.ribbon, .int .i64 c.mode] 73) = W := ⟨_, rfl⟩
  have hbx0 : RBox W0 w.heap.size (.slice A0 q.out.length c0) (pfOf c q false) := by rw [← hW0]; exact hbx
  rw [hW0] at hb0' hs0
  obtain ⟨hdx, hbd, hs1⟩ := dbox_new W0 d A cc
  obtain ⟨W1, hW1⟩ : ∃ W, W0.alloc (.cells #[.int .i64 d.kind, .string d.text, .int .i64 d.n, .slice A d.kids.length cc] 24) = W := ⟨_, rfl⟩
  rw [hW1] at hdx hbd hs1
  obtain ⟨hrx, hbr, hs2⟩ := rbox_new W1 (.slice none 0 0) PF0
  simp only [PF0] at hbr hs2
  obtain ⟨W, hW⟩ : ∃ W, W1.alloc (.cells #[.slice none 0 0, .int .i64 0, .int .i64 0, .bool false, .int .i64 0, .int .i64 0, .bool false, .int .i64 0, .int .i64 0, .int .i64 0] 73) = W := ⟨_, rfl⟩
  have hrx0 : RBox W W1.heap.size (.slice none 0 0) PF0 := by rw [← hW]; exact hrx
  rw [hW] at hbr hs2
  have hb2 := (hb0'.trans (hbd.mono (by omega))).trans (hbr.mono (by omega))
  have HS0 := Lib.hid (show RSt B w (.slice A0 q.out.length c0) c w.heap.size W0.heap.size W1.heap.size d A cc M W (.slice A0 q.out.length c0) q false from
    ⟨own_on h hb2, (hbx0.on hbd).on hbr, hrx0, hdx.on hbr, Stay.of_below hb2, .inl rfl, hi, Nat.le_refl _, by omega, by omega, by omega, hB⟩)
  have HVB := Lib.hid (show ∀ g, Value.ownBlock (.slice A0 q.out.length c0) = some g → B ≤ g from fun g hg => (h.lt g hg).1)
  have HSAY := Lib.hid hsay
  have HK := Lib.hid hK
  have hord : w.heap.size < W0.heap.size ∧ W0.heap.size < W1.heap.size ∧ W1.heap.size < W.heap.size := ⟨by omega, by omega, by omega⟩
  obtain ⟨ho1, ho2, ho3⟩ := hord
  clear h hi hsay hK hbx hbx0 hb0' hs0 hdx hbd hs1 hrx hrx0 hbr hs2 hb2
  have HLOW := Lib.hid (HS0.out.low HVB.out hn)
  have HKW := Lib.hid (kidsAt_below HK.out HLOW.out)
  obtain ⟨y0, y1, y2, y3, _, _, _, _⟩ := HS0.out.dbx.box
  have k1 : (d.kind == 1) = false := by rw [hk]; rfl
  have k2 : (d.kind == 2) = false := by rw [hk]; rfl
  have k3 : (d.kind == 3) = false := by rw [hk]; rfl
  have k4 : (d.kind == 4) = false := by rw [hk]; rfl
  have k7 : (d.kind == 7) = false := by rw [hk]; rfl
  have k8 : (d.kind == 8) = false := by rw [hk]; rfl
  have k9 : (d.kind == 9) = false := by rw [hk]; rfl
  have k10 : (d.kind == 10) = false := by rw [hk]; rfl
  have HKD := Lib.hid hk
  clear hk
  obtain ⟨e0, e1, e2, e3, e4, e5, e6, e7, e8, e9, ez⟩ := (HS0.out.pbx).cells
  simp only [pfOf] at e1 e2 e3 e4 e5 e6 e7 e8 e9
  have ef0 := ez 0
  have ef1 := ez 1
  have ef2 := ez 2
  have ef3 := ez 3
  have ef4 := ez 4
  have ef5 := ez 5
  have ef6 := ez 6
  have ef7 := ez 7
  have ef8 := ez 8
  have ef9 := ez 9
  clear ez
  have HLAY := Lib.hid (show d.lay c q base fresh = belows c (d.kind == 5) d.kids true q base fresh from lay_bel (by rw [HKD.out]; decide))
  go_enter Tryd.func57, Tryd.ntmps57
  have HC1 := Lib.hid (rbelow_any d B n₀ (.slice A0 q.out.length c0) c q base M fresh A cc W HS0.out.own HS0.out.ble HS0.out.inv HSAY.out (fok_kids HFM.out (by rw [HKD.out]; decide) (by rw [HKD.out]; decide) HFO.out) hb0 hb1 (by omega) (by omega) hn HKW.out)
  go_wp2_with fail
  refine HC1.out.mono ?_
  rintro e v1 ⟨V1, q1, l1, rfl, g1, g2, g3, g4, g5⟩
  obtain ⟨A1, c1, rfl⟩ := own_form g1
  have hr1 := HS0.out.rbx.stay g2 (fun e => Lib.ownBlock_ne HS0.out.own HS0.out.rbx.blk (by decide) e.symm)
  have hs1 := stay_next HS0.out g2
  have hn1 := next_trans HS0.out.next HS0.out.stay.size g3
  have HR1 := Lib.hid hr1
  have HO1 := Lib.hid g1
  have HS1 := Lib.hid hs1
  have HN1 := Lib.hid hn1
  have HI1 := Lib.hid g4
  have HSM := Lib.hid g5
  clear e0 e1 e2 e3 e4 e5 e6 e7 e8 e9 ef0 ef1 ef2 ef3 ef4 ef5 ef6 ef7 ef8 ef9 y0 y1 y2 y3 hW hW0 hW1 k1 k2 k3 k4 k7 k8 k9 k10 hs1 hn1 g1 g2 g3 g4 g5 HC1
  obtain ⟨u0, u1, u2, u3, u4, u5, u6, u7, u8, u9, uz⟩ := (hr1).cells
  simp only [PF0] at u1 u2 u3 u4 u5 u6 u7 u8 u9
  have uf0 := uz 0
  have uf1 := uz 1
  have uf2 := uz 2
  have uf3 := uz 3
  have uf4 := uz 4
  have uf5 := uz 5
  have uf6 := uz 6
  have uf7 := uz 7
  have uf8 := uz 8
  have uf9 := uz 9
  clear uz
  clear hr1
  go_wp2
  have nr : Value.ownBlock (.slice A1 q1.out.length c1) ≠ some W1.heap.size := Lib.ownBlock_ne (HO1.out) (HR1.out).blk (by decide)
  have kz := (HR1.out).put (.slice A1 q1.out.length c1) (pfOf c q1 l1)
  have oz := own_put (HO1.out) nr (.slice A1 q1.out.length c1) (pfOf c q1 l1)
  have bz := stay_put2 (HS1.out) (b := W1.heap.size) (by omega) (.slice A1 q1.out.length c1) (pfOf c q1 l1)
  simp only [pfOf] at kz oz bz
  generalize ((((((((((v1.setCell ⟨W1.heap.size, 0, none⟩ (.slice A1 q1.out.length c1)).setCell ⟨W1.heap.size, 1, none⟩ (.int .i64 q1.col)).setCell ⟨W1.heap.size, 2, none⟩ (.int .i64 q1.start)).setCell ⟨W1.heap.size, 3, none⟩ (.bool q1.op)).setCell ⟨W1.heap.size, 4, none⟩ (.int .i64 q1.owed)).setCell ⟨W1.heap.size, 5, none⟩ (.int .i64 q1.lines)).setCell ⟨W1.heap.size, 6, none⟩ (.bool l1)).setCell ⟨W1.heap.size, 7, none⟩ (.int .i64 c.width)).setCell ⟨W1.heap.size, 8, none⟩ (.int .i64 c.ribbon)).setCell ⟨W1.heap.size, 9, none⟩ (.int .i64 c.mode)) = WZ at kz oz bz ⊢
  obtain ⟨z0, z1, z2, z3, z4, z5, z6, z7, z8, z9, -⟩ := kz.cells
  simp only at z1 z2 z3 z4 z5 z6 z7 z8 z9
  refine bodyPost_ret (v := .agg #[(.slice A1 q1.out.length c1), (.int .i64 q1.col), (.int .i64 q1.start), (.bool q1.op), (.int .i64 q1.owed), (.int .i64 q1.lines), (.bool l1), (.int .i64 c.width), (.int .i64 c.ribbon), (.int .i64 c.mode)]) (by simp [results, Tryd.results57, go_sem, z0, z1, z2, z3, z4, z5, z6, z7, z8, z9]) rfl ?_
  exact ⟨_, q1, l1, rfl, oz, bz, HN1.out, HI1.out.mono (by omega), by rw [HLAY.out]; exact HSM.out⟩

set_option maxRecDepth 100000 in
set_option maxHeartbeats 16000000 in
theorem rlay_3 (B n₀ : Nat) (V : Value) (c : Cfg) (q : Pen) (base M : Int) (fresh : Bool) (d : Doc) (A : Option Addr) (cc : Nat) (w : World) (hk : d.kind = 3) 
    (h : w.ownsRow B 5 1 V q.out.length (Lib.byteCells q.out)) (hB : B ≤ w.heap.size) (hi : Inv M q) (hsay : ∀ x ∈ d.kids, RLaySays x ∧ x.form = true) (hfm : d.form = true) (hw : d.wt ≤ 4194304) (hfo : d.void = false → FOk c q (base + d.lead0) fresh) (hb0 : -M ≤ base) (hb1 : base ≤ M) (hM : M + 4000 * (d.wt : Int) - 2000 ≤ 1099511627776) (hn : n₀ ≤ B) (hK : KidsAt n₀ w d.kids A) :
    Calls Tryd.prog 57 #[.agg #[V, .int .i64 q.col, .int .i64 q.start, .bool q.op, .int .i64 q.owed, .int .i64 q.lines, .bool false, .int .i64 c.width, .int .i64 c.ribbon, .int .i64 c.mode], .agg #[.int .i64 d.kind, .string d.text, .int .i64 d.n, .slice A d.kids.length cc], .int .i64 base, .bool fresh] w (RLaid B w V c (M + 4000 * (d.wt : Int) - 2000) (d.lay c q base fresh)) := by
  have hwe := wt_eq d
  have hwp := wt_pos d
  have HFM := Lib.hid hfm
  have HFO := Lib.hid hfo
  clear hfm hfo
  obtain ⟨A0, c0, rfl⟩ := own_form h
  have hkl := kids_lt d
  have hdl := len_le_wts d.kids
  obtain ⟨hbx, hb0', hs0⟩ := rbox_new w (.slice A0 q.out.length c0) (pfOf c q false)
  simp only [pfOf] at hb0' hs0
  obtain ⟨W0, hW0⟩ : ∃ W, w.alloc (.cells #[(.slice A0 q.out.length c0), .int .i64 q.col, .int .i64 q.start, .bool q.op, .int .i64 q.owed, .int .i64 q.lines, .bool false, .int .i64 c.width, .int .i64 c.ribbon, .int .i64 c.mode] 73) = W := ⟨_, rfl⟩
  have hbx0 : RBox W0 w.heap.size (.slice A0 q.out.length c0) (pfOf c q false) := by rw [← hW0]; exact hbx
  rw [hW0] at hb0' hs0
  obtain ⟨hdx, hbd, hs1⟩ := dbox_new W0 d A cc
  obtain ⟨W1, hW1⟩ : ∃ W, W0.alloc (.cells #[.int .i64 d.kind, .string d.text, .int .i64 d.n, .slice A d.kids.length cc] 24) = W := ⟨_, rfl⟩
  rw [hW1] at hdx hbd hs1
  obtain ⟨hrx, hbr, hs2⟩ := rbox_new W1 (.slice none 0 0) PF0
  simp only [PF0] at hbr hs2
  obtain ⟨W, hW⟩ : ∃ W, W1.alloc (.cells #[.slice none 0 0, .int .i64 0, .int .i64 0, .bool false, .int .i64 0, .int .i64 0, .bool false, .int .i64 0, .int .i64 0, .int .i64 0] 73) = W := ⟨_, rfl⟩
  have hrx0 : RBox W W1.heap.size (.slice none 0 0) PF0 := by rw [← hW]; exact hrx
  rw [hW] at hbr hs2
  have hb2 := (hb0'.trans (hbd.mono (by omega))).trans (hbr.mono (by omega))
  have HS0 := Lib.hid (show RSt B w (.slice A0 q.out.length c0) c w.heap.size W0.heap.size W1.heap.size d A cc M W (.slice A0 q.out.length c0) q false from
    ⟨own_on h hb2, (hbx0.on hbd).on hbr, hrx0, hdx.on hbr, Stay.of_below hb2, .inl rfl, hi, Nat.le_refl _, by omega, by omega, by omega, hB⟩)
  have HVB := Lib.hid (show ∀ g, Value.ownBlock (.slice A0 q.out.length c0) = some g → B ≤ g from fun g hg => (h.lt g hg).1)
  have HSAY := Lib.hid hsay
  have HK := Lib.hid hK
  have hord : w.heap.size < W0.heap.size ∧ W0.heap.size < W1.heap.size ∧ W1.heap.size < W.heap.size := ⟨by omega, by omega, by omega⟩
  obtain ⟨ho1, ho2, ho3⟩ := hord
  clear h hi hsay hK hbx hbx0 hb0' hs0 hdx hbd hs1 hrx hrx0 hbr hs2 hb2
  have HLOW := Lib.hid (HS0.out.low HVB.out hn)
  have HKW := Lib.hid (kidsAt_below HK.out HLOW.out)
  obtain ⟨y0, y1, y2, y3, _, _, _, _⟩ := HS0.out.dbx.box
  have k1 : (d.kind == 1) = false := by rw [hk]; rfl
  have k2 : (d.kind == 2) = false := by rw [hk]; rfl
  have k3 : (d.kind == 3) = true := by rw [hk]; rfl
  have k4 : (d.kind == 4) = false := by rw [hk]; rfl
  have k7 : (d.kind == 7) = false := by rw [hk]; rfl
  have k8 : (d.kind == 8) = false := by rw [hk]; rfl
  have k9 : (d.kind == 9) = false := by rw [hk]; rfl
  have k10 : (d.kind == 10) = false := by rw [hk]; rfl
  have HKD := Lib.hid hk
  clear hk
  obtain ⟨e0, e1, e2, e3, e4, e5, e6, e7, e8, e9, ez⟩ := (HS0.out.pbx).cells
  simp only [pfOf] at e1 e2 e3 e4 e5 e6 e7 e8 e9
  have ef0 := ez 0
  have ef1 := ez 1
  have ef2 := ez 2
  have ef3 := ez 3
  have ef4 := ez 4
  have ef5 := ez 5
  have ef6 := ez 6
  have ef7 := ez 7
  have ef8 := ez 8
  have ef9 := ez 9
  clear ez
  have HLAY := Lib.hid (show d.lay c q base fresh = besides c d.kind d.kids true q base fresh from lay_bes (by rw [HKD.out]; decide))
  go_enter Tryd.func57, Tryd.ntmps57
  have HC1 := Lib.hid (rbeside_any d (by rw [HKD.out]; decide) B n₀ (.slice A0 q.out.length c0) c q base M fresh A cc W HS0.out.own HS0.out.ble HS0.out.inv HSAY.out (fok_kids HFM.out (by rw [HKD.out]; decide) (by rw [HKD.out]; decide) HFO.out) hb0 hb1 (by omega) (by omega) hn HKW.out)
  go_wp2_with fail
  refine HC1.out.mono ?_
  rintro e v1 ⟨V1, q1, l1, rfl, g1, g2, g3, g4, g5⟩
  obtain ⟨A1, c1, rfl⟩ := own_form g1
  have hr1 := HS0.out.rbx.stay g2 (fun e => Lib.ownBlock_ne HS0.out.own HS0.out.rbx.blk (by decide) e.symm)
  have hs1 := stay_next HS0.out g2
  have hn1 := next_trans HS0.out.next HS0.out.stay.size g3
  have HR1 := Lib.hid hr1
  have HO1 := Lib.hid g1
  have HS1 := Lib.hid hs1
  have HN1 := Lib.hid hn1
  have HI1 := Lib.hid g4
  have HSM := Lib.hid g5
  clear e0 e1 e2 e3 e4 e5 e6 e7 e8 e9 ef0 ef1 ef2 ef3 ef4 ef5 ef6 ef7 ef8 ef9 y0 y1 y2 y3 hW hW0 hW1 k1 k2 k3 k4 k7 k8 k9 k10 hs1 hn1 g1 g2 g3 g4 g5 HC1
  obtain ⟨u0, u1, u2, u3, u4, u5, u6, u7, u8, u9, uz⟩ := (hr1).cells
  simp only [PF0] at u1 u2 u3 u4 u5 u6 u7 u8 u9
  have uf0 := uz 0
  have uf1 := uz 1
  have uf2 := uz 2
  have uf3 := uz 3
  have uf4 := uz 4
  have uf5 := uz 5
  have uf6 := uz 6
  have uf7 := uz 7
  have uf8 := uz 8
  have uf9 := uz 9
  clear uz
  clear hr1
  go_wp2
  have nr : Value.ownBlock (.slice A1 q1.out.length c1) ≠ some W1.heap.size := Lib.ownBlock_ne (HO1.out) (HR1.out).blk (by decide)
  have kz := (HR1.out).put (.slice A1 q1.out.length c1) (pfOf c q1 l1)
  have oz := own_put (HO1.out) nr (.slice A1 q1.out.length c1) (pfOf c q1 l1)
  have bz := stay_put2 (HS1.out) (b := W1.heap.size) (by omega) (.slice A1 q1.out.length c1) (pfOf c q1 l1)
  simp only [pfOf] at kz oz bz
  generalize ((((((((((v1.setCell ⟨W1.heap.size, 0, none⟩ (.slice A1 q1.out.length c1)).setCell ⟨W1.heap.size, 1, none⟩ (.int .i64 q1.col)).setCell ⟨W1.heap.size, 2, none⟩ (.int .i64 q1.start)).setCell ⟨W1.heap.size, 3, none⟩ (.bool q1.op)).setCell ⟨W1.heap.size, 4, none⟩ (.int .i64 q1.owed)).setCell ⟨W1.heap.size, 5, none⟩ (.int .i64 q1.lines)).setCell ⟨W1.heap.size, 6, none⟩ (.bool l1)).setCell ⟨W1.heap.size, 7, none⟩ (.int .i64 c.width)).setCell ⟨W1.heap.size, 8, none⟩ (.int .i64 c.ribbon)).setCell ⟨W1.heap.size, 9, none⟩ (.int .i64 c.mode)) = WZ at kz oz bz ⊢
  obtain ⟨z0, z1, z2, z3, z4, z5, z6, z7, z8, z9, -⟩ := kz.cells
  simp only at z1 z2 z3 z4 z5 z6 z7 z8 z9
  refine bodyPost_ret (v := .agg #[(.slice A1 q1.out.length c1), (.int .i64 q1.col), (.int .i64 q1.start), (.bool q1.op), (.int .i64 q1.owed), (.int .i64 q1.lines), (.bool l1), (.int .i64 c.width), (.int .i64 c.ribbon), (.int .i64 c.mode)]) (by simp [results, Tryd.results57, go_sem, z0, z1, z2, z3, z4, z5, z6, z7, z8, z9]) rfl ?_
  exact ⟨_, q1, l1, rfl, oz, bz, HN1.out, HI1.out.mono (by omega), by rw [HLAY.out]; exact HSM.out⟩

set_option maxRecDepth 100000 in
set_option maxHeartbeats 16000000 in
theorem rlay_4 (B n₀ : Nat) (V : Value) (c : Cfg) (q : Pen) (base M : Int) (fresh : Bool) (d : Doc) (A : Option Addr) (cc : Nat) (w : World) (hk : d.kind = 4) 
    (h : w.ownsRow B 5 1 V q.out.length (Lib.byteCells q.out)) (hB : B ≤ w.heap.size) (hi : Inv M q) (hsay : ∀ x ∈ d.kids, RLaySays x ∧ x.form = true) (hfm : d.form = true) (hw : d.wt ≤ 4194304) (hfo : d.void = false → FOk c q (base + d.lead0) fresh) (hb0 : -M ≤ base) (hb1 : base ≤ M) (hM : M + 4000 * (d.wt : Int) - 2000 ≤ 1099511627776) (hn : n₀ ≤ B) (hK : KidsAt n₀ w d.kids A) :
    Calls Tryd.prog 57 #[.agg #[V, .int .i64 q.col, .int .i64 q.start, .bool q.op, .int .i64 q.owed, .int .i64 q.lines, .bool false, .int .i64 c.width, .int .i64 c.ribbon, .int .i64 c.mode], .agg #[.int .i64 d.kind, .string d.text, .int .i64 d.n, .slice A d.kids.length cc], .int .i64 base, .bool fresh] w (RLaid B w V c (M + 4000 * (d.wt : Int) - 2000) (d.lay c q base fresh)) := by
  have hwe := wt_eq d
  have hwp := wt_pos d
  have HFM := Lib.hid hfm
  have HFO := Lib.hid hfo
  clear hfm hfo
  obtain ⟨A0, c0, rfl⟩ := own_form h
  have hkl := kids_lt d
  have hdl := len_le_wts d.kids
  obtain ⟨hbx, hb0', hs0⟩ := rbox_new w (.slice A0 q.out.length c0) (pfOf c q false)
  simp only [pfOf] at hb0' hs0
  obtain ⟨W0, hW0⟩ : ∃ W, w.alloc (.cells #[(.slice A0 q.out.length c0), .int .i64 q.col, .int .i64 q.start, .bool q.op, .int .i64 q.owed, .int .i64 q.lines, .bool false, .int .i64 c.width, .int .i64 c.ribbon, .int .i64 c.mode] 73) = W := ⟨_, rfl⟩
  have hbx0 : RBox W0 w.heap.size (.slice A0 q.out.length c0) (pfOf c q false) := by rw [← hW0]; exact hbx
  rw [hW0] at hb0' hs0
  obtain ⟨hdx, hbd, hs1⟩ := dbox_new W0 d A cc
  obtain ⟨W1, hW1⟩ : ∃ W, W0.alloc (.cells #[.int .i64 d.kind, .string d.text, .int .i64 d.n, .slice A d.kids.length cc] 24) = W := ⟨_, rfl⟩
  rw [hW1] at hdx hbd hs1
  obtain ⟨hrx, hbr, hs2⟩ := rbox_new W1 (.slice none 0 0) PF0
  simp only [PF0] at hbr hs2
  obtain ⟨W, hW⟩ : ∃ W, W1.alloc (.cells #[.slice none 0 0, .int .i64 0, .int .i64 0, .bool false, .int .i64 0, .int .i64 0, .bool false, .int .i64 0, .int .i64 0, .int .i64 0] 73) = W := ⟨_, rfl⟩
  have hrx0 : RBox W W1.heap.size (.slice none 0 0) PF0 := by rw [← hW]; exact hrx
  rw [hW] at hbr hs2
  have hb2 := (hb0'.trans (hbd.mono (by omega))).trans (hbr.mono (by omega))
  have HS0 := Lib.hid (show RSt B w (.slice A0 q.out.length c0) c w.heap.size W0.heap.size W1.heap.size d A cc M W (.slice A0 q.out.length c0) q false from
    ⟨own_on h hb2, (hbx0.on hbd).on hbr, hrx0, hdx.on hbr, Stay.of_below hb2, .inl rfl, hi, Nat.le_refl _, by omega, by omega, by omega, hB⟩)
  have HVB := Lib.hid (show ∀ g, Value.ownBlock (.slice A0 q.out.length c0) = some g → B ≤ g from fun g hg => (h.lt g hg).1)
  have HSAY := Lib.hid hsay
  have HK := Lib.hid hK
  have hord : w.heap.size < W0.heap.size ∧ W0.heap.size < W1.heap.size ∧ W1.heap.size < W.heap.size := ⟨by omega, by omega, by omega⟩
  obtain ⟨ho1, ho2, ho3⟩ := hord
  clear h hi hsay hK hbx hbx0 hb0' hs0 hdx hbd hs1 hrx hrx0 hbr hs2 hb2
  have HLOW := Lib.hid (HS0.out.low HVB.out hn)
  have HKW := Lib.hid (kidsAt_below HK.out HLOW.out)
  obtain ⟨y0, y1, y2, y3, _, _, _, _⟩ := HS0.out.dbx.box
  have k1 : (d.kind == 1) = false := by rw [hk]; rfl
  have k2 : (d.kind == 2) = false := by rw [hk]; rfl
  have k3 : (d.kind == 3) = false := by rw [hk]; rfl
  have k4 : (d.kind == 4) = true := by rw [hk]; rfl
  have k7 : (d.kind == 7) = false := by rw [hk]; rfl
  have k8 : (d.kind == 8) = false := by rw [hk]; rfl
  have k9 : (d.kind == 9) = false := by rw [hk]; rfl
  have k10 : (d.kind == 10) = false := by rw [hk]; rfl
  have HKD := Lib.hid hk
  clear hk
  obtain ⟨e0, e1, e2, e3, e4, e5, e6, e7, e8, e9, ez⟩ := (HS0.out.pbx).cells
  simp only [pfOf] at e1 e2 e3 e4 e5 e6 e7 e8 e9
  have ef0 := ez 0
  have ef1 := ez 1
  have ef2 := ez 2
  have ef3 := ez 3
  have ef4 := ez 4
  have ef5 := ez 5
  have ef6 := ez 6
  have ef7 := ez 7
  have ef8 := ez 8
  have ef9 := ez 9
  clear ez
  have HLAY := Lib.hid (show d.lay c q base fresh = besides c d.kind d.kids true q base fresh from lay_bes (by rw [HKD.out]; decide))
  go_enter Tryd.func57, Tryd.ntmps57
  have HC1 := Lib.hid (rbeside_any d (by rw [HKD.out]; decide) B n₀ (.slice A0 q.out.length c0) c q base M fresh A cc W HS0.out.own HS0.out.ble HS0.out.inv HSAY.out (fok_kids HFM.out (by rw [HKD.out]; decide) (by rw [HKD.out]; decide) HFO.out) hb0 hb1 (by omega) (by omega) hn HKW.out)
  go_wp2_with fail
  refine HC1.out.mono ?_
  rintro e v1 ⟨V1, q1, l1, rfl, g1, g2, g3, g4, g5⟩
  obtain ⟨A1, c1, rfl⟩ := own_form g1
  have hr1 := HS0.out.rbx.stay g2 (fun e => Lib.ownBlock_ne HS0.out.own HS0.out.rbx.blk (by decide) e.symm)
  have hs1 := stay_next HS0.out g2
  have hn1 := next_trans HS0.out.next HS0.out.stay.size g3
  have HR1 := Lib.hid hr1
  have HO1 := Lib.hid g1
  have HS1 := Lib.hid hs1
  have HN1 := Lib.hid hn1
  have HI1 := Lib.hid g4
  have HSM := Lib.hid g5
  clear e0 e1 e2 e3 e4 e5 e6 e7 e8 e9 ef0 ef1 ef2 ef3 ef4 ef5 ef6 ef7 ef8 ef9 y0 y1 y2 y3 hW hW0 hW1 k1 k2 k3 k4 k7 k8 k9 k10 hs1 hn1 g1 g2 g3 g4 g5 HC1
  obtain ⟨u0, u1, u2, u3, u4, u5, u6, u7, u8, u9, uz⟩ := (hr1).cells
  simp only [PF0] at u1 u2 u3 u4 u5 u6 u7 u8 u9
  have uf0 := uz 0
  have uf1 := uz 1
  have uf2 := uz 2
  have uf3 := uz 3
  have uf4 := uz 4
  have uf5 := uz 5
  have uf6 := uz 6
  have uf7 := uz 7
  have uf8 := uz 8
  have uf9 := uz 9
  clear uz
  clear hr1
  go_wp2
  have nr : Value.ownBlock (.slice A1 q1.out.length c1) ≠ some W1.heap.size := Lib.ownBlock_ne (HO1.out) (HR1.out).blk (by decide)
  have kz := (HR1.out).put (.slice A1 q1.out.length c1) (pfOf c q1 l1)
  have oz := own_put (HO1.out) nr (.slice A1 q1.out.length c1) (pfOf c q1 l1)
  have bz := stay_put2 (HS1.out) (b := W1.heap.size) (by omega) (.slice A1 q1.out.length c1) (pfOf c q1 l1)
  simp only [pfOf] at kz oz bz
  generalize ((((((((((v1.setCell ⟨W1.heap.size, 0, none⟩ (.slice A1 q1.out.length c1)).setCell ⟨W1.heap.size, 1, none⟩ (.int .i64 q1.col)).setCell ⟨W1.heap.size, 2, none⟩ (.int .i64 q1.start)).setCell ⟨W1.heap.size, 3, none⟩ (.bool q1.op)).setCell ⟨W1.heap.size, 4, none⟩ (.int .i64 q1.owed)).setCell ⟨W1.heap.size, 5, none⟩ (.int .i64 q1.lines)).setCell ⟨W1.heap.size, 6, none⟩ (.bool l1)).setCell ⟨W1.heap.size, 7, none⟩ (.int .i64 c.width)).setCell ⟨W1.heap.size, 8, none⟩ (.int .i64 c.ribbon)).setCell ⟨W1.heap.size, 9, none⟩ (.int .i64 c.mode)) = WZ at kz oz bz ⊢
  obtain ⟨z0, z1, z2, z3, z4, z5, z6, z7, z8, z9, -⟩ := kz.cells
  simp only at z1 z2 z3 z4 z5 z6 z7 z8 z9
  refine bodyPost_ret (v := .agg #[(.slice A1 q1.out.length c1), (.int .i64 q1.col), (.int .i64 q1.start), (.bool q1.op), (.int .i64 q1.owed), (.int .i64 q1.lines), (.bool l1), (.int .i64 c.width), (.int .i64 c.ribbon), (.int .i64 c.mode)]) (by simp [results, Tryd.results57, go_sem, z0, z1, z2, z3, z4, z5, z6, z7, z8, z9]) rfl ?_
  exact ⟨_, q1, l1, rfl, oz, bz, HN1.out, HI1.out.mono (by omega), by rw [HLAY.out]; exact HSM.out⟩

set_option maxRecDepth 100000 in
set_option maxHeartbeats 16000000 in
theorem rlay_9 (B n₀ : Nat) (V : Value) (c : Cfg) (q : Pen) (base M : Int) (fresh : Bool) (d : Doc) (A : Option Addr) (cc : Nat) (w : World) (hk : d.kind = 9) 
    (h : w.ownsRow B 5 1 V q.out.length (Lib.byteCells q.out)) (hB : B ≤ w.heap.size) (hi : Inv M q) (hsay : ∀ x ∈ d.kids, RLaySays x ∧ x.form = true) (hfm : d.form = true) (hw : d.wt ≤ 4194304) (hfo : d.void = false → FOk c q (base + d.lead0) fresh) (hb0 : -M ≤ base) (hb1 : base ≤ M) (hM : M + 4000 * (d.wt : Int) - 2000 ≤ 1099511627776) (hn : n₀ ≤ B) (hK : KidsAt n₀ w d.kids A) :
    Calls Tryd.prog 57 #[.agg #[V, .int .i64 q.col, .int .i64 q.start, .bool q.op, .int .i64 q.owed, .int .i64 q.lines, .bool false, .int .i64 c.width, .int .i64 c.ribbon, .int .i64 c.mode], .agg #[.int .i64 d.kind, .string d.text, .int .i64 d.n, .slice A d.kids.length cc], .int .i64 base, .bool fresh] w (RLaid B w V c (M + 4000 * (d.wt : Int) - 2000) (d.lay c q base fresh)) := by
  have hwe := wt_eq d
  have hwp := wt_pos d
  have HFM := Lib.hid hfm
  have HFO := Lib.hid hfo
  clear hfm hfo
  obtain ⟨A0, c0, rfl⟩ := own_form h
  have hkl := kids_lt d
  have hdl := len_le_wts d.kids
  obtain ⟨hbx, hb0', hs0⟩ := rbox_new w (.slice A0 q.out.length c0) (pfOf c q false)
  simp only [pfOf] at hb0' hs0
  obtain ⟨W0, hW0⟩ : ∃ W, w.alloc (.cells #[(.slice A0 q.out.length c0), .int .i64 q.col, .int .i64 q.start, .bool q.op, .int .i64 q.owed, .int .i64 q.lines, .bool false, .int .i64 c.width, .int .i64 c.ribbon, .int .i64 c.mode] 73) = W := ⟨_, rfl⟩
  have hbx0 : RBox W0 w.heap.size (.slice A0 q.out.length c0) (pfOf c q false) := by rw [← hW0]; exact hbx
  rw [hW0] at hb0' hs0
  obtain ⟨hdx, hbd, hs1⟩ := dbox_new W0 d A cc
  obtain ⟨W1, hW1⟩ : ∃ W, W0.alloc (.cells #[.int .i64 d.kind, .string d.text, .int .i64 d.n, .slice A d.kids.length cc] 24) = W := ⟨_, rfl⟩
  rw [hW1] at hdx hbd hs1
  obtain ⟨hrx, hbr, hs2⟩ := rbox_new W1 (.slice none 0 0) PF0
  simp only [PF0] at hbr hs2
  obtain ⟨W, hW⟩ : ∃ W, W1.alloc (.cells #[.slice none 0 0, .int .i64 0, .int .i64 0, .bool false, .int .i64 0, .int .i64 0, .bool false, .int .i64 0, .int .i64 0, .int .i64 0] 73) = W := ⟨_, rfl⟩
  have hrx0 : RBox W W1.heap.size (.slice none 0 0) PF0 := by rw [← hW]; exact hrx
  rw [hW] at hbr hs2
  have hb2 := (hb0'.trans (hbd.mono (by omega))).trans (hbr.mono (by omega))
  have HS0 := Lib.hid (show RSt B w (.slice A0 q.out.length c0) c w.heap.size W0.heap.size W1.heap.size d A cc M W (.slice A0 q.out.length c0) q false from
    ⟨own_on h hb2, (hbx0.on hbd).on hbr, hrx0, hdx.on hbr, Stay.of_below hb2, .inl rfl, hi, Nat.le_refl _, by omega, by omega, by omega, hB⟩)
  have HVB := Lib.hid (show ∀ g, Value.ownBlock (.slice A0 q.out.length c0) = some g → B ≤ g from fun g hg => (h.lt g hg).1)
  have HSAY := Lib.hid hsay
  have HK := Lib.hid hK
  have hord : w.heap.size < W0.heap.size ∧ W0.heap.size < W1.heap.size ∧ W1.heap.size < W.heap.size := ⟨by omega, by omega, by omega⟩
  obtain ⟨ho1, ho2, ho3⟩ := hord
  clear h hi hsay hK hbx hbx0 hb0' hs0 hdx hbd hs1 hrx hrx0 hbr hs2 hb2
  have HLOW := Lib.hid (HS0.out.low HVB.out hn)
  have HKW := Lib.hid (kidsAt_below HK.out HLOW.out)
  obtain ⟨y0, y1, y2, y3, _, _, _, _⟩ := HS0.out.dbx.box
  have k1 : (d.kind == 1) = false := by rw [hk]; rfl
  have k2 : (d.kind == 2) = false := by rw [hk]; rfl
  have k3 : (d.kind == 3) = false := by rw [hk]; rfl
  have k4 : (d.kind == 4) = false := by rw [hk]; rfl
  have k7 : (d.kind == 7) = false := by rw [hk]; rfl
  have k8 : (d.kind == 8) = false := by rw [hk]; rfl
  have k9 : (d.kind == 9) = true := by rw [hk]; rfl
  have k10 : (d.kind == 10) = false := by rw [hk]; rfl
  have HKD := Lib.hid hk
  clear hk
  obtain ⟨e0, e1, e2, e3, e4, e5, e6, e7, e8, e9, ez⟩ := (HS0.out.pbx).cells
  simp only [pfOf] at e1 e2 e3 e4 e5 e6 e7 e8 e9
  have ef0 := ez 0
  have ef1 := ez 1
  have ef2 := ez 2
  have ef3 := ez 3
  have ef4 := ez 4
  have ef5 := ez 5
  have ef6 := ez 6
  have ef7 := ez 7
  have ef8 := ez 8
  have ef9 := ez 9
  clear ez
  have HLAY := Lib.hid (show d.lay c q base fresh = fills c 9 d.kids true false q base fresh by rw [lay_fil (by rw [HKD.out]; decide), HKD.out])
  go_enter Tryd.func57, Tryd.ntmps57
  have HC1 := Lib.hid (rfill9_any d HKD.out B n₀ (.slice A0 q.out.length c0) c q base M fresh A cc W HS0.out.own HS0.out.ble HS0.out.inv HSAY.out (fok_kids HFM.out (by rw [HKD.out]; decide) (by rw [HKD.out]; decide) HFO.out) hb0 hb1 (by omega) (by omega) hn HKW.out)
  go_wp2_with fail
  refine HC1.out.mono ?_
  rintro e v1 ⟨V1, q1, l1, rfl, g1, g2, g3, g4, g5⟩
  obtain ⟨A1, c1, rfl⟩ := own_form g1
  have hr1 := HS0.out.rbx.stay g2 (fun e => Lib.ownBlock_ne HS0.out.own HS0.out.rbx.blk (by decide) e.symm)
  have hs1 := stay_next HS0.out g2
  have hn1 := next_trans HS0.out.next HS0.out.stay.size g3
  have HR1 := Lib.hid hr1
  have HO1 := Lib.hid g1
  have HS1 := Lib.hid hs1
  have HN1 := Lib.hid hn1
  have HI1 := Lib.hid g4
  have HSM := Lib.hid g5
  clear e0 e1 e2 e3 e4 e5 e6 e7 e8 e9 ef0 ef1 ef2 ef3 ef4 ef5 ef6 ef7 ef8 ef9 y0 y1 y2 y3 hW hW0 hW1 k1 k2 k3 k4 k7 k8 k9 k10 hs1 hn1 g1 g2 g3 g4 g5 HC1
  obtain ⟨u0, u1, u2, u3, u4, u5, u6, u7, u8, u9, uz⟩ := (hr1).cells
  simp only [PF0] at u1 u2 u3 u4 u5 u6 u7 u8 u9
  have uf0 := uz 0
  have uf1 := uz 1
  have uf2 := uz 2
  have uf3 := uz 3
  have uf4 := uz 4
  have uf5 := uz 5
  have uf6 := uz 6
  have uf7 := uz 7
  have uf8 := uz 8
  have uf9 := uz 9
  clear uz
  clear hr1
  go_wp2
  have nr : Value.ownBlock (.slice A1 q1.out.length c1) ≠ some W1.heap.size := Lib.ownBlock_ne (HO1.out) (HR1.out).blk (by decide)
  have kz := (HR1.out).put (.slice A1 q1.out.length c1) (pfOf c q1 l1)
  have oz := own_put (HO1.out) nr (.slice A1 q1.out.length c1) (pfOf c q1 l1)
  have bz := stay_put2 (HS1.out) (b := W1.heap.size) (by omega) (.slice A1 q1.out.length c1) (pfOf c q1 l1)
  simp only [pfOf] at kz oz bz
  generalize ((((((((((v1.setCell ⟨W1.heap.size, 0, none⟩ (.slice A1 q1.out.length c1)).setCell ⟨W1.heap.size, 1, none⟩ (.int .i64 q1.col)).setCell ⟨W1.heap.size, 2, none⟩ (.int .i64 q1.start)).setCell ⟨W1.heap.size, 3, none⟩ (.bool q1.op)).setCell ⟨W1.heap.size, 4, none⟩ (.int .i64 q1.owed)).setCell ⟨W1.heap.size, 5, none⟩ (.int .i64 q1.lines)).setCell ⟨W1.heap.size, 6, none⟩ (.bool l1)).setCell ⟨W1.heap.size, 7, none⟩ (.int .i64 c.width)).setCell ⟨W1.heap.size, 8, none⟩ (.int .i64 c.ribbon)).setCell ⟨W1.heap.size, 9, none⟩ (.int .i64 c.mode)) = WZ at kz oz bz ⊢
  obtain ⟨z0, z1, z2, z3, z4, z5, z6, z7, z8, z9, -⟩ := kz.cells
  simp only at z1 z2 z3 z4 z5 z6 z7 z8 z9
  refine bodyPost_ret (v := .agg #[(.slice A1 q1.out.length c1), (.int .i64 q1.col), (.int .i64 q1.start), (.bool q1.op), (.int .i64 q1.owed), (.int .i64 q1.lines), (.bool l1), (.int .i64 c.width), (.int .i64 c.ribbon), (.int .i64 c.mode)]) (by simp [results, Tryd.results57, go_sem, z0, z1, z2, z3, z4, z5, z6, z7, z8, z9]) rfl ?_
  exact ⟨_, q1, l1, rfl, oz, bz, HN1.out, HI1.out.mono (by omega), by rw [HLAY.out]; exact HSM.out⟩

set_option maxRecDepth 100000 in
set_option maxHeartbeats 16000000 in
theorem rlay_10 (B n₀ : Nat) (V : Value) (c : Cfg) (q : Pen) (base M : Int) (fresh : Bool) (d : Doc) (A : Option Addr) (cc : Nat) (w : World) (hk : d.kind = 10) 
    (h : w.ownsRow B 5 1 V q.out.length (Lib.byteCells q.out)) (hB : B ≤ w.heap.size) (hi : Inv M q) (hsay : ∀ x ∈ d.kids, RLaySays x ∧ x.form = true) (hfm : d.form = true) (hw : d.wt ≤ 4194304) (hfo : d.void = false → FOk c q (base + d.lead0) fresh) (hb0 : -M ≤ base) (hb1 : base ≤ M) (hM : M + 4000 * (d.wt : Int) - 2000 ≤ 1099511627776) (hn : n₀ ≤ B) (hK : KidsAt n₀ w d.kids A) :
    Calls Tryd.prog 57 #[.agg #[V, .int .i64 q.col, .int .i64 q.start, .bool q.op, .int .i64 q.owed, .int .i64 q.lines, .bool false, .int .i64 c.width, .int .i64 c.ribbon, .int .i64 c.mode], .agg #[.int .i64 d.kind, .string d.text, .int .i64 d.n, .slice A d.kids.length cc], .int .i64 base, .bool fresh] w (RLaid B w V c (M + 4000 * (d.wt : Int) - 2000) (d.lay c q base fresh)) := by
  have hwe := wt_eq d
  have hwp := wt_pos d
  have HFM := Lib.hid hfm
  have HFO := Lib.hid hfo
  clear hfm hfo
  obtain ⟨A0, c0, rfl⟩ := own_form h
  have hkl := kids_lt d
  have hdl := len_le_wts d.kids
  obtain ⟨hbx, hb0', hs0⟩ := rbox_new w (.slice A0 q.out.length c0) (pfOf c q false)
  simp only [pfOf] at hb0' hs0
  obtain ⟨W0, hW0⟩ : ∃ W, w.alloc (.cells #[(.slice A0 q.out.length c0), .int .i64 q.col, .int .i64 q.start, .bool q.op, .int .i64 q.owed, .int .i64 q.lines, .bool false, .int .i64 c.width, .int .i64 c.ribbon, .int .i64 c.mode] 73) = W := ⟨_, rfl⟩
  have hbx0 : RBox W0 w.heap.size (.slice A0 q.out.length c0) (pfOf c q false) := by rw [← hW0]; exact hbx
  rw [hW0] at hb0' hs0
  obtain ⟨hdx, hbd, hs1⟩ := dbox_new W0 d A cc
  obtain ⟨W1, hW1⟩ : ∃ W, W0.alloc (.cells #[.int .i64 d.kind, .string d.text, .int .i64 d.n, .slice A d.kids.length cc] 24) = W := ⟨_, rfl⟩
  rw [hW1] at hdx hbd hs1
  obtain ⟨hrx, hbr, hs2⟩ := rbox_new W1 (.slice none 0 0) PF0
  simp only [PF0] at hbr hs2
  obtain ⟨W, hW⟩ : ∃ W, W1.alloc (.cells #[.slice none 0 0, .int .i64 0, .int .i64 0, .bool false, .int .i64 0, .int .i64 0, .bool false, .int .i64 0, .int .i64 0, .int .i64 0] 73) = W := ⟨_, rfl⟩
  have hrx0 : RBox W W1.heap.size (.slice none 0 0) PF0 := by rw [← hW]; exact hrx
  rw [hW] at hbr hs2
  have hb2 := (hb0'.trans (hbd.mono (by omega))).trans (hbr.mono (by omega))
  have HS0 := Lib.hid (show RSt B w (.slice A0 q.out.length c0) c w.heap.size W0.heap.size W1.heap.size d A cc M W (.slice A0 q.out.length c0) q false from
    ⟨own_on h hb2, (hbx0.on hbd).on hbr, hrx0, hdx.on hbr, Stay.of_below hb2, .inl rfl, hi, Nat.le_refl _, by omega, by omega, by omega, hB⟩)
  have HVB := Lib.hid (show ∀ g, Value.ownBlock (.slice A0 q.out.length c0) = some g → B ≤ g from fun g hg => (h.lt g hg).1)
  have HSAY := Lib.hid hsay
  have HK := Lib.hid hK
  have hord : w.heap.size < W0.heap.size ∧ W0.heap.size < W1.heap.size ∧ W1.heap.size < W.heap.size := ⟨by omega, by omega, by omega⟩
  obtain ⟨ho1, ho2, ho3⟩ := hord
  clear h hi hsay hK hbx hbx0 hb0' hs0 hdx hbd hs1 hrx hrx0 hbr hs2 hb2
  have HLOW := Lib.hid (HS0.out.low HVB.out hn)
  have HKW := Lib.hid (kidsAt_below HK.out HLOW.out)
  obtain ⟨y0, y1, y2, y3, _, _, _, _⟩ := HS0.out.dbx.box
  have k1 : (d.kind == 1) = false := by rw [hk]; rfl
  have k2 : (d.kind == 2) = false := by rw [hk]; rfl
  have k3 : (d.kind == 3) = false := by rw [hk]; rfl
  have k4 : (d.kind == 4) = false := by rw [hk]; rfl
  have k7 : (d.kind == 7) = false := by rw [hk]; rfl
  have k8 : (d.kind == 8) = false := by rw [hk]; rfl
  have k9 : (d.kind == 9) = false := by rw [hk]; rfl
  have k10 : (d.kind == 10) = true := by rw [hk]; rfl
  have HKD := Lib.hid hk
  clear hk
  obtain ⟨e0, e1, e2, e3, e4, e5, e6, e7, e8, e9, ez⟩ := (HS0.out.pbx).cells
  simp only [pfOf] at e1 e2 e3 e4 e5 e6 e7 e8 e9
  have ef0 := ez 0
  have ef1 := ez 1
  have ef2 := ez 2
  have ef3 := ez 3
  have ef4 := ez 4
  have ef5 := ez 5
  have ef6 := ez 6
  have ef7 := ez 7
  have ef8 := ez 8
  have ef9 := ez 9
  clear ez
  have HLAY := Lib.hid (show d.lay c q base fresh = fills c 10 d.kids true false q base fresh by rw [lay_fil (by rw [HKD.out]; decide), HKD.out])
  go_enter Tryd.func57, Tryd.ntmps57
  have HC1 := Lib.hid (rfill10_any d HKD.out B n₀ (.slice A0 q.out.length c0) c q base M fresh A cc W HS0.out.own HS0.out.ble HS0.out.inv HSAY.out (fok_kids HFM.out (by rw [HKD.out]; decide) (by rw [HKD.out]; decide) HFO.out) hb0 hb1 (by omega) (by omega) hn HKW.out)
  go_wp2_with fail
  refine HC1.out.mono ?_
  rintro e v1 ⟨V1, q1, l1, rfl, g1, g2, g3, g4, g5⟩
  obtain ⟨A1, c1, rfl⟩ := own_form g1
  have hr1 := HS0.out.rbx.stay g2 (fun e => Lib.ownBlock_ne HS0.out.own HS0.out.rbx.blk (by decide) e.symm)
  have hs1 := stay_next HS0.out g2
  have hn1 := next_trans HS0.out.next HS0.out.stay.size g3
  have HR1 := Lib.hid hr1
  have HO1 := Lib.hid g1
  have HS1 := Lib.hid hs1
  have HN1 := Lib.hid hn1
  have HI1 := Lib.hid g4
  have HSM := Lib.hid g5
  clear e0 e1 e2 e3 e4 e5 e6 e7 e8 e9 ef0 ef1 ef2 ef3 ef4 ef5 ef6 ef7 ef8 ef9 y0 y1 y2 y3 hW hW0 hW1 k1 k2 k3 k4 k7 k8 k9 k10 hs1 hn1 g1 g2 g3 g4 g5 HC1
  obtain ⟨u0, u1, u2, u3, u4, u5, u6, u7, u8, u9, uz⟩ := (hr1).cells
  simp only [PF0] at u1 u2 u3 u4 u5 u6 u7 u8 u9
  have uf0 := uz 0
  have uf1 := uz 1
  have uf2 := uz 2
  have uf3 := uz 3
  have uf4 := uz 4
  have uf5 := uz 5
  have uf6 := uz 6
  have uf7 := uz 7
  have uf8 := uz 8
  have uf9 := uz 9
  clear uz
  clear hr1
  go_wp2
  have nr : Value.ownBlock (.slice A1 q1.out.length c1) ≠ some W1.heap.size := Lib.ownBlock_ne (HO1.out) (HR1.out).blk (by decide)
  have kz := (HR1.out).put (.slice A1 q1.out.length c1) (pfOf c q1 l1)
  have oz := own_put (HO1.out) nr (.slice A1 q1.out.length c1) (pfOf c q1 l1)
  have bz := stay_put2 (HS1.out) (b := W1.heap.size) (by omega) (.slice A1 q1.out.length c1) (pfOf c q1 l1)
  simp only [pfOf] at kz oz bz
  generalize ((((((((((v1.setCell ⟨W1.heap.size, 0, none⟩ (.slice A1 q1.out.length c1)).setCell ⟨W1.heap.size, 1, none⟩ (.int .i64 q1.col)).setCell ⟨W1.heap.size, 2, none⟩ (.int .i64 q1.start)).setCell ⟨W1.heap.size, 3, none⟩ (.bool q1.op)).setCell ⟨W1.heap.size, 4, none⟩ (.int .i64 q1.owed)).setCell ⟨W1.heap.size, 5, none⟩ (.int .i64 q1.lines)).setCell ⟨W1.heap.size, 6, none⟩ (.bool l1)).setCell ⟨W1.heap.size, 7, none⟩ (.int .i64 c.width)).setCell ⟨W1.heap.size, 8, none⟩ (.int .i64 c.ribbon)).setCell ⟨W1.heap.size, 9, none⟩ (.int .i64 c.mode)) = WZ at kz oz bz ⊢
  obtain ⟨z0, z1, z2, z3, z4, z5, z6, z7, z8, z9, -⟩ := kz.cells
  simp only at z1 z2 z3 z4 z5 z6 z7 z8 z9
  refine bodyPost_ret (v := .agg #[(.slice A1 q1.out.length c1), (.int .i64 q1.col), (.int .i64 q1.start), (.bool q1.op), (.int .i64 q1.owed), (.int .i64 q1.lines), (.bool l1), (.int .i64 c.width), (.int .i64 c.ribbon), (.int .i64 c.mode)]) (by simp [results, Tryd.results57, go_sem, z0, z1, z2, z3, z4, z5, z6, z7, z8, z9]) rfl ?_
  exact ⟨_, q1, l1, rfl, oz, bz, HN1.out, HI1.out.mono (by omega), by rw [HLAY.out]; exact HSM.out⟩

end Go.Proofs.YtnpaplfdmpjfgaaDoor
