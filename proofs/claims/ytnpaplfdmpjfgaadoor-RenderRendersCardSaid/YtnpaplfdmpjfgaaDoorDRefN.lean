/- A region that draws its order, whose operations only read, and whose callees leave what was there: one walk in the order of the text serves every order. -/
import Derived.Test.YtnpaplfdmpjfgaaDoorDPenB
import Derived.BigQuiet
import Derived.Test.YtnpaplfdmpjfgaaDoorDRefL
import Derived.IntWalk
/-! A region that draws its order, whose operations only read, and whose callees leave what was there: one walk in the order of the text serves every order. -/
namespace Go.Proofs.YtnpaplfdmpjfgaaDoor
open Go Go.RowKit

theorem wp_region_below {P : Program} {id : Nat} {Q : Exit → Act → World → Prop} {a : Act} {w : World} {l : List Oper} (hm : P.follows .mixedOrders = true) (hB : Region.lexB .any l.toArray = true)
    (h : ∀ (X : Type) [Nonempty X] (f : X → World), (∀ x, Below w.heap.size w (f x)) → (∀ w', Below w.heap.size w w' → ∃ x, w' = f x) → wpQuiet P l.toArray (fun w' => ∃ x, w' = f x) (fun a' => ∀ w', (∃ x, w' = f x) → Q .normal a' w') l a) : (Code.region id l.toArray true).wp P Q a w :=
  wp_region_quiet (C := fun w' => ∃ x : {w' : World // Below w.heap.size w w'}, w' = x.1) hm hB ⟨⟨_, (Below.refl _ _).drew⟩, rfl⟩ (by
    have : Nonempty {w' : World // Below w.heap.size w w'} := ⟨⟨w, Below.refl _ _⟩⟩
    simpa using h {w' : World // Below w.heap.size w w'} Subtype.val (fun x => x.2) (fun w' hb => ⟨⟨w', hb⟩, rfl⟩))

/-- A callee's contract, met in any world of the class. -/
theorem Calls.below_of {P : Program} {g : FuncId} {args : Array Value} {w w1 : World} {v : Value} {X : Type} {f : X → World} (hx : Below w.heap.size w w1) (hS : ∀ w', Below w.heap.size w w' → ∃ x, w' = f x)
    (h : Calls P g args w1 fun e w' => e = .returned v ∧ Below w1.heap.size w1 w') : Calls P g args w1 fun e w'' => e = .returned v ∧ ∃ x, w'' = f x :=
  h.mono fun _ w' ⟨he, hb⟩ => ⟨he, hS w' (hx.trans (hb.mono hx.size))⟩
end Go.Proofs.YtnpaplfdmpjfgaaDoor

/-! The reference's lay: a Nest, a Sep; each document. -/
namespace Go.Proofs.YtnpaplfdmpjfgaaDoor
open Go.RowKit

theorem bl_call2 {w w' w'' : World} (h : Below w.heap.size w w') (hb : Below w'.heap.size w' w'') : Below w.heap.size w w'' := h.trans (hb.mono h.size)

set_option maxRecDepth 100000 in
set_option maxHeartbeats 16000000 in
theorem rlay_2t (B n₀ : Nat) (V : Value) (c : Cfg) (q : Pen) (base M : Int) (fresh : Bool) (d : Doc) (A : Option Addr) (cc : Nat) (w : World) (hk : d.kind = 2) (hfr : fresh = true) 
    (h : w.ownsRow B 5 1 V q.out.length (Lib.byteCells q.out)) (hB : B ≤ w.heap.size) (hi : Inv M q) (hsay : ∀ x ∈ d.kids, RLaySays x ∧ x.form = true) (hfm : d.form = true) (hw : d.wt ≤ 4194304) (hfo : d.void = false → FOk c q (base + d.lead0) fresh) (hb0 : -M ≤ base) (hb1 : base ≤ M) (hM : M + 4000 * (d.wt : Int) - 2000 ≤ 1099511627776) (hn : n₀ ≤ B) (hK : KidsAt n₀ w d.kids A) :
    Calls Tryd.prog 57 #[.agg #[V, .int .i64 q.col, .int .i64 q.start, .bool q.op, .int .i64 q.owed, .int .i64 q.lines, .bool false, .int .i64 c.width, .int .i64 c.ribbon, .int .i64 c.mode], .agg #[.int .i64 d.kind, .string d.text, .int .i64 d.n, .slice A d.kids.length cc], .int .i64 base, .bool fresh] w (RLaid B w V c (M + 4000 * (d.wt : Int) - 2000) (d.lay c q base fresh)) := by
  obtain ⟨x, hx⟩ : ∃ x, d.kids = [x] := by
    have := (form_at.1 hfm).l1.resolve_left (by omega)
    match hd : d.kids with
    | [x] => exact ⟨x, rfl⟩
    | [] => rw [hd] at this; simp at this
    | _ :: _ :: _ => rw [hd] at this; simp at this
  have hn0 := (form_at.1 hfm).n0
  have hn1 := (form_at.1 hfm).n1
  have hl0 : 0 < d.kids.length := by rw [hx]; exact Nat.zero_lt_one
  have hxm : x ∈ d.kids := by rw [hx]; exact List.mem_cons_self
  have hxw := kid_lt hxm
  have HLAY := Lib.hid (show d.lay c q base fresh = x.lay c q (base + d.n) true by rw [lay_eq, show (d.kind == 1) = false by rw [hk]; rfl, show (d.kind == 2) = true by rw [hk]; rfl, hx]; subst hfr; rfl)
  have HFO1 := Lib.hid (show x.void = false → FOk c q ((base + d.n) + x.lead0) true by
    intro hv
    have hdv : d.void = false := by rw [void_eq, hk, hx]; simp [voids, hv]
    have hl : d.lead0 = d.n + x.lead0 := by
      rw [lead0_eq, hk, hx]
      simp [leads0, hv]
    have := hfo hdv
    rw [hl, hfr] at this
    rwa [← Int.add_assoc] at this)
  have HSX := Lib.hid (hsay x hxm)
  have HX := Lib.hid hx
  clear hxm hx
  subst hfr
  have hwe := wt_eq d
  have hwp := wt_pos d
  have HFM := Lib.hid hfm
  have HFO := Lib.hid hfo
  clear hfm hfo
  obtain ⟨A0, c0, rfl⟩ := own_form h
  have hkl := kids_lt d
  have hdl := len_le_wts d.kids
  obtain ⟨hbx, hb0', hs0⟩ := rbox_new w (.slice A0 q.out.length c0) (pfOf c q false)
  simp only [pfOf] at hb0' hs0
  obtain ⟨W0, hW0⟩ : ∃ W, w.alloc (.cells #[(.slice A0 q.out.length c0), .int .i64 q.col, .int .i64 q.start, .bool q.op, .int .i64 q.owed, .int .i64 q.lines, .bool false, .int .i64 c.width, .int .i64 c.ribbon, .int .i64 c.mode] 73) = W := ⟨_, rfl⟩
  have hbx0 : RBox W0 w.heap.size (.slice A0 q.out.length c0) (pfOf c q false) := by rw [← hW0]; exact hbx
  rw [hW0] at hb0' hs0
  obtain ⟨hdx, hbd, hs1⟩ := dbox_new W0 d A cc
  obtain ⟨W1, hW1⟩ : ∃ W, W0.alloc (.cells #[.int .i64 d.kind, .string d.text, .int .i64 d.n, .slice A d.kids.length cc] 24) = W := ⟨_, rfl⟩
  rw [hW1] at hdx hbd hs1
  obtain ⟨hrx, hbr, hs2⟩ := rbox_new W1 (.slice none 0 0) PF0
  simp only [PF0] at hbr hs2
  obtain ⟨W, hW⟩ : ∃ W, W1.alloc (.cells #[.slice none 0 0, .int .i64 0, .int .i64 0, .bool false, .int .i64 0, .int .i64 0, .bool false, .int .i64 0, .int .i64 0, .int .i64 0] 73) = W := ⟨_, rfl⟩
  have hrx0 : RBox W W1.heap.size (.slice none 0 0) PF0 := by rw [← hW]; exact hrx
  rw [hW] at hbr hs2
  have hb2 := (hb0'.trans (hbd.mono (by omega))).trans (hbr.mono (by omega))
  have HS0 := Lib.hid (show RSt B w (.slice A0 q.out.length c0) c w.heap.size W0.heap.size W1.heap.size d A cc M W (.slice A0 q.out.length c0) q false from
    ⟨own_on h hb2, (hbx0.on hbd).on hbr, hrx0, hdx.on hbr, Stay.of_below hb2, .inl rfl, hi, Nat.le_refl _, by omega, by omega, by omega, hB⟩)
  have HVB := Lib.hid (show ∀ g, Value.ownBlock (.slice A0 q.out.length c0) = some g → B ≤ g from fun g hg => (h.lt g hg).1)
  have HSAY := Lib.hid hsay
  have HK := Lib.hid hK
  have hord : w.heap.size < W0.heap.size ∧ W0.heap.size < W1.heap.size ∧ W1.heap.size < W.heap.size := ⟨by omega, by omega, by omega⟩
  obtain ⟨ho1, ho2, ho3⟩ := hord
  clear h hi hsay hK hbx hbx0 hb0' hs0 hdx hbd hs1 hrx hrx0 hbr hs2 hb2
  have HLOW := Lib.hid (HS0.out.low HVB.out hn)
  have HKW := Lib.hid (kidsAt_below HK.out HLOW.out)
  obtain ⟨y0, y1, y2, y3, _, _, _, _⟩ := HS0.out.dbx.box
  have k1 : (d.kind == 1) = false := by rw [hk]; rfl
  have k2 : (d.kind == 2) = true := by rw [hk]; rfl
  have k3 : (d.kind == 3) = false := by rw [hk]; rfl
  have k4 : (d.kind == 4) = false := by rw [hk]; rfl
  have k7 : (d.kind == 7) = false := by rw [hk]; rfl
  have k8 : (d.kind == 8) = false := by rw [hk]; rfl
  have k9 : (d.kind == 9) = false := by rw [hk]; rfl
  have k10 : (d.kind == 10) = false := by rw [hk]; rfl
  have HKD := Lib.hid hk
  clear hk
  obtain ⟨e0, e1, e2, e3, e4, e5, e6, e7, e8, e9, ez⟩ := (HS0.out.pbx).cells
  simp only [pfOf] at e1 e2 e3 e4 e5 e6 e7 e8 e9
  have ef0 := ez 0
  have ef1 := ez 1
  have ef2 := ez 2
  have ef3 := ez 3
  have ef4 := ez 4
  have ef5 := ez 5
  have ef6 := ez 6
  have ef7 := ez 7
  have ef8 := ez 8
  have ef9 := ez 9
  clear ez
  have hkk := HKW.out
  rw [HX.out] at hkk
  obtain ⟨kb, ko, rfl, hat, _⟩ := hkk
  obtain ⟨A', c', j1, j2, j3, j4, j5, j6, j7, j8⟩ := docAt_iff.1 hat
  have HNX := Lib.hid j7
  have HCX := Lib.hid j6
  have HKX := Lib.hid j8
  clear hat j6 j7 j8
  go_enter Tryd.func57, Tryd.ntmps57
  go_upto_region 9 with (fail)
  clear hW hW1 hW0
  have HST := Lib.hid (HS0.out.on ((Below.refl _ _).drew))
  have HKD2 := Lib.hid (kidsAt_below HKX.out ((Below.refl _ _).drew))
  have HC1 := Lib.hid (HSX.out.1 B n₀ (.slice A0 q.out.length c0) c q false (base + d.n) (M + 1000) true A' c' W.drew HST.out.own HST.out.ble (HST.out.inv.mono (by omega)) (fun _ hv => HFO1.out hv) (by omega) (by omega) (by omega) hn HNX.out HCX.out HKD2.out)
  go_still_tail 7, (by kernel_rfl)
  change wpList _ _ _ _ _ W.drew
  go_wp2_with fail
  refine HC1.out.mono ?_
  rintro e v1 ⟨V1, q1, l1, rfl, g1, g2, g3, g4, g5⟩
  obtain ⟨A1, c1, rfl⟩ := own_form g1
  have hr1 := HST.out.rbx.stay g2 (fun e => Lib.ownBlock_ne HST.out.own HST.out.rbx.blk (by decide) e.symm)
  have hs1 := stay_next HST.out g2
  have hn1 := next_trans HST.out.next HST.out.stay.size g3
  have HR1 := Lib.hid hr1
  have HO1 := Lib.hid g1
  have HS1 := Lib.hid hs1
  have HN1 := Lib.hid hn1
  have HI1 := Lib.hid g4
  have HSM := Lib.hid g5
  clear e0 e1 e2 e3 e4 e5 e6 e7 e8 e9 ef0 ef1 ef2 ef3 ef4 ef5 ef6 ef7 ef8 ef9 y0 y1 y2 y3 j2 j3 j4 j5 hs1 hn1 g1 g2 g3 g4 g5 HC1
  obtain ⟨u0, u1, u2, u3, u4, u5, u6, u7, u8, u9, uz⟩ := (hr1).cells
  simp only [PF0] at u1 u2 u3 u4 u5 u6 u7 u8 u9
  have uf0 := uz 0
  have uf1 := uz 1
  have uf2 := uz 2
  have uf3 := uz 3
  have uf4 := uz 4
  have uf5 := uz 5
  have uf6 := uz 6
  have uf7 := uz 7
  have uf8 := uz 8
  have uf9 := uz 9
  clear uz
  clear hr1
  go_wp2
  have nr : Value.ownBlock (.slice A1 q1.out.length c1) ≠ some W1.heap.size := Lib.ownBlock_ne (HO1.out) (HR1.out).blk (by decide)
  have kz := (HR1.out).put (.slice A1 q1.out.length c1) (pfOf c q1 l1)
  have oz := own_put (HO1.out) nr (.slice A1 q1.out.length c1) (pfOf c q1 l1)
  have bz := stay_put2 (HS1.out) (b := W1.heap.size) (by omega) (.slice A1 q1.out.length c1) (pfOf c q1 l1)
  simp only [pfOf] at kz oz bz
  generalize ((((((((((v1.setCell ⟨W1.heap.size, 0, none⟩ (.slice A1 q1.out.length c1)).setCell ⟨W1.heap.size, 1, none⟩ (.int .i64 q1.col)).setCell ⟨W1.heap.size, 2, none⟩ (.int .i64 q1.start)).setCell ⟨W1.heap.size, 3, none⟩ (.bool q1.op)).setCell ⟨W1.heap.size, 4, none⟩ (.int .i64 q1.owed)).setCell ⟨W1.heap.size, 5, none⟩ (.int .i64 q1.lines)).setCell ⟨W1.heap.size, 6, none⟩ (.bool l1)).setCell ⟨W1.heap.size, 7, none⟩ (.int .i64 c.width)).setCell ⟨W1.heap.size, 8, none⟩ (.int .i64 c.ribbon)).setCell ⟨W1.heap.size, 9, none⟩ (.int .i64 c.mode)) = WZ at kz oz bz ⊢
  obtain ⟨z0, z1, z2, z3, z4, z5, z6, z7, z8, z9, -⟩ := kz.cells
  simp only at z1 z2 z3 z4 z5 z6 z7 z8 z9
  refine bodyPost_ret (v := .agg #[(.slice A1 q1.out.length c1), (.int .i64 q1.col), (.int .i64 q1.start), (.bool q1.op), (.int .i64 q1.owed), (.int .i64 q1.lines), (.bool l1), (.int .i64 c.width), (.int .i64 c.ribbon), (.int .i64 c.mode)]) (by simp [results, Tryd.results57, go_sem, z0, z1, z2, z3, z4, z5, z6, z7, z8, z9]) rfl ?_
  exact ⟨_, q1, l1, rfl, oz, bz, HN1.out, HI1.out.mono (by omega), by rw [HLAY.out]; exact HSM.out⟩

set_option maxRecDepth 100000 in
set_option maxHeartbeats 16000000 in
theorem rlay_2f (B n₀ : Nat) (V : Value) (c : Cfg) (q : Pen) (base M : Int) (fresh : Bool) (d : Doc) (A : Option Addr) (cc : Nat) (w : World) (hk : d.kind = 2) (hfr : fresh = false) 
    (h : w.ownsRow B 5 1 V q.out.length (Lib.byteCells q.out)) (hB : B ≤ w.heap.size) (hi : Inv M q) (hsay : ∀ x ∈ d.kids, RLaySays x ∧ x.form = true) (hfm : d.form = true) (_hw : d.wt ≤ 4194304) (hfo : d.void = false → FOk c q (base + d.lead0) fresh) (hb0 : -M ≤ base) (hb1 : base ≤ M) (hM : M + 4000 * (d.wt : Int) - 2000 ≤ 1099511627776) (hn : n₀ ≤ B) (hK : KidsAt n₀ w d.kids A) :
    Calls Tryd.prog 57 #[.agg #[V, .int .i64 q.col, .int .i64 q.start, .bool q.op, .int .i64 q.owed, .int .i64 q.lines, .bool false, .int .i64 c.width, .int .i64 c.ribbon, .int .i64 c.mode], .agg #[.int .i64 d.kind, .string d.text, .int .i64 d.n, .slice A d.kids.length cc], .int .i64 base, .bool fresh] w (RLaid B w V c (M + 4000 * (d.wt : Int) - 2000) (d.lay c q base fresh)) := by
  obtain ⟨x, hx⟩ : ∃ x, d.kids = [x] := by
    have := (form_at.1 hfm).l1.resolve_left (by omega)
    match hd : d.kids with
    | [x] => exact ⟨x, rfl⟩
    | [] => rw [hd] at this; simp at this
    | _ :: _ :: _ => rw [hd] at this; simp at this
  have hn0 := (form_at.1 hfm).n0
  have hn1 := (form_at.1 hfm).n1
  have hl0 : 0 < d.kids.length := by rw [hx]; exact Nat.zero_lt_one
  have hxm : x ∈ d.kids := by rw [hx]; exact List.mem_cons_self
  have hxw := kid_lt hxm
  have HLAY := Lib.hid (show d.lay c q base fresh = x.lay c q base false by rw [lay_eq, show (d.kind == 1) = false by rw [hk]; rfl, show (d.kind == 2) = true by rw [hk]; rfl, hx]; subst hfr; rfl)
  have HFO1 := Lib.hid (show x.void = false → FOk c q (base + x.lead0) false by
    intro hv
    exact fok_not _ _ _)
  have HSX := Lib.hid (hsay x hxm)
  have HX := Lib.hid hx
  clear hxm hx
  subst hfr
  have hwe := wt_eq d
  have hwp := wt_pos d
  have HFM := Lib.hid hfm
  have HFO := Lib.hid hfo
  clear hfm hfo
  obtain ⟨A0, c0, rfl⟩ := own_form h
  have hkl := kids_lt d
  have hdl := len_le_wts d.kids
  obtain ⟨hbx, hb0', hs0⟩ := rbox_new w (.slice A0 q.out.length c0) (pfOf c q false)
  simp only [pfOf] at hb0' hs0
  obtain ⟨W0, hW0⟩ : ∃ W, w.alloc (.cells #[(.slice A0 q.out.length c0), .int .i64 q.col, .int .i64 q.start, .bool q.op, .int .i64 q.owed, .int .i64 q.lines, .bool false, .int .i64 c.width, .int .i64 c.ribbon, .int .i64 c.mode] 73) = W := ⟨_, rfl⟩
  have hbx0 : RBox W0 w.heap.size (.slice A0 q.out.length c0) (pfOf c q false) := by rw [← hW0]; exact hbx
  rw [hW0] at hb0' hs0
  obtain ⟨hdx, hbd, hs1⟩ := dbox_new W0 d A cc
  obtain ⟨W1, hW1⟩ : ∃ W, W0.alloc (.cells #[.int .i64 d.kind, .string d.text, .int .i64 d.n, .slice A d.kids.length cc] 24) = W := ⟨_, rfl⟩
  rw [hW1] at hdx hbd hs1
  obtain ⟨hrx, hbr, hs2⟩ := rbox_new W1 (.slice none 0 0) PF0
  simp only [PF0] at hbr hs2
  obtain ⟨W, hW⟩ : ∃ W, W1.alloc (.cells #[.slice none 0 0, .int .i64 0, .int .i64 0, .bool false, .int .i64 0, .int .i64 0, .bool false, .int .i64 0, .int .i64 0, .int .i64 0] 73) = W := ⟨_, rfl⟩
  have hrx0 : RBox W W1.heap.size (.slice none 0 0) PF0 := by rw [← hW]; exact hrx
  rw [hW] at hbr hs2
  have hb2 := (hb0'.trans (hbd.mono (by omega))).trans (hbr.mono (by omega))
  have HS0 := Lib.hid (show RSt B w (.slice A0 q.out.length c0) c w.heap.size W0.heap.size W1.heap.size d A cc M W (.slice A0 q.out.length c0) q false from
    ⟨own_on h hb2, (hbx0.on hbd).on hbr, hrx0, hdx.on hbr, Stay.of_below hb2, .inl rfl, hi, Nat.le_refl _, by omega, by omega, by omega, hB⟩)
  have HVB := Lib.hid (show ∀ g, Value.ownBlock (.slice A0 q.out.length c0) = some g → B ≤ g from fun g hg => (h.lt g hg).1)
  have HSAY := Lib.hid hsay
  have HK := Lib.hid hK
  have hord : w.heap.size < W0.heap.size ∧ W0.heap.size < W1.heap.size ∧ W1.heap.size < W.heap.size := ⟨by omega, by omega, by omega⟩
  obtain ⟨ho1, ho2, ho3⟩ := hord
  clear h hi hsay hK hbx hbx0 hb0' hs0 hdx hbd hs1 hrx hrx0 hbr hs2 hb2
  have HLOW := Lib.hid (HS0.out.low HVB.out hn)
  have HKW := Lib.hid (kidsAt_below HK.out HLOW.out)
  obtain ⟨y0, y1, y2, y3, _, _, _, _⟩ := HS0.out.dbx.box
  have k1 : (d.kind == 1) = false := by rw [hk]; rfl
  have k2 : (d.kind == 2) = true := by rw [hk]; rfl
  have k3 : (d.kind == 3) = false := by rw [hk]; rfl
  have k4 : (d.kind == 4) = false := by rw [hk]; rfl
  have k7 : (d.kind == 7) = false := by rw [hk]; rfl
  have k8 : (d.kind == 8) = false := by rw [hk]; rfl
  have k9 : (d.kind == 9) = false := by rw [hk]; rfl
  have k10 : (d.kind == 10) = false := by rw [hk]; rfl
  have HKD := Lib.hid hk
  clear hk
  obtain ⟨e0, e1, e2, e3, e4, e5, e6, e7, e8, e9, ez⟩ := (HS0.out.pbx).cells
  simp only [pfOf] at e1 e2 e3 e4 e5 e6 e7 e8 e9
  have ef0 := ez 0
  have ef1 := ez 1
  have ef2 := ez 2
  have ef3 := ez 3
  have ef4 := ez 4
  have ef5 := ez 5
  have ef6 := ez 6
  have ef7 := ez 7
  have ef8 := ez 8
  have ef9 := ez 9
  clear ez
  have hkk := HKW.out
  rw [HX.out] at hkk
  obtain ⟨kb, ko, rfl, hat, _⟩ := hkk
  obtain ⟨A', c', j1, j2, j3, j4, j5, j6, j7, j8⟩ := docAt_iff.1 hat
  have HNX := Lib.hid j7
  have HCX := Lib.hid j6
  have HKX := Lib.hid j8
  clear hat j6 j7 j8
  go_enter Tryd.func57, Tryd.ntmps57
  go_upto_region 9 with (fail)
  clear hW hW1 hW0
  have HST := Lib.hid (HS0.out.on ((Below.refl _ _).drew))
  have HKD2 := Lib.hid (kidsAt_below HKX.out ((Below.refl _ _).drew))
  have HC1 := Lib.hid (HSX.out.1 B n₀ (.slice A0 q.out.length c0) c q false base (M + 1000) false A' c' W.drew HST.out.own HST.out.ble (HST.out.inv.mono (by omega)) (fun _ hv => HFO1.out hv) (by omega) (by omega) (by omega) hn HNX.out HCX.out HKD2.out)
  go_still_tail 7, (by kernel_rfl)
  change wpList _ _ _ _ _ W.drew
  go_wp2_with fail
  refine HC1.out.mono ?_
  rintro e v1 ⟨V1, q1, l1, rfl, g1, g2, g3, g4, g5⟩
  obtain ⟨A1, c1, rfl⟩ := own_form g1
  have hr1 := HST.out.rbx.stay g2 (fun e => Lib.ownBlock_ne HST.out.own HST.out.rbx.blk (by decide) e.symm)
  have hs1 := stay_next HST.out g2
  have hn1 := next_trans HST.out.next HST.out.stay.size g3
  have HR1 := Lib.hid hr1
  have HO1 := Lib.hid g1
  have HS1 := Lib.hid hs1
  have HN1 := Lib.hid hn1
  have HI1 := Lib.hid g4
  have HSM := Lib.hid g5
  clear e0 e1 e2 e3 e4 e5 e6 e7 e8 e9 ef0 ef1 ef2 ef3 ef4 ef5 ef6 ef7 ef8 ef9 y0 y1 y2 y3 j2 j3 j4 j5 hs1 hn1 g1 g2 g3 g4 g5 HC1
  obtain ⟨u0, u1, u2, u3, u4, u5, u6, u7, u8, u9, uz⟩ := (hr1).cells
  simp only [PF0] at u1 u2 u3 u4 u5 u6 u7 u8 u9
  have uf0 := uz 0
  have uf1 := uz 1
  have uf2 := uz 2
  have uf3 := uz 3
  have uf4 := uz 4
  have uf5 := uz 5
  have uf6 := uz 6
  have uf7 := uz 7
  have uf8 := uz 8
  have uf9 := uz 9
  clear uz
  clear hr1
  go_wp2
  have nr : Value.ownBlock (.slice A1 q1.out.length c1) ≠ some W1.heap.size := Lib.ownBlock_ne (HO1.out) (HR1.out).blk (by decide)
  have kz := (HR1.out).put (.slice A1 q1.out.length c1) (pfOf c q1 l1)
  have oz := own_put (HO1.out) nr (.slice A1 q1.out.length c1) (pfOf c q1 l1)
  have bz := stay_put2 (HS1.out) (b := W1.heap.size) (by omega) (.slice A1 q1.out.length c1) (pfOf c q1 l1)
  simp only [pfOf] at kz oz bz
  generalize ((((((((((v1.setCell ⟨W1.heap.size, 0, none⟩ (.slice A1 q1.out.length c1)).setCell ⟨W1.heap.size, 1, none⟩ (.int .i64 q1.col)).setCell ⟨W1.heap.size, 2, none⟩ (.int .i64 q1.start)).setCell ⟨W1.heap.size, 3, none⟩ (.bool q1.op)).setCell ⟨W1.heap.size, 4, none⟩ (.int .i64 q1.owed)).setCell ⟨W1.heap.size, 5, none⟩ (.int .i64 q1.lines)).setCell ⟨W1.heap.size, 6, none⟩ (.bool l1)).setCell ⟨W1.heap.size, 7, none⟩ (.int .i64 c.width)).setCell ⟨W1.heap.size, 8, none⟩ (.int .i64 c.ribbon)).setCell ⟨W1.heap.size, 9, none⟩ (.int .i64 c.mode)) = WZ at kz oz bz ⊢
  obtain ⟨z0, z1, z2, z3, z4, z5, z6, z7, z8, z9, -⟩ := kz.cells
  simp only at z1 z2 z3 z4 z5 z6 z7 z8 z9
  refine bodyPost_ret (v := .agg #[(.slice A1 q1.out.length c1), (.int .i64 q1.col), (.int .i64 q1.start), (.bool q1.op), (.int .i64 q1.owed), (.int .i64 q1.lines), (.bool l1), (.int .i64 c.width), (.int .i64 c.ribbon), (.int .i64 c.mode)]) (by simp [results, Tryd.results57, go_sem, z0, z1, z2, z3, z4, z5, z6, z7, z8, z9]) rfl ?_
  exact ⟨_, q1, l1, rfl, oz, bz, HN1.out, HI1.out.mono (by omega), by rw [HLAY.out]; exact HSM.out⟩

set_option maxRecDepth 100000 in
set_option maxHeartbeats 16000000 in
theorem rlay_7 (B n₀ : Nat) (V : Value) (c : Cfg) (q : Pen) (base M : Int) (fresh : Bool) (d : Doc) (A : Option Addr) (cc : Nat) (w : World) (hk : d.kind = 7) 
    (h : w.ownsRow B 5 1 V q.out.length (Lib.byteCells q.out)) (hB : B ≤ w.heap.size) (hi : Inv M q) (hsay : ∀ x ∈ d.kids, RLaySays x ∧ x.form = true) (hfm : d.form = true) (hw : d.wt ≤ 4194304) (hfo : d.void = false → FOk c q (base + d.lead0) fresh) (hb0 : -M ≤ base) (hb1 : base ≤ M) (hM : M + 4000 * (d.wt : Int) - 2000 ≤ 1099511627776) (hn : n₀ ≤ B) (hK : KidsAt n₀ w d.kids A) :
    Calls Tryd.prog 57 #[.agg #[V, .int .i64 q.col, .int .i64 q.start, .bool q.op, .int .i64 q.owed, .int .i64 q.lines, .bool false, .int .i64 c.width, .int .i64 c.ribbon, .int .i64 c.mode], .agg #[.int .i64 d.kind, .string d.text, .int .i64 d.n, .slice A d.kids.length cc], .int .i64 base, .bool fresh] w (RLaid B w V c (M + 4000 * (d.wt : Int) - 2000) (d.lay c q base fresh)) := by
  have hwe := wt_eq d
  have hwp := wt_pos d
  have HFM := Lib.hid hfm
  have HFO := Lib.hid hfo
  clear hfm hfo
  obtain ⟨A0, c0, rfl⟩ := own_form h
  have hkl := kids_lt d
  have hdl := len_le_wts d.kids
  obtain ⟨hbx, hb0', hs0⟩ := rbox_new w (.slice A0 q.out.length c0) (pfOf c q false)
  simp only [pfOf] at hb0' hs0
  obtain ⟨W0, hW0⟩ : ∃ W, w.alloc (.cells #[(.slice A0 q.out.length c0), .int .i64 q.col, .int .i64 q.start, .bool q.op, .int .i64 q.owed, .int .i64 q.lines, .bool false, .int .i64 c.width, .int .i64 c.ribbon, .int .i64 c.mode] 73) = W := ⟨_, rfl⟩
  have hbx0 : RBox W0 w.heap.size (.slice A0 q.out.length c0) (pfOf c q false) := by rw [← hW0]; exact hbx
  rw [hW0] at hb0' hs0
  obtain ⟨hdx, hbd, hs1⟩ := dbox_new W0 d A cc
  obtain ⟨W1, hW1⟩ : ∃ W, W0.alloc (.cells #[.int .i64 d.kind, .string d.text, .int .i64 d.n, .slice A d.kids.length cc] 24) = W := ⟨_, rfl⟩
  rw [hW1] at hdx hbd hs1
  obtain ⟨hrx, hbr, hs2⟩ := rbox_new W1 (.slice none 0 0) PF0
  simp only [PF0] at hbr hs2
  obtain ⟨W, hW⟩ : ∃ W, W1.alloc (.cells #[.slice none 0 0, .int .i64 0, .int .i64 0, .bool false, .int .i64 0, .int .i64 0, .bool false, .int .i64 0, .int .i64 0, .int .i64 0] 73) = W := ⟨_, rfl⟩
  have hrx0 : RBox W W1.heap.size (.slice none 0 0) PF0 := by rw [← hW]; exact hrx
  rw [hW] at hbr hs2
  have hb2 := (hb0'.trans (hbd.mono (by omega))).trans (hbr.mono (by omega))
  have HS0 := Lib.hid (show RSt B w (.slice A0 q.out.length c0) c w.heap.size W0.heap.size W1.heap.size d A cc M W (.slice A0 q.out.length c0) q false from
    ⟨own_on h hb2, (hbx0.on hbd).on hbr, hrx0, hdx.on hbr, Stay.of_below hb2, .inl rfl, hi, Nat.le_refl _, by omega, by omega, by omega, hB⟩)
  have HVB := Lib.hid (show ∀ g, Value.ownBlock (.slice A0 q.out.length c0) = some g → B ≤ g from fun g hg => (h.lt g hg).1)
  have HSAY := Lib.hid hsay
  have HK := Lib.hid hK
  have hord : w.heap.size < W0.heap.size ∧ W0.heap.size < W1.heap.size ∧ W1.heap.size < W.heap.size := ⟨by omega, by omega, by omega⟩
  obtain ⟨ho1, ho2, ho3⟩ := hord
  clear h hi hsay hK hbx hbx0 hb0' hs0 hdx hbd hs1 hrx hrx0 hbr hs2 hb2
  have HLOW := Lib.hid (HS0.out.low HVB.out hn)
  have HKW := Lib.hid (kidsAt_below HK.out HLOW.out)
  obtain ⟨y0, y1, y2, y3, _, _, _, _⟩ := HS0.out.dbx.box
  have k1 : (d.kind == 1) = false := by rw [hk]; rfl
  have k2 : (d.kind == 2) = false := by rw [hk]; rfl
  have k3 : (d.kind == 3) = false := by rw [hk]; rfl
  have k4 : (d.kind == 4) = false := by rw [hk]; rfl
  have k7 : (d.kind == 7) = true := by rw [hk]; rfl
  have k8 : (d.kind == 8) = false := by rw [hk]; rfl
  have k9 : (d.kind == 9) = false := by rw [hk]; rfl
  have k10 : (d.kind == 10) = false := by rw [hk]; rfl
  have HKD := Lib.hid hk
  clear hk
  obtain ⟨e0, e1, e2, e3, e4, e5, e6, e7, e8, e9, ez⟩ := (HS0.out.pbx).cells
  simp only [pfOf] at e1 e2 e3 e4 e5 e6 e7 e8 e9
  have ef0 := ez 0
  have ef1 := ez 1
  have ef2 := ez 2
  have ef3 := ez 3
  have ef4 := ez 4
  have ef5 := ez 5
  have ef6 := ez 6
  have ef7 := ez 7
  have ef8 := ez 8
  have ef9 := ez 9
  clear ez
  have hsl := lead0_small HFM.out
  have HLAY := Lib.hid (show d.lay c q base fresh = match sepT c d.kind q d.flat d.void (base + d.lead0) fresh with
      | some s => put c q s (base + d.lead0) fresh
      | none => belows c (d.kind == 5) d.kids true q base fresh from lay_sep (by rw [HKD.out]; decide))
  have HFL := Lib.hid (rflat_any _ d A cc W (Nat.le_refl _) (by omega) (kidsAt_mono HKW.out (show n₀ ≤ W.heap.size by omega)))
  go_enter Tryd.func57, Tryd.ntmps57
  go_wp2_with fail
  clear hW hW1 hW0
  cases hfl : d.flat with
  | none =>
    have HFL1 := Lib.hid hfl
    clear hfl
    have hfc := HFL.out
    unfold FlatSaid at hfc
    rw [HFL1.out] at hfc
    simp only [flatV] at hfc
    refine hfc.mono ?_
    rintro e w2 ⟨rfl, hb2⟩
    have HST2 := Lib.hid (HS0.out.on hb2)
    have HKW2 := Lib.hid (kidsAt_below HKW.out (hb2.mono (by omega)))
    have hs2 := hb2.size
    clear hb2 HFL hfc e0 e1 e2 e3 e4 e5 e6 e7 e8 e9 ef0 ef1 ef2 ef3 ef4 ef5 ef6 ef7 ef8 ef9 y0 y1 y2 y3
    obtain ⟨y0, y1, y2, y3, _, _, _, _⟩ := HST2.out.dbx.box
    obtain ⟨e0, e1, e2, e3, e4, e5, e6, e7, e8, e9, ez⟩ := HST2.out.pbx.cells
    simp only [pfOf] at e1 e2 e3 e4 e5 e6 e7 e8 e9
    clear ez
    go_upto_region 19 with (fail)
    go_quiet (fail)
    obtain ⟨wq, hwq, hbq⟩ : ∃ wq, w2.drewN nq = wq ∧ Below w2.heap.size w2 wq := ⟨_, rfl, ⟨rfl, rfl, rfl, Nat.le_refl _, fun _ _ => rfl⟩⟩
    rw [hwq]
    clear hwq
    have HSTQ := Lib.hid (HST2.out.on hbq)
    have HKQ := Lib.hid (kidsAt_below HKW2.out (hbq.mono (by omega)))
    have hszq := hbq.size
    clear hbq y0 y1 y2 y3 e0 e1 e2 e3 e4 e5 e6 e7 e8 e9
    have HSEP := Lib.hid (show sepT c d.kind q d.flat d.void (base + d.lead0) fresh = none by rw [HFL1.out]; unfold sepT; split <;> rfl)
    obtain ⟨e0, e1, e2, e3, e4, e5, e6, e7, e8, e9, ez⟩ := (HSTQ.out.pbx).cells
    simp only [pfOf] at e1 e2 e3 e4 e5 e6 e7 e8 e9
    have ef0 := ez 0
    have ef1 := ez 1
    have ef2 := ez 2
    have ef3 := ez 3
    have ef4 := ez 4
    have ef5 := ez 5
    have ef6 := ez 6
    have ef7 := ez 7
    have ef8 := ez 8
    have ef9 := ez 9
    clear ez
    obtain ⟨y0, y1, y2, y3, _, _, _, _⟩ := HSTQ.out.dbx.box
    have HC1 := Lib.hid (rbelow_any d B n₀ (.slice A0 q.out.length c0) c q base M fresh A cc wq HSTQ.out.own HSTQ.out.ble HSTQ.out.inv HSAY.out (fok_kids HFM.out (by rw [HKD.out]; decide) (by rw [HKD.out]; decide) HFO.out) hb0 hb1 (by omega) (by omega) hn HKQ.out)
    go_wp2_with fail
    refine HC1.out.mono ?_
    rintro e v1 ⟨V1, q1, l1, rfl, g1, g2, g3, g4, g5⟩
    obtain ⟨A1, c1, rfl⟩ := own_form g1
    have hr1 := HSTQ.out.rbx.stay g2 (fun e => Lib.ownBlock_ne HSTQ.out.own HSTQ.out.rbx.blk (by decide) e.symm)
    have hs1 := stay_next HSTQ.out g2
    have hn1 := next_trans HSTQ.out.next HSTQ.out.stay.size g3
    have HR1 := Lib.hid hr1
    have HO1 := Lib.hid g1
    have HS1 := Lib.hid hs1
    have HN1 := Lib.hid hn1
    have HI1 := Lib.hid g4
    have HSM := Lib.hid g5
    clear e0 e1 e2 e3 e4 e5 e6 e7 e8 e9 ef0 ef1 ef2 ef3 ef4 ef5 ef6 ef7 ef8 ef9 y0 y1 y2 y3 hs1 hn1 g1 g2 g3 g4 g5 HC1
    obtain ⟨u0, u1, u2, u3, u4, u5, u6, u7, u8, u9, uz⟩ := (hr1).cells
    simp only [PF0] at u1 u2 u3 u4 u5 u6 u7 u8 u9
    have uf0 := uz 0
    have uf1 := uz 1
    have uf2 := uz 2
    have uf3 := uz 3
    have uf4 := uz 4
    have uf5 := uz 5
    have uf6 := uz 6
    have uf7 := uz 7
    have uf8 := uz 8
    have uf9 := uz 9
    clear uz
    clear hr1
    go_wp2
    have nr : Value.ownBlock (.slice A1 q1.out.length c1) ≠ some W1.heap.size := Lib.ownBlock_ne (HO1.out) (HR1.out).blk (by decide)
    have kz := (HR1.out).put (.slice A1 q1.out.length c1) (pfOf c q1 l1)
    have oz := own_put (HO1.out) nr (.slice A1 q1.out.length c1) (pfOf c q1 l1)
    have bz := stay_put2 (HS1.out) (b := W1.heap.size) (by omega) (.slice A1 q1.out.length c1) (pfOf c q1 l1)
    simp only [pfOf] at kz oz bz
    generalize ((((((((((v1.setCell ⟨W1.heap.size, 0, none⟩ (.slice A1 q1.out.length c1)).setCell ⟨W1.heap.size, 1, none⟩ (.int .i64 q1.col)).setCell ⟨W1.heap.size, 2, none⟩ (.int .i64 q1.start)).setCell ⟨W1.heap.size, 3, none⟩ (.bool q1.op)).setCell ⟨W1.heap.size, 4, none⟩ (.int .i64 q1.owed)).setCell ⟨W1.heap.size, 5, none⟩ (.int .i64 q1.lines)).setCell ⟨W1.heap.size, 6, none⟩ (.bool l1)).setCell ⟨W1.heap.size, 7, none⟩ (.int .i64 c.width)).setCell ⟨W1.heap.size, 8, none⟩ (.int .i64 c.ribbon)).setCell ⟨W1.heap.size, 9, none⟩ (.int .i64 c.mode)) = WZ at kz oz bz ⊢
    obtain ⟨z0, z1, z2, z3, z4, z5, z6, z7, z8, z9, -⟩ := kz.cells
    simp only at z1 z2 z3 z4 z5 z6 z7 z8 z9
    refine bodyPost_ret (v := .agg #[(.slice A1 q1.out.length c1), (.int .i64 q1.col), (.int .i64 q1.start), (.bool q1.op), (.int .i64 q1.owed), (.int .i64 q1.lines), (.bool l1), (.int .i64 c.width), (.int .i64 c.ribbon), (.int .i64 c.mode)]) (by simp [results, Tryd.results57, go_sem, z0, z1, z2, z3, z4, z5, z6, z7, z8, z9]) rfl ?_
    exact ⟨_, q1, l1, rfl, oz, bz, HN1.out, HI1.out.mono (by omega), by rw [HLAY.out, HSEP.out]; exact HSM.out⟩
  | some s =>
    have hsz := flat_size hfl
    have HFL1 := Lib.hid hfl
    clear hfl
    have hfc := HFL.out
    unfold FlatSaid at hfc
    rw [HFL1.out] at hfc
    simp only [flatV] at hfc
    refine hfc.mono ?_
    rintro e w2 ⟨rfl, hb2⟩
    have HST2 := Lib.hid (HS0.out.on hb2)
    have HKW2 := Lib.hid (kidsAt_below HKW.out (hb2.mono (by omega)))
    have hs2 := hb2.size
    clear hb2 HFL hfc e0 e1 e2 e3 e4 e5 e6 e7 e8 e9 ef0 ef1 ef2 ef3 ef4 ef5 ef6 ef7 ef8 ef9 y0 y1 y2 y3
    obtain ⟨y0, y1, y2, y3, _, _, _, _⟩ := HST2.out.dbx.box
    obtain ⟨e0, e1, e2, e3, e4, e5, e6, e7, e8, e9, ez⟩ := HST2.out.pbx.cells
    simp only [pfOf] at e1 e2 e3 e4 e5 e6 e7 e8 e9
    clear ez
    go_upto_region 19 with (fail)
    cases hvd : d.void with
    | true =>
      have HVD := Lib.hid hvd
      clear hvd
      have HKM2 := Lib.hid (kidsAt_mono HKW2.out (show n₀ ≤ w2.heap.size by omega))
      refine wp_region_below (by kernel_rfl) (by kernel_rfl) fun X _ f hX hS => ?_
      have x0 : ∀ x, (f x).cell? ⟨w.heap.size, 0, none⟩ = some (.slice A0 q.out.length c0) := fun x => ((hX x).cell (p := ⟨w.heap.size, 0, none⟩) (by dsimp only; omega)).trans e0
      have x1 : ∀ x, (f x).cell? ⟨w.heap.size, 1, none⟩ = some (.int .i64 q.col) := fun x => ((hX x).cell (p := ⟨w.heap.size, 1, none⟩) (by dsimp only; omega)).trans e1
      have x2 : ∀ x, (f x).cell? ⟨w.heap.size, 2, none⟩ = some (.int .i64 q.start) := fun x => ((hX x).cell (p := ⟨w.heap.size, 2, none⟩) (by dsimp only; omega)).trans e2
      have x3 : ∀ x, (f x).cell? ⟨w.heap.size, 3, none⟩ = some (.bool q.op) := fun x => ((hX x).cell (p := ⟨w.heap.size, 3, none⟩) (by dsimp only; omega)).trans e3
      have x4 : ∀ x, (f x).cell? ⟨w.heap.size, 4, none⟩ = some (.int .i64 q.owed) := fun x => ((hX x).cell (p := ⟨w.heap.size, 4, none⟩) (by dsimp only; omega)).trans e4
      have x5 : ∀ x, (f x).cell? ⟨w.heap.size, 5, none⟩ = some (.int .i64 q.lines) := fun x => ((hX x).cell (p := ⟨w.heap.size, 5, none⟩) (by dsimp only; omega)).trans e5
      have x6 : ∀ x, (f x).cell? ⟨w.heap.size, 6, none⟩ = some (.bool false) := fun x => ((hX x).cell (p := ⟨w.heap.size, 6, none⟩) (by dsimp only; omega)).trans e6
      have x7 : ∀ x, (f x).cell? ⟨w.heap.size, 7, none⟩ = some (.int .i64 c.width) := fun x => ((hX x).cell (p := ⟨w.heap.size, 7, none⟩) (by dsimp only; omega)).trans e7
      have x8 : ∀ x, (f x).cell? ⟨w.heap.size, 8, none⟩ = some (.int .i64 c.ribbon) := fun x => ((hX x).cell (p := ⟨w.heap.size, 8, none⟩) (by dsimp only; omega)).trans e8
      have x9 : ∀ x, (f x).cell? ⟨w.heap.size, 9, none⟩ = some (.int .i64 c.mode) := fun x => ((hX x).cell (p := ⟨w.heap.size, 9, none⟩) (by dsimp only; omega)).trans e9
      have xd0 : ∀ x, (f x).cell? ⟨W0.heap.size, 0, none⟩ = some (.int .i64 d.kind) := fun x => ((hX x).cell (p := ⟨W0.heap.size, 0, none⟩) (by dsimp only; omega)).trans y0
      have xd1 : ∀ x, (f x).cell? ⟨W0.heap.size, 1, none⟩ = some (.string d.text) := fun x => ((hX x).cell (p := ⟨W0.heap.size, 1, none⟩) (by dsimp only; omega)).trans y1
      have xd2 : ∀ x, (f x).cell? ⟨W0.heap.size, 2, none⟩ = some (.int .i64 d.n) := fun x => ((hX x).cell (p := ⟨W0.heap.size, 2, none⟩) (by dsimp only; omega)).trans y2
      have xd3 : ∀ x, (f x).cell? ⟨W0.heap.size, 3, none⟩ = some (.slice A d.kids.length cc) := fun x => ((hX x).cell (p := ⟨W0.heap.size, 3, none⟩) (by dsimp only; omega)).trans y3
      clear y0 y1 y2 y3 e0 e1 e2 e3 e4 e5 e6 e7 e8 e9
      have HXX := Lib.hid hX
      have HSS := Lib.hid hS
      clear hX hS
      repeat (go_big_quiet_step (first | (go_at_call 22; refine Calls.below_of (v := .bool true) (HXX.out _) HSS.out ((rvoid_any _ d A cc _ (Nat.le_refl _) (by omega) (kidsAt_on HKM2.out (HXX.out _))).mono ?_); rintro e w3 ⟨rfl, hb3⟩; exact ⟨by rw [HVD.out], hb3⟩)))
      refine wpQuiet_nil ?_
      rintro _ ⟨x, rfl⟩
      have hbq := HXX.out x
      clear x0 x1 x2 x3 x4 x5 x6 x7 x8 x9 xd0 xd1 xd2 xd3 HXX HSS
      generalize f x = wq at hbq ⊢
      have HSTQ := Lib.hid (HST2.out.on hbq)
      have HKQ := Lib.hid (kidsAt_below HKW2.out (hbq.mono (by omega)))
      have hszq := hbq.size
      clear hbq
      have HSEP := Lib.hid (show sepT c d.kind q d.flat d.void (base + d.lead0) fresh = none by rw [HFL1.out, HVD.out]; unfold sepT; simp)
      obtain ⟨e0, e1, e2, e3, e4, e5, e6, e7, e8, e9, ez⟩ := (HSTQ.out.pbx).cells
      simp only [pfOf] at e1 e2 e3 e4 e5 e6 e7 e8 e9
      have ef0 := ez 0
      have ef1 := ez 1
      have ef2 := ez 2
      have ef3 := ez 3
      have ef4 := ez 4
      have ef5 := ez 5
      have ef6 := ez 6
      have ef7 := ez 7
      have ef8 := ez 8
      have ef9 := ez 9
      clear ez
      obtain ⟨y0, y1, y2, y3, _, _, _, _⟩ := HSTQ.out.dbx.box
      have HC1 := Lib.hid (rbelow_any d B n₀ (.slice A0 q.out.length c0) c q base M fresh A cc wq HSTQ.out.own HSTQ.out.ble HSTQ.out.inv HSAY.out (fok_kids HFM.out (by rw [HKD.out]; decide) (by rw [HKD.out]; decide) HFO.out) hb0 hb1 (by omega) (by omega) hn HKQ.out)
      go_wp2_with fail
      refine HC1.out.mono ?_
      rintro e v1 ⟨V1, q1, l1, rfl, g1, g2, g3, g4, g5⟩
      obtain ⟨A1, c1, rfl⟩ := own_form g1
      have hr1 := HSTQ.out.rbx.stay g2 (fun e => Lib.ownBlock_ne HSTQ.out.own HSTQ.out.rbx.blk (by decide) e.symm)
      have hs1 := stay_next HSTQ.out g2
      have hn1 := next_trans HSTQ.out.next HSTQ.out.stay.size g3
      have HR1 := Lib.hid hr1
      have HO1 := Lib.hid g1
      have HS1 := Lib.hid hs1
      have HN1 := Lib.hid hn1
      have HI1 := Lib.hid g4
      have HSM := Lib.hid g5
      clear e0 e1 e2 e3 e4 e5 e6 e7 e8 e9 ef0 ef1 ef2 ef3 ef4 ef5 ef6 ef7 ef8 ef9 y0 y1 y2 y3 hs1 hn1 g1 g2 g3 g4 g5 HC1
      obtain ⟨u0, u1, u2, u3, u4, u5, u6, u7, u8, u9, uz⟩ := (hr1).cells
      simp only [PF0] at u1 u2 u3 u4 u5 u6 u7 u8 u9
      have uf0 := uz 0
      have uf1 := uz 1
      have uf2 := uz 2
      have uf3 := uz 3
      have uf4 := uz 4
      have uf5 := uz 5
      have uf6 := uz 6
      have uf7 := uz 7
      have uf8 := uz 8
      have uf9 := uz 9
      clear uz
      clear hr1
      go_wp2
      have nr : Value.ownBlock (.slice A1 q1.out.length c1) ≠ some W1.heap.size := Lib.ownBlock_ne (HO1.out) (HR1.out).blk (by decide)
      have kz := (HR1.out).put (.slice A1 q1.out.length c1) (pfOf c q1 l1)
      have oz := own_put (HO1.out) nr (.slice A1 q1.out.length c1) (pfOf c q1 l1)
      have bz := stay_put2 (HS1.out) (b := W1.heap.size) (by omega) (.slice A1 q1.out.length c1) (pfOf c q1 l1)
      simp only [pfOf] at kz oz bz
      generalize ((((((((((v1.setCell ⟨W1.heap.size, 0, none⟩ (.slice A1 q1.out.length c1)).setCell ⟨W1.heap.size, 1, none⟩ (.int .i64 q1.col)).setCell ⟨W1.heap.size, 2, none⟩ (.int .i64 q1.start)).setCell ⟨W1.heap.size, 3, none⟩ (.bool q1.op)).setCell ⟨W1.heap.size, 4, none⟩ (.int .i64 q1.owed)).setCell ⟨W1.heap.size, 5, none⟩ (.int .i64 q1.lines)).setCell ⟨W1.heap.size, 6, none⟩ (.bool l1)).setCell ⟨W1.heap.size, 7, none⟩ (.int .i64 c.width)).setCell ⟨W1.heap.size, 8, none⟩ (.int .i64 c.ribbon)).setCell ⟨W1.heap.size, 9, none⟩ (.int .i64 c.mode)) = WZ at kz oz bz ⊢
      obtain ⟨z0, z1, z2, z3, z4, z5, z6, z7, z8, z9, -⟩ := kz.cells
      simp only at z1 z2 z3 z4 z5 z6 z7 z8 z9
      refine bodyPost_ret (v := .agg #[(.slice A1 q1.out.length c1), (.int .i64 q1.col), (.int .i64 q1.start), (.bool q1.op), (.int .i64 q1.owed), (.int .i64 q1.lines), (.bool l1), (.int .i64 c.width), (.int .i64 c.ribbon), (.int .i64 c.mode)]) (by simp [results, Tryd.results57, go_sem, z0, z1, z2, z3, z4, z5, z6, z7, z8, z9]) rfl ?_
      exact ⟨_, q1, l1, rfl, oz, bz, HN1.out, HI1.out.mono (by omega), by rw [HLAY.out, HSEP.out]; exact HSM.out⟩
    | false =>
      have HVD := Lib.hid hvd
      clear hvd
      have hwrap : IntKind.i64.wrap (base + d.lead0) = base + d.lead0 := IntWalk.i64_in _ (by omega)
      cases hfit : fitsB c q s (base + d.lead0) fresh with
      | true =>
        have HFIT := Lib.hid hfit
        clear hfit
        have HKM2 := Lib.hid (kidsAt_mono HKW2.out (show n₀ ≤ w2.heap.size by omega))
        refine wp_region_below (by kernel_rfl) (by kernel_rfl) fun X _ f hX hS => ?_
        have x0 : ∀ x, (f x).cell? ⟨w.heap.size, 0, none⟩ = some (.slice A0 q.out.length c0) := fun x => ((hX x).cell (p := ⟨w.heap.size, 0, none⟩) (by dsimp only; omega)).trans e0
        have x1 : ∀ x, (f x).cell? ⟨w.heap.size, 1, none⟩ = some (.int .i64 q.col) := fun x => ((hX x).cell (p := ⟨w.heap.size, 1, none⟩) (by dsimp only; omega)).trans e1
        have x2 : ∀ x, (f x).cell? ⟨w.heap.size, 2, none⟩ = some (.int .i64 q.start) := fun x => ((hX x).cell (p := ⟨w.heap.size, 2, none⟩) (by dsimp only; omega)).trans e2
        have x3 : ∀ x, (f x).cell? ⟨w.heap.size, 3, none⟩ = some (.bool q.op) := fun x => ((hX x).cell (p := ⟨w.heap.size, 3, none⟩) (by dsimp only; omega)).trans e3
        have x4 : ∀ x, (f x).cell? ⟨w.heap.size, 4, none⟩ = some (.int .i64 q.owed) := fun x => ((hX x).cell (p := ⟨w.heap.size, 4, none⟩) (by dsimp only; omega)).trans e4
        have x5 : ∀ x, (f x).cell? ⟨w.heap.size, 5, none⟩ = some (.int .i64 q.lines) := fun x => ((hX x).cell (p := ⟨w.heap.size, 5, none⟩) (by dsimp only; omega)).trans e5
        have x6 : ∀ x, (f x).cell? ⟨w.heap.size, 6, none⟩ = some (.bool false) := fun x => ((hX x).cell (p := ⟨w.heap.size, 6, none⟩) (by dsimp only; omega)).trans e6
        have x7 : ∀ x, (f x).cell? ⟨w.heap.size, 7, none⟩ = some (.int .i64 c.width) := fun x => ((hX x).cell (p := ⟨w.heap.size, 7, none⟩) (by dsimp only; omega)).trans e7
        have x8 : ∀ x, (f x).cell? ⟨w.heap.size, 8, none⟩ = some (.int .i64 c.ribbon) := fun x => ((hX x).cell (p := ⟨w.heap.size, 8, none⟩) (by dsimp only; omega)).trans e8
        have x9 : ∀ x, (f x).cell? ⟨w.heap.size, 9, none⟩ = some (.int .i64 c.mode) := fun x => ((hX x).cell (p := ⟨w.heap.size, 9, none⟩) (by dsimp only; omega)).trans e9
        have xd0 : ∀ x, (f x).cell? ⟨W0.heap.size, 0, none⟩ = some (.int .i64 d.kind) := fun x => ((hX x).cell (p := ⟨W0.heap.size, 0, none⟩) (by dsimp only; omega)).trans y0
        have xd1 : ∀ x, (f x).cell? ⟨W0.heap.size, 1, none⟩ = some (.string d.text) := fun x => ((hX x).cell (p := ⟨W0.heap.size, 1, none⟩) (by dsimp only; omega)).trans y1
        have xd2 : ∀ x, (f x).cell? ⟨W0.heap.size, 2, none⟩ = some (.int .i64 d.n) := fun x => ((hX x).cell (p := ⟨W0.heap.size, 2, none⟩) (by dsimp only; omega)).trans y2
        have xd3 : ∀ x, (f x).cell? ⟨W0.heap.size, 3, none⟩ = some (.slice A d.kids.length cc) := fun x => ((hX x).cell (p := ⟨W0.heap.size, 3, none⟩) (by dsimp only; omega)).trans y3
        clear y0 y1 y2 y3 e0 e1 e2 e3 e4 e5 e6 e7 e8 e9
        have HXX := Lib.hid hX
        have HSS := Lib.hid hS
        clear hX hS
        repeat (go_big_quiet_step (first | (go_at_call 78; refine Calls.below_of (v := .bool true) (HXX.out _) HSS.out ((rfits_any (.slice A0 q.out.length c0) c q false s (base + d.lead0) (M + 1000 * (d.wt : Int)) fresh _ (HST2.out.inv.mono (by omega)) (by omega) (by omega) (by omega)).mono ?_); rintro e w3 ⟨rfl, hb3⟩; exact ⟨by rw [HFIT.out], hb3⟩) | (go_at_call 24; exact Calls.below_of (HXX.out _) HSS.out (rlead0_any d A cc _ HFM.out (by omega) (kidsAt_on HKM2.out (HXX.out _)))) | (go_at_call 22; refine Calls.below_of (v := .bool false) (HXX.out _) HSS.out ((rvoid_any _ d A cc _ (Nat.le_refl _) (by omega) (kidsAt_on HKM2.out (HXX.out _))).mono ?_); rintro e w3 ⟨rfl, hb3⟩; exact ⟨by rw [HVD.out], hb3⟩)))
        refine wpQuiet_nil ?_
        rintro _ ⟨x, rfl⟩
        have hbq := HXX.out x
        clear x0 x1 x2 x3 x4 x5 x6 x7 x8 x9 xd0 xd1 xd2 xd3 HXX HSS
        generalize f x = wq at hbq ⊢
        have HSTQ := Lib.hid (HST2.out.on hbq)
        have HKQ := Lib.hid (kidsAt_below HKW2.out (hbq.mono (by omega)))
        have hszq := hbq.size
        clear hbq
        have HSEP := Lib.hid (show sepT c d.kind q d.flat d.void (base + d.lead0) fresh = some s by rw [HFL1.out, HVD.out, HKD.out]; unfold sepT; simp [HFIT.out])
        go_upto_region 20 with (fail)
        obtain ⟨b0, b1, b2, b3, _, _, _, _⟩ := (HSTQ.out.dbx).box
        obtain ⟨a0, a1, a2, a3, a4, a5, a6, a7, a8, a9, -⟩ := HSTQ.out.pbx.cells
        simp only [pfOf] at a1 a2 a3 a4 a5 a6 a7 a8 a9
        have HKMQ := Lib.hid (kidsAt_mono HKQ.out (show n₀ ≤ wq.heap.size by omega))
        have HFV := Lib.hid (HFO.out HVD.out)
        go_region_with (first | (go_at_call 75; refine (rput_any B (.slice A0 q.out.length c0) c q false s (base + d.lead0) (M + 1000 * (d.wt : Int)) fresh _ ST6.out.own ST6.out.ble (ST6.out.inv.mono (by omega)) HFV.out (by omega) (by omega) (by omega)).mono ?_; rintro e v1 ⟨V1, q1, l1, rfl, g1, g2, g3, g4, g5⟩; obtain ⟨A1, c1, rfl⟩ := own_form g1; have hr1 := ST6.out.rbx.stay g2 (fun e => Lib.ownBlock_ne ST6.out.own ST6.out.rbx.blk (by decide) e.symm); have HR1 := Lib.hid hr1; have HO1 := Lib.hid g1; have HS1 := Lib.hid (stay_next ST6.out g2); have HN1 := Lib.hid (next_trans ST6.out.next ST6.out.stay.size g3); have HI1 := Lib.hid g4; have HSM := Lib.hid g5; clear g1 g2 g3 g4 g5; obtain ⟨u0, u1, u2, u3, u4, u5, u6, u7, u8, u9, uz⟩ := hr1.cells; simp only [PF0] at u1 u2 u3 u4 u5 u6 u7 u8 u9; have uf0 := uz 0; have uf1 := uz 1; have uf2 := uz 2; have uf3 := uz 3; have uf4 := uz 4; have uf5 := uz 5; have uf6 := uz 6; have uf7 := uz 7; have uf8 := uz 8; have uf9 := uz 9; clear uz) | (go_at_call 24; refine (rlead0_any d A cc _ HFM.out (by omega) (kidsAt_on HKMQ.out (Below.refl _ _).drew)).mono ?_; rintro e w6 ⟨rfl, hb6⟩; have ST6 := Lib.hid (HSTQ.out.on (bl_call2 (Below.refl _ _).drew hb6)); clear hb6; obtain ⟨r0, r1, r2, r3, r4, r5, r6, r7, r8, r9, -⟩ := ST6.out.pbx.cells; simp only [pfOf] at r1 r2 r3 r4 r5 r6 r7 r8 r9))
        all_goals
          go_wp2
          have nr : Value.ownBlock (.slice A1 q1.out.length c1) ≠ some W1.heap.size := Lib.ownBlock_ne (HO1.out) (HR1.out).blk (by decide)
          have kz := (HR1.out).put (.slice A1 q1.out.length c1) (pfOf c q1 l1)
          have oz := own_put (HO1.out) nr (.slice A1 q1.out.length c1) (pfOf c q1 l1)
          have bz := stay_put2 (HS1.out) (b := W1.heap.size) (by omega) (.slice A1 q1.out.length c1) (pfOf c q1 l1)
          simp only [pfOf] at kz oz bz
          generalize ((((((((((v1.setCell ⟨W1.heap.size, 0, none⟩ (.slice A1 q1.out.length c1)).setCell ⟨W1.heap.size, 1, none⟩ (.int .i64 q1.col)).setCell ⟨W1.heap.size, 2, none⟩ (.int .i64 q1.start)).setCell ⟨W1.heap.size, 3, none⟩ (.bool q1.op)).setCell ⟨W1.heap.size, 4, none⟩ (.int .i64 q1.owed)).setCell ⟨W1.heap.size, 5, none⟩ (.int .i64 q1.lines)).setCell ⟨W1.heap.size, 6, none⟩ (.bool l1)).setCell ⟨W1.heap.size, 7, none⟩ (.int .i64 c.width)).setCell ⟨W1.heap.size, 8, none⟩ (.int .i64 c.ribbon)).setCell ⟨W1.heap.size, 9, none⟩ (.int .i64 c.mode)) = WZ at kz oz bz ⊢
          obtain ⟨z0, z1, z2, z3, z4, z5, z6, z7, z8, z9, -⟩ := kz.cells
          simp only at z1 z2 z3 z4 z5 z6 z7 z8 z9
          refine bodyPost_ret (v := .agg #[(.slice A1 q1.out.length c1), (.int .i64 q1.col), (.int .i64 q1.start), (.bool q1.op), (.int .i64 q1.owed), (.int .i64 q1.lines), (.bool l1), (.int .i64 c.width), (.int .i64 c.ribbon), (.int .i64 c.mode)]) (by simp [results, Tryd.results57, go_sem, z0, z1, z2, z3, z4, z5, z6, z7, z8, z9]) rfl ?_
          exact ⟨_, q1, l1, rfl, oz, bz, HN1.out, HI1.out.mono (by omega), by rw [HLAY.out, HSEP.out]; exact HSM.out⟩
      | false =>
        have HFIT := Lib.hid hfit
        clear hfit
        have HKM2 := Lib.hid (kidsAt_mono HKW2.out (show n₀ ≤ w2.heap.size by omega))
        refine wp_region_below (by kernel_rfl) (by kernel_rfl) fun X _ f hX hS => ?_
        have x0 : ∀ x, (f x).cell? ⟨w.heap.size, 0, none⟩ = some (.slice A0 q.out.length c0) := fun x => ((hX x).cell (p := ⟨w.heap.size, 0, none⟩) (by dsimp only; omega)).trans e0
        have x1 : ∀ x, (f x).cell? ⟨w.heap.size, 1, none⟩ = some (.int .i64 q.col) := fun x => ((hX x).cell (p := ⟨w.heap.size, 1, none⟩) (by dsimp only; omega)).trans e1
        have x2 : ∀ x, (f x).cell? ⟨w.heap.size, 2, none⟩ = some (.int .i64 q.start) := fun x => ((hX x).cell (p := ⟨w.heap.size, 2, none⟩) (by dsimp only; omega)).trans e2
        have x3 : ∀ x, (f x).cell? ⟨w.heap.size, 3, none⟩ = some (.bool q.op) := fun x => ((hX x).cell (p := ⟨w.heap.size, 3, none⟩) (by dsimp only; omega)).trans e3
        have x4 : ∀ x, (f x).cell? ⟨w.heap.size, 4, none⟩ = some (.int .i64 q.owed) := fun x => ((hX x).cell (p := ⟨w.heap.size, 4, none⟩) (by dsimp only; omega)).trans e4
        have x5 : ∀ x, (f x).cell? ⟨w.heap.size, 5, none⟩ = some (.int .i64 q.lines) := fun x => ((hX x).cell (p := ⟨w.heap.size, 5, none⟩) (by dsimp only; omega)).trans e5
        have x6 : ∀ x, (f x).cell? ⟨w.heap.size, 6, none⟩ = some (.bool false) := fun x => ((hX x).cell (p := ⟨w.heap.size, 6, none⟩) (by dsimp only; omega)).trans e6
        have x7 : ∀ x, (f x).cell? ⟨w.heap.size, 7, none⟩ = some (.int .i64 c.width) := fun x => ((hX x).cell (p := ⟨w.heap.size, 7, none⟩) (by dsimp only; omega)).trans e7
        have x8 : ∀ x, (f x).cell? ⟨w.heap.size, 8, none⟩ = some (.int .i64 c.ribbon) := fun x => ((hX x).cell (p := ⟨w.heap.size, 8, none⟩) (by dsimp only; omega)).trans e8
        have x9 : ∀ x, (f x).cell? ⟨w.heap.size, 9, none⟩ = some (.int .i64 c.mode) := fun x => ((hX x).cell (p := ⟨w.heap.size, 9, none⟩) (by dsimp only; omega)).trans e9
        have xd0 : ∀ x, (f x).cell? ⟨W0.heap.size, 0, none⟩ = some (.int .i64 d.kind) := fun x => ((hX x).cell (p := ⟨W0.heap.size, 0, none⟩) (by dsimp only; omega)).trans y0
        have xd1 : ∀ x, (f x).cell? ⟨W0.heap.size, 1, none⟩ = some (.string d.text) := fun x => ((hX x).cell (p := ⟨W0.heap.size, 1, none⟩) (by dsimp only; omega)).trans y1
        have xd2 : ∀ x, (f x).cell? ⟨W0.heap.size, 2, none⟩ = some (.int .i64 d.n) := fun x => ((hX x).cell (p := ⟨W0.heap.size, 2, none⟩) (by dsimp only; omega)).trans y2
        have xd3 : ∀ x, (f x).cell? ⟨W0.heap.size, 3, none⟩ = some (.slice A d.kids.length cc) := fun x => ((hX x).cell (p := ⟨W0.heap.size, 3, none⟩) (by dsimp only; omega)).trans y3
        clear y0 y1 y2 y3 e0 e1 e2 e3 e4 e5 e6 e7 e8 e9
        have HXX := Lib.hid hX
        have HSS := Lib.hid hS
        clear hX hS
        repeat (go_big_quiet_step (first | (go_at_call 78; refine Calls.below_of (v := .bool false) (HXX.out _) HSS.out ((rfits_any (.slice A0 q.out.length c0) c q false s (base + d.lead0) (M + 1000 * (d.wt : Int)) fresh _ (HST2.out.inv.mono (by omega)) (by omega) (by omega) (by omega)).mono ?_); rintro e w3 ⟨rfl, hb3⟩; exact ⟨by rw [HFIT.out], hb3⟩) | (go_at_call 24; exact Calls.below_of (HXX.out _) HSS.out (rlead0_any d A cc _ HFM.out (by omega) (kidsAt_on HKM2.out (HXX.out _)))) | (go_at_call 22; refine Calls.below_of (v := .bool false) (HXX.out _) HSS.out ((rvoid_any _ d A cc _ (Nat.le_refl _) (by omega) (kidsAt_on HKM2.out (HXX.out _))).mono ?_); rintro e w3 ⟨rfl, hb3⟩; exact ⟨by rw [HVD.out], hb3⟩)))
        refine wpQuiet_nil ?_
        rintro _ ⟨x, rfl⟩
        have hbq := HXX.out x
        clear x0 x1 x2 x3 x4 x5 x6 x7 x8 x9 xd0 xd1 xd2 xd3 HXX HSS
        generalize f x = wq at hbq ⊢
        have HSTQ := Lib.hid (HST2.out.on hbq)
        have HKQ := Lib.hid (kidsAt_below HKW2.out (hbq.mono (by omega)))
        have hszq := hbq.size
        clear hbq
        have HSEP := Lib.hid (show sepT c d.kind q d.flat d.void (base + d.lead0) fresh = none by rw [HFL1.out, HVD.out, HKD.out]; unfold sepT; simp [HFIT.out])
        obtain ⟨e0, e1, e2, e3, e4, e5, e6, e7, e8, e9, ez⟩ := (HSTQ.out.pbx).cells
        simp only [pfOf] at e1 e2 e3 e4 e5 e6 e7 e8 e9
        have ef0 := ez 0
        have ef1 := ez 1
        have ef2 := ez 2
        have ef3 := ez 3
        have ef4 := ez 4
        have ef5 := ez 5
        have ef6 := ez 6
        have ef7 := ez 7
        have ef8 := ez 8
        have ef9 := ez 9
        clear ez
        obtain ⟨y0, y1, y2, y3, _, _, _, _⟩ := HSTQ.out.dbx.box
        have HC1 := Lib.hid (rbelow_any d B n₀ (.slice A0 q.out.length c0) c q base M fresh A cc wq HSTQ.out.own HSTQ.out.ble HSTQ.out.inv HSAY.out (fok_kids HFM.out (by rw [HKD.out]; decide) (by rw [HKD.out]; decide) HFO.out) hb0 hb1 (by omega) (by omega) hn HKQ.out)
        go_wp2_with fail
        refine HC1.out.mono ?_
        rintro e v1 ⟨V1, q1, l1, rfl, g1, g2, g3, g4, g5⟩
        obtain ⟨A1, c1, rfl⟩ := own_form g1
        have hr1 := HSTQ.out.rbx.stay g2 (fun e => Lib.ownBlock_ne HSTQ.out.own HSTQ.out.rbx.blk (by decide) e.symm)
        have hs1 := stay_next HSTQ.out g2
        have hn1 := next_trans HSTQ.out.next HSTQ.out.stay.size g3
        have HR1 := Lib.hid hr1
        have HO1 := Lib.hid g1
        have HS1 := Lib.hid hs1
        have HN1 := Lib.hid hn1
        have HI1 := Lib.hid g4
        have HSM := Lib.hid g5
        clear e0 e1 e2 e3 e4 e5 e6 e7 e8 e9 ef0 ef1 ef2 ef3 ef4 ef5 ef6 ef7 ef8 ef9 y0 y1 y2 y3 hs1 hn1 g1 g2 g3 g4 g5 HC1
        obtain ⟨u0, u1, u2, u3, u4, u5, u6, u7, u8, u9, uz⟩ := (hr1).cells
        simp only [PF0] at u1 u2 u3 u4 u5 u6 u7 u8 u9
        have uf0 := uz 0
        have uf1 := uz 1
        have uf2 := uz 2
        have uf3 := uz 3
        have uf4 := uz 4
        have uf5 := uz 5
        have uf6 := uz 6
        have uf7 := uz 7
        have uf8 := uz 8
        have uf9 := uz 9
        clear uz
        clear hr1
        go_wp2
        have nr : Value.ownBlock (.slice A1 q1.out.length c1) ≠ some W1.heap.size := Lib.ownBlock_ne (HO1.out) (HR1.out).blk (by decide)
        have kz := (HR1.out).put (.slice A1 q1.out.length c1) (pfOf c q1 l1)
        have oz := own_put (HO1.out) nr (.slice A1 q1.out.length c1) (pfOf c q1 l1)
        have bz := stay_put2 (HS1.out) (b := W1.heap.size) (by omega) (.slice A1 q1.out.length c1) (pfOf c q1 l1)
        simp only [pfOf] at kz oz bz
        generalize ((((((((((v1.setCell ⟨W1.heap.size, 0, none⟩ (.slice A1 q1.out.length c1)).setCell ⟨W1.heap.size, 1, none⟩ (.int .i64 q1.col)).setCell ⟨W1.heap.size, 2, none⟩ (.int .i64 q1.start)).setCell ⟨W1.heap.size, 3, none⟩ (.bool q1.op)).setCell ⟨W1.heap.size, 4, none⟩ (.int .i64 q1.owed)).setCell ⟨W1.heap.size, 5, none⟩ (.int .i64 q1.lines)).setCell ⟨W1.heap.size, 6, none⟩ (.bool l1)).setCell ⟨W1.heap.size, 7, none⟩ (.int .i64 c.width)).setCell ⟨W1.heap.size, 8, none⟩ (.int .i64 c.ribbon)).setCell ⟨W1.heap.size, 9, none⟩ (.int .i64 c.mode)) = WZ at kz oz bz ⊢
        obtain ⟨z0, z1, z2, z3, z4, z5, z6, z7, z8, z9, -⟩ := kz.cells
        simp only at z1 z2 z3 z4 z5 z6 z7 z8 z9
        refine bodyPost_ret (v := .agg #[(.slice A1 q1.out.length c1), (.int .i64 q1.col), (.int .i64 q1.start), (.bool q1.op), (.int .i64 q1.owed), (.int .i64 q1.lines), (.bool l1), (.int .i64 c.width), (.int .i64 c.ribbon), (.int .i64 c.mode)]) (by simp [results, Tryd.results57, go_sem, z0, z1, z2, z3, z4, z5, z6, z7, z8, z9]) rfl ?_
        exact ⟨_, q1, l1, rfl, oz, bz, HN1.out, HI1.out.mono (by omega), by rw [HLAY.out, HSEP.out]; exact HSM.out⟩

end Go.Proofs.YtnpaplfdmpjfgaaDoor

/-! The reference's lay: a Nest, a Sep; each document. -/
namespace Go.Proofs.YtnpaplfdmpjfgaaDoor
open Go.RowKit

set_option maxRecDepth 100000 in
set_option maxHeartbeats 16000000 in
theorem rlay_8 (B n₀ : Nat) (V : Value) (c : Cfg) (q : Pen) (base M : Int) (fresh : Bool) (d : Doc) (A : Option Addr) (cc : Nat) (w : World) (hk : d.kind = 8) 
    (h : w.ownsRow B 5 1 V q.out.length (Lib.byteCells q.out)) (hB : B ≤ w.heap.size) (hi : Inv M q) (hsay : ∀ x ∈ d.kids, RLaySays x ∧ x.form = true) (hfm : d.form = true) (hw : d.wt ≤ 4194304) (hfo : d.void = false → FOk c q (base + d.lead0) fresh) (hb0 : -M ≤ base) (hb1 : base ≤ M) (hM : M + 4000 * (d.wt : Int) - 2000 ≤ 1099511627776) (hn : n₀ ≤ B) (hK : KidsAt n₀ w d.kids A) :
    Calls Tryd.prog 57 #[.agg #[V, .int .i64 q.col, .int .i64 q.start, .bool q.op, .int .i64 q.owed, .int .i64 q.lines, .bool false, .int .i64 c.width, .int .i64 c.ribbon, .int .i64 c.mode], .agg #[.int .i64 d.kind, .string d.text, .int .i64 d.n, .slice A d.kids.length cc], .int .i64 base, .bool fresh] w (RLaid B w V c (M + 4000 * (d.wt : Int) - 2000) (d.lay c q base fresh)) := by
  have hwe := wt_eq d
  have hwp := wt_pos d
  have HFM := Lib.hid hfm
  have HFO := Lib.hid hfo
  clear hfm hfo
  obtain ⟨A0, c0, rfl⟩ := own_form h
  have hkl := kids_lt d
  have hdl := len_le_wts d.kids
  obtain ⟨hbx, hb0', hs0⟩ := rbox_new w (.slice A0 q.out.length c0) (pfOf c q false)
  simp only [pfOf] at hb0' hs0
  obtain ⟨W0, hW0⟩ : ∃ W, w.alloc (.cells #[(.slice A0 q.out.length c0), .int .i64 q.col, .int .i64 q.start, .bool q.op, .int .i64 q.owed, .int .i64 q.lines, .bool false, .int .i64 c.width, .int .i64 c.ribbon, .int .i64 c.mode] 73) = W := ⟨_, rfl⟩
  have hbx0 : RBox W0 w.heap.size (.slice A0 q.out.length c0) (pfOf c q false) := by rw [← hW0]; exact hbx
  rw [hW0] at hb0' hs0
  obtain ⟨hdx, hbd, hs1⟩ := dbox_new W0 d A cc
  obtain ⟨W1, hW1⟩ : ∃ W, W0.alloc (.cells #[.int .i64 d.kind, .string d.text, .int .i64 d.n, .slice A d.kids.length cc] 24) = W := ⟨_, rfl⟩
  rw [hW1] at hdx hbd hs1
  obtain ⟨hrx, hbr, hs2⟩ := rbox_new W1 (.slice none 0 0) PF0
  simp only [PF0] at hbr hs2
  obtain ⟨W, hW⟩ : ∃ W, W1.alloc (.cells #[.slice none 0 0, .int .i64 0, .int .i64 0, .bool false, .int .i64 0, .int .i64 0, .bool false, .int .i64 0, .int .i64 0, .int .i64 0] 73) = W := ⟨_, rfl⟩
  have hrx0 : RBox W W1.heap.size (.slice none 0 0) PF0 := by rw [← hW]; exact hrx
  rw [hW] at hbr hs2
  have hb2 := (hb0'.trans (hbd.mono (by omega))).trans (hbr.mono (by omega))
  have HS0 := Lib.hid (show RSt B w (.slice A0 q.out.length c0) c w.heap.size W0.heap.size W1.heap.size d A cc M W (.slice A0 q.out.length c0) q false from
    ⟨own_on h hb2, (hbx0.on hbd).on hbr, hrx0, hdx.on hbr, Stay.of_below hb2, .inl rfl, hi, Nat.le_refl _, by omega, by omega, by omega, hB⟩)
  have HVB := Lib.hid (show ∀ g, Value.ownBlock (.slice A0 q.out.length c0) = some g → B ≤ g from fun g hg => (h.lt g hg).1)
  have HSAY := Lib.hid hsay
  have HK := Lib.hid hK
  have hord : w.heap.size < W0.heap.size ∧ W0.heap.size < W1.heap.size ∧ W1.heap.size < W.heap.size := ⟨by omega, by omega, by omega⟩
  obtain ⟨ho1, ho2, ho3⟩ := hord
  clear h hi hsay hK hbx hbx0 hb0' hs0 hdx hbd hs1 hrx hrx0 hbr hs2 hb2
  have HLOW := Lib.hid (HS0.out.low HVB.out hn)
  have HKW := Lib.hid (kidsAt_below HK.out HLOW.out)
  obtain ⟨y0, y1, y2, y3, _, _, _, _⟩ := HS0.out.dbx.box
  have k1 : (d.kind == 1) = false := by rw [hk]; rfl
  have k2 : (d.kind == 2) = false := by rw [hk]; rfl
  have k3 : (d.kind == 3) = false := by rw [hk]; rfl
  have k4 : (d.kind == 4) = false := by rw [hk]; rfl
  have k7 : (d.kind == 7) = false := by rw [hk]; rfl
  have k8 : (d.kind == 8) = true := by rw [hk]; rfl
  have k9 : (d.kind == 9) = false := by rw [hk]; rfl
  have k10 : (d.kind == 10) = false := by rw [hk]; rfl
  have HKD := Lib.hid hk
  clear hk
  obtain ⟨e0, e1, e2, e3, e4, e5, e6, e7, e8, e9, ez⟩ := (HS0.out.pbx).cells
  simp only [pfOf] at e1 e2 e3 e4 e5 e6 e7 e8 e9
  have ef0 := ez 0
  have ef1 := ez 1
  have ef2 := ez 2
  have ef3 := ez 3
  have ef4 := ez 4
  have ef5 := ez 5
  have ef6 := ez 6
  have ef7 := ez 7
  have ef8 := ez 8
  have ef9 := ez 9
  clear ez
  have hsl := lead0_small HFM.out
  have HLAY := Lib.hid (show d.lay c q base fresh = match sepT c d.kind q d.flat d.void (base + d.lead0) fresh with
      | some s => put c q s (base + d.lead0) fresh
      | none => belows c (d.kind == 5) d.kids true q base fresh from lay_sep (by rw [HKD.out]; decide))
  have HFL := Lib.hid (rflat_any _ d A cc W (Nat.le_refl _) (by omega) (kidsAt_mono HKW.out (show n₀ ≤ W.heap.size by omega)))
  go_enter Tryd.func57, Tryd.ntmps57
  go_wp2_with fail
  clear hW hW1 hW0
  cases hfl : d.flat with
  | none =>
    have HFL1 := Lib.hid hfl
    clear hfl
    have hfc := HFL.out
    unfold FlatSaid at hfc
    rw [HFL1.out] at hfc
    simp only [flatV] at hfc
    refine hfc.mono ?_
    rintro e w2 ⟨rfl, hb2⟩
    have HST2 := Lib.hid (HS0.out.on hb2)
    have HKW2 := Lib.hid (kidsAt_below HKW.out (hb2.mono (by omega)))
    have hs2 := hb2.size
    clear hb2 HFL hfc e0 e1 e2 e3 e4 e5 e6 e7 e8 e9 ef0 ef1 ef2 ef3 ef4 ef5 ef6 ef7 ef8 ef9 y0 y1 y2 y3
    obtain ⟨y0, y1, y2, y3, _, _, _, _⟩ := HST2.out.dbx.box
    obtain ⟨e0, e1, e2, e3, e4, e5, e6, e7, e8, e9, ez⟩ := HST2.out.pbx.cells
    simp only [pfOf] at e1 e2 e3 e4 e5 e6 e7 e8 e9
    clear ez
    go_upto_region 19 with (fail)
    go_quiet (fail)
    obtain ⟨wq, hwq, hbq⟩ : ∃ wq, w2.drewN nq = wq ∧ Below w2.heap.size w2 wq := ⟨_, rfl, ⟨rfl, rfl, rfl, Nat.le_refl _, fun _ _ => rfl⟩⟩
    rw [hwq]
    clear hwq
    have HSTQ := Lib.hid (HST2.out.on hbq)
    have HKQ := Lib.hid (kidsAt_below HKW2.out (hbq.mono (by omega)))
    have hszq := hbq.size
    clear hbq y0 y1 y2 y3 e0 e1 e2 e3 e4 e5 e6 e7 e8 e9
    have HSEP := Lib.hid (show sepT c d.kind q d.flat d.void (base + d.lead0) fresh = none by rw [HFL1.out]; unfold sepT; split <;> rfl)
    obtain ⟨e0, e1, e2, e3, e4, e5, e6, e7, e8, e9, ez⟩ := (HSTQ.out.pbx).cells
    simp only [pfOf] at e1 e2 e3 e4 e5 e6 e7 e8 e9
    have ef0 := ez 0
    have ef1 := ez 1
    have ef2 := ez 2
    have ef3 := ez 3
    have ef4 := ez 4
    have ef5 := ez 5
    have ef6 := ez 6
    have ef7 := ez 7
    have ef8 := ez 8
    have ef9 := ez 9
    clear ez
    obtain ⟨y0, y1, y2, y3, _, _, _, _⟩ := HSTQ.out.dbx.box
    have HC1 := Lib.hid (rbelow_any d B n₀ (.slice A0 q.out.length c0) c q base M fresh A cc wq HSTQ.out.own HSTQ.out.ble HSTQ.out.inv HSAY.out (fok_kids HFM.out (by rw [HKD.out]; decide) (by rw [HKD.out]; decide) HFO.out) hb0 hb1 (by omega) (by omega) hn HKQ.out)
    go_wp2_with fail
    refine HC1.out.mono ?_
    rintro e v1 ⟨V1, q1, l1, rfl, g1, g2, g3, g4, g5⟩
    obtain ⟨A1, c1, rfl⟩ := own_form g1
    have hr1 := HSTQ.out.rbx.stay g2 (fun e => Lib.ownBlock_ne HSTQ.out.own HSTQ.out.rbx.blk (by decide) e.symm)
    have hs1 := stay_next HSTQ.out g2
    have hn1 := next_trans HSTQ.out.next HSTQ.out.stay.size g3
    have HR1 := Lib.hid hr1
    have HO1 := Lib.hid g1
    have HS1 := Lib.hid hs1
    have HN1 := Lib.hid hn1
    have HI1 := Lib.hid g4
    have HSM := Lib.hid g5
    clear e0 e1 e2 e3 e4 e5 e6 e7 e8 e9 ef0 ef1 ef2 ef3 ef4 ef5 ef6 ef7 ef8 ef9 y0 y1 y2 y3 hs1 hn1 g1 g2 g3 g4 g5 HC1
    obtain ⟨u0, u1, u2, u3, u4, u5, u6, u7, u8, u9, uz⟩ := (hr1).cells
    simp only [PF0] at u1 u2 u3 u4 u5 u6 u7 u8 u9
    have uf0 := uz 0
    have uf1 := uz 1
    have uf2 := uz 2
    have uf3 := uz 3
    have uf4 := uz 4
    have uf5 := uz 5
    have uf6 := uz 6
    have uf7 := uz 7
    have uf8 := uz 8
    have uf9 := uz 9
    clear uz
    clear hr1
    go_wp2
    have nr : Value.ownBlock (.slice A1 q1.out.length c1) ≠ some W1.heap.size := Lib.ownBlock_ne (HO1.out) (HR1.out).blk (by decide)
    have kz := (HR1.out).put (.slice A1 q1.out.length c1) (pfOf c q1 l1)
    have oz := own_put (HO1.out) nr (.slice A1 q1.out.length c1) (pfOf c q1 l1)
    have bz := stay_put2 (HS1.out) (b := W1.heap.size) (by omega) (.slice A1 q1.out.length c1) (pfOf c q1 l1)
    simp only [pfOf] at kz oz bz
    generalize ((((((((((v1.setCell ⟨W1.heap.size, 0, none⟩ (.slice A1 q1.out.length c1)).setCell ⟨W1.heap.size, 1, none⟩ (.int .i64 q1.col)).setCell ⟨W1.heap.size, 2, none⟩ (.int .i64 q1.start)).setCell ⟨W1.heap.size, 3, none⟩ (.bool q1.op)).setCell ⟨W1.heap.size, 4, none⟩ (.int .i64 q1.owed)).setCell ⟨W1.heap.size, 5, none⟩ (.int .i64 q1.lines)).setCell ⟨W1.heap.size, 6, none⟩ (.bool l1)).setCell ⟨W1.heap.size, 7, none⟩ (.int .i64 c.width)).setCell ⟨W1.heap.size, 8, none⟩ (.int .i64 c.ribbon)).setCell ⟨W1.heap.size, 9, none⟩ (.int .i64 c.mode)) = WZ at kz oz bz ⊢
    obtain ⟨z0, z1, z2, z3, z4, z5, z6, z7, z8, z9, -⟩ := kz.cells
    simp only at z1 z2 z3 z4 z5 z6 z7 z8 z9
    refine bodyPost_ret (v := .agg #[(.slice A1 q1.out.length c1), (.int .i64 q1.col), (.int .i64 q1.start), (.bool q1.op), (.int .i64 q1.owed), (.int .i64 q1.lines), (.bool l1), (.int .i64 c.width), (.int .i64 c.ribbon), (.int .i64 c.mode)]) (by simp [results, Tryd.results57, go_sem, z0, z1, z2, z3, z4, z5, z6, z7, z8, z9]) rfl ?_
    exact ⟨_, q1, l1, rfl, oz, bz, HN1.out, HI1.out.mono (by omega), by rw [HLAY.out, HSEP.out]; exact HSM.out⟩
  | some s =>
    have hsz := flat_size hfl
    have HFL1 := Lib.hid hfl
    clear hfl
    have hfc := HFL.out
    unfold FlatSaid at hfc
    rw [HFL1.out] at hfc
    simp only [flatV] at hfc
    refine hfc.mono ?_
    rintro e w2 ⟨rfl, hb2⟩
    have HST2 := Lib.hid (HS0.out.on hb2)
    have HKW2 := Lib.hid (kidsAt_below HKW.out (hb2.mono (by omega)))
    have hs2 := hb2.size
    clear hb2 HFL hfc e0 e1 e2 e3 e4 e5 e6 e7 e8 e9 ef0 ef1 ef2 ef3 ef4 ef5 ef6 ef7 ef8 ef9 y0 y1 y2 y3
    obtain ⟨y0, y1, y2, y3, _, _, _, _⟩ := HST2.out.dbx.box
    obtain ⟨e0, e1, e2, e3, e4, e5, e6, e7, e8, e9, ez⟩ := HST2.out.pbx.cells
    simp only [pfOf] at e1 e2 e3 e4 e5 e6 e7 e8 e9
    clear ez
    go_upto_region 19 with (fail)
    cases hvd : d.void with
    | true =>
      have HVD := Lib.hid hvd
      clear hvd
      have HKM2 := Lib.hid (kidsAt_mono HKW2.out (show n₀ ≤ w2.heap.size by omega))
      refine wp_region_below (by kernel_rfl) (by kernel_rfl) fun X _ f hX hS => ?_
      have x0 : ∀ x, (f x).cell? ⟨w.heap.size, 0, none⟩ = some (.slice A0 q.out.length c0) := fun x => ((hX x).cell (p := ⟨w.heap.size, 0, none⟩) (by dsimp only; omega)).trans e0
      have x1 : ∀ x, (f x).cell? ⟨w.heap.size, 1, none⟩ = some (.int .i64 q.col) := fun x => ((hX x).cell (p := ⟨w.heap.size, 1, none⟩) (by dsimp only; omega)).trans e1
      have x2 : ∀ x, (f x).cell? ⟨w.heap.size, 2, none⟩ = some (.int .i64 q.start) := fun x => ((hX x).cell (p := ⟨w.heap.size, 2, none⟩) (by dsimp only; omega)).trans e2
      have x3 : ∀ x, (f x).cell? ⟨w.heap.size, 3, none⟩ = some (.bool q.op) := fun x => ((hX x).cell (p := ⟨w.heap.size, 3, none⟩) (by dsimp only; omega)).trans e3
      have x4 : ∀ x, (f x).cell? ⟨w.heap.size, 4, none⟩ = some (.int .i64 q.owed) := fun x => ((hX x).cell (p := ⟨w.heap.size, 4, none⟩) (by dsimp only; omega)).trans e4
      have x5 : ∀ x, (f x).cell? ⟨w.heap.size, 5, none⟩ = some (.int .i64 q.lines) := fun x => ((hX x).cell (p := ⟨w.heap.size, 5, none⟩) (by dsimp only; omega)).trans e5
      have x6 : ∀ x, (f x).cell? ⟨w.heap.size, 6, none⟩ = some (.bool false) := fun x => ((hX x).cell (p := ⟨w.heap.size, 6, none⟩) (by dsimp only; omega)).trans e6
      have x7 : ∀ x, (f x).cell? ⟨w.heap.size, 7, none⟩ = some (.int .i64 c.width) := fun x => ((hX x).cell (p := ⟨w.heap.size, 7, none⟩) (by dsimp only; omega)).trans e7
      have x8 : ∀ x, (f x).cell? ⟨w.heap.size, 8, none⟩ = some (.int .i64 c.ribbon) := fun x => ((hX x).cell (p := ⟨w.heap.size, 8, none⟩) (by dsimp only; omega)).trans e8
      have x9 : ∀ x, (f x).cell? ⟨w.heap.size, 9, none⟩ = some (.int .i64 c.mode) := fun x => ((hX x).cell (p := ⟨w.heap.size, 9, none⟩) (by dsimp only; omega)).trans e9
      have xd0 : ∀ x, (f x).cell? ⟨W0.heap.size, 0, none⟩ = some (.int .i64 d.kind) := fun x => ((hX x).cell (p := ⟨W0.heap.size, 0, none⟩) (by dsimp only; omega)).trans y0
      have xd1 : ∀ x, (f x).cell? ⟨W0.heap.size, 1, none⟩ = some (.string d.text) := fun x => ((hX x).cell (p := ⟨W0.heap.size, 1, none⟩) (by dsimp only; omega)).trans y1
      have xd2 : ∀ x, (f x).cell? ⟨W0.heap.size, 2, none⟩ = some (.int .i64 d.n) := fun x => ((hX x).cell (p := ⟨W0.heap.size, 2, none⟩) (by dsimp only; omega)).trans y2
      have xd3 : ∀ x, (f x).cell? ⟨W0.heap.size, 3, none⟩ = some (.slice A d.kids.length cc) := fun x => ((hX x).cell (p := ⟨W0.heap.size, 3, none⟩) (by dsimp only; omega)).trans y3
      clear y0 y1 y2 y3 e0 e1 e2 e3 e4 e5 e6 e7 e8 e9
      have HXX := Lib.hid hX
      have HSS := Lib.hid hS
      clear hX hS
      repeat (go_big_quiet_step (first | (go_at_call 22; refine Calls.below_of (v := .bool true) (HXX.out _) HSS.out ((rvoid_any _ d A cc _ (Nat.le_refl _) (by omega) (kidsAt_on HKM2.out (HXX.out _))).mono ?_); rintro e w3 ⟨rfl, hb3⟩; exact ⟨by rw [HVD.out], hb3⟩)))
      refine wpQuiet_nil ?_
      rintro _ ⟨x, rfl⟩
      have hbq := HXX.out x
      clear x0 x1 x2 x3 x4 x5 x6 x7 x8 x9 xd0 xd1 xd2 xd3 HXX HSS
      generalize f x = wq at hbq ⊢
      have HSTQ := Lib.hid (HST2.out.on hbq)
      have HKQ := Lib.hid (kidsAt_below HKW2.out (hbq.mono (by omega)))
      have hszq := hbq.size
      clear hbq
      have HSEP := Lib.hid (show sepT c d.kind q d.flat d.void (base + d.lead0) fresh = none by rw [HFL1.out, HVD.out]; unfold sepT; simp)
      obtain ⟨e0, e1, e2, e3, e4, e5, e6, e7, e8, e9, ez⟩ := (HSTQ.out.pbx).cells
      simp only [pfOf] at e1 e2 e3 e4 e5 e6 e7 e8 e9
      have ef0 := ez 0
      have ef1 := ez 1
      have ef2 := ez 2
      have ef3 := ez 3
      have ef4 := ez 4
      have ef5 := ez 5
      have ef6 := ez 6
      have ef7 := ez 7
      have ef8 := ez 8
      have ef9 := ez 9
      clear ez
      obtain ⟨y0, y1, y2, y3, _, _, _, _⟩ := HSTQ.out.dbx.box
      have HC1 := Lib.hid (rbelow_any d B n₀ (.slice A0 q.out.length c0) c q base M fresh A cc wq HSTQ.out.own HSTQ.out.ble HSTQ.out.inv HSAY.out (fok_kids HFM.out (by rw [HKD.out]; decide) (by rw [HKD.out]; decide) HFO.out) hb0 hb1 (by omega) (by omega) hn HKQ.out)
      go_wp2_with fail
      refine HC1.out.mono ?_
      rintro e v1 ⟨V1, q1, l1, rfl, g1, g2, g3, g4, g5⟩
      obtain ⟨A1, c1, rfl⟩ := own_form g1
      have hr1 := HSTQ.out.rbx.stay g2 (fun e => Lib.ownBlock_ne HSTQ.out.own HSTQ.out.rbx.blk (by decide) e.symm)
      have hs1 := stay_next HSTQ.out g2
      have hn1 := next_trans HSTQ.out.next HSTQ.out.stay.size g3
      have HR1 := Lib.hid hr1
      have HO1 := Lib.hid g1
      have HS1 := Lib.hid hs1
      have HN1 := Lib.hid hn1
      have HI1 := Lib.hid g4
      have HSM := Lib.hid g5
      clear e0 e1 e2 e3 e4 e5 e6 e7 e8 e9 ef0 ef1 ef2 ef3 ef4 ef5 ef6 ef7 ef8 ef9 y0 y1 y2 y3 hs1 hn1 g1 g2 g3 g4 g5 HC1
      obtain ⟨u0, u1, u2, u3, u4, u5, u6, u7, u8, u9, uz⟩ := (hr1).cells
      simp only [PF0] at u1 u2 u3 u4 u5 u6 u7 u8 u9
      have uf0 := uz 0
      have uf1 := uz 1
      have uf2 := uz 2
      have uf3 := uz 3
      have uf4 := uz 4
      have uf5 := uz 5
      have uf6 := uz 6
      have uf7 := uz 7
      have uf8 := uz 8
      have uf9 := uz 9
      clear uz
      clear hr1
      go_wp2
      have nr : Value.ownBlock (.slice A1 q1.out.length c1) ≠ some W1.heap.size := Lib.ownBlock_ne (HO1.out) (HR1.out).blk (by decide)
      have kz := (HR1.out).put (.slice A1 q1.out.length c1) (pfOf c q1 l1)
      have oz := own_put (HO1.out) nr (.slice A1 q1.out.length c1) (pfOf c q1 l1)
      have bz := stay_put2 (HS1.out) (b := W1.heap.size) (by omega) (.slice A1 q1.out.length c1) (pfOf c q1 l1)
      simp only [pfOf] at kz oz bz
      generalize ((((((((((v1.setCell ⟨W1.heap.size, 0, none⟩ (.slice A1 q1.out.length c1)).setCell ⟨W1.heap.size, 1, none⟩ (.int .i64 q1.col)).setCell ⟨W1.heap.size, 2, none⟩ (.int .i64 q1.start)).setCell ⟨W1.heap.size, 3, none⟩ (.bool q1.op)).setCell ⟨W1.heap.size, 4, none⟩ (.int .i64 q1.owed)).setCell ⟨W1.heap.size, 5, none⟩ (.int .i64 q1.lines)).setCell ⟨W1.heap.size, 6, none⟩ (.bool l1)).setCell ⟨W1.heap.size, 7, none⟩ (.int .i64 c.width)).setCell ⟨W1.heap.size, 8, none⟩ (.int .i64 c.ribbon)).setCell ⟨W1.heap.size, 9, none⟩ (.int .i64 c.mode)) = WZ at kz oz bz ⊢
      obtain ⟨z0, z1, z2, z3, z4, z5, z6, z7, z8, z9, -⟩ := kz.cells
      simp only at z1 z2 z3 z4 z5 z6 z7 z8 z9
      refine bodyPost_ret (v := .agg #[(.slice A1 q1.out.length c1), (.int .i64 q1.col), (.int .i64 q1.start), (.bool q1.op), (.int .i64 q1.owed), (.int .i64 q1.lines), (.bool l1), (.int .i64 c.width), (.int .i64 c.ribbon), (.int .i64 c.mode)]) (by simp [results, Tryd.results57, go_sem, z0, z1, z2, z3, z4, z5, z6, z7, z8, z9]) rfl ?_
      exact ⟨_, q1, l1, rfl, oz, bz, HN1.out, HI1.out.mono (by omega), by rw [HLAY.out, HSEP.out]; exact HSM.out⟩
    | false =>
      have HVD := Lib.hid hvd
      clear hvd
      have hwrap : IntKind.i64.wrap (base + d.lead0) = base + d.lead0 := IntWalk.i64_in _ (by omega)
      cases hfit : fitsB c q s (base + d.lead0) fresh with
      | true =>
        have HFIT := Lib.hid hfit
        clear hfit
        have HKM2 := Lib.hid (kidsAt_mono HKW2.out (show n₀ ≤ w2.heap.size by omega))
        refine wp_region_below (by kernel_rfl) (by kernel_rfl) fun X _ f hX hS => ?_
        have x0 : ∀ x, (f x).cell? ⟨w.heap.size, 0, none⟩ = some (.slice A0 q.out.length c0) := fun x => ((hX x).cell (p := ⟨w.heap.size, 0, none⟩) (by dsimp only; omega)).trans e0
        have x1 : ∀ x, (f x).cell? ⟨w.heap.size, 1, none⟩ = some (.int .i64 q.col) := fun x => ((hX x).cell (p := ⟨w.heap.size, 1, none⟩) (by dsimp only; omega)).trans e1
        have x2 : ∀ x, (f x).cell? ⟨w.heap.size, 2, none⟩ = some (.int .i64 q.start) := fun x => ((hX x).cell (p := ⟨w.heap.size, 2, none⟩) (by dsimp only; omega)).trans e2
        have x3 : ∀ x, (f x).cell? ⟨w.heap.size, 3, none⟩ = some (.bool q.op) := fun x => ((hX x).cell (p := ⟨w.heap.size, 3, none⟩) (by dsimp only; omega)).trans e3
        have x4 : ∀ x, (f x).cell? ⟨w.heap.size, 4, none⟩ = some (.int .i64 q.owed) := fun x => ((hX x).cell (p := ⟨w.heap.size, 4, none⟩) (by dsimp only; omega)).trans e4
        have x5 : ∀ x, (f x).cell? ⟨w.heap.size, 5, none⟩ = some (.int .i64 q.lines) := fun x => ((hX x).cell (p := ⟨w.heap.size, 5, none⟩) (by dsimp only; omega)).trans e5
        have x6 : ∀ x, (f x).cell? ⟨w.heap.size, 6, none⟩ = some (.bool false) := fun x => ((hX x).cell (p := ⟨w.heap.size, 6, none⟩) (by dsimp only; omega)).trans e6
        have x7 : ∀ x, (f x).cell? ⟨w.heap.size, 7, none⟩ = some (.int .i64 c.width) := fun x => ((hX x).cell (p := ⟨w.heap.size, 7, none⟩) (by dsimp only; omega)).trans e7
        have x8 : ∀ x, (f x).cell? ⟨w.heap.size, 8, none⟩ = some (.int .i64 c.ribbon) := fun x => ((hX x).cell (p := ⟨w.heap.size, 8, none⟩) (by dsimp only; omega)).trans e8
        have x9 : ∀ x, (f x).cell? ⟨w.heap.size, 9, none⟩ = some (.int .i64 c.mode) := fun x => ((hX x).cell (p := ⟨w.heap.size, 9, none⟩) (by dsimp only; omega)).trans e9
        have xd0 : ∀ x, (f x).cell? ⟨W0.heap.size, 0, none⟩ = some (.int .i64 d.kind) := fun x => ((hX x).cell (p := ⟨W0.heap.size, 0, none⟩) (by dsimp only; omega)).trans y0
        have xd1 : ∀ x, (f x).cell? ⟨W0.heap.size, 1, none⟩ = some (.string d.text) := fun x => ((hX x).cell (p := ⟨W0.heap.size, 1, none⟩) (by dsimp only; omega)).trans y1
        have xd2 : ∀ x, (f x).cell? ⟨W0.heap.size, 2, none⟩ = some (.int .i64 d.n) := fun x => ((hX x).cell (p := ⟨W0.heap.size, 2, none⟩) (by dsimp only; omega)).trans y2
        have xd3 : ∀ x, (f x).cell? ⟨W0.heap.size, 3, none⟩ = some (.slice A d.kids.length cc) := fun x => ((hX x).cell (p := ⟨W0.heap.size, 3, none⟩) (by dsimp only; omega)).trans y3
        clear y0 y1 y2 y3 e0 e1 e2 e3 e4 e5 e6 e7 e8 e9
        have HXX := Lib.hid hX
        have HSS := Lib.hid hS
        clear hX hS
        repeat (go_big_quiet_step (first | (go_at_call 78; refine Calls.below_of (v := .bool true) (HXX.out _) HSS.out ((rfits_any (.slice A0 q.out.length c0) c q false s (base + d.lead0) (M + 1000 * (d.wt : Int)) fresh _ (HST2.out.inv.mono (by omega)) (by omega) (by omega) (by omega)).mono ?_); rintro e w3 ⟨rfl, hb3⟩; exact ⟨by rw [HFIT.out], hb3⟩) | (go_at_call 24; exact Calls.below_of (HXX.out _) HSS.out (rlead0_any d A cc _ HFM.out (by omega) (kidsAt_on HKM2.out (HXX.out _)))) | (go_at_call 22; refine Calls.below_of (v := .bool false) (HXX.out _) HSS.out ((rvoid_any _ d A cc _ (Nat.le_refl _) (by omega) (kidsAt_on HKM2.out (HXX.out _))).mono ?_); rintro e w3 ⟨rfl, hb3⟩; exact ⟨by rw [HVD.out], hb3⟩)))
        refine wpQuiet_nil ?_
        rintro _ ⟨x, rfl⟩
        have hbq := HXX.out x
        clear x0 x1 x2 x3 x4 x5 x6 x7 x8 x9 xd0 xd1 xd2 xd3 HXX HSS
        generalize f x = wq at hbq ⊢
        have HSTQ := Lib.hid (HST2.out.on hbq)
        have HKQ := Lib.hid (kidsAt_below HKW2.out (hbq.mono (by omega)))
        have hszq := hbq.size
        clear hbq
        have HSEP := Lib.hid (show sepT c d.kind q d.flat d.void (base + d.lead0) fresh = some s by rw [HFL1.out, HVD.out, HKD.out]; unfold sepT; simp [HFIT.out])
        go_upto_region 20 with (fail)
        obtain ⟨b0, b1, b2, b3, _, _, _, _⟩ := (HSTQ.out.dbx).box
        obtain ⟨a0, a1, a2, a3, a4, a5, a6, a7, a8, a9, -⟩ := HSTQ.out.pbx.cells
        simp only [pfOf] at a1 a2 a3 a4 a5 a6 a7 a8 a9
        have HKMQ := Lib.hid (kidsAt_mono HKQ.out (show n₀ ≤ wq.heap.size by omega))
        have HFV := Lib.hid (HFO.out HVD.out)
        go_region_with (first | (go_at_call 75; refine (rput_any B (.slice A0 q.out.length c0) c q false s (base + d.lead0) (M + 1000 * (d.wt : Int)) fresh _ ST6.out.own ST6.out.ble (ST6.out.inv.mono (by omega)) HFV.out (by omega) (by omega) (by omega)).mono ?_; rintro e v1 ⟨V1, q1, l1, rfl, g1, g2, g3, g4, g5⟩; obtain ⟨A1, c1, rfl⟩ := own_form g1; have hr1 := ST6.out.rbx.stay g2 (fun e => Lib.ownBlock_ne ST6.out.own ST6.out.rbx.blk (by decide) e.symm); have HR1 := Lib.hid hr1; have HO1 := Lib.hid g1; have HS1 := Lib.hid (stay_next ST6.out g2); have HN1 := Lib.hid (next_trans ST6.out.next ST6.out.stay.size g3); have HI1 := Lib.hid g4; have HSM := Lib.hid g5; clear g1 g2 g3 g4 g5; obtain ⟨u0, u1, u2, u3, u4, u5, u6, u7, u8, u9, uz⟩ := hr1.cells; simp only [PF0] at u1 u2 u3 u4 u5 u6 u7 u8 u9; have uf0 := uz 0; have uf1 := uz 1; have uf2 := uz 2; have uf3 := uz 3; have uf4 := uz 4; have uf5 := uz 5; have uf6 := uz 6; have uf7 := uz 7; have uf8 := uz 8; have uf9 := uz 9; clear uz) | (go_at_call 24; refine (rlead0_any d A cc _ HFM.out (by omega) (kidsAt_on HKMQ.out (Below.refl _ _).drew)).mono ?_; rintro e w6 ⟨rfl, hb6⟩; have ST6 := Lib.hid (HSTQ.out.on (bl_call2 (Below.refl _ _).drew hb6)); clear hb6; obtain ⟨r0, r1, r2, r3, r4, r5, r6, r7, r8, r9, -⟩ := ST6.out.pbx.cells; simp only [pfOf] at r1 r2 r3 r4 r5 r6 r7 r8 r9))
        all_goals
          go_wp2
          have nr : Value.ownBlock (.slice A1 q1.out.length c1) ≠ some W1.heap.size := Lib.ownBlock_ne (HO1.out) (HR1.out).blk (by decide)
          have kz := (HR1.out).put (.slice A1 q1.out.length c1) (pfOf c q1 l1)
          have oz := own_put (HO1.out) nr (.slice A1 q1.out.length c1) (pfOf c q1 l1)
          have bz := stay_put2 (HS1.out) (b := W1.heap.size) (by omega) (.slice A1 q1.out.length c1) (pfOf c q1 l1)
          simp only [pfOf] at kz oz bz
          generalize ((((((((((v1.setCell ⟨W1.heap.size, 0, none⟩ (.slice A1 q1.out.length c1)).setCell ⟨W1.heap.size, 1, none⟩ (.int .i64 q1.col)).setCell ⟨W1.heap.size, 2, none⟩ (.int .i64 q1.start)).setCell ⟨W1.heap.size, 3, none⟩ (.bool q1.op)).setCell ⟨W1.heap.size, 4, none⟩ (.int .i64 q1.owed)).setCell ⟨W1.heap.size, 5, none⟩ (.int .i64 q1.lines)).setCell ⟨W1.heap.size, 6, none⟩ (.bool l1)).setCell ⟨W1.heap.size, 7, none⟩ (.int .i64 c.width)).setCell ⟨W1.heap.size, 8, none⟩ (.int .i64 c.ribbon)).setCell ⟨W1.heap.size, 9, none⟩ (.int .i64 c.mode)) = WZ at kz oz bz ⊢
          obtain ⟨z0, z1, z2, z3, z4, z5, z6, z7, z8, z9, -⟩ := kz.cells
          simp only at z1 z2 z3 z4 z5 z6 z7 z8 z9
          refine bodyPost_ret (v := .agg #[(.slice A1 q1.out.length c1), (.int .i64 q1.col), (.int .i64 q1.start), (.bool q1.op), (.int .i64 q1.owed), (.int .i64 q1.lines), (.bool l1), (.int .i64 c.width), (.int .i64 c.ribbon), (.int .i64 c.mode)]) (by simp [results, Tryd.results57, go_sem, z0, z1, z2, z3, z4, z5, z6, z7, z8, z9]) rfl ?_
          exact ⟨_, q1, l1, rfl, oz, bz, HN1.out, HI1.out.mono (by omega), by rw [HLAY.out, HSEP.out]; exact HSM.out⟩
      | false =>
        have HFIT := Lib.hid hfit
        clear hfit
        have HKM2 := Lib.hid (kidsAt_mono HKW2.out (show n₀ ≤ w2.heap.size by omega))
        refine wp_region_below (by kernel_rfl) (by kernel_rfl) fun X _ f hX hS => ?_
        have x0 : ∀ x, (f x).cell? ⟨w.heap.size, 0, none⟩ = some (.slice A0 q.out.length c0) := fun x => ((hX x).cell (p := ⟨w.heap.size, 0, none⟩) (by dsimp only; omega)).trans e0
        have x1 : ∀ x, (f x).cell? ⟨w.heap.size, 1, none⟩ = some (.int .i64 q.col) := fun x => ((hX x).cell (p := ⟨w.heap.size, 1, none⟩) (by dsimp only; omega)).trans e1
        have x2 : ∀ x, (f x).cell? ⟨w.heap.size, 2, none⟩ = some (.int .i64 q.start) := fun x => ((hX x).cell (p := ⟨w.heap.size, 2, none⟩) (by dsimp only; omega)).trans e2
        have x3 : ∀ x, (f x).cell? ⟨w.heap.size, 3, none⟩ = some (.bool q.op) := fun x => ((hX x).cell (p := ⟨w.heap.size, 3, none⟩) (by dsimp only; omega)).trans e3
        have x4 : ∀ x, (f x).cell? ⟨w.heap.size, 4, none⟩ = some (.int .i64 q.owed) := fun x => ((hX x).cell (p := ⟨w.heap.size, 4, none⟩) (by dsimp only; omega)).trans e4
        have x5 : ∀ x, (f x).cell? ⟨w.heap.size, 5, none⟩ = some (.int .i64 q.lines) := fun x => ((hX x).cell (p := ⟨w.heap.size, 5, none⟩) (by dsimp only; omega)).trans e5
        have x6 : ∀ x, (f x).cell? ⟨w.heap.size, 6, none⟩ = some (.bool false) := fun x => ((hX x).cell (p := ⟨w.heap.size, 6, none⟩) (by dsimp only; omega)).trans e6
        have x7 : ∀ x, (f x).cell? ⟨w.heap.size, 7, none⟩ = some (.int .i64 c.width) := fun x => ((hX x).cell (p := ⟨w.heap.size, 7, none⟩) (by dsimp only; omega)).trans e7
        have x8 : ∀ x, (f x).cell? ⟨w.heap.size, 8, none⟩ = some (.int .i64 c.ribbon) := fun x => ((hX x).cell (p := ⟨w.heap.size, 8, none⟩) (by dsimp only; omega)).trans e8
        have x9 : ∀ x, (f x).cell? ⟨w.heap.size, 9, none⟩ = some (.int .i64 c.mode) := fun x => ((hX x).cell (p := ⟨w.heap.size, 9, none⟩) (by dsimp only; omega)).trans e9
        have xd0 : ∀ x, (f x).cell? ⟨W0.heap.size, 0, none⟩ = some (.int .i64 d.kind) := fun x => ((hX x).cell (p := ⟨W0.heap.size, 0, none⟩) (by dsimp only; omega)).trans y0
        have xd1 : ∀ x, (f x).cell? ⟨W0.heap.size, 1, none⟩ = some (.string d.text) := fun x => ((hX x).cell (p := ⟨W0.heap.size, 1, none⟩) (by dsimp only; omega)).trans y1
        have xd2 : ∀ x, (f x).cell? ⟨W0.heap.size, 2, none⟩ = some (.int .i64 d.n) := fun x => ((hX x).cell (p := ⟨W0.heap.size, 2, none⟩) (by dsimp only; omega)).trans y2
        have xd3 : ∀ x, (f x).cell? ⟨W0.heap.size, 3, none⟩ = some (.slice A d.kids.length cc) := fun x => ((hX x).cell (p := ⟨W0.heap.size, 3, none⟩) (by dsimp only; omega)).trans y3
        clear y0 y1 y2 y3 e0 e1 e2 e3 e4 e5 e6 e7 e8 e9
        have HXX := Lib.hid hX
        have HSS := Lib.hid hS
        clear hX hS
        repeat (go_big_quiet_step (first | (go_at_call 78; refine Calls.below_of (v := .bool false) (HXX.out _) HSS.out ((rfits_any (.slice A0 q.out.length c0) c q false s (base + d.lead0) (M + 1000 * (d.wt : Int)) fresh _ (HST2.out.inv.mono (by omega)) (by omega) (by omega) (by omega)).mono ?_); rintro e w3 ⟨rfl, hb3⟩; exact ⟨by rw [HFIT.out], hb3⟩) | (go_at_call 24; exact Calls.below_of (HXX.out _) HSS.out (rlead0_any d A cc _ HFM.out (by omega) (kidsAt_on HKM2.out (HXX.out _)))) | (go_at_call 22; refine Calls.below_of (v := .bool false) (HXX.out _) HSS.out ((rvoid_any _ d A cc _ (Nat.le_refl _) (by omega) (kidsAt_on HKM2.out (HXX.out _))).mono ?_); rintro e w3 ⟨rfl, hb3⟩; exact ⟨by rw [HVD.out], hb3⟩)))
        refine wpQuiet_nil ?_
        rintro _ ⟨x, rfl⟩
        have hbq := HXX.out x
        clear x0 x1 x2 x3 x4 x5 x6 x7 x8 x9 xd0 xd1 xd2 xd3 HXX HSS
        generalize f x = wq at hbq ⊢
        have HSTQ := Lib.hid (HST2.out.on hbq)
        have HKQ := Lib.hid (kidsAt_below HKW2.out (hbq.mono (by omega)))
        have hszq := hbq.size
        clear hbq
        have HSEP := Lib.hid (show sepT c d.kind q d.flat d.void (base + d.lead0) fresh = none by rw [HFL1.out, HVD.out, HKD.out]; unfold sepT; simp [HFIT.out])
        obtain ⟨e0, e1, e2, e3, e4, e5, e6, e7, e8, e9, ez⟩ := (HSTQ.out.pbx).cells
        simp only [pfOf] at e1 e2 e3 e4 e5 e6 e7 e8 e9
        have ef0 := ez 0
        have ef1 := ez 1
        have ef2 := ez 2
        have ef3 := ez 3
        have ef4 := ez 4
        have ef5 := ez 5
        have ef6 := ez 6
        have ef7 := ez 7
        have ef8 := ez 8
        have ef9 := ez 9
        clear ez
        obtain ⟨y0, y1, y2, y3, _, _, _, _⟩ := HSTQ.out.dbx.box
        have HC1 := Lib.hid (rbelow_any d B n₀ (.slice A0 q.out.length c0) c q base M fresh A cc wq HSTQ.out.own HSTQ.out.ble HSTQ.out.inv HSAY.out (fok_kids HFM.out (by rw [HKD.out]; decide) (by rw [HKD.out]; decide) HFO.out) hb0 hb1 (by omega) (by omega) hn HKQ.out)
        go_wp2_with fail
        refine HC1.out.mono ?_
        rintro e v1 ⟨V1, q1, l1, rfl, g1, g2, g3, g4, g5⟩
        obtain ⟨A1, c1, rfl⟩ := own_form g1
        have hr1 := HSTQ.out.rbx.stay g2 (fun e => Lib.ownBlock_ne HSTQ.out.own HSTQ.out.rbx.blk (by decide) e.symm)
        have hs1 := stay_next HSTQ.out g2
        have hn1 := next_trans HSTQ.out.next HSTQ.out.stay.size g3
        have HR1 := Lib.hid hr1
        have HO1 := Lib.hid g1
        have HS1 := Lib.hid hs1
        have HN1 := Lib.hid hn1
        have HI1 := Lib.hid g4
        have HSM := Lib.hid g5
        clear e0 e1 e2 e3 e4 e5 e6 e7 e8 e9 ef0 ef1 ef2 ef3 ef4 ef5 ef6 ef7 ef8 ef9 y0 y1 y2 y3 hs1 hn1 g1 g2 g3 g4 g5 HC1
        obtain ⟨u0, u1, u2, u3, u4, u5, u6, u7, u8, u9, uz⟩ := (hr1).cells
        simp only [PF0] at u1 u2 u3 u4 u5 u6 u7 u8 u9
        have uf0 := uz 0
        have uf1 := uz 1
        have uf2 := uz 2
        have uf3 := uz 3
        have uf4 := uz 4
        have uf5 := uz 5
        have uf6 := uz 6
        have uf7 := uz 7
        have uf8 := uz 8
        have uf9 := uz 9
        clear uz
        clear hr1
        go_wp2
        have nr : Value.ownBlock (.slice A1 q1.out.length c1) ≠ some W1.heap.size := Lib.ownBlock_ne (HO1.out) (HR1.out).blk (by decide)
        have kz := (HR1.out).put (.slice A1 q1.out.length c1) (pfOf c q1 l1)
        have oz := own_put (HO1.out) nr (.slice A1 q1.out.length c1) (pfOf c q1 l1)
        have bz := stay_put2 (HS1.out) (b := W1.heap.size) (by omega) (.slice A1 q1.out.length c1) (pfOf c q1 l1)
        simp only [pfOf] at kz oz bz
        generalize ((((((((((v1.setCell ⟨W1.heap.size, 0, none⟩ (.slice A1 q1.out.length c1)).setCell ⟨W1.heap.size, 1, none⟩ (.int .i64 q1.col)).setCell ⟨W1.heap.size, 2, none⟩ (.int .i64 q1.start)).setCell ⟨W1.heap.size, 3, none⟩ (.bool q1.op)).setCell ⟨W1.heap.size, 4, none⟩ (.int .i64 q1.owed)).setCell ⟨W1.heap.size, 5, none⟩ (.int .i64 q1.lines)).setCell ⟨W1.heap.size, 6, none⟩ (.bool l1)).setCell ⟨W1.heap.size, 7, none⟩ (.int .i64 c.width)).setCell ⟨W1.heap.size, 8, none⟩ (.int .i64 c.ribbon)).setCell ⟨W1.heap.size, 9, none⟩ (.int .i64 c.mode)) = WZ at kz oz bz ⊢
        obtain ⟨z0, z1, z2, z3, z4, z5, z6, z7, z8, z9, -⟩ := kz.cells
        simp only at z1 z2 z3 z4 z5 z6 z7 z8 z9
        refine bodyPost_ret (v := .agg #[(.slice A1 q1.out.length c1), (.int .i64 q1.col), (.int .i64 q1.start), (.bool q1.op), (.int .i64 q1.owed), (.int .i64 q1.lines), (.bool l1), (.int .i64 c.width), (.int .i64 c.ribbon), (.int .i64 c.mode)]) (by simp [results, Tryd.results57, go_sem, z0, z1, z2, z3, z4, z5, z6, z7, z8, z9]) rfl ?_
        exact ⟨_, q1, l1, rfl, oz, bz, HN1.out, HI1.out.mono (by omega), by rw [HLAY.out, HSEP.out]; exact HSM.out⟩

/-- The reference lays each document that may be as the plain law says. -/
theorem rlay_says (m : Nat) : ∀ d : Doc, d.wt ≤ m → d.wt ≤ 4194304 → d.form = true → RLaySays d := by
  induction m with
  | zero => intro d h; have := wt_pos d; omega
  | succ m ih =>
    intro d hm hw hf B n₀ V c q lg base M fresh A cc w h hB hi hfo hb0 hb1 hM hn hnil hcap hK
    have ih' : ∀ k ∈ d.kids, RLaySays k ∧ k.form = true := fun k hk => ⟨ih k (by have := kid_lt hk; omega) (by have := kid_lt hk; omega) ((form_at.1 hf).kids k hk), (form_at.1 hf).kids k hk⟩
    cases lg with
    | true => exact rlay_dead d B V c q base M fresh A cc w h hB hi
    | false =>
      have hfo' := hfo rfl
      have hk0 := (form_at.1 hf).k0
      have hk1 := (form_at.1 hf).k1
      show Calls _ _ _ _ (RLaid B w V c _ (d.lay c q base fresh))
      rcases (by omega : d.kind = 0 ∨ d.kind = 1 ∨ d.kind = 2 ∨ d.kind = 3 ∨ d.kind = 4 ∨ d.kind = 5 ∨ d.kind = 6 ∨ d.kind = 7 ∨ d.kind = 8 ∨ d.kind = 9 ∨ d.kind = 10) with e | e | e | e | e | e | e | e | e | e | e
      · exact rlay_0 B n₀ V c q base M fresh d A cc w e h hB hi ih' hf hw hfo' hb0 hb1 hM hn hK
      · exact rlay_1 B n₀ V c q base M fresh d A cc w e h hB hi ih' hf hw hfo' hb0 hb1 hM hn hK
      · cases hfr : fresh with
        | true => rw [hfr] at hfo'; exact rlay_2t B n₀ V c q base M true d A cc w e rfl h hB hi ih' hf hw hfo' hb0 hb1 hM hn hK
        | false => rw [hfr] at hfo'; exact rlay_2f B n₀ V c q base M false d A cc w e rfl h hB hi ih' hf hw hfo' hb0 hb1 hM hn hK
      · exact rlay_3 B n₀ V c q base M fresh d A cc w e h hB hi ih' hf hw hfo' hb0 hb1 hM hn hK
      · exact rlay_4 B n₀ V c q base M fresh d A cc w e h hB hi ih' hf hw hfo' hb0 hb1 hM hn hK
      · exact rlay_5 B n₀ V c q base M fresh d A cc w e h hB hi ih' hf hw hfo' hb0 hb1 hM hn hK
      · exact rlay_6 B n₀ V c q base M fresh d A cc w e h hB hi ih' hf hw hfo' hb0 hb1 hM hn hK
      · exact rlay_7 B n₀ V c q base M fresh d A cc w e h hB hi ih' hf hw hfo' hb0 hb1 hM hn hK
      · exact rlay_8 B n₀ V c q base M fresh d A cc w e h hB hi ih' hf hw hfo' hb0 hb1 hM hn hK
      · exact rlay_9 B n₀ V c q base M fresh d A cc w e h hB hi ih' hf hw hfo' hb0 hb1 hM hn hK
      · exact rlay_10 B n₀ V c q base M fresh d A cc w e h hB hi ih' hf hw hfo' hb0 hb1 hM hn hK
end Go.Proofs.YtnpaplfdmpjfgaaDoor
