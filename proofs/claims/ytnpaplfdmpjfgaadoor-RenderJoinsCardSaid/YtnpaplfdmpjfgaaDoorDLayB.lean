/- The program's beside. -/
import Derived.Test.YtnpaplfdmpjfgaaDoorDPenN
import Derived.Test.YtnpaplfdmpjfgaaDoorDLayL
import Derived.Test.YtnpaplfdmpjfgaaDoorDTidyR
namespace Go.Proofs.YtnpaplfdmpjfgaaDoor
open Go.RowKit

theorem moved_below {B b : Nat} {w w' : World} {V V' : Value} {f : PF} {bs : List UInt8} (h : PenAt B w b V f bs) (hm : Moved b V w V' w') : Below B w w' :=
  hm.1.below h.Ble fun x hx => ⟨by have := h.base; omega, fun e => by have := (h.own.lt x e.symm).1; omega⟩
theorem sim_bind {o : Option Pen} {q q2 : Pen} {lg lg2 : Bool} {f : Pen → Option Pen} (h : Sim o q lg) (h2 : Sim (liveO lg (f q)) q2 lg2) : Sim (o.bind f) q2 lg2 := by
  cases o with
  | none =>
    simp only [Sim] at h
    subst h
    exact h2
  | some p =>
    obtain ⟨rfl, rfl⟩ := h
    exact h2
/-- What the program's lay does with a document, wherever it is. -/
def LaySays (d : Doc) : Prop := ∀ (B b n₀ : Nat) (V : Value) (c : Cfg) (q : Pen) (lg : Bool) (base M : Int) (fresh : Bool) (A : Option Addr) (cc : Nat) (w : World),
  PenAt B w b V (pfOf c q lg) q.out → Inv M q → (lg = false → d.void = false → FOk c q (base + d.lead0) fresh) → -M ≤ base → base ≤ M → M + 4000 * (d.wt : Int) - 2000 ≤ 1099511627776 → n₀ ≤ B → (A = none → cc = 0) → d.kids.length ≤ cc → KidsAt n₀ w d.kids A →
  Calls Tryd.prog 55 #[.pointer (some ⟨b, 0, none⟩), .agg #[.int .i64 d.kind, .string d.text, .int .i64 d.n, .slice A d.kids.length cc], .agg #[.int .i64 base, .bool fresh]] w (PLaid B b w V c (M + 4000 * (d.wt : Int) - 2000) (liveO lg (d.lay c q base fresh)))
/-- A row of documents in a block that the pen does not touch. -/
structure RowAt (n₀ : Nat) (w : World) (g o : Nat) (l : List DV) : Prop where
  cells : ∀ (k : Nat) (t : DV), l[k]? = some t → w.cell? ⟨g, o + k * 4, none⟩ = some (.int .i64 t.d.kind) ∧ w.cell? ⟨g, o + k * 4 + 1, none⟩ = some (.string t.d.text) ∧ w.cell? ⟨g, o + k * 4 + 2, none⟩ = some (.int .i64 t.d.n) ∧ w.cell? ⟨g, o + k * 4 + 3, none⟩ = some (.slice t.A t.d.kids.length t.c)
  ok : ∀ t ∈ l, t.Ok n₀ w
theorem RowAt.later {n₀ g o : Nat} {w w' : World} {l : List DV} (h : RowAt n₀ w g o l) (hg : w'.heap[g]? = w.heap[g]?) (hb : Below n₀ w w') : RowAt n₀ w' g o l := by
  have hc : ∀ j, w'.cell? ⟨g, j, none⟩ = w.cell? ⟨g, j, none⟩ := fun j => World.cell?_of_block hg
  refine ⟨fun k t ht => ?_, fun t ht => (h.ok t ht).below hb⟩
  rw [hc, hc, hc, hc]
  exact h.cells k t ht
theorem Box4.stay {T : Nat → Prop} {w w' : World} {b : Nat} {v0 v1 v2 v3 : Value} (h : Box4 w b v0 v1 v2 v3) (hs : Stay T w w') (hlt : b < w.heap.size) (ht : T b) : Box4 w' b v0 v1 v2 v3 := by
  have hk := hs.block b hlt ht
  exact ⟨(World.cell?_of_block (a := ⟨b, 0, none⟩) hk).trans h.c0, (World.cell?_of_block (a := ⟨b, 1, none⟩) hk).trans h.c1, (World.cell?_of_block (a := ⟨b, 2, none⟩) hk).trans h.c2, (World.cell?_of_block (a := ⟨b, 3, none⟩) hk).trans h.c3,
    (World.frozen?_of_block (a := ⟨b, 0, none⟩) hk).trans h.f0, (World.frozen?_of_block (a := ⟨b, 1, none⟩) hk).trans h.f1, (World.frozen?_of_block (a := ⟨b, 2, none⟩) hk).trans h.f2, (World.frozen?_of_block (a := ⟨b, 3, none⟩) hk).trans h.f3⟩
theorem wts_drop {ds : List Doc} {k : Nat} (h : k < ds.length) : wts (ds.take k) + ds[k].wt ≤ wts ds := by
  have := wts_take h
  have := wts_take_le ds (k + 1)
  omega
def midP (c : Cfg) (K : Int) (p : Pen) : Option Pen := if K == 4 then put c p blankB 0 false else some p

set_option maxRecDepth 100000 in
set_option maxHeartbeats 8000000 in
theorem pbeside_any (B b n₀ : Nat) (V : Value) (c : Cfg) (q : Pen) (base M : Int) (fresh : Bool) (K : Int) (bt : ByteArray) (hK : (K = 4 ∧ bt = blankB) ∨ (K = 3 ∧ bt = noB)) (A : Option Addr) (cc g o : Nat) (l : List DV) (ds : List Doc) (hl : l.map DV.d = ds) (w : World)
    (h : PenAt B w b V (pfOf c q false) q.out) (hi : Inv M q) (hsay : ∀ d ∈ ds, LaySays d ∧ d.void = false) (hf : ∀ x r, ds = x :: r → FOk c q (base + x.lead0) fresh) (hb0 : -M ≤ base) (hb1 : base ≤ M) (hM : M + 4000 * (wts ds : Int) ≤ 1099511627776) (hw : wts ds ≤ 16777216) (hn : n₀ ≤ B)
    (hA : l ≠ [] → A = some ⟨g, o, none⟩ ∧ (g < w.heap.size ∧ Apart b V g)) (_hcap : l.length ≤ cc) (hR : RowAt n₀ w g o l) :
    Calls Tryd.prog 70 #[.pointer (some ⟨b, 0, none⟩), .slice A l.length cc, .string bt, .agg #[.int .i64 base, .bool fresh]] w (PLaid B b w V c (M + 4000 * (wts ds : Int)) (besides c K ds true q base fresh)) := by
  have hll : l.length = ds.length := by rw [← hl, List.length_map]
  have hdl := len_le_wts ds
  have hget : ∀ (k : Nat) (hk : k < l.length) (hk' : k < ds.length), l[k].d = ds[k] := fun k hk hk' => by simp only [← hl, List.getElem_map]
  obtain ⟨s0, s1, hb0', hs0⟩ := spot_new w (.int .i64 base) (.bool fresh)
  have sf0 : (w.alloc (.cells #[.int .i64 base, .bool fresh] 70)).frozen? ⟨w.heap.size, 0, none⟩ = false := by simp
  have sf1 : (w.alloc (.cells #[.int .i64 base, .bool fresh] 70)).frozen? ⟨w.heap.size, 1, none⟩ = false := by simp
  obtain ⟨W, hW⟩ : ∃ W, w.alloc (.cells #[.int .i64 base, .bool fresh] 70) = W := ⟨_, rfl⟩
  rw [hW] at s0 s1 hb0' hs0 sf0 sf1
  have hlt := h.lt
  have hown := h.own.lt
  have HP := Lib.hid h
  have HI := Lib.hid hi
  have HF := Lib.hid hf
  have HSAY := Lib.hid hsay
  have HA := Lib.hid hA
  have HR := Lib.hid hR
  have HB := Lib.hid hb0'
  have HGET := Lib.hid hget
  have HOWN := Lib.hid hown
  have HLL := Lib.hid hll
  have HSP := Lib.hid (And.intro s0 (And.intro s1 (And.intro sf0 sf1)))
  have hne0 : V.ownBlock ≠ some w.heap.size := fun e => by have := (hown _ e).2; omega
  have HNE := Lib.hid hne0
  have hll' : ds.length = l.length := hll.symm
  have HLE := Lib.hid hll'
  have hdl' : l.length ≤ 16777216 := by omega
  clear h hi hf hsay hA hR hb0' hget hown hll s0 s1 sf0 sf1 hne0 hll' hdl hl
  go_enter Tryd.func70, Tryd.ntmps70
  go_wp2_with fail
  clear hW
  go_loopw [12] (fun i wr => ∃ (k : Nat) (Vk : Value) (qk : Pen) (lk : Bool) (ok : Option Pen) (bk : Int) (fk : Bool), k ≤ l.length ∧ i = .int .i64 k ∧ PenAt B wr b Vk (pfOf c qk lk) qk.out ∧ Moved b V w Vk wr ∧ Inv (M + 4000 * (wts (ds.take k) : Int)) qk ∧ Sim ok qk lk ∧
      besides c K ds true q base fresh = ok.bind (fun p => besides c K (ds.drop k) (k == 0) p base fresh) ∧ (k = 0 → ok = some q ∧ bk = base ∧ fk = fresh) ∧
      (wr.cell? ⟨w.heap.size, 0, none⟩ = some (.int .i64 bk) ∧ wr.cell? ⟨w.heap.size, 1, none⟩ = some (.bool fk) ∧ wr.frozen? ⟨w.heap.size, 0, none⟩ = false ∧ wr.frozen? ⟨w.heap.size, 1, none⟩ = false) ∧ Vk.ownBlock ≠ some w.heap.size ∧ w.heap.size < wr.heap.size) (fun i wr => l.length - (intOf i).toNat)
  case atStart =>
    exact ⟨0, V, q, false, some q, base, fresh, Nat.zero_le _, rfl, HP.out.later HB.out, Moved.of_below HB.out, by simpa [wts] using HI.out, ⟨rfl, rfl⟩, rfl, fun _ => ⟨rfl, rfl, rfl⟩, HSP.out, HNE.out, by omega⟩
  case round =>
    obtain ⟨k, Vk, qk, lk, ok, bk, fk, hk, rfl, hp, hm, hik, hsim, heq, hz, hsp, hnek, hszk⟩ := hrel
    have HPK := Lib.hid hp
    have HMK := Lib.hid hm
    have HIK := Lib.hid hik
    have HSIM := Lib.hid hsim
    have HEQ := Lib.hid heq
    have HZ := Lib.hid hz
    have HNK := Lib.hid hnek
    obtain ⟨s0, s1, sf0, sf1⟩ := hsp
    have hltk := hp.lt
    clear hp hm hik hsim heq hz hnek
    by_cases hlt' : k < l.length
    · have hd : k < ds.length := by rw [HLE.out]; exact hlt'
      obtain ⟨rfl, hg⟩ := HA.out (fun e => by rw [e] at hlt'; simp at hlt')
      have hrow := HR.out.later (w' := wr) (HMK.out.1.block g hg.1 hg.2) (below_le (moved_below HP.out HMK.out) hn)
      obtain ⟨h2, h3, h4, h5⟩ := hrow.cells k l[k] (List.getElem?_eq_getElem hlt')
      have hok := hrow.ok l[k] (List.getElem_mem hlt')
      have hwd := wts_drop hd
      rw [HGET.out k hlt' hd] at h2 h3 h4 h5
      have hAk : KidsAt n₀ wr ds[k].kids l[k].A := by have := hok.at_; rwa [HGET.out k hlt' hd] at this
      have hcapk : ds[k].kids.length ≤ l[k].c := by have := hok.cap; rwa [HGET.out k hlt' hd] at this
      have hnilk := hok.nil
      generalize hA'e : l[k].A = A' at h5 hAk hnilk
      generalize l[k].c = c' at h5 hcapk hnilk
      have HKK := Lib.hid hAk
      have hAw : KidsAt n₀ w ds[k].kids A' := by
        have := (HR.out.ok l[k] (List.getElem_mem hlt')).at_
        rw [HGET.out k hlt' hd] at this
        rw [← hA'e]
        exact this
      have HKW := Lib.hid hAw
      clear hAw hA'e
      have HNIL := Lib.hid hnilk
      have HSK := Lib.hid (HSAY.out ds[k] (List.getElem_mem hd))
      obtain ⟨hbx, hbw, hbs⟩ := box_new wr (.int .i64 ds[k].kind) (.string ds[k].text) (.int .i64 ds[k].n) (.slice A' ds[k].kids.length c')
      obtain ⟨W3, hW3⟩ : ∃ W3, wr.alloc (.cells #[.int .i64 ds[k].kind, .string ds[k].text, .int .i64 ds[k].n, .slice A' ds[k].kids.length c'] 24) = W3 := ⟨_, rfl⟩
      rw [hW3] at hbx hbw hbs
      have HBX := Lib.hid hbx
      have HBW := Lib.hid hbw
      have hp3 := HPK.out.later hbw
      have HP3 := Lib.hid hp3
      have hs3 : wr.heap.size < W3.heap.size := by omega
      have hown3 : Vk.ownBlock ≠ some wr.heap.size := fun e => by have := (HPK.out.own.lt _ e).2; omega
      have HO3 := Lib.hid hown3
      obtain ⟨z0, z1, z2, z3, _, _, _, _⟩ := hbx
      have t0 := (hbw.cell (p := ⟨w.heap.size, 0, none⟩) hszk).trans s0
      have t1 := (hbw.cell (p := ⟨w.heap.size, 1, none⟩) hszk).trans s1
      have u0 := (hbw.frozen (p := ⟨w.heap.size, 0, none⟩) hszk).trans sf0
      have u1 := (hbw.frozen (p := ⟨w.heap.size, 1, none⟩) hszk).trans sf1
      clear hrow hok hAk hnilk hbw hbs hp3 hown3
      have hwk : wts (ds.take k) + ds[k].wt ≤ wts ds := hwd
      have HTK := Lib.hid (wts_take hd)
      have hkb := kidsAt_below HKK.out (below_le HBW.out (by have := HPK.out.Ble; omega))
      by_cases hk0 : k = 0
      · have g1 : decide (0 < k) = false := decide_eq_false (by omega)
        have hsay0 : Calls Tryd.prog 55 #[.pointer (some ⟨b, 0, none⟩), .agg #[.int .i64 ds[k].kind, .string ds[k].text, .int .i64 ds[k].n, .slice A' ds[k].kids.length c'], .agg #[.int .i64 bk, .bool fk]] W3 (PLaid B b W3 Vk c (M + 4000 * (wts (ds.take k) : Int) + 4000 * (ds[k].wt : Int) - 2000) (liveO lk (ds[k].lay c qk bk fk))) := by
          obtain ⟨e1, e2, e3⟩ := HZ.out hk0
          refine HSK.out.1 B b n₀ Vk c qk lk bk (M + 4000 * (wts (ds.take k) : Int)) fk A' c' W3 HP3.out HIK.out (fun _ _ => ?_) (by omega) (by omega) (by omega) hn HNIL.out hcapk hkb
          have hs := HSIM.out
          rw [e1] at hs
          rw [hs.1, e2, e3]
          exact HF.out ds[k] (ds.drop (k + 1)) (by rw [← List.drop_eq_getElem_cons hd, hk0]; rfl)
        have HC := Lib.hid hsay0
        have HK0 := Lib.hid hk0
        clear hsay0 hk0
        go_wp2_with fail
        refine HC.out.mono ?_
        rintro e w4 ⟨rfl, V4, q4, l4, hp4, hm4, hi4, hsim4⟩
        have hnx : Next Vk wr V4 := next_trans (.inl rfl) HBW.out.size hm4.2
        have hn4 : V4.ownBlock ≠ some w.heap.size := by
          rcases hm4.2 with e | ⟨x, e, hx⟩
          · rw [e]; exact HNK.out
          · rw [e]; intro he; simp only [Option.some.injEq] at he; omega
        have hm4' : Moved b V w V4 w4 := HMK.out.trans ((Moved.of_below HBW.out).trans hm4)
        have hspA : Apart b Vk w.heap.size := ⟨by omega, fun e => HNK.out e.symm⟩
        have k0 := (hm4.1.cell ⟨w.heap.size, 0, none⟩ (by dsimp only; omega) hspA).trans t0
        have k1 := (hm4.1.cell ⟨w.heap.size, 1, none⟩ (by dsimp only; omega) hspA).trans t1
        have k2 := (World.frozen?_of_block (a := ⟨w.heap.size, 0, none⟩) (hm4.1.block _ (by dsimp only; omega) hspA)).trans u0
        have k3 := (World.frozen?_of_block (a := ⟨w.heap.size, 1, none⟩) (hm4.1.block _ (by dsimp only; omega) hspA)).trans u1
        have hsz4 := hm4.1.size
        have HP4 := Lib.hid hp4
        have HM4 := Lib.hid hm4'
        have HI4 := Lib.hid hi4
        have HS4 := Lib.hid (sim_bind (f := fun p => ds[k].lay c p bk fk) HSIM.out hsim4)
        clear z0 z1 z2 z3 t0 t1 u0 u1 h2 h3 h4 h5 s0 s1 sf0 sf1 hm4 hp4 hi4 hsim4 hnx hm4' hkb
        go_wp2
        go_roundw
        case rel =>
          refine ⟨k + 1, V4, q4, l4, _, bk, fk, by omega, by go_num, HP4.out, HM4.out, HI4.out.mono (by have := HTK.out; omega), HS4.out, ?_, fun e => absurd e (by omega), ⟨k0, k1, k2, k3⟩, hn4, by omega⟩
          obtain ⟨e1, e2, e3⟩ := HZ.out HK0.out
          rw [HEQ.out, e1, e2, e3, Option.bind_some, Option.bind_some]
          rw [List.drop_eq_getElem_cons hd, show (k == 0) = true by rw [HK0.out]; rfl, besides_first (HSAY.out ds[k] (List.getElem_mem hd)).2]
          rw [show (k + 1 == 0) = false from rfl]
        case measure => simp [intOf]; omega
      · have g1 : decide (0 < k) = true := decide_eq_true (by omega)
        have hR0 : KidsAt n₀ w ds[k].kids A' := HKW.out
        have HK0 := Lib.hid hk0
        clear hk0
        by_cases hbt : bt.size = 0
        · have e1 : bt.toList.isEmpty = true := by rw [isEmpty_size, hbt]; rfl
          have hmid : ∀ p, midP c K p = some p := fun p => by
            rcases hK with ⟨rfl, rfl⟩ | ⟨rfl, rfl⟩
            · exact absurd hbt (by decide)
            · rfl
          obtain ⟨Wm, hWm⟩ : ∃ Wm, W3 = Wm := ⟨_, rfl⟩
          obtain ⟨Vm, hVm⟩ : ∃ Vm, Vk = Vm := ⟨_, rfl⟩
          obtain ⟨qm, hqm⟩ : ∃ qm, qk = qm := ⟨_, rfl⟩
          obtain ⟨lm, hlm⟩ : ∃ lm, lk = lm := ⟨_, rfl⟩
          have hpm : PenAt B Wm b Vm (pfOf c qm lm) qm.out := by rw [← hWm, ← hVm, ← hqm, ← hlm]; exact HP3.out
          have hmm : Moved b V w Vm Wm := by rw [← hWm, ← hVm]; exact HMK.out.trans (Moved.of_below HBW.out)
          have him : Inv (M + 4000 * (wts (ds.take k) : Int) + 1) qm := by rw [← hqm]; exact HIK.out.mono (by omega)
          have hsm : Sim (ok.bind (midP c K)) qm lm := by rw [← hqm, ← hlm, show midP c K = some from funext hmid, show ok.bind some = ok by cases ok <;> rfl]; exact HSIM.out
          have hnm : Vm.ownBlock ≠ some w.heap.size := by rw [← hVm]; exact HNK.out
          have hnx : Vm.ownBlock ≠ some wr.heap.size := by rw [← hVm]; exact HO3.out
          have hxm : Box4 Wm wr.heap.size (.int .i64 ds[k].kind) (.string ds[k].text) (.int .i64 ds[k].n) (.slice A' ds[k].kids.length c') := by rw [← hWm]; exact HBX.out
          have hspm : Wm.cell? ⟨w.heap.size, 0, none⟩ = some (.int .i64 bk) ∧ Wm.cell? ⟨w.heap.size, 1, none⟩ = some (.bool fk) ∧ Wm.frozen? ⟨w.heap.size, 0, none⟩ = false ∧ Wm.frozen? ⟨w.heap.size, 1, none⟩ = false := by rw [← hWm]; exact ⟨t0, t1, u0, u1⟩
          have hsm3 : wr.heap.size < Wm.heap.size := by rw [← hWm]; exact hs3
          rw [hWm] at hW3
          rw [hWm] at t0 t1 u0 u1 z0 z1 z2 z3
          have hc5 := hpm.cells.c5
          simp only [pfOf] at hc5
          clear hbt hWm hVm hqm hlm
          go_upto_region 7 with (fail)
          clear hW3 z0 z1 z2 z3 t0 t1 u0 u1 h2 h3 h4 h5 s0 s1 sf0 sf1 hc5
          have hspA : Apart b Vm w.heap.size := ⟨by omega, fun e => hnm e.symm⟩
          have hxA : Apart b Vm wr.heap.size := ⟨by omega, fun e => hnx e.symm⟩
          obtain ⟨z0, z1, z2, z3, _, _, _, _⟩ := id hxm
          have HXM := Lib.hid hxm
          obtain ⟨t0, t1, u0, u1⟩ := hspm
          obtain ⟨-, -, -, -, c5, -, -, -, -, -, -⟩ := hpm.cells
          simp only [pfOf] at c5
          have HPM := Lib.hid hpm
          have HMM := Lib.hid hmm
          have HIM := Lib.hid him
          have HSM := Lib.hid hsm
          have HNM := Lib.hid hnm
          have HNX := Lib.hid hnx
          have hcn := him.col
          have hco := him.owed
          have hcM := him.colM
          clear hpm hmm him hsm hnm hnx hxm
          go_upto_region 8 with (fail)
          have kp : PenAt B ((Wm.setCell ⟨w.heap.size, 0, none⟩ (.int .i64 qm.col)).setCell ⟨w.heap.size, 1, none⟩ (.bool false)) b Vm (pfOf c qm lm) qm.out := by
            refine HPM.out.ofBlk ?_ fun x hx => ?_
            · exact (Below.heap_setCell _ _ _ _ (fun e => hspA.1 e.symm)).trans (Below.heap_setCell _ _ _ _ (fun e => hspA.1 e.symm))
            · have hne : x ≠ w.heap.size := fun e => HNM.out (by rw [hx, e])
              exact (Below.heap_setCell _ _ _ _ hne).trans (Below.heap_setCell _ _ _ _ hne)
          have km : Stay (Apart b V) w ((Wm.setCell ⟨w.heap.size, 0, none⟩ (.int .i64 qm.col)).setCell ⟨w.heap.size, 1, none⟩ (.bool false)) := by
            have h0 := HMM.out.1
            refine ⟨h0.os, h0.tape, h0.output, by simpa [World.setCell] using h0.size, fun x hx ht => ?_⟩
            have hne : x ≠ w.heap.size := by omega
            exact ((Below.heap_setCell _ _ _ _ hne).trans (Below.heap_setCell _ _ _ _ hne)).trans (h0.block x hx ht)
          have kx : Box4 ((Wm.setCell ⟨w.heap.size, 0, none⟩ (.int .i64 qm.col)).setCell ⟨w.heap.size, 1, none⟩ (.bool false)) wr.heap.size (.int .i64 ds[k].kind) (.string ds[k].text) (.int .i64 ds[k].n) (.slice A' ds[k].kids.length c') := by
            have hg : Wm.grownBy ((Wm.setCell ⟨w.heap.size, 0, none⟩ (.int .i64 qm.col)).setCell ⟨w.heap.size, 1, none⟩ (.bool false)) (some w.heap.size) := gb_trans (gb_set _ _ _ _) (gb_set _ _ _ _)
            exact HXM.out.grown hg (by omega) (by simp only [ne_eq, Option.some.injEq]; omega)
          have kc : ((Wm.setCell ⟨w.heap.size, 0, none⟩ (.int .i64 qm.col)).setCell ⟨w.heap.size, 1, none⟩ (.bool false)).cell? ⟨w.heap.size, 0, none⟩ = some (.int .i64 qm.col) ∧ ((Wm.setCell ⟨w.heap.size, 0, none⟩ (.int .i64 qm.col)).setCell ⟨w.heap.size, 1, none⟩ (.bool false)).cell? ⟨w.heap.size, 1, none⟩ = some (.bool false) ∧ ((Wm.setCell ⟨w.heap.size, 0, none⟩ (.int .i64 qm.col)).setCell ⟨w.heap.size, 1, none⟩ (.bool false)).frozen? ⟨w.heap.size, 0, none⟩ = false ∧ ((Wm.setCell ⟨w.heap.size, 0, none⟩ (.int .i64 qm.col)).setCell ⟨w.heap.size, 1, none⟩ (.bool false)).frozen? ⟨w.heap.size, 1, none⟩ = false := by
            refine ⟨?_, ?_, ?_, ?_⟩ <;> go_simp
          have ks : ((Wm.setCell ⟨w.heap.size, 0, none⟩ (.int .i64 qm.col)).setCell ⟨w.heap.size, 1, none⟩ (.bool false)).heap.size = Wm.heap.size := by simp [World.setCell]
          generalize ((Wm.setCell ⟨w.heap.size, 0, none⟩ (.int .i64 qm.col)).setCell ⟨w.heap.size, 1, none⟩ (.bool false)) = W5 at kp km kx kc ks ⊢
          have hkb5 := kidsAt_below hR0 (below_le (km.below HP.out.Ble fun x hx => ⟨by have := HP.out.base; omega, fun e => by have := (HOWN.out x e.symm).1; omega⟩) hn)
          have HC := Lib.hid (HSK.out.1 B b n₀ Vm c qm lm qm.col (M + 4000 * (wts (ds.take k) : Int) + 1) false A' c' W5 kp HIM.out (fun _ _ => fok_not _ _ _) (by omega) (by omega) (by have := HTK.out; omega) hn HNIL.out hcapk hkb5)
          have hK5 := Lib.hid (And.intro kp (And.intro km ks))
          obtain ⟨t0, t1, u0, u1⟩ := kc
          obtain ⟨z0, z1, z2, z3, _, _, _, _⟩ := kx
          have hks5 : w.heap.size < W5.heap.size := by omega
          clear kp km ks hkb5 c5
          go_wp2_with fail
          refine HC.out.mono ?_
          rintro e w6 ⟨rfl, V6, q6, l6, hp6, hm6, hi6, hsim6⟩
          have hn6 : V6.ownBlock ≠ some w.heap.size := by
            rcases hm6.2 with e | ⟨x, e, hx⟩
            · rw [e]; exact HNM.out
            · rw [e]; intro he; simp only [Option.some.injEq] at he; omega
          have hm6' : Moved b V w V6 w6 := Moved.trans (V1 := Vm) (w1 := W5) ⟨hK5.out.2.1, HMM.out.2⟩ hm6
          have k0 := (hm6.1.cell ⟨w.heap.size, 0, none⟩ (by dsimp only; omega) hspA).trans t0
          have k1 := (hm6.1.cell ⟨w.heap.size, 1, none⟩ (by dsimp only; omega) hspA).trans t1
          have k2 := (World.frozen?_of_block (a := ⟨w.heap.size, 0, none⟩) (hm6.1.block _ (by dsimp only; omega) hspA)).trans u0
          have k3 := (World.frozen?_of_block (a := ⟨w.heap.size, 1, none⟩) (hm6.1.block _ (by dsimp only; omega) hspA)).trans u1
          have hsz6 := hm6.1.size
          have HP6 := Lib.hid hp6
          have HM6 := Lib.hid hm6'
          have HI6 := Lib.hid hi6
          have HS6 := Lib.hid (sim_bind (f := fun p => ds[k].lay c p p.col false) HSM.out hsim6)
          clear z0 z1 z2 z3 t0 t1 u0 u1 hm6 hp6 hi6 hsim6 hm6'
          go_wp2
          go_roundw
          case rel =>
            refine ⟨k + 1, V6, q6, l6, _, qm.col, false, by omega, by go_num, HP6.out, HM6.out, HI6.out.mono (by have := HTK.out; omega), HS6.out, ?_, fun e => absurd e (by omega), ⟨k0, k1, k2, k3⟩, hn6, by omega⟩
            rw [HEQ.out, List.drop_eq_getElem_cons hd, show (k == 0) = false by simpa using HK0.out, Option.bind_assoc, Option.bind_assoc]
            congr 1
            funext p
            rw [besides_next (HSAY.out ds[k] (List.getElem_mem hd)).2]
            rfl
          case measure => simp [intOf]; omega
        · have e1 : bt.toList.isEmpty = false := by rw [isEmpty_size]; simpa using hbt
          have hmid : midP c K = fun p => put c p bt 0 false := by
            funext p
            rcases hK with ⟨rfl, rfl⟩ | ⟨rfl, rfl⟩
            · rfl
            · exact absurd rfl hbt
          have hbs : bt.size ≤ 1 := by
            rcases hK with ⟨rfl, rfl⟩ | ⟨rfl, rfl⟩ <;> decide
          have HT := Lib.hid (ptext_any B b Vk c qk lk bt 0 (M + 4000 * (wts (ds.take k) : Int)) false W3 HP3.out HIK.out (fok_not _ _ _) (by omega) (by omega) (by omega))
          clear hbt
          go_wp2_with fail
          clear hW3
          refine HT.out.mono ?_
          rintro e Wm ⟨rfl, Vm, qm, lm, hpm, hm4, hi4, hs4⟩
          have hspA0 : Apart b Vk w.heap.size := ⟨by omega, fun e => HNK.out e.symm⟩
          have hxA0 : Apart b Vk wr.heap.size := ⟨by omega, fun e => HO3.out e.symm⟩
          have hmm : Moved b V w Vm Wm := HMK.out.trans ((Moved.of_below HBW.out).trans hm4)
          have him : Inv (M + 4000 * (wts (ds.take k) : Int) + 1) qm := hi4.mono (by omega)
          have hsm : Sim (ok.bind (midP c K)) qm lm := by rw [hmid]; exact sim_bind (f := fun p => put c p bt 0 false) HSIM.out hs4
          have hnm : Vm.ownBlock ≠ some w.heap.size := by
            rcases hm4.2 with e | ⟨x, e, hx⟩
            · rw [e]; exact HNK.out
            · rw [e]; intro he; simp only [Option.some.injEq] at he; omega
          have hnx : Vm.ownBlock ≠ some wr.heap.size := by
            rcases hm4.2 with e | ⟨x, e, hx⟩
            · rw [e]; exact HO3.out
            · rw [e]; intro he; simp only [Option.some.injEq] at he; omega
          have hxm : Box4 Wm wr.heap.size (.int .i64 ds[k].kind) (.string ds[k].text) (.int .i64 ds[k].n) (.slice A' ds[k].kids.length c') := HBX.out.stay hm4.1 hs3 hxA0
          have hspm : Wm.cell? ⟨w.heap.size, 0, none⟩ = some (.int .i64 bk) ∧ Wm.cell? ⟨w.heap.size, 1, none⟩ = some (.bool fk) ∧ Wm.frozen? ⟨w.heap.size, 0, none⟩ = false ∧ Wm.frozen? ⟨w.heap.size, 1, none⟩ = false :=
            ⟨(hm4.1.cell ⟨w.heap.size, 0, none⟩ (by dsimp only; omega) hspA0).trans t0, (hm4.1.cell ⟨w.heap.size, 1, none⟩ (by dsimp only; omega) hspA0).trans t1, (World.frozen?_of_block (a := ⟨w.heap.size, 0, none⟩) (hm4.1.block _ (by dsimp only; omega) hspA0)).trans u0, (World.frozen?_of_block (a := ⟨w.heap.size, 1, none⟩) (hm4.1.block _ (by dsimp only; omega) hspA0)).trans u1⟩
          have hsm3 : wr.heap.size < Wm.heap.size := by have := hm4.1.size; omega
          clear z0 z1 z2 z3 t0 t1 u0 u1 h2 h3 h4 h5 s0 s1 sf0 sf1 hm4 hi4 hs4
          have hspA : Apart b Vm w.heap.size := ⟨by omega, fun e => hnm e.symm⟩
          have hxA : Apart b Vm wr.heap.size := ⟨by omega, fun e => hnx e.symm⟩
          obtain ⟨z0, z1, z2, z3, _, _, _, _⟩ := id hxm
          have HXM := Lib.hid hxm
          obtain ⟨t0, t1, u0, u1⟩ := hspm
          obtain ⟨-, -, -, -, c5, -, -, -, -, -, -⟩ := hpm.cells
          simp only [pfOf] at c5
          have HPM := Lib.hid hpm
          have HMM := Lib.hid hmm
          have HIM := Lib.hid him
          have HSM := Lib.hid hsm
          have HNM := Lib.hid hnm
          have HNX := Lib.hid hnx
          have hcn := him.col
          have hco := him.owed
          have hcM := him.colM
          clear hpm hmm him hsm hnm hnx hxm
          go_upto_region 8 with (fail)
          have kp : PenAt B ((Wm.setCell ⟨w.heap.size, 0, none⟩ (.int .i64 qm.col)).setCell ⟨w.heap.size, 1, none⟩ (.bool false)) b Vm (pfOf c qm lm) qm.out := by
            refine HPM.out.ofBlk ?_ fun x hx => ?_
            · exact (Below.heap_setCell _ _ _ _ (fun e => hspA.1 e.symm)).trans (Below.heap_setCell _ _ _ _ (fun e => hspA.1 e.symm))
            · have hne : x ≠ w.heap.size := fun e => HNM.out (by rw [hx, e])
              exact (Below.heap_setCell _ _ _ _ hne).trans (Below.heap_setCell _ _ _ _ hne)
          have km : Stay (Apart b V) w ((Wm.setCell ⟨w.heap.size, 0, none⟩ (.int .i64 qm.col)).setCell ⟨w.heap.size, 1, none⟩ (.bool false)) := by
            have h0 := HMM.out.1
            refine ⟨h0.os, h0.tape, h0.output, by simpa [World.setCell] using h0.size, fun x hx ht => ?_⟩
            have hne : x ≠ w.heap.size := by omega
            exact ((Below.heap_setCell _ _ _ _ hne).trans (Below.heap_setCell _ _ _ _ hne)).trans (h0.block x hx ht)
          have kx : Box4 ((Wm.setCell ⟨w.heap.size, 0, none⟩ (.int .i64 qm.col)).setCell ⟨w.heap.size, 1, none⟩ (.bool false)) wr.heap.size (.int .i64 ds[k].kind) (.string ds[k].text) (.int .i64 ds[k].n) (.slice A' ds[k].kids.length c') := by
            have hg : Wm.grownBy ((Wm.setCell ⟨w.heap.size, 0, none⟩ (.int .i64 qm.col)).setCell ⟨w.heap.size, 1, none⟩ (.bool false)) (some w.heap.size) := gb_trans (gb_set _ _ _ _) (gb_set _ _ _ _)
            exact HXM.out.grown hg (by omega) (by simp only [ne_eq, Option.some.injEq]; omega)
          have kc : ((Wm.setCell ⟨w.heap.size, 0, none⟩ (.int .i64 qm.col)).setCell ⟨w.heap.size, 1, none⟩ (.bool false)).cell? ⟨w.heap.size, 0, none⟩ = some (.int .i64 qm.col) ∧ ((Wm.setCell ⟨w.heap.size, 0, none⟩ (.int .i64 qm.col)).setCell ⟨w.heap.size, 1, none⟩ (.bool false)).cell? ⟨w.heap.size, 1, none⟩ = some (.bool false) ∧ ((Wm.setCell ⟨w.heap.size, 0, none⟩ (.int .i64 qm.col)).setCell ⟨w.heap.size, 1, none⟩ (.bool false)).frozen? ⟨w.heap.size, 0, none⟩ = false ∧ ((Wm.setCell ⟨w.heap.size, 0, none⟩ (.int .i64 qm.col)).setCell ⟨w.heap.size, 1, none⟩ (.bool false)).frozen? ⟨w.heap.size, 1, none⟩ = false := by
            refine ⟨?_, ?_, ?_, ?_⟩ <;> go_simp
          have ks : ((Wm.setCell ⟨w.heap.size, 0, none⟩ (.int .i64 qm.col)).setCell ⟨w.heap.size, 1, none⟩ (.bool false)).heap.size = Wm.heap.size := by simp [World.setCell]
          generalize ((Wm.setCell ⟨w.heap.size, 0, none⟩ (.int .i64 qm.col)).setCell ⟨w.heap.size, 1, none⟩ (.bool false)) = W5 at kp km kx kc ks ⊢
          have hkb5 := kidsAt_below hR0 (below_le (km.below HP.out.Ble fun x hx => ⟨by have := HP.out.base; omega, fun e => by have := (HOWN.out x e.symm).1; omega⟩) hn)
          have HC := Lib.hid (HSK.out.1 B b n₀ Vm c qm lm qm.col (M + 4000 * (wts (ds.take k) : Int) + 1) false A' c' W5 kp HIM.out (fun _ _ => fok_not _ _ _) (by omega) (by omega) (by have := HTK.out; omega) hn HNIL.out hcapk hkb5)
          have hK5 := Lib.hid (And.intro kp (And.intro km ks))
          obtain ⟨t0, t1, u0, u1⟩ := kc
          obtain ⟨z0, z1, z2, z3, _, _, _, _⟩ := kx
          have hks5 : w.heap.size < W5.heap.size := by omega
          clear kp km ks hkb5 c5
          go_wp2_with fail
          refine HC.out.mono ?_
          rintro e w6 ⟨rfl, V6, q6, l6, hp6, hm6, hi6, hsim6⟩
          have hn6 : V6.ownBlock ≠ some w.heap.size := by
            rcases hm6.2 with e | ⟨x, e, hx⟩
            · rw [e]; exact HNM.out
            · rw [e]; intro he; simp only [Option.some.injEq] at he; omega
          have hm6' : Moved b V w V6 w6 := Moved.trans (V1 := Vm) (w1 := W5) ⟨hK5.out.2.1, HMM.out.2⟩ hm6
          have k0 := (hm6.1.cell ⟨w.heap.size, 0, none⟩ (by dsimp only; omega) hspA).trans t0
          have k1 := (hm6.1.cell ⟨w.heap.size, 1, none⟩ (by dsimp only; omega) hspA).trans t1
          have k2 := (World.frozen?_of_block (a := ⟨w.heap.size, 0, none⟩) (hm6.1.block _ (by dsimp only; omega) hspA)).trans u0
          have k3 := (World.frozen?_of_block (a := ⟨w.heap.size, 1, none⟩) (hm6.1.block _ (by dsimp only; omega) hspA)).trans u1
          have hsz6 := hm6.1.size
          have HP6 := Lib.hid hp6
          have HM6 := Lib.hid hm6'
          have HI6 := Lib.hid hi6
          have HS6 := Lib.hid (sim_bind (f := fun p => ds[k].lay c p p.col false) HSM.out hsim6)
          clear z0 z1 z2 z3 t0 t1 u0 u1 hm6 hp6 hi6 hsim6 hm6'
          go_wp2
          go_roundw
          case rel =>
            refine ⟨k + 1, V6, q6, l6, _, qm.col, false, by omega, by go_num, HP6.out, HM6.out, HI6.out.mono (by have := HTK.out; omega), HS6.out, ?_, fun e => absurd e (by omega), ⟨k0, k1, k2, k3⟩, hn6, by omega⟩
            rw [HEQ.out, List.drop_eq_getElem_cons hd, show (k == 0) = false by simpa using HK0.out, Option.bind_assoc, Option.bind_assoc]
            congr 1
            funext p
            rw [besides_next (HSAY.out ds[k] (List.getElem_mem hd)).2]
            rfl
          case measure => simp [intOf]; omega
    · obtain rfl : k = l.length := by omega
      go_wp2
      go_end0
      refine ⟨rfl, Vk, qk, lk, HPK.out, HMK.out, HIK.out.mono (by have := wts_take_le ds l.length; omega), ?_⟩
      rw [HEQ.out, show ds.drop l.length = [] by rw [← HLE.out, List.drop_length]]
      rw [show (ok.bind fun p => besides c K [] (l.length == 0) p base fresh) = ok by cases ok <;> rfl]
      exact HSIM.out
end Go.Proofs.YtnpaplfdmpjfgaaDoor
