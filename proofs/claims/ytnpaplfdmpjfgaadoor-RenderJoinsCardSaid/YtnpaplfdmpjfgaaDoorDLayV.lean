/- The program's below. -/
import Derived.Test.YtnpaplfdmpjfgaaDoorDLayB
namespace Go.Proofs.YtnpaplfdmpjfgaaDoor
open Go.RowKit

/-- Lead, of a document that may be. -/
theorem plead_any (d : Doc) (A : Option Addr) (c : Nat) (w : World) (hf : d.form = true) (hw : d.wt ≤ 16777216) (hK : KidsAt w.heap.size w d.kids A) :
    Calls Tryd.prog 23 #[.agg #[.int .i64 d.kind, .string d.text, .int .i64 d.n, .slice A d.kids.length c]] w fun e w' => e = .returned (.int .i64 d.lead0) ∧ Below w.heap.size w w' := by
  have h := lead_any d.wt d A c w (Nat.le_refl _) hw hK
  rw [lead_plain hf hw] at h
  exact h
def nextP (c : Cfg) (ov : Bool) (base lead : Int) (p : Pen) : Option Pen := if shares c ov p base lead then some p else endl c p

set_option maxRecDepth 100000 in
set_option maxHeartbeats 8000000 in
theorem pbelow_false (B b n₀ : Nat) (V : Value) (c : Cfg) (q : Pen) (base M : Int) (fresh : Bool) (A : Option Addr) (cc g o : Nat) (l : List DV) (ds : List Doc) (hl : l.map DV.d = ds) (w : World)
    (h : PenAt B w b V (pfOf c q false) q.out) (hi : Inv M q) (hsay : ∀ d ∈ ds, LaySays d ∧ d.void = false ∧ d.form = true) (hf : ∀ x r, ds = x :: r → FOk c q (base + x.lead0) fresh) (hb0 : -M ≤ base) (hb1 : base ≤ M) (hM : M + 4000 * (wts ds : Int) ≤ 1099511627776) (hw : wts ds ≤ 16777216) (hn : n₀ ≤ B)
    (hA : l ≠ [] → A = some ⟨g, o, none⟩ ∧ (g < w.heap.size ∧ Apart b V g)) (_hcap : l.length ≤ cc) (hR : RowAt n₀ w g o l) :
    Calls Tryd.prog 72 #[.pointer (some ⟨b, 0, none⟩), .slice A l.length cc, .bool false, .agg #[.int .i64 base, .bool fresh]] w (PLaid B b w V c (M + 4000 * (wts ds : Int)) (belows c false ds true q base fresh)) := by
  have hll : l.length = ds.length := by rw [← hl, List.length_map]
  have hdl := len_le_wts ds
  have hget : ∀ (k : Nat) (hk : k < l.length) (hk' : k < ds.length), l[k].d = ds[k] := fun k hk hk' => by simp only [← hl, List.getElem_map]
  obtain ⟨s0, s1, hb0', hs0⟩ := spot_new w (.int .i64 base) (.bool fresh)
  have sf0 : (w.alloc (.cells #[.int .i64 base, .bool fresh] 70)).frozen? ⟨w.heap.size, 0, none⟩ = false := by simp
  have sf1 : (w.alloc (.cells #[.int .i64 base, .bool fresh] 70)).frozen? ⟨w.heap.size, 1, none⟩ = false := by simp
  obtain ⟨W, hW⟩ : ∃ W, w.alloc (.cells #[.int .i64 base, .bool fresh] 70) = W := ⟨_, rfl⟩
  rw [hW] at s0 s1 hb0' hs0 sf0 sf1
  have hlt := h.lt
  have hown := h.own.lt
  have HP := Lib.hid h
  have HI := Lib.hid hi
  have HF := Lib.hid hf
  have HSAY := Lib.hid hsay
  have HA := Lib.hid hA
  have HR := Lib.hid hR
  have HB := Lib.hid hb0'
  have HGET := Lib.hid hget
  have HOWN := Lib.hid hown
  have HLL := Lib.hid hll
  have HSP := Lib.hid (And.intro s0 (And.intro s1 (And.intro sf0 sf1)))
  have hne0 : V.ownBlock ≠ some w.heap.size := fun e => by have := (hown _ e).2; omega
  have HNE := Lib.hid hne0
  have hll' : ds.length = l.length := hll.symm
  have HLE := Lib.hid hll'
  have hdl' : l.length ≤ 16777216 := by omega
  clear h hi hf hsay hA hR hb0' hget hown hll s0 s1 sf0 sf1 hne0 hll' hdl hl
  go_enter Tryd.func72, Tryd.ntmps72
  go_wp2_with fail
  clear hW
  go_loopw [13] (fun i wr => ∃ (k : Nat) (Vk : Value) (qk : Pen) (lk : Bool) (ok : Option Pen) (fk : Bool), k ≤ l.length ∧ i = .int .i64 k ∧ PenAt B wr b Vk (pfOf c qk lk) qk.out ∧ Moved b V w Vk wr ∧ Inv (M + 4000 * (wts (ds.take k) : Int)) qk ∧ Sim ok qk lk ∧
      belows c false ds true q base fresh = ok.bind (fun p => belows c false (ds.drop k) (k == 0) p base fresh) ∧ (k = 0 → ok = some q ∧ fk = fresh) ∧
      (wr.cell? ⟨w.heap.size, 0, none⟩ = some (.int .i64 base) ∧ wr.cell? ⟨w.heap.size, 1, none⟩ = some (.bool fk) ∧ wr.frozen? ⟨w.heap.size, 0, none⟩ = false ∧ wr.frozen? ⟨w.heap.size, 1, none⟩ = false) ∧ Vk.ownBlock ≠ some w.heap.size ∧ w.heap.size < wr.heap.size) (fun i wr => l.length - (intOf i).toNat)
  case atStart =>
    exact ⟨0, V, q, false, some q, fresh, Nat.zero_le _, rfl, HP.out.later HB.out, Moved.of_below HB.out, by simpa [wts] using HI.out, ⟨rfl, rfl⟩, rfl, fun _ => ⟨rfl, rfl⟩, HSP.out, HNE.out, by omega⟩
  case round =>
    obtain ⟨k, Vk, qk, lk, ok, fk, hk, rfl, hp, hm, hik, hsim, heq, hz, hsp, hnek, hszk⟩ := hrel
    have HPK := Lib.hid hp
    have HMK := Lib.hid hm
    have HIK := Lib.hid hik
    have HSIM := Lib.hid hsim
    have HEQ := Lib.hid heq
    have HZ := Lib.hid hz
    have HNK := Lib.hid hnek
    obtain ⟨s0, s1, sf0, sf1⟩ := hsp
    have hltk := hp.lt
    clear hp hm hik hsim heq hz hnek
    by_cases hlt' : k < l.length
    · have hd : k < ds.length := by rw [HLE.out]; exact hlt'
      obtain ⟨rfl, hg⟩ := HA.out (fun e => by rw [e] at hlt'; simp at hlt')
      have hrow := HR.out.later (w' := wr) (HMK.out.1.block g hg.1 hg.2) (below_le (moved_below HP.out HMK.out) hn)
      obtain ⟨h2, h3, h4, h5⟩ := hrow.cells k l[k] (List.getElem?_eq_getElem hlt')
      have hok := hrow.ok l[k] (List.getElem_mem hlt')
      have hwd := wts_drop hd
      rw [HGET.out k hlt' hd] at h2 h3 h4 h5
      have hAk : KidsAt n₀ wr ds[k].kids l[k].A := by have := hok.at_; rwa [HGET.out k hlt' hd] at this
      have hcapk : ds[k].kids.length ≤ l[k].c := by have := hok.cap; rwa [HGET.out k hlt' hd] at this
      have hnilk := hok.nil
      generalize hA'e : l[k].A = A' at h5 hAk hnilk
      generalize l[k].c = c' at h5 hcapk hnilk
      have HKK := Lib.hid hAk
      have hAw : KidsAt n₀ w ds[k].kids A' := by
        have := (HR.out.ok l[k] (List.getElem_mem hlt')).at_
        rw [HGET.out k hlt' hd] at this
        rw [← hA'e]
        exact this
      have HKW := Lib.hid hAw
      clear hAw hA'e
      have HNIL := Lib.hid hnilk
      have HSK := Lib.hid (HSAY.out ds[k] (List.getElem_mem hd))
      obtain ⟨hbx, hbw, hbs⟩ := box_new wr (.int .i64 ds[k].kind) (.string ds[k].text) (.int .i64 ds[k].n) (.slice A' ds[k].kids.length c')
      obtain ⟨W3, hW3⟩ : ∃ W3, wr.alloc (.cells #[.int .i64 ds[k].kind, .string ds[k].text, .int .i64 ds[k].n, .slice A' ds[k].kids.length c'] 24) = W3 := ⟨_, rfl⟩
      rw [hW3] at hbx hbw hbs
      have HBX := Lib.hid hbx
      have HBW := Lib.hid hbw
      have hp3 := HPK.out.later hbw
      have HP3 := Lib.hid hp3
      have hs3 : wr.heap.size < W3.heap.size := by omega
      have hown3 : Vk.ownBlock ≠ some wr.heap.size := fun e => by have := (HPK.out.own.lt _ e).2; omega
      have HO3 := Lib.hid hown3
      obtain ⟨z0, z1, z2, z3, _, _, _, _⟩ := hbx
      have t0 := (hbw.cell (p := ⟨w.heap.size, 0, none⟩) hszk).trans s0
      have t1 := (hbw.cell (p := ⟨w.heap.size, 1, none⟩) hszk).trans s1
      have u0 := (hbw.frozen (p := ⟨w.heap.size, 0, none⟩) hszk).trans sf0
      have u1 := (hbw.frozen (p := ⟨w.heap.size, 1, none⟩) hszk).trans sf1
      clear hrow hok hAk hnilk hbw hbs hp3 hown3
      have hwk : wts (ds.take k) + ds[k].wt ≤ wts ds := hwd
      have HTK := Lib.hid (wts_take hd)
      have hkb := kidsAt_below HKK.out (below_le HBW.out (by have := HPK.out.Ble; omega))
      by_cases hk0 : k = 0
      · have g1 : decide (0 < k) = false := decide_eq_false (by omega)
        have hsay0 : Calls Tryd.prog 55 #[.pointer (some ⟨b, 0, none⟩), .agg #[.int .i64 ds[k].kind, .string ds[k].text, .int .i64 ds[k].n, .slice A' ds[k].kids.length c'], .agg #[.int .i64 base, .bool fk]] W3 (PLaid B b W3 Vk c (M + 4000 * (wts (ds.take k) : Int) + 4000 * (ds[k].wt : Int) - 2000) (liveO lk (ds[k].lay c qk base fk))) := by
          obtain ⟨e1, e2⟩ := HZ.out hk0
          refine HSK.out.1 B b n₀ Vk c qk lk base (M + 4000 * (wts (ds.take k) : Int)) fk A' c' W3 HP3.out HIK.out (fun _ _ => ?_) (by omega) (by omega) (by omega) hn HNIL.out hcapk hkb
          have hs := HSIM.out
          rw [e1] at hs
          rw [hs.1, e2]
          exact HF.out ds[k] (ds.drop (k + 1)) (by rw [← List.drop_eq_getElem_cons hd, hk0]; rfl)
        have HC := Lib.hid hsay0
        have HK0 := Lib.hid hk0
        clear hsay0 hk0
        go_wp2_with fail
        refine HC.out.mono ?_
        rintro e w4 ⟨rfl, V4, q4, l4, hp4, hm4, hi4, hsim4⟩
        have hnx : Next Vk wr V4 := next_trans (.inl rfl) HBW.out.size hm4.2
        have hn4 : V4.ownBlock ≠ some w.heap.size := by
          rcases hm4.2 with e | ⟨x, e, hx⟩
          · rw [e]; exact HNK.out
          · rw [e]; intro he; simp only [Option.some.injEq] at he; omega
        have hm4' : Moved b V w V4 w4 := HMK.out.trans ((Moved.of_below HBW.out).trans hm4)
        have hspA : Apart b Vk w.heap.size := ⟨by omega, fun e => HNK.out e.symm⟩
        have k0 := (hm4.1.cell ⟨w.heap.size, 0, none⟩ (by dsimp only; omega) hspA).trans t0
        have k1 := (hm4.1.cell ⟨w.heap.size, 1, none⟩ (by dsimp only; omega) hspA).trans t1
        have k2 := (World.frozen?_of_block (a := ⟨w.heap.size, 0, none⟩) (hm4.1.block _ (by dsimp only; omega) hspA)).trans u0
        have k3 := (World.frozen?_of_block (a := ⟨w.heap.size, 1, none⟩) (hm4.1.block _ (by dsimp only; omega) hspA)).trans u1
        have hsz4 := hm4.1.size
        have HP4 := Lib.hid hp4
        have HM4 := Lib.hid hm4'
        have HI4 := Lib.hid hi4
        have HS4 := Lib.hid (sim_bind (f := fun p => ds[k].lay c p base fk) HSIM.out hsim4)
        clear z0 z1 z2 z3 t0 t1 u0 u1 h2 h3 h4 h5 s0 s1 sf0 sf1 hm4 hp4 hi4 hsim4 hnx hm4' hkb
        go_wp2
        go_roundw
        case rel =>
          refine ⟨k + 1, V4, q4, l4, _, fk, by omega, by go_num, HP4.out, HM4.out, HI4.out.mono (by have := HTK.out; omega), HS4.out, ?_, fun e => absurd e (by omega), ⟨k0, k1, k2, k3⟩, hn4, by omega⟩
          obtain ⟨e1, e2⟩ := HZ.out HK0.out
          rw [HEQ.out, e1, e2, Option.bind_some, Option.bind_some]
          rw [List.drop_eq_getElem_cons hd, show (k == 0) = true by rw [HK0.out]; rfl, belows_first (HSAY.out ds[k] (List.getElem_mem hd)).2.1]
          rw [show (k + 1 == 0) = false from rfl]
        case measure => simp [intOf]; omega
      · have g1 : decide (0 < k) = true := decide_eq_true (by omega)
        have hR0 : KidsAt n₀ w ds[k].kids A' := HKW.out
        have HK0 := Lib.hid hk0
        have hp3 := HP3.out
        have hxs := HBX.out
        have hnk := HNK.out
        have hmk := HMK.out.trans (Moved.of_below HBW.out)
        clear hk0
        go_upto_region 6 with (fail)
        clear hW3 z0 z1 z2 z3 h2 h3 h4 h5 s0 s1 sf0 sf1
        obtain ⟨W4, hW4, kp, km, kx, kc, ks⟩ : ∃ W4, W3.setCell ⟨w.heap.size, 1, none⟩ (.bool true) = W4 ∧ PenAt B W4 b Vk (pfOf c qk lk) qk.out ∧ Moved b V w Vk W4 ∧ Box4 W4 wr.heap.size (.int .i64 ds[k].kind) (.string ds[k].text) (.int .i64 ds[k].n) (.slice A' ds[k].kids.length c') ∧ (W4.cell? ⟨w.heap.size, 0, none⟩ = some (.int .i64 base) ∧ W4.cell? ⟨w.heap.size, 1, none⟩ = some (.bool true) ∧ W4.frozen? ⟨w.heap.size, 0, none⟩ = false ∧ W4.frozen? ⟨w.heap.size, 1, none⟩ = false) ∧ W4.heap.size = W3.heap.size := by
          refine ⟨_, rfl, ?_, ⟨?_, hmk.2⟩, ?_, ?_, by simp [World.setCell]⟩
          · refine hp3.ofBlk ?_ fun x hx => ?_
            · exact Below.heap_setCell _ _ _ _ (by dsimp only; omega)
            · exact Below.heap_setCell _ _ _ _ (fun e => hnk (by rw [hx, e]))
          · have h0 := hmk.1
            refine ⟨h0.os, h0.tape, h0.output, by simpa [World.setCell] using h0.size, fun x hx ht => ?_⟩
            exact (Below.heap_setCell _ _ _ _ (by dsimp only; omega)).trans (h0.block x hx ht)
          · exact hxs.grown (gb_set _ _ _ _) (by omega) (by simp only [ne_eq, Option.some.injEq]; omega)
          · refine ⟨?_, ?_, ?_, ?_⟩ <;> go_simp
        rw [hW4]
        clear hW4 t0 t1 u0 u1 hp3 hxs hnk hmk
        have HK4 := Lib.hid (And.intro kp (And.intro km (And.intro kx (And.intro kc ks))))
        obtain ⟨z0, z1, z2, z3, _, _, _, _⟩ := kx
        obtain ⟨t0, t1, u0, u1⟩ := kc
        obtain ⟨-, -, -, c4, c5, -, -, -, -, -, -⟩ := (show PenC W4 b Vk (pfOf c qk lk) from kp.cells)
        simp only [pfOf] at c4 c5
        have hs4 : wr.heap.size < W4.heap.size := by omega
        clear kp km ks
        have HSH := Lib.hid (show shares c false qk base ds[k].lead0 = false from rfl)
        go_quiet (fail)
        have HW : Hid (PenAt B (W4.drewN nq) b Vk (pfOf c qk lk) qk.out) ∧ Hid (Moved b V w Vk (W4.drewN nq)) ∧ Hid (Box4 (W4.drewN nq) wr.heap.size (.int .i64 ds[k].kind) (.string ds[k].text) (.int .i64 ds[k].n) (.slice A' ds[k].kids.length c')) ∧ ((W4.drewN nq).cell? ⟨w.heap.size, 0, none⟩ = some (.int .i64 base) ∧ (W4.drewN nq).cell? ⟨w.heap.size, 1, none⟩ = some (.bool true) ∧ (W4.drewN nq).frozen? ⟨w.heap.size, 0, none⟩ = false ∧ (W4.drewN nq).frozen? ⟨w.heap.size, 1, none⟩ = false) ∧ wr.heap.size < (W4.drewN nq).heap.size ∧ w.heap.size < (W4.drewN nq).heap.size := by
          obtain ⟨kp, km, kx, kc, ks⟩ := HK4.out
          exact ⟨⟨kp.base, kp.blk, kp.own⟩, ⟨⟨km.1.os, km.1.tape, km.1.output, km.1.size, km.1.block⟩, km.2⟩, ⟨kx.c0, kx.c1, kx.c2, kx.c3, kx.f0, kx.f1, kx.f2, kx.f3⟩, kc, hs4, by show _ < W4.heap.size; omega⟩
        generalize W4.drewN nq = Wm at HW ⊢
        obtain ⟨HPM, HMM, HXM, hspm, hszm, hszw⟩ : Hid (PenAt B Wm b Vk (pfOf c qk lk) qk.out) ∧ Hid (Moved b V w Vk Wm) ∧ Hid (Box4 Wm wr.heap.size (.int .i64 ds[k].kind) (.string ds[k].text) (.int .i64 ds[k].n) (.slice A' ds[k].kids.length c')) ∧ (Wm.cell? ⟨w.heap.size, 0, none⟩ = some (.int .i64 base) ∧ Wm.cell? ⟨w.heap.size, 1, none⟩ = some (.bool true) ∧ Wm.frozen? ⟨w.heap.size, 0, none⟩ = false ∧ Wm.frozen? ⟨w.heap.size, 1, none⟩ = false) ∧ wr.heap.size < Wm.heap.size ∧ w.heap.size < Wm.heap.size := HW
        clear c4 c5 z0 z1 z2 z3 t0 t1 u0 u1
        have hspA : Apart b Vk w.heap.size := ⟨by omega, fun e => HNK.out e.symm⟩
        have hxA : Apart b Vk wr.heap.size := ⟨by omega, fun e => HO3.out e.symm⟩
        have HT := Lib.hid (pline_any B b Vk c qk lk (M + 4000 * (wts (ds.take k) : Int)) Wm HPM.out HIK.out (by omega))
        go_wp2_with fail
        refine HT.out.mono ?_
        rintro e Wn ⟨rfl, Vn, qn, ln, hpn, hmn, hin, hsn⟩
        have hspn : Wn.cell? ⟨w.heap.size, 0, none⟩ = some (.int .i64 base) ∧ Wn.cell? ⟨w.heap.size, 1, none⟩ = some (.bool true) ∧ Wn.frozen? ⟨w.heap.size, 0, none⟩ = false ∧ Wn.frozen? ⟨w.heap.size, 1, none⟩ = false :=
          ⟨(hmn.1.cell ⟨w.heap.size, 0, none⟩ (by dsimp only; omega) hspA).trans hspm.1, (hmn.1.cell ⟨w.heap.size, 1, none⟩ (by dsimp only; omega) hspA).trans hspm.2.1, (World.frozen?_of_block (a := ⟨w.heap.size, 0, none⟩) (hmn.1.block _ (by dsimp only; omega) hspA)).trans hspm.2.2.1, (World.frozen?_of_block (a := ⟨w.heap.size, 1, none⟩) (hmn.1.block _ (by dsimp only; omega) hspA)).trans hspm.2.2.2⟩
        have hxn := HXM.out.stay hmn.1 hszm hxA
        have HMN := Lib.hid (HMM.out.trans hmn)
        have hnn : Vn.ownBlock ≠ some w.heap.size := by
          rcases hmn.2 with e | ⟨x, e, hx⟩
          · rw [e]; exact HNK.out
          · rw [e]; intro he; simp only [Option.some.injEq] at he; omega
        have hszn := hmn.1.size
        have HS2 := Lib.hid (show Sim (ok.bind (nextP c false base ds[k].lead0)) qn ln from sim_bind (f := nextP c false base ds[k].lead0) HSIM.out (by
          have e : nextP c false base ds[k].lead0 qk = endl c qk := by unfold nextP; rw [HSH.out]; rfl
          rw [e]
          exact hsn))
        have hkb5 := kidsAt_below hR0 (below_le (moved_below HP.out HMN.out) hn)
        have HC := Lib.hid (HSK.out.1 B b n₀ Vn c qn ln base (M + 4000 * (wts (ds.take k) : Int) + 1) true A' c' Wn hpn hin (fun hl _ _ hm0 => by
          have h0 : endl c qk = some qn := by
            subst hl
            cases hlk : lk with
            | true => rw [hlk] at hsn; simp only [liveO, if_true, Sim] at hsn; cases hsn
            | false =>
              rw [hlk] at hsn
              simp only [liveO, Bool.false_eq_true, if_false] at hsn
              cases he : endl c qk with
              | none => rw [he] at hsn; cases hsn
              | some p => rw [he] at hsn; rw [hsn.1]
          rw [endl_col hm0 h0]
          omega) (by omega) (by omega) (by have := HTK.out; omega) hn HNIL.out hcapk hkb5)
        have hspA : Apart b Vn w.heap.size := ⟨by omega, fun e => hnn e.symm⟩
        have HIN := Lib.hid hin
        have HNN := Lib.hid hnn
        obtain ⟨t0, t1, u0, u1⟩ := hspn
        obtain ⟨z0, z1, z2, z3, _, _, _, _⟩ := hxn
        clear hkb5 hspm hpn hmn hin hsn HT hnn
        go_wp2_with fail
        refine HC.out.mono ?_
        rintro e w6 ⟨rfl, V6, q6, l6, hp6, hm6, hi6, hsim6⟩
        have hn6 : V6.ownBlock ≠ some w.heap.size := by
          rcases hm6.2 with e | ⟨x, e, hx⟩
          · rw [e]; exact HNN.out
          · rw [e]; intro he; simp only [Option.some.injEq] at he; omega
        have hm6' : Moved b V w V6 w6 := HMN.out.trans hm6
        have k0 := (hm6.1.cell ⟨w.heap.size, 0, none⟩ (by dsimp only; omega) hspA).trans t0
        have k1 := (hm6.1.cell ⟨w.heap.size, 1, none⟩ (by dsimp only; omega) hspA).trans t1
        have k2 := (World.frozen?_of_block (a := ⟨w.heap.size, 0, none⟩) (hm6.1.block _ (by dsimp only; omega) hspA)).trans u0
        have k3 := (World.frozen?_of_block (a := ⟨w.heap.size, 1, none⟩) (hm6.1.block _ (by dsimp only; omega) hspA)).trans u1
        have hsz6 := hm6.1.size
        have HP6 := Lib.hid hp6
        have HM6 := Lib.hid hm6'
        have HI6 := Lib.hid hi6
        have HS6 := Lib.hid (sim_bind (f := fun p => ds[k].lay c p base true) HS2.out hsim6)
        clear z0 z1 z2 z3 t0 t1 u0 u1 hm6 hp6 hi6 hsim6 hm6'
        go_wp2
        go_roundw
        case rel =>
          refine ⟨k + 1, V6, q6, l6, _, true, by omega, by go_num, HP6.out, HM6.out, HI6.out.mono (by have := HTK.out; omega), HS6.out, ?_, fun e => absurd e (by omega), ⟨k0, k1, k2, k3⟩, hn6, by omega⟩
          rw [HEQ.out, List.drop_eq_getElem_cons hd, show (k == 0) = false by simpa using HK0.out, Option.bind_assoc, Option.bind_assoc]
          congr 1
          funext p
          rw [belows_next (HSAY.out ds[k] (List.getElem_mem hd)).2.1]
          rfl
        case measure => simp [intOf]; omega
    · obtain rfl : k = l.length := by omega
      go_wp2
      go_end0
      refine ⟨rfl, Vk, qk, lk, HPK.out, HMK.out, HIK.out.mono (by have := wts_take_le ds l.length; omega), ?_⟩
      rw [HEQ.out, show ds.drop l.length = [] by rw [← HLE.out, List.drop_length]]
      rw [show (ok.bind fun p => belows c false [] (l.length == 0) p base fresh) = ok by cases ok <;> rfl]
      exact HSIM.out

set_option maxRecDepth 100000 in
set_option maxHeartbeats 8000000 in
theorem pbelow_true (B b n₀ : Nat) (V : Value) (c : Cfg) (q : Pen) (base M : Int) (fresh : Bool) (A : Option Addr) (cc g o : Nat) (l : List DV) (ds : List Doc) (hl : l.map DV.d = ds) (w : World)
    (h : PenAt B w b V (pfOf c q false) q.out) (hi : Inv M q) (hsay : ∀ d ∈ ds, LaySays d ∧ d.void = false ∧ d.form = true) (hf : ∀ x r, ds = x :: r → FOk c q (base + x.lead0) fresh) (hb0 : -M ≤ base) (hb1 : base ≤ M) (hM : M + 4000 * (wts ds : Int) ≤ 1099511627776) (hw : wts ds ≤ 16777216) (hn : n₀ ≤ B)
    (hA : l ≠ [] → A = some ⟨g, o, none⟩ ∧ (g < w.heap.size ∧ Apart b V g)) (_hcap : l.length ≤ cc) (hR : RowAt n₀ w g o l) :
    Calls Tryd.prog 72 #[.pointer (some ⟨b, 0, none⟩), .slice A l.length cc, .bool true, .agg #[.int .i64 base, .bool fresh]] w (PLaid B b w V c (M + 4000 * (wts ds : Int)) (belows c true ds true q base fresh)) := by
  have hll : l.length = ds.length := by rw [← hl, List.length_map]
  have hdl := len_le_wts ds
  have hget : ∀ (k : Nat) (hk : k < l.length) (hk' : k < ds.length), l[k].d = ds[k] := fun k hk hk' => by simp only [← hl, List.getElem_map]
  obtain ⟨s0, s1, hb0', hs0⟩ := spot_new w (.int .i64 base) (.bool fresh)
  have sf0 : (w.alloc (.cells #[.int .i64 base, .bool fresh] 70)).frozen? ⟨w.heap.size, 0, none⟩ = false := by simp
  have sf1 : (w.alloc (.cells #[.int .i64 base, .bool fresh] 70)).frozen? ⟨w.heap.size, 1, none⟩ = false := by simp
  obtain ⟨W, hW⟩ : ∃ W, w.alloc (.cells #[.int .i64 base, .bool fresh] 70) = W := ⟨_, rfl⟩
  rw [hW] at s0 s1 hb0' hs0 sf0 sf1
  have hlt := h.lt
  have hown := h.own.lt
  have HP := Lib.hid h
  have HI := Lib.hid hi
  have HF := Lib.hid hf
  have HSAY := Lib.hid hsay
  have HA := Lib.hid hA
  have HR := Lib.hid hR
  have HB := Lib.hid hb0'
  have HGET := Lib.hid hget
  have HOWN := Lib.hid hown
  have HLL := Lib.hid hll
  have HSP := Lib.hid (And.intro s0 (And.intro s1 (And.intro sf0 sf1)))
  have hne0 : V.ownBlock ≠ some w.heap.size := fun e => by have := (hown _ e).2; omega
  have HNE := Lib.hid hne0
  have hll' : ds.length = l.length := hll.symm
  have HLE := Lib.hid hll'
  have hdl' : l.length ≤ 16777216 := by omega
  clear h hi hf hsay hA hR hb0' hget hown hll s0 s1 sf0 sf1 hne0 hll' hdl hl
  go_enter Tryd.func72, Tryd.ntmps72
  go_wp2_with fail
  clear hW
  go_loopw [13] (fun i wr => ∃ (k : Nat) (Vk : Value) (qk : Pen) (lk : Bool) (ok : Option Pen) (fk : Bool), k ≤ l.length ∧ i = .int .i64 k ∧ PenAt B wr b Vk (pfOf c qk lk) qk.out ∧ Moved b V w Vk wr ∧ Inv (M + 4000 * (wts (ds.take k) : Int)) qk ∧ Sim ok qk lk ∧
      belows c true ds true q base fresh = ok.bind (fun p => belows c true (ds.drop k) (k == 0) p base fresh) ∧ (k = 0 → ok = some q ∧ fk = fresh) ∧
      (wr.cell? ⟨w.heap.size, 0, none⟩ = some (.int .i64 base) ∧ wr.cell? ⟨w.heap.size, 1, none⟩ = some (.bool fk) ∧ wr.frozen? ⟨w.heap.size, 0, none⟩ = false ∧ wr.frozen? ⟨w.heap.size, 1, none⟩ = false) ∧ Vk.ownBlock ≠ some w.heap.size ∧ w.heap.size < wr.heap.size) (fun i wr => l.length - (intOf i).toNat)
  case atStart =>
    exact ⟨0, V, q, false, some q, fresh, Nat.zero_le _, rfl, HP.out.later HB.out, Moved.of_below HB.out, by simpa [wts] using HI.out, ⟨rfl, rfl⟩, rfl, fun _ => ⟨rfl, rfl⟩, HSP.out, HNE.out, by omega⟩
  case round =>
    obtain ⟨k, Vk, qk, lk, ok, fk, hk, rfl, hp, hm, hik, hsim, heq, hz, hsp, hnek, hszk⟩ := hrel
    have HPK := Lib.hid hp
    have HMK := Lib.hid hm
    have HIK := Lib.hid hik
    have HSIM := Lib.hid hsim
    have HEQ := Lib.hid heq
    have HZ := Lib.hid hz
    have HNK := Lib.hid hnek
    obtain ⟨s0, s1, sf0, sf1⟩ := hsp
    have hltk := hp.lt
    clear hp hm hik hsim heq hz hnek
    by_cases hlt' : k < l.length
    · have hd : k < ds.length := by rw [HLE.out]; exact hlt'
      obtain ⟨rfl, hg⟩ := HA.out (fun e => by rw [e] at hlt'; simp at hlt')
      have hrow := HR.out.later (w' := wr) (HMK.out.1.block g hg.1 hg.2) (below_le (moved_below HP.out HMK.out) hn)
      obtain ⟨h2, h3, h4, h5⟩ := hrow.cells k l[k] (List.getElem?_eq_getElem hlt')
      have hok := hrow.ok l[k] (List.getElem_mem hlt')
      have hwd := wts_drop hd
      rw [HGET.out k hlt' hd] at h2 h3 h4 h5
      have hAk : KidsAt n₀ wr ds[k].kids l[k].A := by have := hok.at_; rwa [HGET.out k hlt' hd] at this
      have hcapk : ds[k].kids.length ≤ l[k].c := by have := hok.cap; rwa [HGET.out k hlt' hd] at this
      have hnilk := hok.nil
      generalize hA'e : l[k].A = A' at h5 hAk hnilk
      generalize l[k].c = c' at h5 hcapk hnilk
      have HKK := Lib.hid hAk
      have hAw : KidsAt n₀ w ds[k].kids A' := by
        have := (HR.out.ok l[k] (List.getElem_mem hlt')).at_
        rw [HGET.out k hlt' hd] at this
        rw [← hA'e]
        exact this
      have HKW := Lib.hid hAw
      clear hAw hA'e
      have HNIL := Lib.hid hnilk
      have HSK := Lib.hid (HSAY.out ds[k] (List.getElem_mem hd))
      obtain ⟨hbx, hbw, hbs⟩ := box_new wr (.int .i64 ds[k].kind) (.string ds[k].text) (.int .i64 ds[k].n) (.slice A' ds[k].kids.length c')
      obtain ⟨W3, hW3⟩ : ∃ W3, wr.alloc (.cells #[.int .i64 ds[k].kind, .string ds[k].text, .int .i64 ds[k].n, .slice A' ds[k].kids.length c'] 24) = W3 := ⟨_, rfl⟩
      rw [hW3] at hbx hbw hbs
      have HBX := Lib.hid hbx
      have HBW := Lib.hid hbw
      have hp3 := HPK.out.later hbw
      have HP3 := Lib.hid hp3
      have hs3 : wr.heap.size < W3.heap.size := by omega
      have hown3 : Vk.ownBlock ≠ some wr.heap.size := fun e => by have := (HPK.out.own.lt _ e).2; omega
      have HO3 := Lib.hid hown3
      obtain ⟨z0, z1, z2, z3, _, _, _, _⟩ := hbx
      have t0 := (hbw.cell (p := ⟨w.heap.size, 0, none⟩) hszk).trans s0
      have t1 := (hbw.cell (p := ⟨w.heap.size, 1, none⟩) hszk).trans s1
      have u0 := (hbw.frozen (p := ⟨w.heap.size, 0, none⟩) hszk).trans sf0
      have u1 := (hbw.frozen (p := ⟨w.heap.size, 1, none⟩) hszk).trans sf1
      clear hrow hok hAk hnilk hbw hbs hp3 hown3
      have hwk : wts (ds.take k) + ds[k].wt ≤ wts ds := hwd
      have HTK := Lib.hid (wts_take hd)
      have hkb := kidsAt_below HKK.out (below_le HBW.out (by have := HPK.out.Ble; omega))
      by_cases hk0 : k = 0
      · have g1 : decide (0 < k) = false := decide_eq_false (by omega)
        have hsay0 : Calls Tryd.prog 55 #[.pointer (some ⟨b, 0, none⟩), .agg #[.int .i64 ds[k].kind, .string ds[k].text, .int .i64 ds[k].n, .slice A' ds[k].kids.length c'], .agg #[.int .i64 base, .bool fk]] W3 (PLaid B b W3 Vk c (M + 4000 * (wts (ds.take k) : Int) + 4000 * (ds[k].wt : Int) - 2000) (liveO lk (ds[k].lay c qk base fk))) := by
          obtain ⟨e1, e2⟩ := HZ.out hk0
          refine HSK.out.1 B b n₀ Vk c qk lk base (M + 4000 * (wts (ds.take k) : Int)) fk A' c' W3 HP3.out HIK.out (fun _ _ => ?_) (by omega) (by omega) (by omega) hn HNIL.out hcapk hkb
          have hs := HSIM.out
          rw [e1] at hs
          rw [hs.1, e2]
          exact HF.out ds[k] (ds.drop (k + 1)) (by rw [← List.drop_eq_getElem_cons hd, hk0]; rfl)
        have HC := Lib.hid hsay0
        have HK0 := Lib.hid hk0
        clear hsay0 hk0
        go_wp2_with fail
        refine HC.out.mono ?_
        rintro e w4 ⟨rfl, V4, q4, l4, hp4, hm4, hi4, hsim4⟩
        have hnx : Next Vk wr V4 := next_trans (.inl rfl) HBW.out.size hm4.2
        have hn4 : V4.ownBlock ≠ some w.heap.size := by
          rcases hm4.2 with e | ⟨x, e, hx⟩
          · rw [e]; exact HNK.out
          · rw [e]; intro he; simp only [Option.some.injEq] at he; omega
        have hm4' : Moved b V w V4 w4 := HMK.out.trans ((Moved.of_below HBW.out).trans hm4)
        have hspA : Apart b Vk w.heap.size := ⟨by omega, fun e => HNK.out e.symm⟩
        have k0 := (hm4.1.cell ⟨w.heap.size, 0, none⟩ (by dsimp only; omega) hspA).trans t0
        have k1 := (hm4.1.cell ⟨w.heap.size, 1, none⟩ (by dsimp only; omega) hspA).trans t1
        have k2 := (World.frozen?_of_block (a := ⟨w.heap.size, 0, none⟩) (hm4.1.block _ (by dsimp only; omega) hspA)).trans u0
        have k3 := (World.frozen?_of_block (a := ⟨w.heap.size, 1, none⟩) (hm4.1.block _ (by dsimp only; omega) hspA)).trans u1
        have hsz4 := hm4.1.size
        have HP4 := Lib.hid hp4
        have HM4 := Lib.hid hm4'
        have HI4 := Lib.hid hi4
        have HS4 := Lib.hid (sim_bind (f := fun p => ds[k].lay c p base fk) HSIM.out hsim4)
        clear z0 z1 z2 z3 t0 t1 u0 u1 h2 h3 h4 h5 s0 s1 sf0 sf1 hm4 hp4 hi4 hsim4 hnx hm4' hkb
        go_wp2
        go_roundw
        case rel =>
          refine ⟨k + 1, V4, q4, l4, _, fk, by omega, by go_num, HP4.out, HM4.out, HI4.out.mono (by have := HTK.out; omega), HS4.out, ?_, fun e => absurd e (by omega), ⟨k0, k1, k2, k3⟩, hn4, by omega⟩
          obtain ⟨e1, e2⟩ := HZ.out HK0.out
          rw [HEQ.out, e1, e2, Option.bind_some, Option.bind_some]
          rw [List.drop_eq_getElem_cons hd, show (k == 0) = true by rw [HK0.out]; rfl, belows_first (HSAY.out ds[k] (List.getElem_mem hd)).2.1]
          rw [show (k + 1 == 0) = false from rfl]
        case measure => simp [intOf]; omega
      · have g1 : decide (0 < k) = true := decide_eq_true (by omega)
        have hR0 : KidsAt n₀ w ds[k].kids A' := HKW.out
        have HK0 := Lib.hid hk0
        have hp3 := HP3.out
        have hxs := HBX.out
        have hnk := HNK.out
        have hmk := HMK.out.trans (Moved.of_below HBW.out)
        clear hk0
        go_upto_region 6 with (fail)
        clear hW3 z0 z1 z2 z3 h2 h3 h4 h5 s0 s1 sf0 sf1
        obtain ⟨W4, hW4, kp, km, kx, kc, ks⟩ : ∃ W4, W3.setCell ⟨w.heap.size, 1, none⟩ (.bool true) = W4 ∧ PenAt B W4 b Vk (pfOf c qk lk) qk.out ∧ Moved b V w Vk W4 ∧ Box4 W4 wr.heap.size (.int .i64 ds[k].kind) (.string ds[k].text) (.int .i64 ds[k].n) (.slice A' ds[k].kids.length c') ∧ (W4.cell? ⟨w.heap.size, 0, none⟩ = some (.int .i64 base) ∧ W4.cell? ⟨w.heap.size, 1, none⟩ = some (.bool true) ∧ W4.frozen? ⟨w.heap.size, 0, none⟩ = false ∧ W4.frozen? ⟨w.heap.size, 1, none⟩ = false) ∧ W4.heap.size = W3.heap.size := by
          refine ⟨_, rfl, ?_, ⟨?_, hmk.2⟩, ?_, ?_, by simp [World.setCell]⟩
          · refine hp3.ofBlk ?_ fun x hx => ?_
            · exact Below.heap_setCell _ _ _ _ (by dsimp only; omega)
            · exact Below.heap_setCell _ _ _ _ (fun e => hnk (by rw [hx, e]))
          · have h0 := hmk.1
            refine ⟨h0.os, h0.tape, h0.output, by simpa [World.setCell] using h0.size, fun x hx ht => ?_⟩
            exact (Below.heap_setCell _ _ _ _ (by dsimp only; omega)).trans (h0.block x hx ht)
          · exact hxs.grown (gb_set _ _ _ _) (by omega) (by simp only [ne_eq, Option.some.injEq]; omega)
          · refine ⟨?_, ?_, ?_, ?_⟩ <;> go_simp
        rw [hW4]
        clear hW4 t0 t1 u0 u1 hp3 hxs hnk hmk
        have HK4 := Lib.hid (And.intro kp (And.intro km (And.intro kx (And.intro kc ks))))
        obtain ⟨z0, z1, z2, z3, _, _, _, _⟩ := kx
        obtain ⟨t0, t1, u0, u1⟩ := kc
        obtain ⟨-, -, -, c4, c5, -, -, -, -, -, -⟩ := (show PenC W4 b Vk (pfOf c qk lk) from kp.cells)
        simp only [pfOf] at c4 c5
        have hs4 : wr.heap.size < W4.heap.size := by omega
        clear kp km ks
        cases hm0 : (c.mode == 0) with
        | false =>
          have HSH := Lib.hid (show shares c true qk base ds[k].lead0 = false by unfold shares; rw [hm0]; rfl)
          go_quiet (fail)
          have HW : Hid (PenAt B (W4.drewN nq) b Vk (pfOf c qk lk) qk.out) ∧ Hid (Moved b V w Vk (W4.drewN nq)) ∧ Hid (Box4 (W4.drewN nq) wr.heap.size (.int .i64 ds[k].kind) (.string ds[k].text) (.int .i64 ds[k].n) (.slice A' ds[k].kids.length c')) ∧ ((W4.drewN nq).cell? ⟨w.heap.size, 0, none⟩ = some (.int .i64 base) ∧ (W4.drewN nq).cell? ⟨w.heap.size, 1, none⟩ = some (.bool true) ∧ (W4.drewN nq).frozen? ⟨w.heap.size, 0, none⟩ = false ∧ (W4.drewN nq).frozen? ⟨w.heap.size, 1, none⟩ = false) ∧ wr.heap.size < (W4.drewN nq).heap.size ∧ w.heap.size < (W4.drewN nq).heap.size := by
            obtain ⟨kp, km, kx, kc, ks⟩ := HK4.out
            exact ⟨⟨kp.base, kp.blk, kp.own⟩, ⟨⟨km.1.os, km.1.tape, km.1.output, km.1.size, km.1.block⟩, km.2⟩, ⟨kx.c0, kx.c1, kx.c2, kx.c3, kx.f0, kx.f1, kx.f2, kx.f3⟩, kc, hs4, by show _ < W4.heap.size; omega⟩
          generalize W4.drewN nq = Wm at HW ⊢
          obtain ⟨HPM, HMM, HXM, hspm, hszm, hszw⟩ : Hid (PenAt B Wm b Vk (pfOf c qk lk) qk.out) ∧ Hid (Moved b V w Vk Wm) ∧ Hid (Box4 Wm wr.heap.size (.int .i64 ds[k].kind) (.string ds[k].text) (.int .i64 ds[k].n) (.slice A' ds[k].kids.length c')) ∧ (Wm.cell? ⟨w.heap.size, 0, none⟩ = some (.int .i64 base) ∧ Wm.cell? ⟨w.heap.size, 1, none⟩ = some (.bool true) ∧ Wm.frozen? ⟨w.heap.size, 0, none⟩ = false ∧ Wm.frozen? ⟨w.heap.size, 1, none⟩ = false) ∧ wr.heap.size < Wm.heap.size ∧ w.heap.size < Wm.heap.size := HW
          clear c4 c5 z0 z1 z2 z3 t0 t1 u0 u1
          have hspA : Apart b Vk w.heap.size := ⟨by omega, fun e => HNK.out e.symm⟩
          have hxA : Apart b Vk wr.heap.size := ⟨by omega, fun e => HO3.out e.symm⟩
          have HT := Lib.hid (pline_any B b Vk c qk lk (M + 4000 * (wts (ds.take k) : Int)) Wm HPM.out HIK.out (by omega))
          go_wp2_with fail
          refine HT.out.mono ?_
          rintro e Wn ⟨rfl, Vn, qn, ln, hpn, hmn, hin, hsn⟩
          have hspn : Wn.cell? ⟨w.heap.size, 0, none⟩ = some (.int .i64 base) ∧ Wn.cell? ⟨w.heap.size, 1, none⟩ = some (.bool true) ∧ Wn.frozen? ⟨w.heap.size, 0, none⟩ = false ∧ Wn.frozen? ⟨w.heap.size, 1, none⟩ = false :=
            ⟨(hmn.1.cell ⟨w.heap.size, 0, none⟩ (by dsimp only; omega) hspA).trans hspm.1, (hmn.1.cell ⟨w.heap.size, 1, none⟩ (by dsimp only; omega) hspA).trans hspm.2.1, (World.frozen?_of_block (a := ⟨w.heap.size, 0, none⟩) (hmn.1.block _ (by dsimp only; omega) hspA)).trans hspm.2.2.1, (World.frozen?_of_block (a := ⟨w.heap.size, 1, none⟩) (hmn.1.block _ (by dsimp only; omega) hspA)).trans hspm.2.2.2⟩
          have hxn := HXM.out.stay hmn.1 hszm hxA
          have HMN := Lib.hid (HMM.out.trans hmn)
          have hnn : Vn.ownBlock ≠ some w.heap.size := by
            rcases hmn.2 with e | ⟨x, e, hx⟩
            · rw [e]; exact HNK.out
            · rw [e]; intro he; simp only [Option.some.injEq] at he; omega
          have hszn := hmn.1.size
          have HS2 := Lib.hid (show Sim (ok.bind (nextP c true base ds[k].lead0)) qn ln from sim_bind (f := nextP c true base ds[k].lead0) HSIM.out (by
            have e : nextP c true base ds[k].lead0 qk = endl c qk := by unfold nextP; rw [HSH.out]; rfl
            rw [e]
            exact hsn))
          have hkb5 := kidsAt_below hR0 (below_le (moved_below HP.out HMN.out) hn)
          have HC := Lib.hid (HSK.out.1 B b n₀ Vn c qn ln base (M + 4000 * (wts (ds.take k) : Int) + 1) true A' c' Wn hpn hin (fun hl _ _ hm0 => by
            have h0 : endl c qk = some qn := by
              subst hl
              cases hlk : lk with
              | true => rw [hlk] at hsn; simp only [liveO, if_true, Sim] at hsn; cases hsn
              | false =>
                rw [hlk] at hsn
                simp only [liveO, Bool.false_eq_true, if_false] at hsn
                cases he : endl c qk with
                | none => rw [he] at hsn; cases hsn
                | some p => rw [he] at hsn; rw [hsn.1]
            rw [endl_col hm0 h0]
            omega) (by omega) (by omega) (by have := HTK.out; omega) hn HNIL.out hcapk hkb5)
          have hspA : Apart b Vn w.heap.size := ⟨by omega, fun e => hnn e.symm⟩
          have HIN := Lib.hid hin
          have HNN := Lib.hid hnn
          obtain ⟨t0, t1, u0, u1⟩ := hspn
          obtain ⟨z0, z1, z2, z3, _, _, _, _⟩ := hxn
          clear hkb5 hspm hpn hmn hin hsn HT hnn
          go_wp2_with fail
          refine HC.out.mono ?_
          rintro e w6 ⟨rfl, V6, q6, l6, hp6, hm6, hi6, hsim6⟩
          have hn6 : V6.ownBlock ≠ some w.heap.size := by
            rcases hm6.2 with e | ⟨x, e, hx⟩
            · rw [e]; exact HNN.out
            · rw [e]; intro he; simp only [Option.some.injEq] at he; omega
          have hm6' : Moved b V w V6 w6 := HMN.out.trans hm6
          have k0 := (hm6.1.cell ⟨w.heap.size, 0, none⟩ (by dsimp only; omega) hspA).trans t0
          have k1 := (hm6.1.cell ⟨w.heap.size, 1, none⟩ (by dsimp only; omega) hspA).trans t1
          have k2 := (World.frozen?_of_block (a := ⟨w.heap.size, 0, none⟩) (hm6.1.block _ (by dsimp only; omega) hspA)).trans u0
          have k3 := (World.frozen?_of_block (a := ⟨w.heap.size, 1, none⟩) (hm6.1.block _ (by dsimp only; omega) hspA)).trans u1
          have hsz6 := hm6.1.size
          have HP6 := Lib.hid hp6
          have HM6 := Lib.hid hm6'
          have HI6 := Lib.hid hi6
          have HS6 := Lib.hid (sim_bind (f := fun p => ds[k].lay c p base true) HS2.out hsim6)
          clear z0 z1 z2 z3 t0 t1 u0 u1 hm6 hp6 hi6 hsim6 hm6'
          go_wp2
          go_roundw
          case rel =>
            refine ⟨k + 1, V6, q6, l6, _, true, by omega, by go_num, HP6.out, HM6.out, HI6.out.mono (by have := HTK.out; omega), HS6.out, ?_, fun e => absurd e (by omega), ⟨k0, k1, k2, k3⟩, hn6, by omega⟩
            rw [HEQ.out, List.drop_eq_getElem_cons hd, show (k == 0) = false by simpa using HK0.out, Option.bind_assoc, Option.bind_assoc]
            congr 1
            funext p
            rw [belows_next (HSAY.out ds[k] (List.getElem_mem hd)).2.1]
            rfl
          case measure => simp [intOf]; omega
        | true =>
          have hfk := (HSAY.out ds[k] (List.getElem_mem hd)).2.2
          have hsl := lead0_small hfk
          have hci := HIK.out.colM
          have hcj := HIK.out.col
          have hck := HIK.out.owed
          have HFK := Lib.hid hfk
          have hkb4 : KidsAt n₀ W4 ds[k].kids A' := kidsAt_below hR0 (below_le (moved_below HP.out HK4.out.2.1) hn)
          have HKB4 := Lib.hid (kidsAt_mono hkb4 (by have := HK4.out.1.Ble; omega : n₀ ≤ W4.heap.size))
          have hb5 := HK4.out.1.lt
          clear hfk hkb4
          by_cases hgt : qk.col < base + ds[k].lead0
          · have HSH := Lib.hid (show shares c true qk base ds[k].lead0 = true by unfold shares; rw [hm0, decide_eq_true hgt]; rfl)
            have g2 : decide (qk.col < base + ds[k].lead0) = true := decide_eq_true hgt
            clear hgt
            have hwrap : IntKind.i64.wrap (base + ds[k].lead0) = base + ds[k].lead0 := IntWalk.i64_in _ (by omega)
            go_region_held3 (fun w' : World => w'.cell? ⟨b, 4, none⟩ = some (.int .i64 c.mode) ∧ w'.cell? ⟨b, 5, none⟩ = some (.int .i64 qk.col) ∧ w'.cell? ⟨w.heap.size, 0, none⟩ = some (.int .i64 base) ∧ w'.cell? ⟨wr.heap.size, 0, none⟩ = some (.int .i64 ds[k].kind) ∧ w'.cell? ⟨wr.heap.size, 1, none⟩ = some (.string ds[k].text) ∧ w'.cell? ⟨wr.heap.size, 2, none⟩ = some (.int .i64 ds[k].n) ∧ w'.cell? ⟨wr.heap.size, 3, none⟩ = some (.slice A' ds[k].kids.length c') ∧ Below W4.heap.size W4 w')
              (first | (exact ⟨c4, c5, t0, z0, z1, z2, z3, (Below.refl _ _).drew⟩) | (exact held7 (by assumption) hbf (by dsimp only; omega) (by dsimp only; omega) (by dsimp only; omega) (by dsimp only; omega) (by dsimp only; omega) (by dsimp only; omega) (by dsimp only; omega)) | assumption)
              (first | (go_at_call 23; refine (plead_any ds[k] A' c' _ HFK.out (by omega) (kidsAt_on HKB4.out (by first | exact (Below.refl _ _).drew | exact And.right (And.right (And.right (And.right (And.right (And.right (And.right (by assumption)))))))))).mono ?_; rintro e Wm ⟨rfl, hbf⟩))
            rename_i hH
            have hq := hH.2.2.2.2.2.2.2
            have HPM := Lib.hid (HK4.out.1.later hq)
            have HMM := Lib.hid (HK4.out.2.1.trans (Moved.of_below hq))
            have HXM := Lib.hid (HK4.out.2.2.1.below hq hs4)
            have hspm : Wm.cell? ⟨w.heap.size, 0, none⟩ = some (.int .i64 base) ∧ Wm.cell? ⟨w.heap.size, 1, none⟩ = some (.bool true) ∧ Wm.frozen? ⟨w.heap.size, 0, none⟩ = false ∧ Wm.frozen? ⟨w.heap.size, 1, none⟩ = false := by
              obtain ⟨y0, y1, y2, y3⟩ := HK4.out.2.2.2.1
              exact ⟨(hq.cell (p := ⟨w.heap.size, 0, none⟩) (by dsimp only; omega)).trans y0, (hq.cell (p := ⟨w.heap.size, 1, none⟩) (by dsimp only; omega)).trans y1, (hq.frozen (p := ⟨w.heap.size, 0, none⟩) (by dsimp only; omega)).trans y2, (hq.frozen (p := ⟨w.heap.size, 1, none⟩) (by dsimp only; omega)).trans y3⟩
            have hszm : wr.heap.size < Wm.heap.size := by have := hq.size; omega
            have hszw : w.heap.size < Wm.heap.size := by have := hq.size; omega
            clear c4 c5 z0 z1 z2 z3 t0 t1 u0 u1 hH hq hbf hwrap
            have hspA : Apart b Vk w.heap.size := ⟨by omega, fun e => HNK.out e.symm⟩
            have hxA : Apart b Vk wr.heap.size := ⟨by omega, fun e => HO3.out e.symm⟩
            have hkb5 := kidsAt_below hR0 (below_le (moved_below HP.out HMM.out) hn)
            have HS2 := Lib.hid (show Sim (ok.bind (nextP c true base ds[k].lead0)) qk lk from sim_bind (f := nextP c true base ds[k].lead0) HSIM.out (by
              have e : nextP c true base ds[k].lead0 qk = some qk := by unfold nextP; rw [HSH.out]; rfl
              rw [e]
              cases hl : lk with
              | true => rfl
              | false => exact ⟨rfl, rfl⟩))
            have HC := Lib.hid (HSK.out.1 B b n₀ Vk c qk lk base (M + 4000 * (wts (ds.take k) : Int)) true A' c' Wm HPM.out HIK.out (fun _ _ _ hm0 => by
              have hs := HSH.out
              unfold shares at hs
              rw [Bool.and_eq_true, decide_eq_true_eq] at hs
              omega) (by omega) (by omega) (by have := HTK.out; omega) hn HNIL.out hcapk hkb5)
            obtain ⟨t0, t1, u0, u1⟩ := hspm
            obtain ⟨z0, z1, z2, z3, _, _, _, _⟩ := HXM.out
            clear hkb5
            go_wp2_with fail
            refine HC.out.mono ?_
            rintro e w6 ⟨rfl, V6, q6, l6, hp6, hm6, hi6, hsim6⟩
            have hn6 : V6.ownBlock ≠ some w.heap.size := by
              rcases hm6.2 with e | ⟨x, e, hx⟩
              · rw [e]; exact HNK.out
              · rw [e]; intro he; simp only [Option.some.injEq] at he; omega
            have hm6' : Moved b V w V6 w6 := HMM.out.trans hm6
            have k0 := (hm6.1.cell ⟨w.heap.size, 0, none⟩ (by dsimp only; omega) hspA).trans t0
            have k1 := (hm6.1.cell ⟨w.heap.size, 1, none⟩ (by dsimp only; omega) hspA).trans t1
            have k2 := (World.frozen?_of_block (a := ⟨w.heap.size, 0, none⟩) (hm6.1.block _ (by dsimp only; omega) hspA)).trans u0
            have k3 := (World.frozen?_of_block (a := ⟨w.heap.size, 1, none⟩) (hm6.1.block _ (by dsimp only; omega) hspA)).trans u1
            have hsz6 := hm6.1.size
            have HP6 := Lib.hid hp6
            have HM6 := Lib.hid hm6'
            have HI6 := Lib.hid hi6
            have HS6 := Lib.hid (sim_bind (f := fun p => ds[k].lay c p base true) HS2.out hsim6)
            clear z0 z1 z2 z3 t0 t1 u0 u1 hm6 hp6 hi6 hsim6 hm6'
            go_wp2
            go_roundw
            case rel =>
              refine ⟨k + 1, V6, q6, l6, _, true, by omega, by go_num, HP6.out, HM6.out, HI6.out.mono (by have := HTK.out; omega), HS6.out, ?_, fun e => absurd e (by omega), ⟨k0, k1, k2, k3⟩, hn6, by omega⟩
              rw [HEQ.out, List.drop_eq_getElem_cons hd, show (k == 0) = false by simpa using HK0.out, Option.bind_assoc, Option.bind_assoc]
              congr 1
              funext p
              rw [belows_next (HSAY.out ds[k] (List.getElem_mem hd)).2.1]
              rfl
            case measure => simp [intOf]; omega
          · have HSH := Lib.hid (show shares c true qk base ds[k].lead0 = false by unfold shares; rw [hm0, decide_eq_false hgt]; rfl)
            have g2 : decide (qk.col < base + ds[k].lead0) = false := decide_eq_false hgt
            clear hgt
            have hwrap : IntKind.i64.wrap (base + ds[k].lead0) = base + ds[k].lead0 := IntWalk.i64_in _ (by omega)
            go_region_held3 (fun w' : World => w'.cell? ⟨b, 4, none⟩ = some (.int .i64 c.mode) ∧ w'.cell? ⟨b, 5, none⟩ = some (.int .i64 qk.col) ∧ w'.cell? ⟨w.heap.size, 0, none⟩ = some (.int .i64 base) ∧ w'.cell? ⟨wr.heap.size, 0, none⟩ = some (.int .i64 ds[k].kind) ∧ w'.cell? ⟨wr.heap.size, 1, none⟩ = some (.string ds[k].text) ∧ w'.cell? ⟨wr.heap.size, 2, none⟩ = some (.int .i64 ds[k].n) ∧ w'.cell? ⟨wr.heap.size, 3, none⟩ = some (.slice A' ds[k].kids.length c') ∧ Below W4.heap.size W4 w')
              (first | (exact ⟨c4, c5, t0, z0, z1, z2, z3, (Below.refl _ _).drew⟩) | (exact held7 (by assumption) hbf (by dsimp only; omega) (by dsimp only; omega) (by dsimp only; omega) (by dsimp only; omega) (by dsimp only; omega) (by dsimp only; omega) (by dsimp only; omega)) | assumption)
              (first | (go_at_call 23; refine (plead_any ds[k] A' c' _ HFK.out (by omega) (kidsAt_on HKB4.out (by first | exact (Below.refl _ _).drew | exact And.right (And.right (And.right (And.right (And.right (And.right (And.right (by assumption)))))))))).mono ?_; rintro e Wm ⟨rfl, hbf⟩))
            rename_i hH
            have hq := hH.2.2.2.2.2.2.2
            have HPM := Lib.hid (HK4.out.1.later hq)
            have HMM := Lib.hid (HK4.out.2.1.trans (Moved.of_below hq))
            have HXM := Lib.hid (HK4.out.2.2.1.below hq hs4)
            have hspm : Wm.cell? ⟨w.heap.size, 0, none⟩ = some (.int .i64 base) ∧ Wm.cell? ⟨w.heap.size, 1, none⟩ = some (.bool true) ∧ Wm.frozen? ⟨w.heap.size, 0, none⟩ = false ∧ Wm.frozen? ⟨w.heap.size, 1, none⟩ = false := by
              obtain ⟨y0, y1, y2, y3⟩ := HK4.out.2.2.2.1
              exact ⟨(hq.cell (p := ⟨w.heap.size, 0, none⟩) (by dsimp only; omega)).trans y0, (hq.cell (p := ⟨w.heap.size, 1, none⟩) (by dsimp only; omega)).trans y1, (hq.frozen (p := ⟨w.heap.size, 0, none⟩) (by dsimp only; omega)).trans y2, (hq.frozen (p := ⟨w.heap.size, 1, none⟩) (by dsimp only; omega)).trans y3⟩
            have hszm : wr.heap.size < Wm.heap.size := by have := hq.size; omega
            have hszw : w.heap.size < Wm.heap.size := by have := hq.size; omega
            clear c4 c5 z0 z1 z2 z3 t0 t1 u0 u1 hH hq hbf hwrap
            have hspA : Apart b Vk w.heap.size := ⟨by omega, fun e => HNK.out e.symm⟩
            have hxA : Apart b Vk wr.heap.size := ⟨by omega, fun e => HO3.out e.symm⟩
            have HT := Lib.hid (pline_any B b Vk c qk lk (M + 4000 * (wts (ds.take k) : Int)) Wm HPM.out HIK.out (by omega))
            go_wp2_with fail
            refine HT.out.mono ?_
            rintro e Wn ⟨rfl, Vn, qn, ln, hpn, hmn, hin, hsn⟩
            have hspn : Wn.cell? ⟨w.heap.size, 0, none⟩ = some (.int .i64 base) ∧ Wn.cell? ⟨w.heap.size, 1, none⟩ = some (.bool true) ∧ Wn.frozen? ⟨w.heap.size, 0, none⟩ = false ∧ Wn.frozen? ⟨w.heap.size, 1, none⟩ = false :=
              ⟨(hmn.1.cell ⟨w.heap.size, 0, none⟩ (by dsimp only; omega) hspA).trans hspm.1, (hmn.1.cell ⟨w.heap.size, 1, none⟩ (by dsimp only; omega) hspA).trans hspm.2.1, (World.frozen?_of_block (a := ⟨w.heap.size, 0, none⟩) (hmn.1.block _ (by dsimp only; omega) hspA)).trans hspm.2.2.1, (World.frozen?_of_block (a := ⟨w.heap.size, 1, none⟩) (hmn.1.block _ (by dsimp only; omega) hspA)).trans hspm.2.2.2⟩
            have hxn := HXM.out.stay hmn.1 hszm hxA
            have HMN := Lib.hid (HMM.out.trans hmn)
            have hnn : Vn.ownBlock ≠ some w.heap.size := by
              rcases hmn.2 with e | ⟨x, e, hx⟩
              · rw [e]; exact HNK.out
              · rw [e]; intro he; simp only [Option.some.injEq] at he; omega
            have hszn := hmn.1.size
            have HS2 := Lib.hid (show Sim (ok.bind (nextP c true base ds[k].lead0)) qn ln from sim_bind (f := nextP c true base ds[k].lead0) HSIM.out (by
              have e : nextP c true base ds[k].lead0 qk = endl c qk := by unfold nextP; rw [HSH.out]; rfl
              rw [e]
              exact hsn))
            have hkb5 := kidsAt_below hR0 (below_le (moved_below HP.out HMN.out) hn)
            have HC := Lib.hid (HSK.out.1 B b n₀ Vn c qn ln base (M + 4000 * (wts (ds.take k) : Int) + 1) true A' c' Wn hpn hin (fun hl _ _ hm0 => by
              have h0 : endl c qk = some qn := by
                subst hl
                cases hlk : lk with
                | true => rw [hlk] at hsn; simp only [liveO, if_true, Sim] at hsn; cases hsn
                | false =>
                  rw [hlk] at hsn
                  simp only [liveO, Bool.false_eq_true, if_false] at hsn
                  cases he : endl c qk with
                  | none => rw [he] at hsn; cases hsn
                  | some p => rw [he] at hsn; rw [hsn.1]
              rw [endl_col hm0 h0]
              omega) (by omega) (by omega) (by have := HTK.out; omega) hn HNIL.out hcapk hkb5)
            have hspA : Apart b Vn w.heap.size := ⟨by omega, fun e => hnn e.symm⟩
            have HIN := Lib.hid hin
            have HNN := Lib.hid hnn
            obtain ⟨t0, t1, u0, u1⟩ := hspn
            obtain ⟨z0, z1, z2, z3, _, _, _, _⟩ := hxn
            clear hkb5 hspm hpn hmn hin hsn HT hnn
            go_wp2_with fail
            refine HC.out.mono ?_
            rintro e w6 ⟨rfl, V6, q6, l6, hp6, hm6, hi6, hsim6⟩
            have hn6 : V6.ownBlock ≠ some w.heap.size := by
              rcases hm6.2 with e | ⟨x, e, hx⟩
              · rw [e]; exact HNN.out
              · rw [e]; intro he; simp only [Option.some.injEq] at he; omega
            have hm6' : Moved b V w V6 w6 := HMN.out.trans hm6
            have k0 := (hm6.1.cell ⟨w.heap.size, 0, none⟩ (by dsimp only; omega) hspA).trans t0
            have k1 := (hm6.1.cell ⟨w.heap.size, 1, none⟩ (by dsimp only; omega) hspA).trans t1
            have k2 := (World.frozen?_of_block (a := ⟨w.heap.size, 0, none⟩) (hm6.1.block _ (by dsimp only; omega) hspA)).trans u0
            have k3 := (World.frozen?_of_block (a := ⟨w.heap.size, 1, none⟩) (hm6.1.block _ (by dsimp only; omega) hspA)).trans u1
            have hsz6 := hm6.1.size
            have HP6 := Lib.hid hp6
            have HM6 := Lib.hid hm6'
            have HI6 := Lib.hid hi6
            have HS6 := Lib.hid (sim_bind (f := fun p => ds[k].lay c p base true) HS2.out hsim6)
            clear z0 z1 z2 z3 t0 t1 u0 u1 hm6 hp6 hi6 hsim6 hm6'
            go_wp2
            go_roundw
            case rel =>
              refine ⟨k + 1, V6, q6, l6, _, true, by omega, by go_num, HP6.out, HM6.out, HI6.out.mono (by have := HTK.out; omega), HS6.out, ?_, fun e => absurd e (by omega), ⟨k0, k1, k2, k3⟩, hn6, by omega⟩
              rw [HEQ.out, List.drop_eq_getElem_cons hd, show (k == 0) = false by simpa using HK0.out, Option.bind_assoc, Option.bind_assoc]
              congr 1
              funext p
              rw [belows_next (HSAY.out ds[k] (List.getElem_mem hd)).2.1]
              rfl
            case measure => simp [intOf]; omega
    · obtain rfl : k = l.length := by omega
      go_wp2
      go_end0
      refine ⟨rfl, Vk, qk, lk, HPK.out, HMK.out, HIK.out.mono (by have := wts_take_le ds l.length; omega), ?_⟩
      rw [HEQ.out, show ds.drop l.length = [] by rw [← HLE.out, List.drop_length]]
      rw [show (ok.bind fun p => belows c true [] (l.length == 0) p base fresh) = ok by cases ok <;> rfl]
      exact HSIM.out
end Go.Proofs.YtnpaplfdmpjfgaaDoor
