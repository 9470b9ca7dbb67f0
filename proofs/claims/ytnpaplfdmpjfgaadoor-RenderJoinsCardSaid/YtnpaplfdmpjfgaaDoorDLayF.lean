/- The program's fill. -/
import Derived.Test.YtnpaplfdmpjfgaaDoorDLayV
import Derived.Test.YtnpaplfdmpjfgaaDoorDFlatP
namespace Go.Proofs.YtnpaplfdmpjfgaaDoor
open Go.RowKit

theorem bind_sim {o : Option Pen} {q6 : Pen} {l6 : Bool} {g : Pen → Pen → Option Pen} (h : Sim o q6 l6) : (o.bind fun p => g p p) = o.bind fun p => g q6 p := by
  cases o with
  | none => rfl
  | some p => obtain ⟨rfl, _⟩ := h; rfl
theorem fill_text {c : Cfg} {K : Int} {x : Doc} {r : List Doc} {one : Bool} {ok : Option Pen} {qk q6 : Pen} {lk l6 : Bool} {u : ByteArray} {base : Int} {fresh : Bool} (hs : Sim ok qk lk) (hv : x.void = false) (hT : fillT c K one qk x.flat = some u) (h6 : Sim (ok.bind fun p => put c p u 0 false) q6 l6) :
    (ok.bind fun p => fills c K (x :: r) false one p base fresh) = (ok.bind fun p => put c p u 0 false).bind fun p => fills c K r false (qk.lines == q6.lines) p base fresh := by
  cases ok with
  | none => rfl
  | some p =>
    obtain ⟨rfl, _⟩ := hs
    simp only [Option.bind_some] at h6 ⊢
    rw [fills_some hv hT]
    exact bind_sim (g := fun a p => fills c K r false (qk.lines == a.lines) p base fresh) h6
theorem fill_line {c : Cfg} {K : Int} {x : Doc} {r : List Doc} {one : Bool} {ok : Option Pen} {qk qn q6 : Pen} {lk ln l6 : Bool} {base : Int} {fresh : Bool} (hs : Sim ok qk lk) (hv : x.void = false) (hT : fillT c K one qk x.flat = none) (hn : Sim (ok.bind (endl c)) qn ln) (h6 : Sim ((ok.bind (endl c)).bind fun p => x.lay c p base true) q6 l6) :
    (ok.bind fun p => fills c K (x :: r) false one p base fresh) = ((ok.bind (endl c)).bind fun p => x.lay c p base true).bind fun p => fills c K r false (qn.lines == q6.lines) p base fresh := by
  cases ok with
  | none => rfl
  | some p =>
    obtain ⟨rfl, _⟩ := hs
    simp only [Option.bind_some] at hn h6 ⊢
    rw [fills_none hv hT]
    cases he : endl c qk with
    | none => rfl
    | some p1 =>
      rw [he] at hn h6
      obtain ⟨rfl, _⟩ := hn
      simp only [Option.bind_some] at h6 ⊢
      exact bind_sim (g := fun a p => fills c K r false (qn.lines == a.lines) p base fresh) h6

set_option maxRecDepth 100000 in
set_option maxHeartbeats 8000000 in
theorem pfill_any (B b n₀ : Nat) (V : Value) (c : Cfg) (q : Pen) (base M : Int) (fresh : Bool) (K : Int) (bt : ByteArray) (hK : fblank K = bt) (A : Option Addr) (cc g o : Nat) (l : List DV) (ds : List Doc) (hl : l.map DV.d = ds) (w : World)
    (h : PenAt B w b V (pfOf c q false) q.out) (hi : Inv M q) (hsay : ∀ d ∈ ds, LaySays d ∧ d.void = false ∧ d.form = true) (hf : ∀ x r, ds = x :: r → FOk c q (base + x.lead0) fresh) (hb0 : -M ≤ base) (hb1 : base ≤ M) (hM : M + 4000 * (wts ds : Int) ≤ 1099511627776) (hw : wts ds ≤ 16777216) (hn : n₀ ≤ B)
    (hA : l ≠ [] → A = some ⟨g, o, none⟩ ∧ (g < w.heap.size ∧ Apart b V g)) (_hcap : l.length ≤ cc) (hR : RowAt n₀ w g o l) :
    Calls Tryd.prog 74 #[.pointer (some ⟨b, 0, none⟩), .slice A l.length cc, .string bt, .agg #[.int .i64 base, .bool fresh]] w (PLaid B b w V c (M + 4000 * (wts ds : Int)) (fills c K ds true false q base fresh)) := by
  have hll : l.length = ds.length := by rw [← hl, List.length_map]
  have hdl := len_le_wts ds
  have hget : ∀ (k : Nat) (hk : k < l.length) (hk' : k < ds.length), l[k].d = ds[k] := fun k hk hk' => by simp only [← hl, List.getElem_map]
  obtain ⟨s0, s1, hb0', hs0⟩ := spot_new w (.int .i64 base) (.bool fresh)
  have sf0 : (w.alloc (.cells #[.int .i64 base, .bool fresh] 70)).frozen? ⟨w.heap.size, 0, none⟩ = false := by simp
  have sf1 : (w.alloc (.cells #[.int .i64 base, .bool fresh] 70)).frozen? ⟨w.heap.size, 1, none⟩ = false := by simp
  obtain ⟨W, hW⟩ : ∃ W, w.alloc (.cells #[.int .i64 base, .bool fresh] 70) = W := ⟨_, rfl⟩
  rw [hW] at s0 s1 hb0' hs0 sf0 sf1
  have hlt := h.lt
  have hown := h.own.lt
  have HP := Lib.hid h
  have HI := Lib.hid hi
  have HF := Lib.hid hf
  have HSAY := Lib.hid hsay
  have HA := Lib.hid hA
  have HR := Lib.hid hR
  have HB := Lib.hid hb0'
  have HGET := Lib.hid hget
  have HOWN := Lib.hid hown
  have HLL := Lib.hid hll
  have HSP := Lib.hid (And.intro s0 (And.intro s1 (And.intro sf0 sf1)))
  have hne0 : V.ownBlock ≠ some w.heap.size := fun e => by have := (hown _ e).2; omega
  have HNE := Lib.hid hne0
  have hll' : ds.length = l.length := hll.symm
  have HLE := Lib.hid hll'
  have hdl' : l.length ≤ 16777216 := by omega
  clear h hi hf hsay hA hR hb0' hget hown hll s0 s1 sf0 sf1 hne0 hll' hdl hl
  go_enter Tryd.func74, Tryd.ntmps74
  go_wp2_with fail
  clear hW
  go_loopw [8, 16] (fun one i wr => ∃ (k : Nat) (Vk : Value) (qk : Pen) (lk : Bool) (ok : Option Pen) (onek : Bool), k ≤ l.length ∧ i = .int .i64 k ∧ one = .bool onek ∧ PenAt B wr b Vk (pfOf c qk lk) qk.out ∧ Moved b V w Vk wr ∧ Inv (M + 4000 * (wts (ds.take k) : Int)) qk ∧ Sim ok qk lk ∧
      fills c K ds true false q base fresh = ok.bind (fun p => fills c K (ds.drop k) (k == 0) onek p base fresh) ∧ (k = 0 → ok = some q ∧ onek = false) ∧
      (wr.cell? ⟨w.heap.size, 0, none⟩ = some (.int .i64 base) ∧ wr.cell? ⟨w.heap.size, 1, none⟩ = some (.bool fresh) ∧ wr.frozen? ⟨w.heap.size, 0, none⟩ = false ∧ wr.frozen? ⟨w.heap.size, 1, none⟩ = false) ∧ Vk.ownBlock ≠ some w.heap.size ∧ w.heap.size < wr.heap.size) (fun _ i wr => l.length - (intOf i).toNat)
  case atStart =>
    exact ⟨0, V, q, false, some q, false, Nat.zero_le _, rfl, rfl, HP.out.later HB.out, Moved.of_below HB.out, by simpa [wts] using HI.out, ⟨rfl, rfl⟩, rfl, fun _ => ⟨rfl, rfl⟩, HSP.out, HNE.out, by omega⟩
  case round =>
    obtain ⟨k, Vk, qk, lk, ok, onek, hk, rfl, rfl, hp, hm, hik, hsim, heq, hz, hsp, hnek, hszk⟩ := hrel
    have HPK := Lib.hid hp
    have HMK := Lib.hid hm
    have HIK := Lib.hid hik
    have HSIM := Lib.hid hsim
    have HEQ := Lib.hid heq
    have HZ := Lib.hid hz
    have HNK := Lib.hid hnek
    obtain ⟨s0, s1, sf0, sf1⟩ := hsp
    have hltk := hp.lt
    clear hp hm hik hsim heq hz hnek
    by_cases hlt' : k < l.length
    · have hd : k < ds.length := by rw [HLE.out]; exact hlt'
      obtain ⟨rfl, hg⟩ := HA.out (fun e => by rw [e] at hlt'; simp at hlt')
      have hrow := HR.out.later (w' := wr) (HMK.out.1.block g hg.1 hg.2) (below_le (moved_below HP.out HMK.out) hn)
      obtain ⟨h2, h3, h4, h5⟩ := hrow.cells k l[k] (List.getElem?_eq_getElem hlt')
      have hok := hrow.ok l[k] (List.getElem_mem hlt')
      have hwd := wts_drop hd
      rw [HGET.out k hlt' hd] at h2 h3 h4 h5
      have hAk : KidsAt n₀ wr ds[k].kids l[k].A := by have := hok.at_; rwa [HGET.out k hlt' hd] at this
      have hcapk : ds[k].kids.length ≤ l[k].c := by have := hok.cap; rwa [HGET.out k hlt' hd] at this
      have hnilk := hok.nil
      generalize hA'e : l[k].A = A' at h5 hAk hnilk
      generalize l[k].c = c' at h5 hcapk hnilk
      have HKK := Lib.hid hAk
      have hAw : KidsAt n₀ w ds[k].kids A' := by
        have := (HR.out.ok l[k] (List.getElem_mem hlt')).at_
        rw [HGET.out k hlt' hd] at this
        rw [← hA'e]
        exact this
      have HKW := Lib.hid hAw
      clear hAw hA'e
      have HNIL := Lib.hid hnilk
      have HSK := Lib.hid (HSAY.out ds[k] (List.getElem_mem hd))
      obtain ⟨hbx, hbw, hbs⟩ := box_new wr (.int .i64 ds[k].kind) (.string ds[k].text) (.int .i64 ds[k].n) (.slice A' ds[k].kids.length c')
      obtain ⟨W3, hW3⟩ : ∃ W3, wr.alloc (.cells #[.int .i64 ds[k].kind, .string ds[k].text, .int .i64 ds[k].n, .slice A' ds[k].kids.length c'] 24) = W3 := ⟨_, rfl⟩
      rw [hW3] at hbx hbw hbs
      have HBX := Lib.hid hbx
      have HBW := Lib.hid hbw
      have hp3 := HPK.out.later hbw
      have HP3 := Lib.hid hp3
      have hs3 : wr.heap.size < W3.heap.size := by omega
      have hown3 : Vk.ownBlock ≠ some wr.heap.size := fun e => by have := (HPK.out.own.lt _ e).2; omega
      have HO3 := Lib.hid hown3
      obtain ⟨z0, z1, z2, z3, _, _, _, _⟩ := hbx
      have t0 := (hbw.cell (p := ⟨w.heap.size, 0, none⟩) hszk).trans s0
      have t1 := (hbw.cell (p := ⟨w.heap.size, 1, none⟩) hszk).trans s1
      have u0 := (hbw.frozen (p := ⟨w.heap.size, 0, none⟩) hszk).trans sf0
      have u1 := (hbw.frozen (p := ⟨w.heap.size, 1, none⟩) hszk).trans sf1
      clear hrow hok hAk hnilk hbw hbs hp3 hown3
      have hwk : wts (ds.take k) + ds[k].wt ≤ wts ds := hwd
      have HTK := Lib.hid (wts_take hd)
      have hkb := kidsAt_below HKK.out (below_le HBW.out (by have := HPK.out.Ble; omega))
      have hR0 : KidsAt n₀ w ds[k].kids A' := HKW.out
      have hflat := flat_any ds[k].wt ds[k] A' c' W3 (Nat.le_refl _) (by omega) (kidsAt_mono hkb (by have := HPK.out.Ble; omega))
      unfold FlatSaid at hflat
      have HFL := Lib.hid hflat
      have c8 := HP3.out.cells.c8
      simp only [pfOf] at c8
      have hfk := (HSAY.out ds[k] (List.getElem_mem hd)).2.2
      have hvk := (HSAY.out ds[k] (List.getElem_mem hd)).2.1
      have HVK := Lib.hid hvk
      clear hflat hfk hvk
      cases hfl : ds[k].flat with
      | none =>
        go_wp2_with fail
        clear hW3
        have hfc := HFL.out
        rw [hfl] at hfc
        simp only [flatV] at hfc
        refine hfc.mono ?_
        rintro e Wm ⟨rfl, hbf⟩
        have hspA : Apart b Vk w.heap.size := ⟨by omega, fun e => HNK.out e.symm⟩
        have hxA : Apart b Vk wr.heap.size := ⟨by omega, fun e => HO3.out e.symm⟩
        have HPM := Lib.hid (HP3.out.later hbf)
        have HMM := Lib.hid (HMK.out.trans ((Moved.of_below HBW.out).trans (Moved.of_below hbf)))
        have HXM := Lib.hid (HBX.out.below hbf hs3)
        have hspm : Wm.cell? ⟨w.heap.size, 0, none⟩ = some (.int .i64 base) ∧ Wm.cell? ⟨w.heap.size, 1, none⟩ = some (.bool fresh) ∧ Wm.frozen? ⟨w.heap.size, 0, none⟩ = false ∧ Wm.frozen? ⟨w.heap.size, 1, none⟩ = false :=
          ⟨(hbf.cell (p := ⟨w.heap.size, 0, none⟩) (by dsimp only; omega)).trans t0, (hbf.cell (p := ⟨w.heap.size, 1, none⟩) (by dsimp only; omega)).trans t1, (hbf.frozen (p := ⟨w.heap.size, 0, none⟩) (by dsimp only; omega)).trans u0, (hbf.frozen (p := ⟨w.heap.size, 1, none⟩) (by dsimp only; omega)).trans u1⟩
        have hszm : wr.heap.size < Wm.heap.size := by have := hbf.size; omega
        have hszw : w.heap.size < Wm.heap.size := by omega
        clear hfc hbf z0 z1 z2 z3 t0 t1 u0 u1 h2 h3 h4 h5 s0 s1 sf0 sf1 c8
        by_cases hk0 : k = 0
        · have g1 : decide (k = 0) = true := decide_eq_true hk0
          have g1' : (k == 0) = true := by simpa using hk0
          have g1'' : ((k : Int) == 0) = true := by rw [hk0]; rfl
          have HK0 := Lib.hid hk0
          have hkb5 := kidsAt_below hR0 (below_le (moved_below HP.out HMM.out) hn)
          have HC := Lib.hid (HSK.out.1 B b n₀ Vk c qk lk base (M + 4000 * (wts (ds.take k) : Int)) fresh A' c' Wm HPM.out HIK.out (fun _ _ => by
            obtain ⟨e1, e2⟩ := HZ.out hk0
            have hs := HSIM.out
            rw [e1] at hs
            rw [hs.1]
            exact HF.out ds[k] (ds.drop (k + 1)) (by rw [← List.drop_eq_getElem_cons hd, hk0]; rfl)) (by omega) (by omega) (by have := HTK.out; omega) hn HNIL.out hcapk hkb5)
          obtain ⟨t0, t1, u0, u1⟩ := id hspm
          obtain ⟨z0, z1, z2, z3, _, _, _, _⟩ := HXM.out
          clear hkb5 hk0
          go_wp2_with fail
          refine HC.out.mono ?_
          rintro e w6 ⟨rfl, V6, q6, l6, hp6, hm6, hi6, hsim6⟩
          have hn6 : V6.ownBlock ≠ some w.heap.size := by
            rcases hm6.2 with e | ⟨x, e, hx⟩
            · rw [e]; exact HNK.out
            · rw [e]; intro he; simp only [Option.some.injEq] at he; omega
          have hm6' : Moved b V w V6 w6 := HMM.out.trans hm6
          have hsp6 : w6.cell? ⟨w.heap.size, 0, none⟩ = some (.int .i64 base) ∧ w6.cell? ⟨w.heap.size, 1, none⟩ = some (.bool fresh) ∧ w6.frozen? ⟨w.heap.size, 0, none⟩ = false ∧ w6.frozen? ⟨w.heap.size, 1, none⟩ = false :=
            ⟨(hm6.1.cell ⟨w.heap.size, 0, none⟩ (by dsimp only; omega) hspA).trans hspm.1, (hm6.1.cell ⟨w.heap.size, 1, none⟩ (by dsimp only; omega) hspA).trans hspm.2.1, (World.frozen?_of_block (a := ⟨w.heap.size, 0, none⟩) (hm6.1.block _ (by dsimp only; omega) hspA)).trans hspm.2.2.1, (World.frozen?_of_block (a := ⟨w.heap.size, 1, none⟩) (hm6.1.block _ (by dsimp only; omega) hspA)).trans hspm.2.2.2⟩
          have hsz6 := hm6.1.size
          have c8' := hp6.cells.c8
          simp only [pfOf] at c8'
          have HP6 := Lib.hid hp6
          have HM6 := Lib.hid hm6'
          have HI6 := Lib.hid hi6
          have HS6 := Lib.hid (sim_bind (f := fun p => ds[k].lay c p base fresh) HSIM.out hsim6)
          have HSP6 := Lib.hid hsp6
          clear z0 z1 z2 z3 t0 t1 u0 u1 hm6 hp6 hi6 hsim6 hm6' hsp6
          go_wp2
          go_roundw
          case rel =>
            refine ⟨k + 1, V6, q6, l6, _, (qk.lines == q6.lines), by omega, by go_num, rfl, HP6.out, HM6.out, HI6.out.mono (by have := HTK.out; omega), HS6.out, ?_, fun e => absurd e (by omega), HSP6.out, hn6, by omega⟩
            rw [HEQ.out, List.drop_eq_getElem_cons hd, show (k == 0) = true by rw [HK0.out]; rfl, show (k + 1 == 0) = false from rfl]
            have hs := HSIM.out
            have h6 := HS6.out
            cases hok : ok with
            | none => rfl
            | some p =>
              rw [hok] at hs h6
              obtain ⟨rfl, _⟩ := hs
              simp only [Option.bind_some] at h6 ⊢
              rw [fills_first HVK.out]
              exact bind_sim (g := fun a p => fills c K (ds.drop (k + 1)) false (qk.lines == a.lines) p base fresh) h6
          case measure => simp [intOf]; omega
        · have g1 : decide (k = 0) = false := decide_eq_false hk0
          have g1' : (k == 0) = false := by simpa using hk0
          have g1'' : ((k : Int) == 0) = false := by simpa using hk0
          have HK0 := Lib.hid hk0
          clear hk0
          cases hon : onek with
          | false =>
            have HFT := Lib.hid (show fillT c K onek qk ds[k].flat = none by rw [hon]; rfl)
            have HON := Lib.hid hon
            clear hon
            have HT := Lib.hid (pline_any B b Vk c qk lk (M + 4000 * (wts (ds.take k) : Int)) Wm HPM.out HIK.out (by omega))
            go_wp2_with fail
            refine HT.out.mono ?_
            rintro e Wn ⟨rfl, Vn, qn, ln, hpn, hmn, hin, hsn⟩
            have hspn : Wn.cell? ⟨w.heap.size, 0, none⟩ = some (.int .i64 base) ∧ Wn.cell? ⟨w.heap.size, 1, none⟩ = some (.bool fresh) ∧ Wn.frozen? ⟨w.heap.size, 0, none⟩ = false ∧ Wn.frozen? ⟨w.heap.size, 1, none⟩ = false :=
              ⟨(hmn.1.cell ⟨w.heap.size, 0, none⟩ (by dsimp only; omega) hspA).trans hspm.1, (hmn.1.cell ⟨w.heap.size, 1, none⟩ (by dsimp only; omega) hspA).trans hspm.2.1, (World.frozen?_of_block (a := ⟨w.heap.size, 0, none⟩) (hmn.1.block _ (by dsimp only; omega) hspA)).trans hspm.2.2.1, (World.frozen?_of_block (a := ⟨w.heap.size, 1, none⟩) (hmn.1.block _ (by dsimp only; omega) hspA)).trans hspm.2.2.2⟩
            have hxn := HXM.out.stay hmn.1 hszm hxA
            have HMN := Lib.hid (HMM.out.trans hmn)
            have hnn : Vn.ownBlock ≠ some w.heap.size := by
              rcases hmn.2 with e | ⟨x, e, hx⟩
              · rw [e]; exact HNK.out
              · rw [e]; intro he; simp only [Option.some.injEq] at he; omega
            have hszn := hmn.1.size
            have HS2 := Lib.hid (sim_bind (f := endl c) HSIM.out hsn)
            have hkb5 := kidsAt_below hR0 (below_le (moved_below HP.out HMN.out) hn)
            have HC := Lib.hid (HSK.out.1 B b n₀ Vn c qn ln base (M + 4000 * (wts (ds.take k) : Int) + 1) true A' c' Wn hpn hin (fun hl _ _ hm0 => by
              have h0 : endl c qk = some qn := by
                subst hl
                cases hlk : lk with
                | true => rw [hlk] at hsn; simp only [liveO, if_true, Sim] at hsn; cases hsn
                | false =>
                  rw [hlk] at hsn
                  simp only [liveO, Bool.false_eq_true, if_false] at hsn
                  cases he : endl c qk with
                  | none => rw [he] at hsn; cases hsn
                  | some p => rw [he] at hsn; rw [hsn.1]
              rw [endl_col hm0 h0]
              omega) (by omega) (by omega) (by have := HTK.out; omega) hn HNIL.out hcapk hkb5)
            have hspA : Apart b Vn w.heap.size := ⟨by omega, fun e => hnn e.symm⟩
            have c8n := hpn.cells.c8
            simp only [pfOf] at c8n
            have hspm := hspn
            have HNN := Lib.hid hnn
            obtain ⟨t0, t1, u0, u1⟩ := id hspn
            obtain ⟨z0, z1, z2, z3, _, _, _, _⟩ := hxn
            clear hkb5 hpn hmn hin hsn HT hnn hspn
            go_wp2_with fail
            refine HC.out.mono ?_
            rintro e w6 ⟨rfl, V6, q6, l6, hp6, hm6, hi6, hsim6⟩
            clear c8n
            have hn6 : V6.ownBlock ≠ some w.heap.size := by
              rcases hm6.2 with e | ⟨x, e, hx⟩
              · rw [e]; exact HNN.out
              · rw [e]; intro he; simp only [Option.some.injEq] at he; omega
            have hm6' : Moved b V w V6 w6 := HMN.out.trans hm6
            have hsp6 : w6.cell? ⟨w.heap.size, 0, none⟩ = some (.int .i64 base) ∧ w6.cell? ⟨w.heap.size, 1, none⟩ = some (.bool fresh) ∧ w6.frozen? ⟨w.heap.size, 0, none⟩ = false ∧ w6.frozen? ⟨w.heap.size, 1, none⟩ = false :=
              ⟨(hm6.1.cell ⟨w.heap.size, 0, none⟩ (by dsimp only; omega) hspA).trans hspm.1, (hm6.1.cell ⟨w.heap.size, 1, none⟩ (by dsimp only; omega) hspA).trans hspm.2.1, (World.frozen?_of_block (a := ⟨w.heap.size, 0, none⟩) (hm6.1.block _ (by dsimp only; omega) hspA)).trans hspm.2.2.1, (World.frozen?_of_block (a := ⟨w.heap.size, 1, none⟩) (hm6.1.block _ (by dsimp only; omega) hspA)).trans hspm.2.2.2⟩
            have hsz6 := hm6.1.size
            have c8' := hp6.cells.c8
            simp only [pfOf] at c8'
            have HP6 := Lib.hid hp6
            have HM6 := Lib.hid hm6'
            have HI6 := Lib.hid hi6
            have HS6 := Lib.hid (sim_bind (f := fun p => ds[k].lay c p base true) HS2.out hsim6)
            have HSP6 := Lib.hid hsp6
            clear z0 z1 z2 z3 t0 t1 u0 u1 hm6 hp6 hi6 hsim6 hm6' hsp6
            go_wp2
            go_roundw
            case rel =>
              refine ⟨k + 1, V6, q6, l6, _, (qn.lines == q6.lines), by omega, by go_num, rfl, HP6.out, HM6.out, HI6.out.mono (by have := HTK.out; omega), HS6.out, ?_, fun e => absurd e (by omega), HSP6.out, hn6, by omega⟩
              rw [HEQ.out, List.drop_eq_getElem_cons hd, show (k == 0) = false by simpa using HK0.out, show (k + 1 == 0) = false from rfl]
              exact fill_line HSIM.out HVK.out HFT.out HS2.out HS6.out
            case measure => simp [intOf]; omega
          | true =>
            have HFT := Lib.hid (show fillT c K onek qk ds[k].flat = none by rw [hon, hfl]; rfl)
            have HON := Lib.hid hon
            clear hon
            have HT := Lib.hid (pline_any B b Vk c qk lk (M + 4000 * (wts (ds.take k) : Int)) Wm HPM.out HIK.out (by omega))
            go_wp2_with fail
            refine HT.out.mono ?_
            rintro e Wn ⟨rfl, Vn, qn, ln, hpn, hmn, hin, hsn⟩
            have hspn : Wn.cell? ⟨w.heap.size, 0, none⟩ = some (.int .i64 base) ∧ Wn.cell? ⟨w.heap.size, 1, none⟩ = some (.bool fresh) ∧ Wn.frozen? ⟨w.heap.size, 0, none⟩ = false ∧ Wn.frozen? ⟨w.heap.size, 1, none⟩ = false :=
              ⟨(hmn.1.cell ⟨w.heap.size, 0, none⟩ (by dsimp only; omega) hspA).trans hspm.1, (hmn.1.cell ⟨w.heap.size, 1, none⟩ (by dsimp only; omega) hspA).trans hspm.2.1, (World.frozen?_of_block (a := ⟨w.heap.size, 0, none⟩) (hmn.1.block _ (by dsimp only; omega) hspA)).trans hspm.2.2.1, (World.frozen?_of_block (a := ⟨w.heap.size, 1, none⟩) (hmn.1.block _ (by dsimp only; omega) hspA)).trans hspm.2.2.2⟩
            have hxn := HXM.out.stay hmn.1 hszm hxA
            have HMN := Lib.hid (HMM.out.trans hmn)
            have hnn : Vn.ownBlock ≠ some w.heap.size := by
              rcases hmn.2 with e | ⟨x, e, hx⟩
              · rw [e]; exact HNK.out
              · rw [e]; intro he; simp only [Option.some.injEq] at he; omega
            have hszn := hmn.1.size
            have HS2 := Lib.hid (sim_bind (f := endl c) HSIM.out hsn)
            have hkb5 := kidsAt_below hR0 (below_le (moved_below HP.out HMN.out) hn)
            have HC := Lib.hid (HSK.out.1 B b n₀ Vn c qn ln base (M + 4000 * (wts (ds.take k) : Int) + 1) true A' c' Wn hpn hin (fun hl _ _ hm0 => by
              have h0 : endl c qk = some qn := by
                subst hl
                cases hlk : lk with
                | true => rw [hlk] at hsn; simp only [liveO, if_true, Sim] at hsn; cases hsn
                | false =>
                  rw [hlk] at hsn
                  simp only [liveO, Bool.false_eq_true, if_false] at hsn
                  cases he : endl c qk with
                  | none => rw [he] at hsn; cases hsn
                  | some p => rw [he] at hsn; rw [hsn.1]
              rw [endl_col hm0 h0]
              omega) (by omega) (by omega) (by have := HTK.out; omega) hn HNIL.out hcapk hkb5)
            have hspA : Apart b Vn w.heap.size := ⟨by omega, fun e => hnn e.symm⟩
            have c8n := hpn.cells.c8
            simp only [pfOf] at c8n
            have hspm := hspn
            have HNN := Lib.hid hnn
            obtain ⟨t0, t1, u0, u1⟩ := id hspn
            obtain ⟨z0, z1, z2, z3, _, _, _, _⟩ := hxn
            clear hkb5 hpn hmn hin hsn HT hnn hspn
            go_wp2_with fail
            refine HC.out.mono ?_
            rintro e w6 ⟨rfl, V6, q6, l6, hp6, hm6, hi6, hsim6⟩
            clear c8n
            have hn6 : V6.ownBlock ≠ some w.heap.size := by
              rcases hm6.2 with e | ⟨x, e, hx⟩
              · rw [e]; exact HNN.out
              · rw [e]; intro he; simp only [Option.some.injEq] at he; omega
            have hm6' : Moved b V w V6 w6 := HMN.out.trans hm6
            have hsp6 : w6.cell? ⟨w.heap.size, 0, none⟩ = some (.int .i64 base) ∧ w6.cell? ⟨w.heap.size, 1, none⟩ = some (.bool fresh) ∧ w6.frozen? ⟨w.heap.size, 0, none⟩ = false ∧ w6.frozen? ⟨w.heap.size, 1, none⟩ = false :=
              ⟨(hm6.1.cell ⟨w.heap.size, 0, none⟩ (by dsimp only; omega) hspA).trans hspm.1, (hm6.1.cell ⟨w.heap.size, 1, none⟩ (by dsimp only; omega) hspA).trans hspm.2.1, (World.frozen?_of_block (a := ⟨w.heap.size, 0, none⟩) (hm6.1.block _ (by dsimp only; omega) hspA)).trans hspm.2.2.1, (World.frozen?_of_block (a := ⟨w.heap.size, 1, none⟩) (hm6.1.block _ (by dsimp only; omega) hspA)).trans hspm.2.2.2⟩
            have hsz6 := hm6.1.size
            have c8' := hp6.cells.c8
            simp only [pfOf] at c8'
            have HP6 := Lib.hid hp6
            have HM6 := Lib.hid hm6'
            have HI6 := Lib.hid hi6
            have HS6 := Lib.hid (sim_bind (f := fun p => ds[k].lay c p base true) HS2.out hsim6)
            have HSP6 := Lib.hid hsp6
            clear z0 z1 z2 z3 t0 t1 u0 u1 hm6 hp6 hi6 hsim6 hm6' hsp6
            go_wp2
            go_roundw
            case rel =>
              refine ⟨k + 1, V6, q6, l6, _, (qn.lines == q6.lines), by omega, by go_num, rfl, HP6.out, HM6.out, HI6.out.mono (by have := HTK.out; omega), HS6.out, ?_, fun e => absurd e (by omega), HSP6.out, hn6, by omega⟩
              rw [HEQ.out, List.drop_eq_getElem_cons hd, show (k == 0) = false by simpa using HK0.out, show (k + 1 == 0) = false from rfl]
              exact fill_line HSIM.out HVK.out HFT.out HS2.out HS6.out
            case measure => simp [intOf]; omega
      | some sk =>
        have hfs := flat_size hfl
        go_wp2_with fail
        clear hW3
        have hfc := HFL.out
        rw [hfl] at hfc
        simp only [flatV] at hfc
        refine hfc.mono ?_
        rintro e Wm ⟨rfl, hbf⟩
        have hspA : Apart b Vk w.heap.size := ⟨by omega, fun e => HNK.out e.symm⟩
        have hxA : Apart b Vk wr.heap.size := ⟨by omega, fun e => HO3.out e.symm⟩
        have HPM := Lib.hid (HP3.out.later hbf)
        have HMM := Lib.hid (HMK.out.trans ((Moved.of_below HBW.out).trans (Moved.of_below hbf)))
        have HXM := Lib.hid (HBX.out.below hbf hs3)
        have hspm : Wm.cell? ⟨w.heap.size, 0, none⟩ = some (.int .i64 base) ∧ Wm.cell? ⟨w.heap.size, 1, none⟩ = some (.bool fresh) ∧ Wm.frozen? ⟨w.heap.size, 0, none⟩ = false ∧ Wm.frozen? ⟨w.heap.size, 1, none⟩ = false :=
          ⟨(hbf.cell (p := ⟨w.heap.size, 0, none⟩) (by dsimp only; omega)).trans t0, (hbf.cell (p := ⟨w.heap.size, 1, none⟩) (by dsimp only; omega)).trans t1, (hbf.frozen (p := ⟨w.heap.size, 0, none⟩) (by dsimp only; omega)).trans u0, (hbf.frozen (p := ⟨w.heap.size, 1, none⟩) (by dsimp only; omega)).trans u1⟩
        have hszm : wr.heap.size < Wm.heap.size := by have := hbf.size; omega
        have hszw : w.heap.size < Wm.heap.size := by omega
        clear hfc hbf z0 z1 z2 z3 t0 t1 u0 u1 h2 h3 h4 h5 s0 s1 sf0 sf1 c8
        by_cases hk0 : k = 0
        · have g1 : decide (k = 0) = true := decide_eq_true hk0
          have g1' : (k == 0) = true := by simpa using hk0
          have g1'' : ((k : Int) == 0) = true := by rw [hk0]; rfl
          have HK0 := Lib.hid hk0
          have hkb5 := kidsAt_below hR0 (below_le (moved_below HP.out HMM.out) hn)
          have HC := Lib.hid (HSK.out.1 B b n₀ Vk c qk lk base (M + 4000 * (wts (ds.take k) : Int)) fresh A' c' Wm HPM.out HIK.out (fun _ _ => by
            obtain ⟨e1, e2⟩ := HZ.out hk0
            have hs := HSIM.out
            rw [e1] at hs
            rw [hs.1]
            exact HF.out ds[k] (ds.drop (k + 1)) (by rw [← List.drop_eq_getElem_cons hd, hk0]; rfl)) (by omega) (by omega) (by have := HTK.out; omega) hn HNIL.out hcapk hkb5)
          obtain ⟨t0, t1, u0, u1⟩ := id hspm
          obtain ⟨z0, z1, z2, z3, _, _, _, _⟩ := HXM.out
          clear hkb5 hk0
          go_wp2_with fail
          refine HC.out.mono ?_
          rintro e w6 ⟨rfl, V6, q6, l6, hp6, hm6, hi6, hsim6⟩
          have hn6 : V6.ownBlock ≠ some w.heap.size := by
            rcases hm6.2 with e | ⟨x, e, hx⟩
            · rw [e]; exact HNK.out
            · rw [e]; intro he; simp only [Option.some.injEq] at he; omega
          have hm6' : Moved b V w V6 w6 := HMM.out.trans hm6
          have hsp6 : w6.cell? ⟨w.heap.size, 0, none⟩ = some (.int .i64 base) ∧ w6.cell? ⟨w.heap.size, 1, none⟩ = some (.bool fresh) ∧ w6.frozen? ⟨w.heap.size, 0, none⟩ = false ∧ w6.frozen? ⟨w.heap.size, 1, none⟩ = false :=
            ⟨(hm6.1.cell ⟨w.heap.size, 0, none⟩ (by dsimp only; omega) hspA).trans hspm.1, (hm6.1.cell ⟨w.heap.size, 1, none⟩ (by dsimp only; omega) hspA).trans hspm.2.1, (World.frozen?_of_block (a := ⟨w.heap.size, 0, none⟩) (hm6.1.block _ (by dsimp only; omega) hspA)).trans hspm.2.2.1, (World.frozen?_of_block (a := ⟨w.heap.size, 1, none⟩) (hm6.1.block _ (by dsimp only; omega) hspA)).trans hspm.2.2.2⟩
          have hsz6 := hm6.1.size
          have c8' := hp6.cells.c8
          simp only [pfOf] at c8'
          have HP6 := Lib.hid hp6
          have HM6 := Lib.hid hm6'
          have HI6 := Lib.hid hi6
          have HS6 := Lib.hid (sim_bind (f := fun p => ds[k].lay c p base fresh) HSIM.out hsim6)
          have HSP6 := Lib.hid hsp6
          clear z0 z1 z2 z3 t0 t1 u0 u1 hm6 hp6 hi6 hsim6 hm6' hsp6
          go_wp2
          go_roundw
          case rel =>
            refine ⟨k + 1, V6, q6, l6, _, (qk.lines == q6.lines), by omega, by go_num, rfl, HP6.out, HM6.out, HI6.out.mono (by have := HTK.out; omega), HS6.out, ?_, fun e => absurd e (by omega), HSP6.out, hn6, by omega⟩
            rw [HEQ.out, List.drop_eq_getElem_cons hd, show (k == 0) = true by rw [HK0.out]; rfl, show (k + 1 == 0) = false from rfl]
            have hs := HSIM.out
            have h6 := HS6.out
            cases hok : ok with
            | none => rfl
            | some p =>
              rw [hok] at hs h6
              obtain ⟨rfl, _⟩ := hs
              simp only [Option.bind_some] at h6 ⊢
              rw [fills_first HVK.out]
              exact bind_sim (g := fun a p => fills c K (ds.drop (k + 1)) false (qk.lines == a.lines) p base fresh) h6
          case measure => simp [intOf]; omega
        · have g1 : decide (k = 0) = false := decide_eq_false hk0
          have g1' : (k == 0) = false := by simpa using hk0
          have g1'' : ((k : Int) == 0) = false := by simpa using hk0
          have HK0 := Lib.hid hk0
          clear hk0
          cases hon : onek with
          | false =>
            have HFT := Lib.hid (show fillT c K onek qk ds[k].flat = none by rw [hon]; rfl)
            have HON := Lib.hid hon
            clear hon
            have HT := Lib.hid (pline_any B b Vk c qk lk (M + 4000 * (wts (ds.take k) : Int)) Wm HPM.out HIK.out (by omega))
            go_wp2_with fail
            refine HT.out.mono ?_
            rintro e Wn ⟨rfl, Vn, qn, ln, hpn, hmn, hin, hsn⟩
            have hspn : Wn.cell? ⟨w.heap.size, 0, none⟩ = some (.int .i64 base) ∧ Wn.cell? ⟨w.heap.size, 1, none⟩ = some (.bool fresh) ∧ Wn.frozen? ⟨w.heap.size, 0, none⟩ = false ∧ Wn.frozen? ⟨w.heap.size, 1, none⟩ = false :=
              ⟨(hmn.1.cell ⟨w.heap.size, 0, none⟩ (by dsimp only; omega) hspA).trans hspm.1, (hmn.1.cell ⟨w.heap.size, 1, none⟩ (by dsimp only; omega) hspA).trans hspm.2.1, (World.frozen?_of_block (a := ⟨w.heap.size, 0, none⟩) (hmn.1.block _ (by dsimp only; omega) hspA)).trans hspm.2.2.1, (World.frozen?_of_block (a := ⟨w.heap.size, 1, none⟩) (hmn.1.block _ (by dsimp only; omega) hspA)).trans hspm.2.2.2⟩
            have hxn := HXM.out.stay hmn.1 hszm hxA
            have HMN := Lib.hid (HMM.out.trans hmn)
            have hnn : Vn.ownBlock ≠ some w.heap.size := by
              rcases hmn.2 with e | ⟨x, e, hx⟩
              · rw [e]; exact HNK.out
              · rw [e]; intro he; simp only [Option.some.injEq] at he; omega
            have hszn := hmn.1.size
            have HS2 := Lib.hid (sim_bind (f := endl c) HSIM.out hsn)
            have hkb5 := kidsAt_below hR0 (below_le (moved_below HP.out HMN.out) hn)
            have HC := Lib.hid (HSK.out.1 B b n₀ Vn c qn ln base (M + 4000 * (wts (ds.take k) : Int) + 1) true A' c' Wn hpn hin (fun hl _ _ hm0 => by
              have h0 : endl c qk = some qn := by
                subst hl
                cases hlk : lk with
                | true => rw [hlk] at hsn; simp only [liveO, if_true, Sim] at hsn; cases hsn
                | false =>
                  rw [hlk] at hsn
                  simp only [liveO, Bool.false_eq_true, if_false] at hsn
                  cases he : endl c qk with
                  | none => rw [he] at hsn; cases hsn
                  | some p => rw [he] at hsn; rw [hsn.1]
              rw [endl_col hm0 h0]
              omega) (by omega) (by omega) (by have := HTK.out; omega) hn HNIL.out hcapk hkb5)
            have hspA : Apart b Vn w.heap.size := ⟨by omega, fun e => hnn e.symm⟩
            have c8n := hpn.cells.c8
            simp only [pfOf] at c8n
            have hspm := hspn
            have HNN := Lib.hid hnn
            obtain ⟨t0, t1, u0, u1⟩ := id hspn
            obtain ⟨z0, z1, z2, z3, _, _, _, _⟩ := hxn
            clear hkb5 hpn hmn hin hsn HT hnn hspn
            go_wp2_with fail
            refine HC.out.mono ?_
            rintro e w6 ⟨rfl, V6, q6, l6, hp6, hm6, hi6, hsim6⟩
            clear c8n
            have hn6 : V6.ownBlock ≠ some w.heap.size := by
              rcases hm6.2 with e | ⟨x, e, hx⟩
              · rw [e]; exact HNN.out
              · rw [e]; intro he; simp only [Option.some.injEq] at he; omega
            have hm6' : Moved b V w V6 w6 := HMN.out.trans hm6
            have hsp6 : w6.cell? ⟨w.heap.size, 0, none⟩ = some (.int .i64 base) ∧ w6.cell? ⟨w.heap.size, 1, none⟩ = some (.bool fresh) ∧ w6.frozen? ⟨w.heap.size, 0, none⟩ = false ∧ w6.frozen? ⟨w.heap.size, 1, none⟩ = false :=
              ⟨(hm6.1.cell ⟨w.heap.size, 0, none⟩ (by dsimp only; omega) hspA).trans hspm.1, (hm6.1.cell ⟨w.heap.size, 1, none⟩ (by dsimp only; omega) hspA).trans hspm.2.1, (World.frozen?_of_block (a := ⟨w.heap.size, 0, none⟩) (hm6.1.block _ (by dsimp only; omega) hspA)).trans hspm.2.2.1, (World.frozen?_of_block (a := ⟨w.heap.size, 1, none⟩) (hm6.1.block _ (by dsimp only; omega) hspA)).trans hspm.2.2.2⟩
            have hsz6 := hm6.1.size
            have c8' := hp6.cells.c8
            simp only [pfOf] at c8'
            have HP6 := Lib.hid hp6
            have HM6 := Lib.hid hm6'
            have HI6 := Lib.hid hi6
            have HS6 := Lib.hid (sim_bind (f := fun p => ds[k].lay c p base true) HS2.out hsim6)
            have HSP6 := Lib.hid hsp6
            clear z0 z1 z2 z3 t0 t1 u0 u1 hm6 hp6 hi6 hsim6 hm6' hsp6
            go_wp2
            go_roundw
            case rel =>
              refine ⟨k + 1, V6, q6, l6, _, (qn.lines == q6.lines), by omega, by go_num, rfl, HP6.out, HM6.out, HI6.out.mono (by have := HTK.out; omega), HS6.out, ?_, fun e => absurd e (by omega), HSP6.out, hn6, by omega⟩
              rw [HEQ.out, List.drop_eq_getElem_cons hd, show (k == 0) = false by simpa using HK0.out, show (k + 1 == 0) = false from rfl]
              exact fill_line HSIM.out HVK.out HFT.out HS2.out HS6.out
            case measure => simp [intOf]; omega
          | true =>
            have HON := Lib.hid hon
            have hbs : bt.size ≤ 1 := by rw [← hK]; unfold fblank; split <;> decide
            have hsz : (bt ++ sk).size = bt.size + sk.size := size_app _ _
            have HPF := Lib.hid (pfits_any B b Vk c qk lk (bt ++ sk) 0 (M + 4000 * (wts (ds.take k) : Int)) false Wm HPM.out HIK.out (by omega) (by omega) (by omega))
            clear hon
            obtain ⟨t0, t1, u0, u1⟩ := id hspm
            cases hft : fitsB c qk (bt ++ sk) 0 false with
            | true =>
              have HFT := Lib.hid (show fillT c K onek qk ds[k].flat = some (bt ++ sk) by rw [HON.out, hfl]; simp only [fillT, if_true, hK, hft])
              have HFB := Lib.hid hft
              clear hft
              go_wp2_with fail
              refine HPF.out.mono ?_
              rintro e Wf ⟨rfl, hbf⟩
              rw [HFB.out]
              have HPM' := Lib.hid (HPM.out.later hbf)
              have HMM' := Lib.hid (HMM.out.trans (Moved.of_below hbf))
              have HXM' := Lib.hid (HXM.out.below hbf hszm)
              have hspm' : Wf.cell? ⟨w.heap.size, 0, none⟩ = some (.int .i64 base) ∧ Wf.cell? ⟨w.heap.size, 1, none⟩ = some (.bool fresh) ∧ Wf.frozen? ⟨w.heap.size, 0, none⟩ = false ∧ Wf.frozen? ⟨w.heap.size, 1, none⟩ = false :=
                ⟨(hbf.cell (p := ⟨w.heap.size, 0, none⟩) (by dsimp only; omega)).trans t0, (hbf.cell (p := ⟨w.heap.size, 1, none⟩) (by dsimp only; omega)).trans t1, (hbf.frozen (p := ⟨w.heap.size, 0, none⟩) (by dsimp only; omega)).trans u0, (hbf.frozen (p := ⟨w.heap.size, 1, none⟩) (by dsimp only; omega)).trans u1⟩
              have hszm' : wr.heap.size < Wf.heap.size := by have := hbf.size; omega
              have hszw' : w.heap.size < Wf.heap.size := by omega
              clear HPM HMM HXM hspm hszm hszw t0 t1 u0 u1 hbf HPF
              obtain ⟨HPM, HMM, HXM, hspm, hszm, hszw⟩ := And.intro HPM' (And.intro HMM' (And.intro HXM' (And.intro hspm' (And.intro hszm' hszw'))))
              clear HPM' HMM' HXM' hspm' hszm' hszw'
              have HT := Lib.hid (ptext_any B b Vk c qk lk (bt ++ sk) 0 (M + 4000 * (wts (ds.take k) : Int)) false Wf HPM.out HIK.out (fok_not _ _ _) (by omega) (by omega) (by omega))
              obtain ⟨t0, t1, u0, u1⟩ := id hspm
              obtain ⟨z0, z1, z2, z3, _, _, _, _⟩ := HXM.out
              go_wp2_with fail
              refine HT.out.mono ?_
              rintro e w6 ⟨rfl, V6, q6, l6, hp6, hm6, hi6, hsim6⟩
              have hn6 : V6.ownBlock ≠ some w.heap.size := by
                rcases hm6.2 with e | ⟨x, e, hx⟩
                · rw [e]; exact HNK.out
                · rw [e]; intro he; simp only [Option.some.injEq] at he; omega
              have hm6' : Moved b V w V6 w6 := HMM.out.trans hm6
              have hsp6 : w6.cell? ⟨w.heap.size, 0, none⟩ = some (.int .i64 base) ∧ w6.cell? ⟨w.heap.size, 1, none⟩ = some (.bool fresh) ∧ w6.frozen? ⟨w.heap.size, 0, none⟩ = false ∧ w6.frozen? ⟨w.heap.size, 1, none⟩ = false :=
                ⟨(hm6.1.cell ⟨w.heap.size, 0, none⟩ (by dsimp only; omega) hspA).trans hspm.1, (hm6.1.cell ⟨w.heap.size, 1, none⟩ (by dsimp only; omega) hspA).trans hspm.2.1, (World.frozen?_of_block (a := ⟨w.heap.size, 0, none⟩) (hm6.1.block _ (by dsimp only; omega) hspA)).trans hspm.2.2.1, (World.frozen?_of_block (a := ⟨w.heap.size, 1, none⟩) (hm6.1.block _ (by dsimp only; omega) hspA)).trans hspm.2.2.2⟩
              have hsz6 := hm6.1.size
              have c8' := hp6.cells.c8
              simp only [pfOf] at c8'
              have HP6 := Lib.hid hp6
              have HM6 := Lib.hid hm6'
              have HI6 := Lib.hid hi6
              have HS6 := Lib.hid (sim_bind (f := fun p => put c p (bt ++ sk) 0 false) HSIM.out hsim6)
              have HSP6 := Lib.hid hsp6
              clear z0 z1 z2 z3 t0 t1 u0 u1 hm6 hp6 hi6 hsim6 hm6' hsp6
              go_wp2
              go_roundw
              case rel =>
                refine ⟨k + 1, V6, q6, l6, _, (qk.lines == q6.lines), by omega, by go_num, rfl, HP6.out, HM6.out, HI6.out.mono (by have := HTK.out; omega), HS6.out, ?_, fun e => absurd e (by omega), HSP6.out, hn6, by omega⟩
                rw [HEQ.out, List.drop_eq_getElem_cons hd, show (k == 0) = false by simpa using HK0.out, show (k + 1 == 0) = false from rfl]
                exact fill_text HSIM.out HVK.out HFT.out HS6.out
              case measure => simp [intOf]; omega
            | false =>
              have HFT := Lib.hid (show fillT c K onek qk ds[k].flat = none by rw [HON.out, hfl]; simp only [fillT, if_true, hK, hft, Bool.false_eq_true, if_false])
              have HFB := Lib.hid hft
              clear hft
              go_wp2_with fail
              refine HPF.out.mono ?_
              rintro e Wf ⟨rfl, hbf⟩
              rw [HFB.out]
              have HPM' := Lib.hid (HPM.out.later hbf)
              have HMM' := Lib.hid (HMM.out.trans (Moved.of_below hbf))
              have HXM' := Lib.hid (HXM.out.below hbf hszm)
              have hspm' : Wf.cell? ⟨w.heap.size, 0, none⟩ = some (.int .i64 base) ∧ Wf.cell? ⟨w.heap.size, 1, none⟩ = some (.bool fresh) ∧ Wf.frozen? ⟨w.heap.size, 0, none⟩ = false ∧ Wf.frozen? ⟨w.heap.size, 1, none⟩ = false :=
                ⟨(hbf.cell (p := ⟨w.heap.size, 0, none⟩) (by dsimp only; omega)).trans t0, (hbf.cell (p := ⟨w.heap.size, 1, none⟩) (by dsimp only; omega)).trans t1, (hbf.frozen (p := ⟨w.heap.size, 0, none⟩) (by dsimp only; omega)).trans u0, (hbf.frozen (p := ⟨w.heap.size, 1, none⟩) (by dsimp only; omega)).trans u1⟩
              have hszm' : wr.heap.size < Wf.heap.size := by have := hbf.size; omega
              have hszw' : w.heap.size < Wf.heap.size := by omega
              clear HPM HMM HXM hspm hszm hszw t0 t1 u0 u1 hbf HPF
              obtain ⟨HPM, HMM, HXM, hspm, hszm, hszw⟩ := And.intro HPM' (And.intro HMM' (And.intro HXM' (And.intro hspm' (And.intro hszm' hszw'))))
              clear HPM' HMM' HXM' hspm' hszm' hszw'
              have HT := Lib.hid (pline_any B b Vk c qk lk (M + 4000 * (wts (ds.take k) : Int)) Wf HPM.out HIK.out (by omega))
              go_wp2_with fail
              refine HT.out.mono ?_
              rintro e Wn ⟨rfl, Vn, qn, ln, hpn, hmn, hin, hsn⟩
              have hspn : Wn.cell? ⟨w.heap.size, 0, none⟩ = some (.int .i64 base) ∧ Wn.cell? ⟨w.heap.size, 1, none⟩ = some (.bool fresh) ∧ Wn.frozen? ⟨w.heap.size, 0, none⟩ = false ∧ Wn.frozen? ⟨w.heap.size, 1, none⟩ = false :=
                ⟨(hmn.1.cell ⟨w.heap.size, 0, none⟩ (by dsimp only; omega) hspA).trans hspm.1, (hmn.1.cell ⟨w.heap.size, 1, none⟩ (by dsimp only; omega) hspA).trans hspm.2.1, (World.frozen?_of_block (a := ⟨w.heap.size, 0, none⟩) (hmn.1.block _ (by dsimp only; omega) hspA)).trans hspm.2.2.1, (World.frozen?_of_block (a := ⟨w.heap.size, 1, none⟩) (hmn.1.block _ (by dsimp only; omega) hspA)).trans hspm.2.2.2⟩
              have hxn := HXM.out.stay hmn.1 hszm hxA
              have HMN := Lib.hid (HMM.out.trans hmn)
              have hnn : Vn.ownBlock ≠ some w.heap.size := by
                rcases hmn.2 with e | ⟨x, e, hx⟩
                · rw [e]; exact HNK.out
                · rw [e]; intro he; simp only [Option.some.injEq] at he; omega
              have hszn := hmn.1.size
              have HS2 := Lib.hid (sim_bind (f := endl c) HSIM.out hsn)
              have hkb5 := kidsAt_below hR0 (below_le (moved_below HP.out HMN.out) hn)
              have HC := Lib.hid (HSK.out.1 B b n₀ Vn c qn ln base (M + 4000 * (wts (ds.take k) : Int) + 1) true A' c' Wn hpn hin (fun hl _ _ hm0 => by
                have h0 : endl c qk = some qn := by
                  subst hl
                  cases hlk : lk with
                  | true => rw [hlk] at hsn; simp only [liveO, if_true, Sim] at hsn; cases hsn
                  | false =>
                    rw [hlk] at hsn
                    simp only [liveO, Bool.false_eq_true, if_false] at hsn
                    cases he : endl c qk with
                    | none => rw [he] at hsn; cases hsn
                    | some p => rw [he] at hsn; rw [hsn.1]
                rw [endl_col hm0 h0]
                omega) (by omega) (by omega) (by have := HTK.out; omega) hn HNIL.out hcapk hkb5)
              have hspA : Apart b Vn w.heap.size := ⟨by omega, fun e => hnn e.symm⟩
              have c8n := hpn.cells.c8
              simp only [pfOf] at c8n
              have hspm := hspn
              have HNN := Lib.hid hnn
              obtain ⟨t0, t1, u0, u1⟩ := id hspn
              obtain ⟨z0, z1, z2, z3, _, _, _, _⟩ := hxn
              clear hkb5 hpn hmn hin hsn HT hnn hspn
              go_wp2_with fail
              refine HC.out.mono ?_
              rintro e w6 ⟨rfl, V6, q6, l6, hp6, hm6, hi6, hsim6⟩
              clear c8n
              have hn6 : V6.ownBlock ≠ some w.heap.size := by
                rcases hm6.2 with e | ⟨x, e, hx⟩
                · rw [e]; exact HNN.out
                · rw [e]; intro he; simp only [Option.some.injEq] at he; omega
              have hm6' : Moved b V w V6 w6 := HMN.out.trans hm6
              have hsp6 : w6.cell? ⟨w.heap.size, 0, none⟩ = some (.int .i64 base) ∧ w6.cell? ⟨w.heap.size, 1, none⟩ = some (.bool fresh) ∧ w6.frozen? ⟨w.heap.size, 0, none⟩ = false ∧ w6.frozen? ⟨w.heap.size, 1, none⟩ = false :=
                ⟨(hm6.1.cell ⟨w.heap.size, 0, none⟩ (by dsimp only; omega) hspA).trans hspm.1, (hm6.1.cell ⟨w.heap.size, 1, none⟩ (by dsimp only; omega) hspA).trans hspm.2.1, (World.frozen?_of_block (a := ⟨w.heap.size, 0, none⟩) (hm6.1.block _ (by dsimp only; omega) hspA)).trans hspm.2.2.1, (World.frozen?_of_block (a := ⟨w.heap.size, 1, none⟩) (hm6.1.block _ (by dsimp only; omega) hspA)).trans hspm.2.2.2⟩
              have hsz6 := hm6.1.size
              have c8' := hp6.cells.c8
              simp only [pfOf] at c8'
              have HP6 := Lib.hid hp6
              have HM6 := Lib.hid hm6'
              have HI6 := Lib.hid hi6
              have HS6 := Lib.hid (sim_bind (f := fun p => ds[k].lay c p base true) HS2.out hsim6)
              have HSP6 := Lib.hid hsp6
              clear z0 z1 z2 z3 t0 t1 u0 u1 hm6 hp6 hi6 hsim6 hm6' hsp6
              go_wp2
              go_roundw
              case rel =>
                refine ⟨k + 1, V6, q6, l6, _, (qn.lines == q6.lines), by omega, by go_num, rfl, HP6.out, HM6.out, HI6.out.mono (by have := HTK.out; omega), HS6.out, ?_, fun e => absurd e (by omega), HSP6.out, hn6, by omega⟩
                rw [HEQ.out, List.drop_eq_getElem_cons hd, show (k == 0) = false by simpa using HK0.out, show (k + 1 == 0) = false from rfl]
                exact fill_line HSIM.out HVK.out HFT.out HS2.out HS6.out
              case measure => simp [intOf]; omega
    · obtain rfl : k = l.length := by omega
      go_wp2
      go_end0
      refine ⟨rfl, Vk, qk, lk, HPK.out, HMK.out, HIK.out.mono (by have := wts_take_le ds l.length; omega), ?_⟩
      rw [HEQ.out, show ds.drop l.length = [] by rw [← HLE.out, List.drop_length]]
      rw [show (ok.bind fun p => fills c K [] (l.length == 0) onek p base fresh) = ok by cases ok <;> rfl]
      exact HSIM.out
end Go.Proofs.YtnpaplfdmpjfgaaDoor
