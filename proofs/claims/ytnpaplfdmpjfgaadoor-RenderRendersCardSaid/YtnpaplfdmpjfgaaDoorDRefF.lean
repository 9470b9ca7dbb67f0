/- The reference's fill. -/
import Derived.Test.YtnpaplfdmpjfgaaDoorDRefW
import Derived.Test.YtnpaplfdmpjfgaaDoorDLayF
namespace Go.Proofs.YtnpaplfdmpjfgaaDoor
open Go.RowKit

theorem beq_sym (a b : Int) : (a == b) = (b == a) := by rw [Bool.eq_iff_iff, beq_iff_eq, beq_iff_eq]; exact eq_comm
theorem fill_first {c : Cfg} {K : Int} {x : Doc} {r : List Doc} {one : Bool} {ok : Option Pen} {qk q6 : Pen} {lk l6 : Bool} {base : Int} {fresh : Bool} (hs : Sim ok qk lk) (hv : x.void = false) (h6 : Sim (ok.bind fun p => x.lay c p base fresh) q6 l6) :
    (ok.bind fun p => fills c K (x :: r) true one p base fresh) = (ok.bind fun p => x.lay c p base fresh).bind fun p => fills c K r false (qk.lines == q6.lines) p base fresh := by
  cases ok with
  | none => rfl
  | some p =>
    obtain ⟨rfl, _⟩ := hs
    simp only [Option.bind_some] at h6 ⊢
    rw [fills_first hv]
    exact bind_sim (g := fun a p => fills c K r false (qk.lines == a.lines) p base fresh) h6

set_option maxRecDepth 100000 in
set_option maxHeartbeats 16000000 in
theorem rfill9_any (d : Doc) (hk : d.kind = 9) (B n₀ : Nat) (V : Value) (c : Cfg) (q : Pen) (base M : Int) (fresh : Bool) (A : Option Addr) (cc : Nat) (w : World)
    (h : w.ownsRow B 5 1 V q.out.length (Lib.byteCells q.out)) (hB : B ≤ w.heap.size) (hi : Inv M q) (hsay : ∀ x ∈ d.kids, RLaySays x ∧ x.form = true) (hf : ∀ x r, d.kids.filter Doc.there = x :: r → FOk c q (base + x.lead0) fresh) (hb0 : -M ≤ base) (hb1 : base ≤ M) (hM : M + 4000 * (wts d.kids : Int) ≤ 1099511627776) (hw : d.wt ≤ 4194304) (hn : n₀ ≤ B) (hK : KidsAt n₀ w d.kids A) :
    Calls Tryd.prog 77 #[.agg #[V, .int .i64 q.col, .int .i64 q.start, .bool q.op, .int .i64 q.owed, .int .i64 q.lines, .bool false, .int .i64 c.width, .int .i64 c.ribbon, .int .i64 c.mode], .agg #[.int .i64 d.kind, .string d.text, .int .i64 d.n, .slice A d.kids.length cc], .int .i64 base, .bool fresh] w (RLaid B w V c (M + 4000 * (wts d.kids : Int)) (fills c 9 d.kids true false q base fresh)) := by
  obtain ⟨A0, c0, rfl⟩ := own_form h
  have hkl := kids_lt d
  have hdl := len_le_wts d.kids
  obtain ⟨hbx, hb0', hs0⟩ := rbox_new w (.slice A0 q.out.length c0) (pfOf c q false)
  simp only [pfOf] at hb0' hs0
  obtain ⟨W0, hW0⟩ : ∃ W, w.alloc (.cells #[(.slice A0 q.out.length c0), .int .i64 q.col, .int .i64 q.start, .bool q.op, .int .i64 q.owed, .int .i64 q.lines, .bool false, .int .i64 c.width, .int .i64 c.ribbon, .int .i64 c.mode] 73) = W := ⟨_, rfl⟩
  have hbx0 : RBox W0 w.heap.size (.slice A0 q.out.length c0) (pfOf c q false) := by rw [← hW0]; exact hbx
  rw [hW0] at hb0' hs0
  obtain ⟨hdx, hbd, hs1⟩ := dbox_new W0 d A cc
  obtain ⟨W1, hW1⟩ : ∃ W, W0.alloc (.cells #[.int .i64 d.kind, .string d.text, .int .i64 d.n, .slice A d.kids.length cc] 24) = W := ⟨_, rfl⟩
  rw [hW1] at hdx hbd hs1
  obtain ⟨hrx, hbr, hs2⟩ := rbox_new W1 (.slice none 0 0) PF0
  simp only [PF0] at hbr hs2
  obtain ⟨W, hW⟩ : ∃ W, W1.alloc (.cells #[.slice none 0 0, .int .i64 0, .int .i64 0, .bool false, .int .i64 0, .int .i64 0, .bool false, .int .i64 0, .int .i64 0, .int .i64 0] 73) = W := ⟨_, rfl⟩
  have hrx0 : RBox W W1.heap.size (.slice none 0 0) PF0 := by rw [← hW]; exact hrx
  rw [hW] at hbr hs2
  have hb2 := (hb0'.trans (hbd.mono (by omega))).trans (hbr.mono (by omega))
  have HS0 := Lib.hid (show RSt B w (.slice A0 q.out.length c0) c w.heap.size W0.heap.size W1.heap.size d A cc M W (.slice A0 q.out.length c0) q false from
    ⟨own_on h hb2, (hbx0.on hbd).on hbr, hrx0, hdx.on hbr, Stay.of_below hb2, .inl rfl, hi, Nat.le_refl _, by omega, by omega, by omega, hB⟩)
  have HVB := Lib.hid (show ∀ g, Value.ownBlock (.slice A0 q.out.length c0) = some g → B ≤ g from fun g hg => (h.lt g hg).1)
  have HF := Lib.hid hf
  have HSAY := Lib.hid hsay
  have HK := Lib.hid hK
  have hord : w.heap.size < W0.heap.size ∧ W0.heap.size < W1.heap.size ∧ W1.heap.size < W.heap.size := ⟨by omega, by omega, by omega⟩
  obtain ⟨ho1, ho2, ho3⟩ := hord
  clear h hi hf hsay hK hbx hbx0 hb0' hs0 hdx hbd hs1 hrx hrx0 hbr hs2 hb2
  go_enter Tryd.func77, Tryd.ntmps77
  obtain ⟨y0, y1, y2, y3, _, _, _, _⟩ := HS0.out.dbx.box
  rw [hk] at y0
  have HKD := Lib.hid hk
  clear hk
  go_wp2_with fail
  clear hW hW1 hW0 y0 y1 y2 y3
  go_loopw [10, 11, 12] (fun f g i wr => ∃ (k : Nat) (Vk : Value) (qk : Pen) (lk : Bool) (ok : Option Pen) (fst one : Bool), k ≤ d.kids.length ∧ f = .bool fst ∧ g = .bool one ∧ i = .int .i64 k ∧ RSt B w (.slice A0 q.out.length c0) c w.heap.size W0.heap.size W1.heap.size d A cc (M + 4000 * (wts (d.kids.take k) : Int)) wr Vk qk lk ∧ Sim ok qk lk ∧
      fills c 9 d.kids true false q base fresh = ok.bind (fun p => fills c 9 (d.kids.drop k) fst one p base fresh) ∧ (fst = true → q = qk ∧ false = lk ∧ (d.kids.take k).filter Doc.there = [])) (fun _ _ i wr => d.kids.length - (intOf i).toNat)
  case atStart => exact ⟨0, (.slice A0 q.out.length c0), q, false, some q, true, false, by omega, rfl, rfl, rfl, by have := HS0.out; simpa [wts] using this, ⟨rfl, rfl⟩, rfl, fun _ => ⟨rfl, rfl, rfl⟩⟩
  case round =>
    obtain ⟨k, Vk, qk, lk, ok, fst, one, hk', rfl, rfl, rfl, hst, hsim, heq, hfst⟩ := hrel
    obtain ⟨Ak, ck, rfl⟩ := own_form hst.own
    have HST := Lib.hid hst
    have HSIM := Lib.hid hsim
    have HEQ := Lib.hid heq
    have HFST := Lib.hid hfst
    have hwle := hst.stay.size
    obtain ⟨x0, x1, x2, x3, _, _, _, _⟩ := hst.dbx.box
    have hor := hst.ord.2.2.2.1
    have HLOW := Lib.hid (hst.low HVB.out hn)
    have HKr := Lib.hid (kidsAt_below HK.out HLOW.out)
    clear hst hsim heq hfst
    by_cases hlt : k < d.kids.length
    · obtain ⟨b, o, rfl, hat⟩ := kidsAt_get HKr.out (kid_in hlt)
      obtain ⟨A', c', h1, h2, h3, h4, h5, h6, h7, h8⟩ := docAt_iff.1 hat
      have HNIL := Lib.hid h7
      have hcapk := h6
      have HK' := Lib.hid h8
      have hwt := kid_lt (List.getElem_mem hlt)
      have hbn : b < wr.heap.size := by omega
      have HSK := Lib.hid (HSAY.out d.kids[k] (List.getElem_mem hlt))
      have HTK := Lib.hid (wts_take hlt)
      have HTD := Lib.hid (wts_drop hlt)
      have HDR := Lib.hid (List.drop_eq_getElem_cons hlt)
      clear h6 h7 h8 hat
      obtain ⟨hkx, hkb, hks⟩ := dbox_new wr d.kids[k] A' c'
      obtain ⟨W3, hW3⟩ : ∃ W3, wr.alloc (.cells #[.int .i64 d.kids[k].kind, .string d.kids[k].text, .int .i64 d.kids[k].n, .slice A' d.kids[k].kids.length c'] 24) = W3 := ⟨_, rfl⟩
      rw [hW3] at hkx hkb hks
      have HC := Lib.hid (rvoid_any _ d.kids[k] A' c' W3 (Nat.le_refl _) (by omega) (kidsAt_on (kidsAt_mono HK'.out (show n₀ ≤ wr.heap.size by omega)) hkb))
      have HKX := Lib.hid hkx
      have HST3 := Lib.hid (HST.out.on hkb)
      have HKB := Lib.hid hkb
      have hs3 : wr.heap.size < W3.heap.size := by omega
      obtain ⟨z0, z1, z2, z3, _, _, _, _⟩ := (hkx).box
      clear hkx hkb hks
      go_wp2_with fail
      clear hW3
      refine HC.out.mono ?_
      rintro e w2 ⟨rfl, hb2⟩
      have HST2 := Lib.hid (HST3.out.on hb2)
      have HKX2 := Lib.hid (HKX.out.on hb2)
      have HKK2 := Lib.hid (kidsAt_below HK'.out ((HKB.out.trans (hb2.mono (Nat.le_of_lt hs3))).mono (show n₀ ≤ wr.heap.size by omega)))
      have hs2 := hb2.size
      clear h1 h2 h3 h4 h5 z0 z1 z2 z3 x0 x1 x2 x3 hb2 HC HST HST3 HKX HKr HK' HKB
      cases hv : d.kids[k].void with
      | true =>
        have HV := Lib.hid hv
        clear hv
        go_wp2
        go_roundw
        case rel => 
          refine ⟨k + 1, _, qk, lk, ok, fst, one, by omega, rfl, rfl, by go_num, HST2.out.mono (by have := HTK.out; omega), HSIM.out, ?_, fun e => ?_⟩
          · rw [HEQ.out, HDR.out]
            congr 1
            funext p
            rw [fills_void HV.out]
          · obtain ⟨e1, e2, e3⟩ := HFST.out e
            exact ⟨e1, e2, by rw [there_keep hlt HV.out]; exact e3⟩
        case measure => simp [intOf]; omega
      | false =>
        have HV := Lib.hid hv
        clear hv
        have HFL := Lib.hid (rflat_any _ d.kids[k] A' c' w2 (Nat.le_refl _) (by omega) (kidsAt_mono HKK2.out (show n₀ ≤ w2.heap.size by omega)))
        obtain ⟨z0, z1, z2, z3, _, _, _, _⟩ := (HKX2.out).box
        go_wp2_with fail
        cases hfl : d.kids[k].flat with
        | none =>
          have HFL1 := Lib.hid hfl
          clear hfl
          have hfc := HFL.out
          unfold FlatSaid at hfc
          rw [HFL1.out] at hfc
          simp only [flatV] at hfc
          refine hfc.mono ?_
          rintro e w4 ⟨rfl, hb4⟩
          have HST4 := Lib.hid (HST2.out.on hb4)
          have HKX4 := Lib.hid (HKX2.out.on hb4)
          have HKK4 := Lib.hid (kidsAt_below HKK2.out (hb4.mono (by omega)))
          have hs4 := hb4.size
          clear hb4 z0 z1 z2 z3 HFL hfc
          obtain ⟨e0, e1, e2, e3, e4, e5, e6, e7, e8, e9, ez⟩ := (HST4.out.pbx).cells
          simp only [pfOf] at e1 e2 e3 e4 e5 e6 e7 e8 e9
          have ef0 := ez 0
          have ef1 := ez 1
          have ef2 := ez 2
          have ef3 := ez 3
          have ef4 := ez 4
          have ef5 := ez 5
          have ef6 := ez 6
          have ef7 := ez 7
          have ef8 := ez 8
          have ef9 := ez 9
          clear ez
          cases fst with
          | true =>
            obtain ⟨rfl, rfl, hf0⟩ := HFST.out rfl
            have HFO := Lib.hid (show FOk c q (base + d.kids[k].lead0) fresh by obtain ⟨r, hr⟩ := filter_first hlt hf0 HV.out; exact HF.out _ _ hr)
            obtain ⟨z0, z1, z2, z3, _, _, _, _⟩ := (HKX4.out).box
            clear hf0
            have HC8 := Lib.hid (HSK.out.1 B n₀ (.slice Ak q.out.length ck) c q false base (M + 4000 * (wts (d.kids.take k) : Int)) fresh A' c' w4 HST4.out.own HST4.out.ble HST4.out.inv (fun _ _ => HFO.out) (by have := HTK.out; omega) (by have := HTK.out; omega) (by have := HTK.out; have := HTD.out; omega) hn HNIL.out hcapk HKK4.out)
            go_wp2_with fail
            refine HC8.out.mono ?_
            rintro e v8 ⟨V8, q8, l8, rfl, g1, g2, g3, g4, g5⟩
            obtain ⟨A8, c8, rfl⟩ := own_form g1
            have hp8 := HST4.out.pbx.stay g2 (fun e => Lib.ownBlock_ne HST4.out.own HST4.out.pbx.blk (by decide) e.symm)
            have hst8 := HST4.out.step l8 g1 g2 g3 g4
            have hkx8 := HST4.out.kid HKX4.out g2 (kb := wr.heap.size) (by omega) (.slice A8 q8.out.length c8) (pfOf c q8 l8)
            have hlo8 := HST4.out.lowStep hn g2 (.slice A8 q8.out.length c8) (pfOf c q8 l8)
            have hsm8 := sim_bind (f := (fun p => d.kids[k].lay c p base fresh)) HSIM.out g5
            have hsz8 : w2.heap.size ≤ v8.heap.size := Nat.le_trans hs4 g2.size
            simp only [pfOf] at hst8 hkx8 hlo8
            clear e0 e1 e2 e3 e4 e5 e6 e7 e8 e9 ef0 ef1 ef2 ef3 ef4 ef5 ef6 ef7 ef8 ef9 z0 z1 z2 z3 g1 g2 g3 g4 g5 HC8
            obtain ⟨e0, e1, e2, e3, e4, e5, e6, e7, e8, e9, ez⟩ := (hp8).cells
            simp only [pfOf] at e1 e2 e3 e4 e5 e6 e7 e8 e9
            have ef0 := ez 0
            have ef1 := ez 1
            have ef2 := ez 2
            have ef3 := ez 3
            have ef4 := ez 4
            have ef5 := ez 5
            have ef6 := ez 6
            have ef7 := ez 7
            have ef8 := ez 8
            have ef9 := ez 9
            clear ez
            clear hp8
            go_upto_region 20 with (fail)
            have hzz8 : (((((((((((v8.setCell ⟨w.heap.size, 0, none⟩ (.slice A8 q8.out.length c8)).setCell ⟨w.heap.size, 1, none⟩ (.int .i64 q8.col)).setCell ⟨w.heap.size, 2, none⟩ (.int .i64 q8.start)).setCell ⟨w.heap.size, 3, none⟩ (.bool q8.op)).setCell ⟨w.heap.size, 4, none⟩ (.int .i64 q8.owed)).setCell ⟨w.heap.size, 5, none⟩ (.int .i64 q8.lines)).setCell ⟨w.heap.size, 6, none⟩ (.bool l8)).setCell ⟨w.heap.size, 7, none⟩ (.int .i64 c.width)).setCell ⟨w.heap.size, 8, none⟩ (.int .i64 c.ribbon)).setCell ⟨w.heap.size, 9, none⟩ (.int .i64 c.mode)) : World).heap.size = v8.heap.size := by simp [World.setCell]
            generalize ((((((((((v8.setCell ⟨w.heap.size, 0, none⟩ (.slice A8 q8.out.length c8)).setCell ⟨w.heap.size, 1, none⟩ (.int .i64 q8.col)).setCell ⟨w.heap.size, 2, none⟩ (.int .i64 q8.start)).setCell ⟨w.heap.size, 3, none⟩ (.bool q8.op)).setCell ⟨w.heap.size, 4, none⟩ (.int .i64 q8.owed)).setCell ⟨w.heap.size, 5, none⟩ (.int .i64 q8.lines)).setCell ⟨w.heap.size, 6, none⟩ (.bool l8)).setCell ⟨w.heap.size, 7, none⟩ (.int .i64 c.width)).setCell ⟨w.heap.size, 8, none⟩ (.int .i64 c.ribbon)).setCell ⟨w.heap.size, 9, none⟩ (.int .i64 c.mode)) = W8 at hst8 hkx8 hlo8 hzz8 ⊢
            have HST8 := Lib.hid hst8
            have HKX8 := Lib.hid hkx8
            have HLO8 := Lib.hid hlo8
            have HSM8 := Lib.hid hsm8
            clear hst8 hkx8 hlo8 hsm8 e0 e1 e2 e3 e4 e5 e6 e7 e8 e9 ef0 ef1 ef2 ef3 ef4 ef5 ef6 ef7 ef8 ef9
            obtain ⟨e0, e1, e2, e3, e4, e5, e6, e7, e8, e9, ez⟩ := (HST8.out.pbx).cells
            simp only [pfOf] at e1 e2 e3 e4 e5 e6 e7 e8 e9
            have ef0 := ez 0
            have ef1 := ez 1
            have ef2 := ez 2
            have ef3 := ez 3
            have ef4 := ez 4
            have ef5 := ez 5
            have ef6 := ez 6
            have ef7 := ez 7
            have ef8 := ez 8
            have ef9 := ez 9
            clear ez
            go_wp2
            go_roundw
            case rel =>
              refine ⟨k + 1, _, q8, l8, _, false, (q8.lines == q.lines), by omega, rfl, rfl, by go_num, HST8.out.mono (by have := HTK.out; omega), HSM8.out, ?_, fun h => nomatch h⟩
              rw [HEQ.out, HDR.out, beq_sym]
              exact fill_first HSIM.out HV.out HSM8.out
            case measure => simp [intOf]; omega
          | false =>
            cases one with
            | false =>
              have HFT := Lib.hid (show fillT c 9 false qk d.kids[k].flat = none by rfl)
              have HC11 := Lib.hid (rline_any B (.slice Ak qk.out.length ck) c qk lk (M + 4000 * (wts (d.kids.take k) : Int)) w4 HST4.out.own HST4.out.ble HST4.out.inv (by have := HTK.out; have := HTD.out; omega))
              go_wp2_with fail
              refine HC11.out.mono ?_
              rintro e v11 ⟨V11, q11, l11, rfl, g1, g2, g3, g4, g5⟩
              obtain ⟨A11, c11, rfl⟩ := own_form g1
              have hp11 := HST4.out.pbx.stay g2 (fun e => Lib.ownBlock_ne HST4.out.own HST4.out.pbx.blk (by decide) e.symm)
              have hst11 := HST4.out.step l11 g1 g2 g3 g4
              have hkx11 := HST4.out.kid HKX4.out g2 (kb := wr.heap.size) (by omega) (.slice A11 q11.out.length c11) (pfOf c q11 l11)
              have hlo11 := HST4.out.lowStep hn g2 (.slice A11 q11.out.length c11) (pfOf c q11 l11)
              have hsm11 := sim_bind (f := (endl c)) HSIM.out g5
              have hsz11 : w2.heap.size ≤ v11.heap.size := Nat.le_trans hs4 g2.size
              simp only [pfOf] at hst11 hkx11 hlo11
              have HC0 := Lib.hid (fun hl hm => sim_col0 g5 hl hm)
              clear e0 e1 e2 e3 e4 e5 e6 e7 e8 e9 ef0 ef1 ef2 ef3 ef4 ef5 ef6 ef7 ef8 ef9 g1 g2 g3 g4 g5 HC11
              obtain ⟨e0, e1, e2, e3, e4, e5, e6, e7, e8, e9, ez⟩ := (hp11).cells
              simp only [pfOf] at e1 e2 e3 e4 e5 e6 e7 e8 e9
              have ef0 := ez 0
              have ef1 := ez 1
              have ef2 := ez 2
              have ef3 := ez 3
              have ef4 := ez 4
              have ef5 := ez 5
              have ef6 := ez 6
              have ef7 := ez 7
              have ef8 := ez 8
              have ef9 := ez 9
              clear ez
              clear hp11
              go_upto_region 13 with (fail)
              have hzz11 : (((((((((((v11.setCell ⟨w.heap.size, 0, none⟩ (.slice A11 q11.out.length c11)).setCell ⟨w.heap.size, 1, none⟩ (.int .i64 q11.col)).setCell ⟨w.heap.size, 2, none⟩ (.int .i64 q11.start)).setCell ⟨w.heap.size, 3, none⟩ (.bool q11.op)).setCell ⟨w.heap.size, 4, none⟩ (.int .i64 q11.owed)).setCell ⟨w.heap.size, 5, none⟩ (.int .i64 q11.lines)).setCell ⟨w.heap.size, 6, none⟩ (.bool l11)).setCell ⟨w.heap.size, 7, none⟩ (.int .i64 c.width)).setCell ⟨w.heap.size, 8, none⟩ (.int .i64 c.ribbon)).setCell ⟨w.heap.size, 9, none⟩ (.int .i64 c.mode)) : World).heap.size = v11.heap.size := by simp [World.setCell]
              generalize ((((((((((v11.setCell ⟨w.heap.size, 0, none⟩ (.slice A11 q11.out.length c11)).setCell ⟨w.heap.size, 1, none⟩ (.int .i64 q11.col)).setCell ⟨w.heap.size, 2, none⟩ (.int .i64 q11.start)).setCell ⟨w.heap.size, 3, none⟩ (.bool q11.op)).setCell ⟨w.heap.size, 4, none⟩ (.int .i64 q11.owed)).setCell ⟨w.heap.size, 5, none⟩ (.int .i64 q11.lines)).setCell ⟨w.heap.size, 6, none⟩ (.bool l11)).setCell ⟨w.heap.size, 7, none⟩ (.int .i64 c.width)).setCell ⟨w.heap.size, 8, none⟩ (.int .i64 c.ribbon)).setCell ⟨w.heap.size, 9, none⟩ (.int .i64 c.mode)) = W11 at hst11 hkx11 hlo11 hzz11 ⊢
              have HST11 := Lib.hid hst11
              have HKX11 := Lib.hid hkx11
              have HLO11 := Lib.hid hlo11
              have HSM11 := Lib.hid hsm11
              clear hst11 hkx11 hlo11 hsm11 e0 e1 e2 e3 e4 e5 e6 e7 e8 e9 ef0 ef1 ef2 ef3 ef4 ef5 ef6 ef7 ef8 ef9
              have HKK11 := Lib.hid (kidsAt_below HKK4.out HLO11.out)
              obtain ⟨z0, z1, z2, z3, _, _, _, _⟩ := (HKX11.out).box
              obtain ⟨e0, e1, e2, e3, e4, e5, e6, e7, e8, e9, ez⟩ := (HST11.out.pbx).cells
              simp only [pfOf] at e1 e2 e3 e4 e5 e6 e7 e8 e9
              have ef0 := ez 0
              have ef1 := ez 1
              have ef2 := ez 2
              have ef3 := ez 3
              have ef4 := ez 4
              have ef5 := ez 5
              have ef6 := ez 6
              have ef7 := ez 7
              have ef8 := ez 8
              have ef9 := ez 9
              clear ez
              go_upto_region 14 with (fail)
              have HC12 := Lib.hid (HSK.out.1 B n₀ (.slice A11 q11.out.length c11) c q11 l11 base ((M + 4000 * (wts (d.kids.take k) : Int)) + 1) true A' c' W11 HST11.out.own HST11.out.ble HST11.out.inv (fun hl _ _ hm => by rw [HC0.out hl hm]; exact Int.le_max_left _ _) (by have := HTK.out; omega) (by have := HTK.out; omega) (by have := HTK.out; have := HTD.out; omega) hn HNIL.out hcapk HKK11.out)
              go_wp2_with fail
              refine HC12.out.mono ?_
              rintro e v12 ⟨V12, q12, l12, rfl, g1, g2, g3, g4, g5⟩
              obtain ⟨A12, c12, rfl⟩ := own_form g1
              have hp12 := HST11.out.pbx.stay g2 (fun e => Lib.ownBlock_ne HST11.out.own HST11.out.pbx.blk (by decide) e.symm)
              have hst12 := HST11.out.step l12 g1 g2 g3 g4
              have hkx12 := HST11.out.kid HKX11.out g2 (kb := wr.heap.size) (by omega) (.slice A12 q12.out.length c12) (pfOf c q12 l12)
              have hlo12 := HST11.out.lowStep hn g2 (.slice A12 q12.out.length c12) (pfOf c q12 l12)
              have hsm12 := sim_bind (f := (fun p => d.kids[k].lay c p base true)) HSM11.out g5
              have hsz12 : w2.heap.size ≤ v12.heap.size := Nat.le_trans (by omega) g2.size
              simp only [pfOf] at hst12 hkx12 hlo12
              clear e0 e1 e2 e3 e4 e5 e6 e7 e8 e9 ef0 ef1 ef2 ef3 ef4 ef5 ef6 ef7 ef8 ef9 z0 z1 z2 z3 g1 g2 g3 g4 g5 HC12
              obtain ⟨e0, e1, e2, e3, e4, e5, e6, e7, e8, e9, ez⟩ := (hp12).cells
              simp only [pfOf] at e1 e2 e3 e4 e5 e6 e7 e8 e9
              have ef0 := ez 0
              have ef1 := ez 1
              have ef2 := ez 2
              have ef3 := ez 3
              have ef4 := ez 4
              have ef5 := ez 5
              have ef6 := ez 6
              have ef7 := ez 7
              have ef8 := ez 8
              have ef9 := ez 9
              clear ez
              clear hp12
              go_upto_region 20 with (fail)
              have hzz12 : (((((((((((v12.setCell ⟨w.heap.size, 0, none⟩ (.slice A12 q12.out.length c12)).setCell ⟨w.heap.size, 1, none⟩ (.int .i64 q12.col)).setCell ⟨w.heap.size, 2, none⟩ (.int .i64 q12.start)).setCell ⟨w.heap.size, 3, none⟩ (.bool q12.op)).setCell ⟨w.heap.size, 4, none⟩ (.int .i64 q12.owed)).setCell ⟨w.heap.size, 5, none⟩ (.int .i64 q12.lines)).setCell ⟨w.heap.size, 6, none⟩ (.bool l12)).setCell ⟨w.heap.size, 7, none⟩ (.int .i64 c.width)).setCell ⟨w.heap.size, 8, none⟩ (.int .i64 c.ribbon)).setCell ⟨w.heap.size, 9, none⟩ (.int .i64 c.mode)) : World).heap.size = v12.heap.size := by simp [World.setCell]
              generalize ((((((((((v12.setCell ⟨w.heap.size, 0, none⟩ (.slice A12 q12.out.length c12)).setCell ⟨w.heap.size, 1, none⟩ (.int .i64 q12.col)).setCell ⟨w.heap.size, 2, none⟩ (.int .i64 q12.start)).setCell ⟨w.heap.size, 3, none⟩ (.bool q12.op)).setCell ⟨w.heap.size, 4, none⟩ (.int .i64 q12.owed)).setCell ⟨w.heap.size, 5, none⟩ (.int .i64 q12.lines)).setCell ⟨w.heap.size, 6, none⟩ (.bool l12)).setCell ⟨w.heap.size, 7, none⟩ (.int .i64 c.width)).setCell ⟨w.heap.size, 8, none⟩ (.int .i64 c.ribbon)).setCell ⟨w.heap.size, 9, none⟩ (.int .i64 c.mode)) = W12 at hst12 hkx12 hlo12 hzz12 ⊢
              have HST12 := Lib.hid hst12
              have HKX12 := Lib.hid hkx12
              have HLO12 := Lib.hid hlo12
              have HSM12 := Lib.hid hsm12
              clear hst12 hkx12 hlo12 hsm12 e0 e1 e2 e3 e4 e5 e6 e7 e8 e9 ef0 ef1 ef2 ef3 ef4 ef5 ef6 ef7 ef8 ef9
              obtain ⟨e0, e1, e2, e3, e4, e5, e6, e7, e8, e9, ez⟩ := (HST12.out.pbx).cells
              simp only [pfOf] at e1 e2 e3 e4 e5 e6 e7 e8 e9
              have ef0 := ez 0
              have ef1 := ez 1
              have ef2 := ez 2
              have ef3 := ez 3
              have ef4 := ez 4
              have ef5 := ez 5
              have ef6 := ez 6
              have ef7 := ez 7
              have ef8 := ez 8
              have ef9 := ez 9
              clear ez
              go_wp2
              go_roundw
              case rel =>
                refine ⟨k + 1, _, q12, l12, _, false, (q12.lines == q11.lines), by omega, rfl, rfl, by go_num, HST12.out.mono (by have := HTK.out; omega), HSM12.out, ?_, fun h => nomatch h⟩
                rw [HEQ.out, HDR.out, beq_sym]
                exact fill_line HSIM.out HV.out HFT.out HSM11.out HSM12.out
              case measure => simp [intOf]; omega
            | true =>
              have HFT := Lib.hid (show fillT c 9 true qk d.kids[k].flat = none by rw [HFL1.out]; rfl)
              have HC11 := Lib.hid (rline_any B (.slice Ak qk.out.length ck) c qk lk (M + 4000 * (wts (d.kids.take k) : Int)) w4 HST4.out.own HST4.out.ble HST4.out.inv (by have := HTK.out; have := HTD.out; omega))
              go_wp2_with fail
              refine HC11.out.mono ?_
              rintro e v11 ⟨V11, q11, l11, rfl, g1, g2, g3, g4, g5⟩
              obtain ⟨A11, c11, rfl⟩ := own_form g1
              have hp11 := HST4.out.pbx.stay g2 (fun e => Lib.ownBlock_ne HST4.out.own HST4.out.pbx.blk (by decide) e.symm)
              have hst11 := HST4.out.step l11 g1 g2 g3 g4
              have hkx11 := HST4.out.kid HKX4.out g2 (kb := wr.heap.size) (by omega) (.slice A11 q11.out.length c11) (pfOf c q11 l11)
              have hlo11 := HST4.out.lowStep hn g2 (.slice A11 q11.out.length c11) (pfOf c q11 l11)
              have hsm11 := sim_bind (f := (endl c)) HSIM.out g5
              have hsz11 : w2.heap.size ≤ v11.heap.size := Nat.le_trans hs4 g2.size
              simp only [pfOf] at hst11 hkx11 hlo11
              have HC0 := Lib.hid (fun hl hm => sim_col0 g5 hl hm)
              clear e0 e1 e2 e3 e4 e5 e6 e7 e8 e9 ef0 ef1 ef2 ef3 ef4 ef5 ef6 ef7 ef8 ef9 g1 g2 g3 g4 g5 HC11
              obtain ⟨e0, e1, e2, e3, e4, e5, e6, e7, e8, e9, ez⟩ := (hp11).cells
              simp only [pfOf] at e1 e2 e3 e4 e5 e6 e7 e8 e9
              have ef0 := ez 0
              have ef1 := ez 1
              have ef2 := ez 2
              have ef3 := ez 3
              have ef4 := ez 4
              have ef5 := ez 5
              have ef6 := ez 6
              have ef7 := ez 7
              have ef8 := ez 8
              have ef9 := ez 9
              clear ez
              clear hp11
              go_upto_region 13 with (fail)
              have hzz11 : (((((((((((v11.setCell ⟨w.heap.size, 0, none⟩ (.slice A11 q11.out.length c11)).setCell ⟨w.heap.size, 1, none⟩ (.int .i64 q11.col)).setCell ⟨w.heap.size, 2, none⟩ (.int .i64 q11.start)).setCell ⟨w.heap.size, 3, none⟩ (.bool q11.op)).setCell ⟨w.heap.size, 4, none⟩ (.int .i64 q11.owed)).setCell ⟨w.heap.size, 5, none⟩ (.int .i64 q11.lines)).setCell ⟨w.heap.size, 6, none⟩ (.bool l11)).setCell ⟨w.heap.size, 7, none⟩ (.int .i64 c.width)).setCell ⟨w.heap.size, 8, none⟩ (.int .i64 c.ribbon)).setCell ⟨w.heap.size, 9, none⟩ (.int .i64 c.mode)) : World).heap.size = v11.heap.size := by simp [World.setCell]
              generalize ((((((((((v11.setCell ⟨w.heap.size, 0, none⟩ (.slice A11 q11.out.length c11)).setCell ⟨w.heap.size, 1, none⟩ (.int .i64 q11.col)).setCell ⟨w.heap.size, 2, none⟩ (.int .i64 q11.start)).setCell ⟨w.heap.size, 3, none⟩ (.bool q11.op)).setCell ⟨w.heap.size, 4, none⟩ (.int .i64 q11.owed)).setCell ⟨w.heap.size, 5, none⟩ (.int .i64 q11.lines)).setCell ⟨w.heap.size, 6, none⟩ (.bool l11)).setCell ⟨w.heap.size, 7, none⟩ (.int .i64 c.width)).setCell ⟨w.heap.size, 8, none⟩ (.int .i64 c.ribbon)).setCell ⟨w.heap.size, 9, none⟩ (.int .i64 c.mode)) = W11 at hst11 hkx11 hlo11 hzz11 ⊢
              have HST11 := Lib.hid hst11
              have HKX11 := Lib.hid hkx11
              have HLO11 := Lib.hid hlo11
              have HSM11 := Lib.hid hsm11
              clear hst11 hkx11 hlo11 hsm11 e0 e1 e2 e3 e4 e5 e6 e7 e8 e9 ef0 ef1 ef2 ef3 ef4 ef5 ef6 ef7 ef8 ef9
              have HKK11 := Lib.hid (kidsAt_below HKK4.out HLO11.out)
              obtain ⟨z0, z1, z2, z3, _, _, _, _⟩ := (HKX11.out).box
              obtain ⟨e0, e1, e2, e3, e4, e5, e6, e7, e8, e9, ez⟩ := (HST11.out.pbx).cells
              simp only [pfOf] at e1 e2 e3 e4 e5 e6 e7 e8 e9
              have ef0 := ez 0
              have ef1 := ez 1
              have ef2 := ez 2
              have ef3 := ez 3
              have ef4 := ez 4
              have ef5 := ez 5
              have ef6 := ez 6
              have ef7 := ez 7
              have ef8 := ez 8
              have ef9 := ez 9
              clear ez
              go_upto_region 14 with (fail)
              have HC12 := Lib.hid (HSK.out.1 B n₀ (.slice A11 q11.out.length c11) c q11 l11 base ((M + 4000 * (wts (d.kids.take k) : Int)) + 1) true A' c' W11 HST11.out.own HST11.out.ble HST11.out.inv (fun hl _ _ hm => by rw [HC0.out hl hm]; exact Int.le_max_left _ _) (by have := HTK.out; omega) (by have := HTK.out; omega) (by have := HTK.out; have := HTD.out; omega) hn HNIL.out hcapk HKK11.out)
              go_wp2_with fail
              refine HC12.out.mono ?_
              rintro e v12 ⟨V12, q12, l12, rfl, g1, g2, g3, g4, g5⟩
              obtain ⟨A12, c12, rfl⟩ := own_form g1
              have hp12 := HST11.out.pbx.stay g2 (fun e => Lib.ownBlock_ne HST11.out.own HST11.out.pbx.blk (by decide) e.symm)
              have hst12 := HST11.out.step l12 g1 g2 g3 g4
              have hkx12 := HST11.out.kid HKX11.out g2 (kb := wr.heap.size) (by omega) (.slice A12 q12.out.length c12) (pfOf c q12 l12)
              have hlo12 := HST11.out.lowStep hn g2 (.slice A12 q12.out.length c12) (pfOf c q12 l12)
              have hsm12 := sim_bind (f := (fun p => d.kids[k].lay c p base true)) HSM11.out g5
              have hsz12 : w2.heap.size ≤ v12.heap.size := Nat.le_trans (by omega) g2.size
              simp only [pfOf] at hst12 hkx12 hlo12
              clear e0 e1 e2 e3 e4 e5 e6 e7 e8 e9 ef0 ef1 ef2 ef3 ef4 ef5 ef6 ef7 ef8 ef9 z0 z1 z2 z3 g1 g2 g3 g4 g5 HC12
              obtain ⟨e0, e1, e2, e3, e4, e5, e6, e7, e8, e9, ez⟩ := (hp12).cells
              simp only [pfOf] at e1 e2 e3 e4 e5 e6 e7 e8 e9
              have ef0 := ez 0
              have ef1 := ez 1
              have ef2 := ez 2
              have ef3 := ez 3
              have ef4 := ez 4
              have ef5 := ez 5
              have ef6 := ez 6
              have ef7 := ez 7
              have ef8 := ez 8
              have ef9 := ez 9
              clear ez
              clear hp12
              go_upto_region 20 with (fail)
              have hzz12 : (((((((((((v12.setCell ⟨w.heap.size, 0, none⟩ (.slice A12 q12.out.length c12)).setCell ⟨w.heap.size, 1, none⟩ (.int .i64 q12.col)).setCell ⟨w.heap.size, 2, none⟩ (.int .i64 q12.start)).setCell ⟨w.heap.size, 3, none⟩ (.bool q12.op)).setCell ⟨w.heap.size, 4, none⟩ (.int .i64 q12.owed)).setCell ⟨w.heap.size, 5, none⟩ (.int .i64 q12.lines)).setCell ⟨w.heap.size, 6, none⟩ (.bool l12)).setCell ⟨w.heap.size, 7, none⟩ (.int .i64 c.width)).setCell ⟨w.heap.size, 8, none⟩ (.int .i64 c.ribbon)).setCell ⟨w.heap.size, 9, none⟩ (.int .i64 c.mode)) : World).heap.size = v12.heap.size := by simp [World.setCell]
              generalize ((((((((((v12.setCell ⟨w.heap.size, 0, none⟩ (.slice A12 q12.out.length c12)).setCell ⟨w.heap.size, 1, none⟩ (.int .i64 q12.col)).setCell ⟨w.heap.size, 2, none⟩ (.int .i64 q12.start)).setCell ⟨w.heap.size, 3, none⟩ (.bool q12.op)).setCell ⟨w.heap.size, 4, none⟩ (.int .i64 q12.owed)).setCell ⟨w.heap.size, 5, none⟩ (.int .i64 q12.lines)).setCell ⟨w.heap.size, 6, none⟩ (.bool l12)).setCell ⟨w.heap.size, 7, none⟩ (.int .i64 c.width)).setCell ⟨w.heap.size, 8, none⟩ (.int .i64 c.ribbon)).setCell ⟨w.heap.size, 9, none⟩ (.int .i64 c.mode)) = W12 at hst12 hkx12 hlo12 hzz12 ⊢
              have HST12 := Lib.hid hst12
              have HKX12 := Lib.hid hkx12
              have HLO12 := Lib.hid hlo12
              have HSM12 := Lib.hid hsm12
              clear hst12 hkx12 hlo12 hsm12 e0 e1 e2 e3 e4 e5 e6 e7 e8 e9 ef0 ef1 ef2 ef3 ef4 ef5 ef6 ef7 ef8 ef9
              obtain ⟨e0, e1, e2, e3, e4, e5, e6, e7, e8, e9, ez⟩ := (HST12.out.pbx).cells
              simp only [pfOf] at e1 e2 e3 e4 e5 e6 e7 e8 e9
              have ef0 := ez 0
              have ef1 := ez 1
              have ef2 := ez 2
              have ef3 := ez 3
              have ef4 := ez 4
              have ef5 := ez 5
              have ef6 := ez 6
              have ef7 := ez 7
              have ef8 := ez 8
              have ef9 := ez 9
              clear ez
              go_wp2
              go_roundw
              case rel =>
                refine ⟨k + 1, _, q12, l12, _, false, (q12.lines == q11.lines), by omega, rfl, rfl, by go_num, HST12.out.mono (by have := HTK.out; omega), HSM12.out, ?_, fun h => nomatch h⟩
                rw [HEQ.out, HDR.out, beq_sym]
                exact fill_line HSIM.out HV.out HFT.out HSM11.out HSM12.out
              case measure => simp [intOf]; omega
        | some s =>
          have hsz := flat_size hfl
          have HFL1 := Lib.hid hfl
          clear hfl
          have hfc := HFL.out
          unfold FlatSaid at hfc
          rw [HFL1.out] at hfc
          simp only [flatV] at hfc
          refine hfc.mono ?_
          rintro e w4 ⟨rfl, hb4⟩
          have HST4 := Lib.hid (HST2.out.on hb4)
          have HKX4 := Lib.hid (HKX2.out.on hb4)
          have HKK4 := Lib.hid (kidsAt_below HKK2.out (hb4.mono (by omega)))
          have hs4 := hb4.size
          clear hb4 z0 z1 z2 z3 HFL hfc
          obtain ⟨e0, e1, e2, e3, e4, e5, e6, e7, e8, e9, ez⟩ := (HST4.out.pbx).cells
          simp only [pfOf] at e1 e2 e3 e4 e5 e6 e7 e8 e9
          have ef0 := ez 0
          have ef1 := ez 1
          have ef2 := ez 2
          have ef3 := ez 3
          have ef4 := ez 4
          have ef5 := ez 5
          have ef6 := ez 6
          have ef7 := ez 7
          have ef8 := ez 8
          have ef9 := ez 9
          clear ez
          cases fst with
          | true =>
            obtain ⟨rfl, rfl, hf0⟩ := HFST.out rfl
            have HFO := Lib.hid (show FOk c q (base + d.kids[k].lead0) fresh by obtain ⟨r, hr⟩ := filter_first hlt hf0 HV.out; exact HF.out _ _ hr)
            obtain ⟨z0, z1, z2, z3, _, _, _, _⟩ := (HKX4.out).box
            clear hf0
            have HC8 := Lib.hid (HSK.out.1 B n₀ (.slice Ak q.out.length ck) c q false base (M + 4000 * (wts (d.kids.take k) : Int)) fresh A' c' w4 HST4.out.own HST4.out.ble HST4.out.inv (fun _ _ => HFO.out) (by have := HTK.out; omega) (by have := HTK.out; omega) (by have := HTK.out; have := HTD.out; omega) hn HNIL.out hcapk HKK4.out)
            go_wp2_with fail
            refine HC8.out.mono ?_
            rintro e v8 ⟨V8, q8, l8, rfl, g1, g2, g3, g4, g5⟩
            obtain ⟨A8, c8, rfl⟩ := own_form g1
            have hp8 := HST4.out.pbx.stay g2 (fun e => Lib.ownBlock_ne HST4.out.own HST4.out.pbx.blk (by decide) e.symm)
            have hst8 := HST4.out.step l8 g1 g2 g3 g4
            have hkx8 := HST4.out.kid HKX4.out g2 (kb := wr.heap.size) (by omega) (.slice A8 q8.out.length c8) (pfOf c q8 l8)
            have hlo8 := HST4.out.lowStep hn g2 (.slice A8 q8.out.length c8) (pfOf c q8 l8)
            have hsm8 := sim_bind (f := (fun p => d.kids[k].lay c p base fresh)) HSIM.out g5
            have hsz8 : w2.heap.size ≤ v8.heap.size := Nat.le_trans hs4 g2.size
            simp only [pfOf] at hst8 hkx8 hlo8
            clear e0 e1 e2 e3 e4 e5 e6 e7 e8 e9 ef0 ef1 ef2 ef3 ef4 ef5 ef6 ef7 ef8 ef9 z0 z1 z2 z3 g1 g2 g3 g4 g5 HC8
            obtain ⟨e0, e1, e2, e3, e4, e5, e6, e7, e8, e9, ez⟩ := (hp8).cells
            simp only [pfOf] at e1 e2 e3 e4 e5 e6 e7 e8 e9
            have ef0 := ez 0
            have ef1 := ez 1
            have ef2 := ez 2
            have ef3 := ez 3
            have ef4 := ez 4
            have ef5 := ez 5
            have ef6 := ez 6
            have ef7 := ez 7
            have ef8 := ez 8
            have ef9 := ez 9
            clear ez
            clear hp8
            go_upto_region 20 with (fail)
            have hzz8 : (((((((((((v8.setCell ⟨w.heap.size, 0, none⟩ (.slice A8 q8.out.length c8)).setCell ⟨w.heap.size, 1, none⟩ (.int .i64 q8.col)).setCell ⟨w.heap.size, 2, none⟩ (.int .i64 q8.start)).setCell ⟨w.heap.size, 3, none⟩ (.bool q8.op)).setCell ⟨w.heap.size, 4, none⟩ (.int .i64 q8.owed)).setCell ⟨w.heap.size, 5, none⟩ (.int .i64 q8.lines)).setCell ⟨w.heap.size, 6, none⟩ (.bool l8)).setCell ⟨w.heap.size, 7, none⟩ (.int .i64 c.width)).setCell ⟨w.heap.size, 8, none⟩ (.int .i64 c.ribbon)).setCell ⟨w.heap.size, 9, none⟩ (.int .i64 c.mode)) : World).heap.size = v8.heap.size := by simp [World.setCell]
            generalize ((((((((((v8.setCell ⟨w.heap.size, 0, none⟩ (.slice A8 q8.out.length c8)).setCell ⟨w.heap.size, 1, none⟩ (.int .i64 q8.col)).setCell ⟨w.heap.size, 2, none⟩ (.int .i64 q8.start)).setCell ⟨w.heap.size, 3, none⟩ (.bool q8.op)).setCell ⟨w.heap.size, 4, none⟩ (.int .i64 q8.owed)).setCell ⟨w.heap.size, 5, none⟩ (.int .i64 q8.lines)).setCell ⟨w.heap.size, 6, none⟩ (.bool l8)).setCell ⟨w.heap.size, 7, none⟩ (.int .i64 c.width)).setCell ⟨w.heap.size, 8, none⟩ (.int .i64 c.ribbon)).setCell ⟨w.heap.size, 9, none⟩ (.int .i64 c.mode)) = W8 at hst8 hkx8 hlo8 hzz8 ⊢
            have HST8 := Lib.hid hst8
            have HKX8 := Lib.hid hkx8
            have HLO8 := Lib.hid hlo8
            have HSM8 := Lib.hid hsm8
            clear hst8 hkx8 hlo8 hsm8 e0 e1 e2 e3 e4 e5 e6 e7 e8 e9 ef0 ef1 ef2 ef3 ef4 ef5 ef6 ef7 ef8 ef9
            obtain ⟨e0, e1, e2, e3, e4, e5, e6, e7, e8, e9, ez⟩ := (HST8.out.pbx).cells
            simp only [pfOf] at e1 e2 e3 e4 e5 e6 e7 e8 e9
            have ef0 := ez 0
            have ef1 := ez 1
            have ef2 := ez 2
            have ef3 := ez 3
            have ef4 := ez 4
            have ef5 := ez 5
            have ef6 := ez 6
            have ef7 := ez 7
            have ef8 := ez 8
            have ef9 := ez 9
            clear ez
            go_wp2
            go_roundw
            case rel =>
              refine ⟨k + 1, _, q8, l8, _, false, (q8.lines == q.lines), by omega, rfl, rfl, by go_num, HST8.out.mono (by have := HTK.out; omega), HSM8.out, ?_, fun h => nomatch h⟩
              rw [HEQ.out, HDR.out, beq_sym]
              exact fill_first HSIM.out HV.out HSM8.out
            case measure => simp [intOf]; omega
          | false =>
            cases one with
            | false =>
              have HFT := Lib.hid (show fillT c 9 false qk d.kids[k].flat = none by rfl)
              have HC11 := Lib.hid (rline_any B (.slice Ak qk.out.length ck) c qk lk (M + 4000 * (wts (d.kids.take k) : Int)) w4 HST4.out.own HST4.out.ble HST4.out.inv (by have := HTK.out; have := HTD.out; omega))
              go_wp2_with fail
              refine HC11.out.mono ?_
              rintro e v11 ⟨V11, q11, l11, rfl, g1, g2, g3, g4, g5⟩
              obtain ⟨A11, c11, rfl⟩ := own_form g1
              have hp11 := HST4.out.pbx.stay g2 (fun e => Lib.ownBlock_ne HST4.out.own HST4.out.pbx.blk (by decide) e.symm)
              have hst11 := HST4.out.step l11 g1 g2 g3 g4
              have hkx11 := HST4.out.kid HKX4.out g2 (kb := wr.heap.size) (by omega) (.slice A11 q11.out.length c11) (pfOf c q11 l11)
              have hlo11 := HST4.out.lowStep hn g2 (.slice A11 q11.out.length c11) (pfOf c q11 l11)
              have hsm11 := sim_bind (f := (endl c)) HSIM.out g5
              have hsz11 : w2.heap.size ≤ v11.heap.size := Nat.le_trans hs4 g2.size
              simp only [pfOf] at hst11 hkx11 hlo11
              have HC0 := Lib.hid (fun hl hm => sim_col0 g5 hl hm)
              clear e0 e1 e2 e3 e4 e5 e6 e7 e8 e9 ef0 ef1 ef2 ef3 ef4 ef5 ef6 ef7 ef8 ef9 g1 g2 g3 g4 g5 HC11
              obtain ⟨e0, e1, e2, e3, e4, e5, e6, e7, e8, e9, ez⟩ := (hp11).cells
              simp only [pfOf] at e1 e2 e3 e4 e5 e6 e7 e8 e9
              have ef0 := ez 0
              have ef1 := ez 1
              have ef2 := ez 2
              have ef3 := ez 3
              have ef4 := ez 4
              have ef5 := ez 5
              have ef6 := ez 6
              have ef7 := ez 7
              have ef8 := ez 8
              have ef9 := ez 9
              clear ez
              clear hp11
              go_upto_region 13 with (fail)
              have hzz11 : (((((((((((v11.setCell ⟨w.heap.size, 0, none⟩ (.slice A11 q11.out.length c11)).setCell ⟨w.heap.size, 1, none⟩ (.int .i64 q11.col)).setCell ⟨w.heap.size, 2, none⟩ (.int .i64 q11.start)).setCell ⟨w.heap.size, 3, none⟩ (.bool q11.op)).setCell ⟨w.heap.size, 4, none⟩ (.int .i64 q11.owed)).setCell ⟨w.heap.size, 5, none⟩ (.int .i64 q11.lines)).setCell ⟨w.heap.size, 6, none⟩ (.bool l11)).setCell ⟨w.heap.size, 7, none⟩ (.int .i64 c.width)).setCell ⟨w.heap.size, 8, none⟩ (.int .i64 c.ribbon)).setCell ⟨w.heap.size, 9, none⟩ (.int .i64 c.mode)) : World).heap.size = v11.heap.size := by simp [World.setCell]
              generalize ((((((((((v11.setCell ⟨w.heap.size, 0, none⟩ (.slice A11 q11.out.length c11)).setCell ⟨w.heap.size, 1, none⟩ (.int .i64 q11.col)).setCell ⟨w.heap.size, 2, none⟩ (.int .i64 q11.start)).setCell ⟨w.heap.size, 3, none⟩ (.bool q11.op)).setCell ⟨w.heap.size, 4, none⟩ (.int .i64 q11.owed)).setCell ⟨w.heap.size, 5, none⟩ (.int .i64 q11.lines)).setCell ⟨w.heap.size, 6, none⟩ (.bool l11)).setCell ⟨w.heap.size, 7, none⟩ (.int .i64 c.width)).setCell ⟨w.heap.size, 8, none⟩ (.int .i64 c.ribbon)).setCell ⟨w.heap.size, 9, none⟩ (.int .i64 c.mode)) = W11 at hst11 hkx11 hlo11 hzz11 ⊢
              have HST11 := Lib.hid hst11
              have HKX11 := Lib.hid hkx11
              have HLO11 := Lib.hid hlo11
              have HSM11 := Lib.hid hsm11
              clear hst11 hkx11 hlo11 hsm11 e0 e1 e2 e3 e4 e5 e6 e7 e8 e9 ef0 ef1 ef2 ef3 ef4 ef5 ef6 ef7 ef8 ef9
              have HKK11 := Lib.hid (kidsAt_below HKK4.out HLO11.out)
              obtain ⟨z0, z1, z2, z3, _, _, _, _⟩ := (HKX11.out).box
              obtain ⟨e0, e1, e2, e3, e4, e5, e6, e7, e8, e9, ez⟩ := (HST11.out.pbx).cells
              simp only [pfOf] at e1 e2 e3 e4 e5 e6 e7 e8 e9
              have ef0 := ez 0
              have ef1 := ez 1
              have ef2 := ez 2
              have ef3 := ez 3
              have ef4 := ez 4
              have ef5 := ez 5
              have ef6 := ez 6
              have ef7 := ez 7
              have ef8 := ez 8
              have ef9 := ez 9
              clear ez
              go_upto_region 14 with (fail)
              have HC12 := Lib.hid (HSK.out.1 B n₀ (.slice A11 q11.out.length c11) c q11 l11 base ((M + 4000 * (wts (d.kids.take k) : Int)) + 1) true A' c' W11 HST11.out.own HST11.out.ble HST11.out.inv (fun hl _ _ hm => by rw [HC0.out hl hm]; exact Int.le_max_left _ _) (by have := HTK.out; omega) (by have := HTK.out; omega) (by have := HTK.out; have := HTD.out; omega) hn HNIL.out hcapk HKK11.out)
              go_wp2_with fail
              refine HC12.out.mono ?_
              rintro e v12 ⟨V12, q12, l12, rfl, g1, g2, g3, g4, g5⟩
              obtain ⟨A12, c12, rfl⟩ := own_form g1
              have hp12 := HST11.out.pbx.stay g2 (fun e => Lib.ownBlock_ne HST11.out.own HST11.out.pbx.blk (by decide) e.symm)
              have hst12 := HST11.out.step l12 g1 g2 g3 g4
              have hkx12 := HST11.out.kid HKX11.out g2 (kb := wr.heap.size) (by omega) (.slice A12 q12.out.length c12) (pfOf c q12 l12)
              have hlo12 := HST11.out.lowStep hn g2 (.slice A12 q12.out.length c12) (pfOf c q12 l12)
              have hsm12 := sim_bind (f := (fun p => d.kids[k].lay c p base true)) HSM11.out g5
              have hsz12 : w2.heap.size ≤ v12.heap.size := Nat.le_trans (by omega) g2.size
              simp only [pfOf] at hst12 hkx12 hlo12
              clear e0 e1 e2 e3 e4 e5 e6 e7 e8 e9 ef0 ef1 ef2 ef3 ef4 ef5 ef6 ef7 ef8 ef9 z0 z1 z2 z3 g1 g2 g3 g4 g5 HC12
              obtain ⟨e0, e1, e2, e3, e4, e5, e6, e7, e8, e9, ez⟩ := (hp12).cells
              simp only [pfOf] at e1 e2 e3 e4 e5 e6 e7 e8 e9
              have ef0 := ez 0
              have ef1 := ez 1
              have ef2 := ez 2
              have ef3 := ez 3
              have ef4 := ez 4
              have ef5 := ez 5
              have ef6 := ez 6
              have ef7 := ez 7
              have ef8 := ez 8
              have ef9 := ez 9
              clear ez
              clear hp12
              go_upto_region 20 with (fail)
              have hzz12 : (((((((((((v12.setCell ⟨w.heap.size, 0, none⟩ (.slice A12 q12.out.length c12)).setCell ⟨w.heap.size, 1, none⟩ (.int .i64 q12.col)).setCell ⟨w.heap.size, 2, none⟩ (.int .i64 q12.start)).setCell ⟨w.heap.size, 3, none⟩ (.bool q12.op)).setCell ⟨w.heap.size, 4, none⟩ (.int .i64 q12.owed)).setCell ⟨w.heap.size, 5, none⟩ (.int .i64 q12.lines)).setCell ⟨w.heap.size, 6, none⟩ (.bool l12)).setCell ⟨w.heap.size, 7, none⟩ (.int .i64 c.width)).setCell ⟨w.heap.size, 8, none⟩ (.int .i64 c.ribbon)).setCell ⟨w.heap.size, 9, none⟩ (.int .i64 c.mode)) : World).heap.size = v12.heap.size := by simp [World.setCell]
              generalize ((((((((((v12.setCell ⟨w.heap.size, 0, none⟩ (.slice A12 q12.out.length c12)).setCell ⟨w.heap.size, 1, none⟩ (.int .i64 q12.col)).setCell ⟨w.heap.size, 2, none⟩ (.int .i64 q12.start)).setCell ⟨w.heap.size, 3, none⟩ (.bool q12.op)).setCell ⟨w.heap.size, 4, none⟩ (.int .i64 q12.owed)).setCell ⟨w.heap.size, 5, none⟩ (.int .i64 q12.lines)).setCell ⟨w.heap.size, 6, none⟩ (.bool l12)).setCell ⟨w.heap.size, 7, none⟩ (.int .i64 c.width)).setCell ⟨w.heap.size, 8, none⟩ (.int .i64 c.ribbon)).setCell ⟨w.heap.size, 9, none⟩ (.int .i64 c.mode)) = W12 at hst12 hkx12 hlo12 hzz12 ⊢
              have HST12 := Lib.hid hst12
              have HKX12 := Lib.hid hkx12
              have HLO12 := Lib.hid hlo12
              have HSM12 := Lib.hid hsm12
              clear hst12 hkx12 hlo12 hsm12 e0 e1 e2 e3 e4 e5 e6 e7 e8 e9 ef0 ef1 ef2 ef3 ef4 ef5 ef6 ef7 ef8 ef9
              obtain ⟨e0, e1, e2, e3, e4, e5, e6, e7, e8, e9, ez⟩ := (HST12.out.pbx).cells
              simp only [pfOf] at e1 e2 e3 e4 e5 e6 e7 e8 e9
              have ef0 := ez 0
              have ef1 := ez 1
              have ef2 := ez 2
              have ef3 := ez 3
              have ef4 := ez 4
              have ef5 := ez 5
              have ef6 := ez 6
              have ef7 := ez 7
              have ef8 := ez 8
              have ef9 := ez 9
              clear ez
              go_wp2
              go_roundw
              case rel =>
                refine ⟨k + 1, _, q12, l12, _, false, (q12.lines == q11.lines), by omega, rfl, rfl, by go_num, HST12.out.mono (by have := HTK.out; omega), HSM12.out, ?_, fun h => nomatch h⟩
                rw [HEQ.out, HDR.out, beq_sym]
                exact fill_line HSIM.out HV.out HFT.out HSM11.out HSM12.out
              case measure => simp [intOf]; omega
            | true =>
              have hszu : (blankB ++ s).size ≤ 2 * d.kids[k].wt := by rw [ByteArray.size_append]; exact Nat.le_trans (Nat.add_le_add_right (show blankB.size ≤ 1 by decide) _) (by omega)
              have HC5 := Lib.hid (rfits_any (.slice Ak qk.out.length ck) c qk lk (blankB ++ s) 0 (M + 4000 * (wts (d.kids.take k) : Int)) false w4 HST4.out.inv (by have := HTK.out; have := HTD.out; omega) (by have := HST4.out.inv.start; have := HST4.out.inv.startM; omega) (by omega))
              go_wp2_with fail
              refine HC5.out.mono ?_
              rintro e w5 ⟨rfl, hb5⟩
              have HST5 := Lib.hid (HST4.out.on hb5)
              have HKX5 := Lib.hid (HKX4.out.on hb5)
              have HKK5 := Lib.hid (kidsAt_below HKK4.out (hb5.mono (by omega)))
              have hs5 := hb5.size
              clear hb5 e0 e1 e2 e3 e4 e5 e6 e7 e8 e9 ef0 ef1 ef2 ef3 ef4 ef5 ef6 ef7 ef8 ef9 HC5
              obtain ⟨e0, e1, e2, e3, e4, e5, e6, e7, e8, e9, ez⟩ := (HST5.out.pbx).cells
              simp only [pfOf] at e1 e2 e3 e4 e5 e6 e7 e8 e9
              have ef0 := ez 0
              have ef1 := ez 1
              have ef2 := ez 2
              have ef3 := ez 3
              have ef4 := ez 4
              have ef5 := ez 5
              have ef6 := ez 6
              have ef7 := ez 7
              have ef8 := ez 8
              have ef9 := ez 9
              clear ez
              cases hfit : fitsB c qk (blankB ++ s) 0 false with
              | true =>
                have HFT := Lib.hid (show fillT c 9 true qk d.kids[k].flat = some (fblank 9 ++ s) by have e : fblank 9 = blankB := rfl; simp [fillT, HFL1.out, e, hfit])
                have HCOLS := Lib.hid hszu
                clear hfit
                have HC9 := Lib.hid (rput_any B (.slice Ak qk.out.length ck) c qk lk (blankB ++ s) 0 (M + 4000 * (wts (d.kids.take k) : Int)) false w5 HST5.out.own HST5.out.ble HST5.out.inv (fok_not _ _ _) (by have := HTK.out; have := HTD.out; omega) (by have := HST5.out.inv.start; have := HST5.out.inv.startM; omega) (by omega))
                go_wp2_with fail
                refine HC9.out.mono ?_
                rintro e v9 ⟨V9, q9, l9, rfl, g1, g2, g3, g4, g5⟩
                obtain ⟨A9, c9, rfl⟩ := own_form g1
                have hp9 := HST5.out.pbx.stay g2 (fun e => Lib.ownBlock_ne HST5.out.own HST5.out.pbx.blk (by decide) e.symm)
                have hst9 := HST5.out.step l9 g1 g2 g3 g4
                have hkx9 := HST5.out.kid HKX5.out g2 (kb := wr.heap.size) (by omega) (.slice A9 q9.out.length c9) (pfOf c q9 l9)
                have hlo9 := HST5.out.lowStep hn g2 (.slice A9 q9.out.length c9) (pfOf c q9 l9)
                have hsm9 := sim_bind (f := (fun p => put c p (blankB ++ s) 0 false)) HSIM.out g5
                have hsz9 : w2.heap.size ≤ v9.heap.size := Nat.le_trans (by omega) g2.size
                simp only [pfOf] at hst9 hkx9 hlo9
                clear e0 e1 e2 e3 e4 e5 e6 e7 e8 e9 ef0 ef1 ef2 ef3 ef4 ef5 ef6 ef7 ef8 ef9 g1 g2 g3 g4 g5 HC9
                obtain ⟨e0, e1, e2, e3, e4, e5, e6, e7, e8, e9, ez⟩ := (hp9).cells
                simp only [pfOf] at e1 e2 e3 e4 e5 e6 e7 e8 e9
                have ef0 := ez 0
                have ef1 := ez 1
                have ef2 := ez 2
                have ef3 := ez 3
                have ef4 := ez 4
                have ef5 := ez 5
                have ef6 := ez 6
                have ef7 := ez 7
                have ef8 := ez 8
                have ef9 := ez 9
                clear ez
                clear hp9
                go_upto_region 20 with (fail)
                have hzz9 : (((((((((((v9.setCell ⟨w.heap.size, 0, none⟩ (.slice A9 q9.out.length c9)).setCell ⟨w.heap.size, 1, none⟩ (.int .i64 q9.col)).setCell ⟨w.heap.size, 2, none⟩ (.int .i64 q9.start)).setCell ⟨w.heap.size, 3, none⟩ (.bool q9.op)).setCell ⟨w.heap.size, 4, none⟩ (.int .i64 q9.owed)).setCell ⟨w.heap.size, 5, none⟩ (.int .i64 q9.lines)).setCell ⟨w.heap.size, 6, none⟩ (.bool l9)).setCell ⟨w.heap.size, 7, none⟩ (.int .i64 c.width)).setCell ⟨w.heap.size, 8, none⟩ (.int .i64 c.ribbon)).setCell ⟨w.heap.size, 9, none⟩ (.int .i64 c.mode)) : World).heap.size = v9.heap.size := by simp [World.setCell]
                generalize ((((((((((v9.setCell ⟨w.heap.size, 0, none⟩ (.slice A9 q9.out.length c9)).setCell ⟨w.heap.size, 1, none⟩ (.int .i64 q9.col)).setCell ⟨w.heap.size, 2, none⟩ (.int .i64 q9.start)).setCell ⟨w.heap.size, 3, none⟩ (.bool q9.op)).setCell ⟨w.heap.size, 4, none⟩ (.int .i64 q9.owed)).setCell ⟨w.heap.size, 5, none⟩ (.int .i64 q9.lines)).setCell ⟨w.heap.size, 6, none⟩ (.bool l9)).setCell ⟨w.heap.size, 7, none⟩ (.int .i64 c.width)).setCell ⟨w.heap.size, 8, none⟩ (.int .i64 c.ribbon)).setCell ⟨w.heap.size, 9, none⟩ (.int .i64 c.mode)) = W9 at hst9 hkx9 hlo9 hzz9 ⊢
                have HST9 := Lib.hid hst9
                have HKX9 := Lib.hid hkx9
                have HLO9 := Lib.hid hlo9
                have HSM9 := Lib.hid hsm9
                clear hst9 hkx9 hlo9 hsm9 e0 e1 e2 e3 e4 e5 e6 e7 e8 e9 ef0 ef1 ef2 ef3 ef4 ef5 ef6 ef7 ef8 ef9
                have HST9' := Lib.hid (HST9.out.mono (M' := (M + 4000 * (wts (d.kids.take k) : Int)) + 1 + 4000 * (d.kids[k].wt : Int) - 2000) (by have := HCOLS.out; omega))
                obtain ⟨e0, e1, e2, e3, e4, e5, e6, e7, e8, e9, ez⟩ := (HST9.out.pbx).cells
                simp only [pfOf] at e1 e2 e3 e4 e5 e6 e7 e8 e9
                have ef0 := ez 0
                have ef1 := ez 1
                have ef2 := ez 2
                have ef3 := ez 3
                have ef4 := ez 4
                have ef5 := ez 5
                have ef6 := ez 6
                have ef7 := ez 7
                have ef8 := ez 8
                have ef9 := ez 9
                clear ez
                go_wp2
                go_roundw
                case rel =>
                  refine ⟨k + 1, _, q9, l9, _, false, (q9.lines == qk.lines), by omega, rfl, rfl, by go_num, HST9'.out.mono (by have := HTK.out; omega), HSM9.out, ?_, fun h => nomatch h⟩
                  rw [HEQ.out, HDR.out, beq_sym]
                  exact fill_text HSIM.out HV.out HFT.out HSM9.out
                case measure => simp [intOf]; omega
              | false =>
                have HFT := Lib.hid (show fillT c 9 true qk d.kids[k].flat = none by have e : fblank 9 = blankB := rfl; simp [fillT, HFL1.out, e, hfit])
                have HC11 := Lib.hid (rline_any B (.slice Ak qk.out.length ck) c qk lk (M + 4000 * (wts (d.kids.take k) : Int)) w5 HST5.out.own HST5.out.ble HST5.out.inv (by have := HTK.out; have := HTD.out; omega))
                go_wp2_with fail
                refine HC11.out.mono ?_
                rintro e v11 ⟨V11, q11, l11, rfl, g1, g2, g3, g4, g5⟩
                obtain ⟨A11, c11, rfl⟩ := own_form g1
                have hp11 := HST5.out.pbx.stay g2 (fun e => Lib.ownBlock_ne HST5.out.own HST5.out.pbx.blk (by decide) e.symm)
                have hst11 := HST5.out.step l11 g1 g2 g3 g4
                have hkx11 := HST5.out.kid HKX5.out g2 (kb := wr.heap.size) (by omega) (.slice A11 q11.out.length c11) (pfOf c q11 l11)
                have hlo11 := HST5.out.lowStep hn g2 (.slice A11 q11.out.length c11) (pfOf c q11 l11)
                have hsm11 := sim_bind (f := (endl c)) HSIM.out g5
                have hsz11 : w2.heap.size ≤ v11.heap.size := Nat.le_trans (by omega) g2.size
                simp only [pfOf] at hst11 hkx11 hlo11
                have HC0 := Lib.hid (fun hl hm => sim_col0 g5 hl hm)
                clear e0 e1 e2 e3 e4 e5 e6 e7 e8 e9 ef0 ef1 ef2 ef3 ef4 ef5 ef6 ef7 ef8 ef9 g1 g2 g3 g4 g5 HC11
                obtain ⟨e0, e1, e2, e3, e4, e5, e6, e7, e8, e9, ez⟩ := (hp11).cells
                simp only [pfOf] at e1 e2 e3 e4 e5 e6 e7 e8 e9
                have ef0 := ez 0
                have ef1 := ez 1
                have ef2 := ez 2
                have ef3 := ez 3
                have ef4 := ez 4
                have ef5 := ez 5
                have ef6 := ez 6
                have ef7 := ez 7
                have ef8 := ez 8
                have ef9 := ez 9
                clear ez
                clear hp11
                go_upto_region 13 with (fail)
                have hzz11 : (((((((((((v11.setCell ⟨w.heap.size, 0, none⟩ (.slice A11 q11.out.length c11)).setCell ⟨w.heap.size, 1, none⟩ (.int .i64 q11.col)).setCell ⟨w.heap.size, 2, none⟩ (.int .i64 q11.start)).setCell ⟨w.heap.size, 3, none⟩ (.bool q11.op)).setCell ⟨w.heap.size, 4, none⟩ (.int .i64 q11.owed)).setCell ⟨w.heap.size, 5, none⟩ (.int .i64 q11.lines)).setCell ⟨w.heap.size, 6, none⟩ (.bool l11)).setCell ⟨w.heap.size, 7, none⟩ (.int .i64 c.width)).setCell ⟨w.heap.size, 8, none⟩ (.int .i64 c.ribbon)).setCell ⟨w.heap.size, 9, none⟩ (.int .i64 c.mode)) : World).heap.size = v11.heap.size := by simp [World.setCell]
                generalize ((((((((((v11.setCell ⟨w.heap.size, 0, none⟩ (.slice A11 q11.out.length c11)).setCell ⟨w.heap.size, 1, none⟩ (.int .i64 q11.col)).setCell ⟨w.heap.size, 2, none⟩ (.int .i64 q11.start)).setCell ⟨w.heap.size, 3, none⟩ (.bool q11.op)).setCell ⟨w.heap.size, 4, none⟩ (.int .i64 q11.owed)).setCell ⟨w.heap.size, 5, none⟩ (.int .i64 q11.lines)).setCell ⟨w.heap.size, 6, none⟩ (.bool l11)).setCell ⟨w.heap.size, 7, none⟩ (.int .i64 c.width)).setCell ⟨w.heap.size, 8, none⟩ (.int .i64 c.ribbon)).setCell ⟨w.heap.size, 9, none⟩ (.int .i64 c.mode)) = W11 at hst11 hkx11 hlo11 hzz11 ⊢
                have HST11 := Lib.hid hst11
                have HKX11 := Lib.hid hkx11
                have HLO11 := Lib.hid hlo11
                have HSM11 := Lib.hid hsm11
                clear hst11 hkx11 hlo11 hsm11 e0 e1 e2 e3 e4 e5 e6 e7 e8 e9 ef0 ef1 ef2 ef3 ef4 ef5 ef6 ef7 ef8 ef9
                have HKK11 := Lib.hid (kidsAt_below HKK5.out HLO11.out)
                obtain ⟨z0, z1, z2, z3, _, _, _, _⟩ := (HKX11.out).box
                obtain ⟨e0, e1, e2, e3, e4, e5, e6, e7, e8, e9, ez⟩ := (HST11.out.pbx).cells
                simp only [pfOf] at e1 e2 e3 e4 e5 e6 e7 e8 e9
                have ef0 := ez 0
                have ef1 := ez 1
                have ef2 := ez 2
                have ef3 := ez 3
                have ef4 := ez 4
                have ef5 := ez 5
                have ef6 := ez 6
                have ef7 := ez 7
                have ef8 := ez 8
                have ef9 := ez 9
                clear ez
                go_upto_region 14 with (fail)
                have HC12 := Lib.hid (HSK.out.1 B n₀ (.slice A11 q11.out.length c11) c q11 l11 base ((M + 4000 * (wts (d.kids.take k) : Int)) + 1) true A' c' W11 HST11.out.own HST11.out.ble HST11.out.inv (fun hl _ _ hm => by rw [HC0.out hl hm]; exact Int.le_max_left _ _) (by have := HTK.out; omega) (by have := HTK.out; omega) (by have := HTK.out; have := HTD.out; omega) hn HNIL.out hcapk HKK11.out)
                go_wp2_with fail
                refine HC12.out.mono ?_
                rintro e v12 ⟨V12, q12, l12, rfl, g1, g2, g3, g4, g5⟩
                obtain ⟨A12, c12, rfl⟩ := own_form g1
                have hp12 := HST11.out.pbx.stay g2 (fun e => Lib.ownBlock_ne HST11.out.own HST11.out.pbx.blk (by decide) e.symm)
                have hst12 := HST11.out.step l12 g1 g2 g3 g4
                have hkx12 := HST11.out.kid HKX11.out g2 (kb := wr.heap.size) (by omega) (.slice A12 q12.out.length c12) (pfOf c q12 l12)
                have hlo12 := HST11.out.lowStep hn g2 (.slice A12 q12.out.length c12) (pfOf c q12 l12)
                have hsm12 := sim_bind (f := (fun p => d.kids[k].lay c p base true)) HSM11.out g5
                have hsz12 : w2.heap.size ≤ v12.heap.size := Nat.le_trans (by omega) g2.size
                simp only [pfOf] at hst12 hkx12 hlo12
                clear e0 e1 e2 e3 e4 e5 e6 e7 e8 e9 ef0 ef1 ef2 ef3 ef4 ef5 ef6 ef7 ef8 ef9 z0 z1 z2 z3 g1 g2 g3 g4 g5 HC12
                obtain ⟨e0, e1, e2, e3, e4, e5, e6, e7, e8, e9, ez⟩ := (hp12).cells
                simp only [pfOf] at e1 e2 e3 e4 e5 e6 e7 e8 e9
                have ef0 := ez 0
                have ef1 := ez 1
                have ef2 := ez 2
                have ef3 := ez 3
                have ef4 := ez 4
                have ef5 := ez 5
                have ef6 := ez 6
                have ef7 := ez 7
                have ef8 := ez 8
                have ef9 := ez 9
                clear ez
                clear hp12
                go_upto_region 20 with (fail)
                have hzz12 : (((((((((((v12.setCell ⟨w.heap.size, 0, none⟩ (.slice A12 q12.out.length c12)).setCell ⟨w.heap.size, 1, none⟩ (.int .i64 q12.col)).setCell ⟨w.heap.size, 2, none⟩ (.int .i64 q12.start)).setCell ⟨w.heap.size, 3, none⟩ (.bool q12.op)).setCell ⟨w.heap.size, 4, none⟩ (.int .i64 q12.owed)).setCell ⟨w.heap.size, 5, none⟩ (.int .i64 q12.lines)).setCell ⟨w.heap.size, 6, none⟩ (.bool l12)).setCell ⟨w.heap.size, 7, none⟩ (.int .i64 c.width)).setCell ⟨w.heap.size, 8, none⟩ (.int .i64 c.ribbon)).setCell ⟨w.heap.size, 9, none⟩ (.int .i64 c.mode)) : World).heap.size = v12.heap.size := by simp [World.setCell]
                generalize ((((((((((v12.setCell ⟨w.heap.size, 0, none⟩ (.slice A12 q12.out.length c12)).setCell ⟨w.heap.size, 1, none⟩ (.int .i64 q12.col)).setCell ⟨w.heap.size, 2, none⟩ (.int .i64 q12.start)).setCell ⟨w.heap.size, 3, none⟩ (.bool q12.op)).setCell ⟨w.heap.size, 4, none⟩ (.int .i64 q12.owed)).setCell ⟨w.heap.size, 5, none⟩ (.int .i64 q12.lines)).setCell ⟨w.heap.size, 6, none⟩ (.bool l12)).setCell ⟨w.heap.size, 7, none⟩ (.int .i64 c.width)).setCell ⟨w.heap.size, 8, none⟩ (.int .i64 c.ribbon)).setCell ⟨w.heap.size, 9, none⟩ (.int .i64 c.mode)) = W12 at hst12 hkx12 hlo12 hzz12 ⊢
                have HST12 := Lib.hid hst12
                have HKX12 := Lib.hid hkx12
                have HLO12 := Lib.hid hlo12
                have HSM12 := Lib.hid hsm12
                clear hst12 hkx12 hlo12 hsm12 e0 e1 e2 e3 e4 e5 e6 e7 e8 e9 ef0 ef1 ef2 ef3 ef4 ef5 ef6 ef7 ef8 ef9
                obtain ⟨e0, e1, e2, e3, e4, e5, e6, e7, e8, e9, ez⟩ := (HST12.out.pbx).cells
                simp only [pfOf] at e1 e2 e3 e4 e5 e6 e7 e8 e9
                have ef0 := ez 0
                have ef1 := ez 1
                have ef2 := ez 2
                have ef3 := ez 3
                have ef4 := ez 4
                have ef5 := ez 5
                have ef6 := ez 6
                have ef7 := ez 7
                have ef8 := ez 8
                have ef9 := ez 9
                clear ez
                go_wp2
                go_roundw
                case rel =>
                  refine ⟨k + 1, _, q12, l12, _, false, (q12.lines == q11.lines), by omega, rfl, rfl, by go_num, HST12.out.mono (by have := HTK.out; omega), HSM12.out, ?_, fun h => nomatch h⟩
                  rw [HEQ.out, HDR.out, beq_sym]
                  exact fill_line HSIM.out HV.out HFT.out HSM11.out HSM12.out
                case measure => simp [intOf]; omega
    · obtain rfl : k = d.kids.length := by omega
      obtain ⟨e0, e1, e2, e3, e4, e5, e6, e7, e8, e9, ez⟩ := (HST.out.pbx).cells
      simp only [pfOf] at e1 e2 e3 e4 e5 e6 e7 e8 e9
      have ef0 := ez 0
      have ef1 := ez 1
      have ef2 := ez 2
      have ef3 := ez 3
      have ef4 := ez 4
      have ef5 := ez 5
      have ef6 := ez 6
      have ef7 := ez 7
      have ef8 := ez 8
      have ef9 := ez 9
      clear ez
      obtain ⟨u0, u1, u2, u3, u4, u5, u6, u7, u8, u9, uz⟩ := (HST.out.rbx).cells
      simp only [PF0] at u1 u2 u3 u4 u5 u6 u7 u8 u9
      have uf0 := uz 0
      have uf1 := uz 1
      have uf2 := uz 2
      have uf3 := uz 3
      have uf4 := uz 4
      have uf5 := uz 5
      have uf6 := uz 6
      have uf7 := uz 7
      have uf8 := uz 8
      have uf9 := uz 9
      clear uz
      go_wp2
      have nr : Value.ownBlock (.slice Ak qk.out.length ck) ≠ some W1.heap.size := Lib.ownBlock_ne HST.out.own HST.out.rbx.blk (by decide)
      have kz := HST.out.rbx.put (.slice Ak qk.out.length ck) (pfOf c qk lk)
      have oz := own_put HST.out.own nr (.slice Ak qk.out.length ck) (pfOf c qk lk)
      have bz := stay_put2 HST.out.stay (b := W1.heap.size) (by omega) (.slice Ak qk.out.length ck) (pfOf c qk lk)
      simp only [pfOf] at kz oz bz
      generalize ((((((((((wr.setCell ⟨W1.heap.size, 0, none⟩ (.slice Ak qk.out.length ck)).setCell ⟨W1.heap.size, 1, none⟩ (.int .i64 qk.col)).setCell ⟨W1.heap.size, 2, none⟩ (.int .i64 qk.start)).setCell ⟨W1.heap.size, 3, none⟩ (.bool qk.op)).setCell ⟨W1.heap.size, 4, none⟩ (.int .i64 qk.owed)).setCell ⟨W1.heap.size, 5, none⟩ (.int .i64 qk.lines)).setCell ⟨W1.heap.size, 6, none⟩ (.bool lk)).setCell ⟨W1.heap.size, 7, none⟩ (.int .i64 c.width)).setCell ⟨W1.heap.size, 8, none⟩ (.int .i64 c.ribbon)).setCell ⟨W1.heap.size, 9, none⟩ (.int .i64 c.mode)) = WZ at kz oz bz ⊢
      obtain ⟨z0, z1, z2, z3, z4, z5, z6, z7, z8, z9, -⟩ := kz.cells
      simp only at z1 z2 z3 z4 z5 z6 z7 z8 z9
      refine bodyPost_ret (v := .agg #[(.slice Ak qk.out.length ck), (.int .i64 qk.col), (.int .i64 qk.start), (.bool qk.op), (.int .i64 qk.owed), (.int .i64 qk.lines), (.bool lk), (.int .i64 c.width), (.int .i64 c.ribbon), (.int .i64 c.mode)]) (by simp [results, Tryd.results77, go_sem, z0, z1, z2, z3, z4, z5, z6, z7, z8, z9]) rfl ?_
      refine ⟨_, qk, lk, rfl, oz, bz, HST.out.next, HST.out.inv.mono (by have := wts_take_le d.kids d.kids.length; omega), ?_⟩
      rw [HEQ.out, List.drop_length]
      have hbn : ∀ (o : Option Pen) (g : Pen → Option Pen), (∀ p, g p = some p) → o.bind g = o := fun o g hg => by cases o <;> simp [hg]
      rw [hbn _ _ (fun p => by simp only [fills])]
      exact HSIM.out

set_option maxRecDepth 100000 in
set_option maxHeartbeats 16000000 in
theorem rfill10_any (d : Doc) (hk : d.kind = 10) (B n₀ : Nat) (V : Value) (c : Cfg) (q : Pen) (base M : Int) (fresh : Bool) (A : Option Addr) (cc : Nat) (w : World)
    (h : w.ownsRow B 5 1 V q.out.length (Lib.byteCells q.out)) (hB : B ≤ w.heap.size) (hi : Inv M q) (hsay : ∀ x ∈ d.kids, RLaySays x ∧ x.form = true) (hf : ∀ x r, d.kids.filter Doc.there = x :: r → FOk c q (base + x.lead0) fresh) (hb0 : -M ≤ base) (hb1 : base ≤ M) (hM : M + 4000 * (wts d.kids : Int) ≤ 1099511627776) (hw : d.wt ≤ 4194304) (hn : n₀ ≤ B) (hK : KidsAt n₀ w d.kids A) :
    Calls Tryd.prog 77 #[.agg #[V, .int .i64 q.col, .int .i64 q.start, .bool q.op, .int .i64 q.owed, .int .i64 q.lines, .bool false, .int .i64 c.width, .int .i64 c.ribbon, .int .i64 c.mode], .agg #[.int .i64 d.kind, .string d.text, .int .i64 d.n, .slice A d.kids.length cc], .int .i64 base, .bool fresh] w (RLaid B w V c (M + 4000 * (wts d.kids : Int)) (fills c 10 d.kids true false q base fresh)) := by
  obtain ⟨A0, c0, rfl⟩ := own_form h
  have hkl := kids_lt d
  have hdl := len_le_wts d.kids
  obtain ⟨hbx, hb0', hs0⟩ := rbox_new w (.slice A0 q.out.length c0) (pfOf c q false)
  simp only [pfOf] at hb0' hs0
  obtain ⟨W0, hW0⟩ : ∃ W, w.alloc (.cells #[(.slice A0 q.out.length c0), .int .i64 q.col, .int .i64 q.start, .bool q.op, .int .i64 q.owed, .int .i64 q.lines, .bool false, .int .i64 c.width, .int .i64 c.ribbon, .int .i64 c.mode] 73) = W := ⟨_, rfl⟩
  have hbx0 : RBox W0 w.heap.size (.slice A0 q.out.length c0) (pfOf c q false) := by rw [← hW0]; exact hbx
  rw [hW0] at hb0' hs0
  obtain ⟨hdx, hbd, hs1⟩ := dbox_new W0 d A cc
  obtain ⟨W1, hW1⟩ : ∃ W, W0.alloc (.cells #[.int .i64 d.kind, .string d.text, .int .i64 d.n, .slice A d.kids.length cc] 24) = W := ⟨_, rfl⟩
  rw [hW1] at hdx hbd hs1
  obtain ⟨hrx, hbr, hs2⟩ := rbox_new W1 (.slice none 0 0) PF0
  simp only [PF0] at hbr hs2
  obtain ⟨W, hW⟩ : ∃ W, W1.alloc (.cells #[.slice none 0 0, .int .i64 0, .int .i64 0, .bool false, .int .i64 0, .int .i64 0, .bool false, .int .i64 0, .int .i64 0, .int .i64 0] 73) = W := ⟨_, rfl⟩
  have hrx0 : RBox W W1.heap.size (.slice none 0 0) PF0 := by rw [← hW]; exact hrx
  rw [hW] at hbr hs2
  have hb2 := (hb0'.trans (hbd.mono (by omega))).trans (hbr.mono (by omega))
  have HS0 := Lib.hid (show RSt B w (.slice A0 q.out.length c0) c w.heap.size W0.heap.size W1.heap.size d A cc M W (.slice A0 q.out.length c0) q false from
    ⟨own_on h hb2, (hbx0.on hbd).on hbr, hrx0, hdx.on hbr, Stay.of_below hb2, .inl rfl, hi, Nat.le_refl _, by omega, by omega, by omega, hB⟩)
  have HVB := Lib.hid (show ∀ g, Value.ownBlock (.slice A0 q.out.length c0) = some g → B ≤ g from fun g hg => (h.lt g hg).1)
  have HF := Lib.hid hf
  have HSAY := Lib.hid hsay
  have HK := Lib.hid hK
  have hord : w.heap.size < W0.heap.size ∧ W0.heap.size < W1.heap.size ∧ W1.heap.size < W.heap.size := ⟨by omega, by omega, by omega⟩
  obtain ⟨ho1, ho2, ho3⟩ := hord
  clear h hi hf hsay hK hbx hbx0 hb0' hs0 hdx hbd hs1 hrx hrx0 hbr hs2 hb2
  go_enter Tryd.func77, Tryd.ntmps77
  obtain ⟨y0, y1, y2, y3, _, _, _, _⟩ := HS0.out.dbx.box
  rw [hk] at y0
  have HKD := Lib.hid hk
  clear hk
  go_wp2_with fail
  clear hW hW1 hW0 y0 y1 y2 y3
  go_loopw [10, 11, 12] (fun f g i wr => ∃ (k : Nat) (Vk : Value) (qk : Pen) (lk : Bool) (ok : Option Pen) (fst one : Bool), k ≤ d.kids.length ∧ f = .bool fst ∧ g = .bool one ∧ i = .int .i64 k ∧ RSt B w (.slice A0 q.out.length c0) c w.heap.size W0.heap.size W1.heap.size d A cc (M + 4000 * (wts (d.kids.take k) : Int)) wr Vk qk lk ∧ Sim ok qk lk ∧
      fills c 10 d.kids true false q base fresh = ok.bind (fun p => fills c 10 (d.kids.drop k) fst one p base fresh) ∧ (fst = true → q = qk ∧ false = lk ∧ (d.kids.take k).filter Doc.there = [])) (fun _ _ i wr => d.kids.length - (intOf i).toNat)
  case atStart => exact ⟨0, (.slice A0 q.out.length c0), q, false, some q, true, false, by omega, rfl, rfl, rfl, by have := HS0.out; simpa [wts] using this, ⟨rfl, rfl⟩, rfl, fun _ => ⟨rfl, rfl, rfl⟩⟩
  case round =>
    obtain ⟨k, Vk, qk, lk, ok, fst, one, hk', rfl, rfl, rfl, hst, hsim, heq, hfst⟩ := hrel
    obtain ⟨Ak, ck, rfl⟩ := own_form hst.own
    have HST := Lib.hid hst
    have HSIM := Lib.hid hsim
    have HEQ := Lib.hid heq
    have HFST := Lib.hid hfst
    have hwle := hst.stay.size
    obtain ⟨x0, x1, x2, x3, _, _, _, _⟩ := hst.dbx.box
    have hor := hst.ord.2.2.2.1
    have HLOW := Lib.hid (hst.low HVB.out hn)
    have HKr := Lib.hid (kidsAt_below HK.out HLOW.out)
    clear hst hsim heq hfst
    by_cases hlt : k < d.kids.length
    · obtain ⟨b, o, rfl, hat⟩ := kidsAt_get HKr.out (kid_in hlt)
      obtain ⟨A', c', h1, h2, h3, h4, h5, h6, h7, h8⟩ := docAt_iff.1 hat
      have HNIL := Lib.hid h7
      have hcapk := h6
      have HK' := Lib.hid h8
      have hwt := kid_lt (List.getElem_mem hlt)
      have hbn : b < wr.heap.size := by omega
      have HSK := Lib.hid (HSAY.out d.kids[k] (List.getElem_mem hlt))
      have HTK := Lib.hid (wts_take hlt)
      have HTD := Lib.hid (wts_drop hlt)
      have HDR := Lib.hid (List.drop_eq_getElem_cons hlt)
      clear h6 h7 h8 hat
      obtain ⟨hkx, hkb, hks⟩ := dbox_new wr d.kids[k] A' c'
      obtain ⟨W3, hW3⟩ : ∃ W3, wr.alloc (.cells #[.int .i64 d.kids[k].kind, .string d.kids[k].text, .int .i64 d.kids[k].n, .slice A' d.kids[k].kids.length c'] 24) = W3 := ⟨_, rfl⟩
      rw [hW3] at hkx hkb hks
      have HC := Lib.hid (rvoid_any _ d.kids[k] A' c' W3 (Nat.le_refl _) (by omega) (kidsAt_on (kidsAt_mono HK'.out (show n₀ ≤ wr.heap.size by omega)) hkb))
      have HKX := Lib.hid hkx
      have HST3 := Lib.hid (HST.out.on hkb)
      have HKB := Lib.hid hkb
      have hs3 : wr.heap.size < W3.heap.size := by omega
      obtain ⟨z0, z1, z2, z3, _, _, _, _⟩ := (hkx).box
      clear hkx hkb hks
      go_wp2_with fail
      clear hW3
      refine HC.out.mono ?_
      rintro e w2 ⟨rfl, hb2⟩
      have HST2 := Lib.hid (HST3.out.on hb2)
      have HKX2 := Lib.hid (HKX.out.on hb2)
      have HKK2 := Lib.hid (kidsAt_below HK'.out ((HKB.out.trans (hb2.mono (Nat.le_of_lt hs3))).mono (show n₀ ≤ wr.heap.size by omega)))
      have hs2 := hb2.size
      clear h1 h2 h3 h4 h5 z0 z1 z2 z3 x0 x1 x2 x3 hb2 HC HST HST3 HKX HKr HK' HKB
      cases hv : d.kids[k].void with
      | true =>
        have HV := Lib.hid hv
        clear hv
        go_wp2
        go_roundw
        case rel => 
          refine ⟨k + 1, _, qk, lk, ok, fst, one, by omega, rfl, rfl, by go_num, HST2.out.mono (by have := HTK.out; omega), HSIM.out, ?_, fun e => ?_⟩
          · rw [HEQ.out, HDR.out]
            congr 1
            funext p
            rw [fills_void HV.out]
          · obtain ⟨e1, e2, e3⟩ := HFST.out e
            exact ⟨e1, e2, by rw [there_keep hlt HV.out]; exact e3⟩
        case measure => simp [intOf]; omega
      | false =>
        have HV := Lib.hid hv
        clear hv
        have HFL := Lib.hid (rflat_any _ d.kids[k] A' c' w2 (Nat.le_refl _) (by omega) (kidsAt_mono HKK2.out (show n₀ ≤ w2.heap.size by omega)))
        obtain ⟨z0, z1, z2, z3, _, _, _, _⟩ := (HKX2.out).box
        go_wp2_with fail
        cases hfl : d.kids[k].flat with
        | none =>
          have HFL1 := Lib.hid hfl
          clear hfl
          have hfc := HFL.out
          unfold FlatSaid at hfc
          rw [HFL1.out] at hfc
          simp only [flatV] at hfc
          refine hfc.mono ?_
          rintro e w4 ⟨rfl, hb4⟩
          have HST4 := Lib.hid (HST2.out.on hb4)
          have HKX4 := Lib.hid (HKX2.out.on hb4)
          have HKK4 := Lib.hid (kidsAt_below HKK2.out (hb4.mono (by omega)))
          have hs4 := hb4.size
          clear hb4 z0 z1 z2 z3 HFL hfc
          obtain ⟨e0, e1, e2, e3, e4, e5, e6, e7, e8, e9, ez⟩ := (HST4.out.pbx).cells
          simp only [pfOf] at e1 e2 e3 e4 e5 e6 e7 e8 e9
          have ef0 := ez 0
          have ef1 := ez 1
          have ef2 := ez 2
          have ef3 := ez 3
          have ef4 := ez 4
          have ef5 := ez 5
          have ef6 := ez 6
          have ef7 := ez 7
          have ef8 := ez 8
          have ef9 := ez 9
          clear ez
          cases fst with
          | true =>
            obtain ⟨rfl, rfl, hf0⟩ := HFST.out rfl
            have HFO := Lib.hid (show FOk c q (base + d.kids[k].lead0) fresh by obtain ⟨r, hr⟩ := filter_first hlt hf0 HV.out; exact HF.out _ _ hr)
            obtain ⟨z0, z1, z2, z3, _, _, _, _⟩ := (HKX4.out).box
            clear hf0
            have HC8 := Lib.hid (HSK.out.1 B n₀ (.slice Ak q.out.length ck) c q false base (M + 4000 * (wts (d.kids.take k) : Int)) fresh A' c' w4 HST4.out.own HST4.out.ble HST4.out.inv (fun _ _ => HFO.out) (by have := HTK.out; omega) (by have := HTK.out; omega) (by have := HTK.out; have := HTD.out; omega) hn HNIL.out hcapk HKK4.out)
            go_wp2_with fail
            refine HC8.out.mono ?_
            rintro e v8 ⟨V8, q8, l8, rfl, g1, g2, g3, g4, g5⟩
            obtain ⟨A8, c8, rfl⟩ := own_form g1
            have hp8 := HST4.out.pbx.stay g2 (fun e => Lib.ownBlock_ne HST4.out.own HST4.out.pbx.blk (by decide) e.symm)
            have hst8 := HST4.out.step l8 g1 g2 g3 g4
            have hkx8 := HST4.out.kid HKX4.out g2 (kb := wr.heap.size) (by omega) (.slice A8 q8.out.length c8) (pfOf c q8 l8)
            have hlo8 := HST4.out.lowStep hn g2 (.slice A8 q8.out.length c8) (pfOf c q8 l8)
            have hsm8 := sim_bind (f := (fun p => d.kids[k].lay c p base fresh)) HSIM.out g5
            have hsz8 : w2.heap.size ≤ v8.heap.size := Nat.le_trans hs4 g2.size
            simp only [pfOf] at hst8 hkx8 hlo8
            clear e0 e1 e2 e3 e4 e5 e6 e7 e8 e9 ef0 ef1 ef2 ef3 ef4 ef5 ef6 ef7 ef8 ef9 z0 z1 z2 z3 g1 g2 g3 g4 g5 HC8
            obtain ⟨e0, e1, e2, e3, e4, e5, e6, e7, e8, e9, ez⟩ := (hp8).cells
            simp only [pfOf] at e1 e2 e3 e4 e5 e6 e7 e8 e9
            have ef0 := ez 0
            have ef1 := ez 1
            have ef2 := ez 2
            have ef3 := ez 3
            have ef4 := ez 4
            have ef5 := ez 5
            have ef6 := ez 6
            have ef7 := ez 7
            have ef8 := ez 8
            have ef9 := ez 9
            clear ez
            clear hp8
            go_upto_region 20 with (fail)
            have hzz8 : (((((((((((v8.setCell ⟨w.heap.size, 0, none⟩ (.slice A8 q8.out.length c8)).setCell ⟨w.heap.size, 1, none⟩ (.int .i64 q8.col)).setCell ⟨w.heap.size, 2, none⟩ (.int .i64 q8.start)).setCell ⟨w.heap.size, 3, none⟩ (.bool q8.op)).setCell ⟨w.heap.size, 4, none⟩ (.int .i64 q8.owed)).setCell ⟨w.heap.size, 5, none⟩ (.int .i64 q8.lines)).setCell ⟨w.heap.size, 6, none⟩ (.bool l8)).setCell ⟨w.heap.size, 7, none⟩ (.int .i64 c.width)).setCell ⟨w.heap.size, 8, none⟩ (.int .i64 c.ribbon)).setCell ⟨w.heap.size, 9, none⟩ (.int .i64 c.mode)) : World).heap.size = v8.heap.size := by simp [World.setCell]
            generalize ((((((((((v8.setCell ⟨w.heap.size, 0, none⟩ (.slice A8 q8.out.length c8)).setCell ⟨w.heap.size, 1, none⟩ (.int .i64 q8.col)).setCell ⟨w.heap.size, 2, none⟩ (.int .i64 q8.start)).setCell ⟨w.heap.size, 3, none⟩ (.bool q8.op)).setCell ⟨w.heap.size, 4, none⟩ (.int .i64 q8.owed)).setCell ⟨w.heap.size, 5, none⟩ (.int .i64 q8.lines)).setCell ⟨w.heap.size, 6, none⟩ (.bool l8)).setCell ⟨w.heap.size, 7, none⟩ (.int .i64 c.width)).setCell ⟨w.heap.size, 8, none⟩ (.int .i64 c.ribbon)).setCell ⟨w.heap.size, 9, none⟩ (.int .i64 c.mode)) = W8 at hst8 hkx8 hlo8 hzz8 ⊢
            have HST8 := Lib.hid hst8
            have HKX8 := Lib.hid hkx8
            have HLO8 := Lib.hid hlo8
            have HSM8 := Lib.hid hsm8
            clear hst8 hkx8 hlo8 hsm8 e0 e1 e2 e3 e4 e5 e6 e7 e8 e9 ef0 ef1 ef2 ef3 ef4 ef5 ef6 ef7 ef8 ef9
            obtain ⟨e0, e1, e2, e3, e4, e5, e6, e7, e8, e9, ez⟩ := (HST8.out.pbx).cells
            simp only [pfOf] at e1 e2 e3 e4 e5 e6 e7 e8 e9
            have ef0 := ez 0
            have ef1 := ez 1
            have ef2 := ez 2
            have ef3 := ez 3
            have ef4 := ez 4
            have ef5 := ez 5
            have ef6 := ez 6
            have ef7 := ez 7
            have ef8 := ez 8
            have ef9 := ez 9
            clear ez
            go_wp2
            go_roundw
            case rel =>
              refine ⟨k + 1, _, q8, l8, _, false, (q8.lines == q.lines), by omega, rfl, rfl, by go_num, HST8.out.mono (by have := HTK.out; omega), HSM8.out, ?_, fun h => nomatch h⟩
              rw [HEQ.out, HDR.out, beq_sym]
              exact fill_first HSIM.out HV.out HSM8.out
            case measure => simp [intOf]; omega
          | false =>
            cases one with
            | false =>
              have HFT := Lib.hid (show fillT c 10 false qk d.kids[k].flat = none by rfl)
              have HC11 := Lib.hid (rline_any B (.slice Ak qk.out.length ck) c qk lk (M + 4000 * (wts (d.kids.take k) : Int)) w4 HST4.out.own HST4.out.ble HST4.out.inv (by have := HTK.out; have := HTD.out; omega))
              go_wp2_with fail
              refine HC11.out.mono ?_
              rintro e v11 ⟨V11, q11, l11, rfl, g1, g2, g3, g4, g5⟩
              obtain ⟨A11, c11, rfl⟩ := own_form g1
              have hp11 := HST4.out.pbx.stay g2 (fun e => Lib.ownBlock_ne HST4.out.own HST4.out.pbx.blk (by decide) e.symm)
              have hst11 := HST4.out.step l11 g1 g2 g3 g4
              have hkx11 := HST4.out.kid HKX4.out g2 (kb := wr.heap.size) (by omega) (.slice A11 q11.out.length c11) (pfOf c q11 l11)
              have hlo11 := HST4.out.lowStep hn g2 (.slice A11 q11.out.length c11) (pfOf c q11 l11)
              have hsm11 := sim_bind (f := (endl c)) HSIM.out g5
              have hsz11 : w2.heap.size ≤ v11.heap.size := Nat.le_trans hs4 g2.size
              simp only [pfOf] at hst11 hkx11 hlo11
              have HC0 := Lib.hid (fun hl hm => sim_col0 g5 hl hm)
              clear e0 e1 e2 e3 e4 e5 e6 e7 e8 e9 ef0 ef1 ef2 ef3 ef4 ef5 ef6 ef7 ef8 ef9 g1 g2 g3 g4 g5 HC11
              obtain ⟨e0, e1, e2, e3, e4, e5, e6, e7, e8, e9, ez⟩ := (hp11).cells
              simp only [pfOf] at e1 e2 e3 e4 e5 e6 e7 e8 e9
              have ef0 := ez 0
              have ef1 := ez 1
              have ef2 := ez 2
              have ef3 := ez 3
              have ef4 := ez 4
              have ef5 := ez 5
              have ef6 := ez 6
              have ef7 := ez 7
              have ef8 := ez 8
              have ef9 := ez 9
              clear ez
              clear hp11
              go_upto_region 13 with (fail)
              have hzz11 : (((((((((((v11.setCell ⟨w.heap.size, 0, none⟩ (.slice A11 q11.out.length c11)).setCell ⟨w.heap.size, 1, none⟩ (.int .i64 q11.col)).setCell ⟨w.heap.size, 2, none⟩ (.int .i64 q11.start)).setCell ⟨w.heap.size, 3, none⟩ (.bool q11.op)).setCell ⟨w.heap.size, 4, none⟩ (.int .i64 q11.owed)).setCell ⟨w.heap.size, 5, none⟩ (.int .i64 q11.lines)).setCell ⟨w.heap.size, 6, none⟩ (.bool l11)).setCell ⟨w.heap.size, 7, none⟩ (.int .i64 c.width)).setCell ⟨w.heap.size, 8, none⟩ (.int .i64 c.ribbon)).setCell ⟨w.heap.size, 9, none⟩ (.int .i64 c.mode)) : World).heap.size = v11.heap.size := by simp [World.setCell]
              generalize ((((((((((v11.setCell ⟨w.heap.size, 0, none⟩ (.slice A11 q11.out.length c11)).setCell ⟨w.heap.size, 1, none⟩ (.int .i64 q11.col)).setCell ⟨w.heap.size, 2, none⟩ (.int .i64 q11.start)).setCell ⟨w.heap.size, 3, none⟩ (.bool q11.op)).setCell ⟨w.heap.size, 4, none⟩ (.int .i64 q11.owed)).setCell ⟨w.heap.size, 5, none⟩ (.int .i64 q11.lines)).setCell ⟨w.heap.size, 6, none⟩ (.bool l11)).setCell ⟨w.heap.size, 7, none⟩ (.int .i64 c.width)).setCell ⟨w.heap.size, 8, none⟩ (.int .i64 c.ribbon)).setCell ⟨w.heap.size, 9, none⟩ (.int .i64 c.mode)) = W11 at hst11 hkx11 hlo11 hzz11 ⊢
              have HST11 := Lib.hid hst11
              have HKX11 := Lib.hid hkx11
              have HLO11 := Lib.hid hlo11
              have HSM11 := Lib.hid hsm11
              clear hst11 hkx11 hlo11 hsm11 e0 e1 e2 e3 e4 e5 e6 e7 e8 e9 ef0 ef1 ef2 ef3 ef4 ef5 ef6 ef7 ef8 ef9
              have HKK11 := Lib.hid (kidsAt_below HKK4.out HLO11.out)
              obtain ⟨z0, z1, z2, z3, _, _, _, _⟩ := (HKX11.out).box
              obtain ⟨e0, e1, e2, e3, e4, e5, e6, e7, e8, e9, ez⟩ := (HST11.out.pbx).cells
              simp only [pfOf] at e1 e2 e3 e4 e5 e6 e7 e8 e9
              have ef0 := ez 0
              have ef1 := ez 1
              have ef2 := ez 2
              have ef3 := ez 3
              have ef4 := ez 4
              have ef5 := ez 5
              have ef6 := ez 6
              have ef7 := ez 7
              have ef8 := ez 8
              have ef9 := ez 9
              clear ez
              go_upto_region 14 with (fail)
              have HC12 := Lib.hid (HSK.out.1 B n₀ (.slice A11 q11.out.length c11) c q11 l11 base ((M + 4000 * (wts (d.kids.take k) : Int)) + 1) true A' c' W11 HST11.out.own HST11.out.ble HST11.out.inv (fun hl _ _ hm => by rw [HC0.out hl hm]; exact Int.le_max_left _ _) (by have := HTK.out; omega) (by have := HTK.out; omega) (by have := HTK.out; have := HTD.out; omega) hn HNIL.out hcapk HKK11.out)
              go_wp2_with fail
              refine HC12.out.mono ?_
              rintro e v12 ⟨V12, q12, l12, rfl, g1, g2, g3, g4, g5⟩
              obtain ⟨A12, c12, rfl⟩ := own_form g1
              have hp12 := HST11.out.pbx.stay g2 (fun e => Lib.ownBlock_ne HST11.out.own HST11.out.pbx.blk (by decide) e.symm)
              have hst12 := HST11.out.step l12 g1 g2 g3 g4
              have hkx12 := HST11.out.kid HKX11.out g2 (kb := wr.heap.size) (by omega) (.slice A12 q12.out.length c12) (pfOf c q12 l12)
              have hlo12 := HST11.out.lowStep hn g2 (.slice A12 q12.out.length c12) (pfOf c q12 l12)
              have hsm12 := sim_bind (f := (fun p => d.kids[k].lay c p base true)) HSM11.out g5
              have hsz12 : w2.heap.size ≤ v12.heap.size := Nat.le_trans (by omega) g2.size
              simp only [pfOf] at hst12 hkx12 hlo12
              clear e0 e1 e2 e3 e4 e5 e6 e7 e8 e9 ef0 ef1 ef2 ef3 ef4 ef5 ef6 ef7 ef8 ef9 z0 z1 z2 z3 g1 g2 g3 g4 g5 HC12
              obtain ⟨e0, e1, e2, e3, e4, e5, e6, e7, e8, e9, ez⟩ := (hp12).cells
              simp only [pfOf] at e1 e2 e3 e4 e5 e6 e7 e8 e9
              have ef0 := ez 0
              have ef1 := ez 1
              have ef2 := ez 2
              have ef3 := ez 3
              have ef4 := ez 4
              have ef5 := ez 5
              have ef6 := ez 6
              have ef7 := ez 7
              have ef8 := ez 8
              have ef9 := ez 9
              clear ez
              clear hp12
              go_upto_region 20 with (fail)
              have hzz12 : (((((((((((v12.setCell ⟨w.heap.size, 0, none⟩ (.slice A12 q12.out.length c12)).setCell ⟨w.heap.size, 1, none⟩ (.int .i64 q12.col)).setCell ⟨w.heap.size, 2, none⟩ (.int .i64 q12.start)).setCell ⟨w.heap.size, 3, none⟩ (.bool q12.op)).setCell ⟨w.heap.size, 4, none⟩ (.int .i64 q12.owed)).setCell ⟨w.heap.size, 5, none⟩ (.int .i64 q12.lines)).setCell ⟨w.heap.size, 6, none⟩ (.bool l12)).setCell ⟨w.heap.size, 7, none⟩ (.int .i64 c.width)).setCell ⟨w.heap.size, 8, none⟩ (.int .i64 c.ribbon)).setCell ⟨w.heap.size, 9, none⟩ (.int .i64 c.mode)) : World).heap.size = v12.heap.size := by simp [World.setCell]
              generalize ((((((((((v12.setCell ⟨w.heap.size, 0, none⟩ (.slice A12 q12.out.length c12)).setCell ⟨w.heap.size, 1, none⟩ (.int .i64 q12.col)).setCell ⟨w.heap.size, 2, none⟩ (.int .i64 q12.start)).setCell ⟨w.heap.size, 3, none⟩ (.bool q12.op)).setCell ⟨w.heap.size, 4, none⟩ (.int .i64 q12.owed)).setCell ⟨w.heap.size, 5, none⟩ (.int .i64 q12.lines)).setCell ⟨w.heap.size, 6, none⟩ (.bool l12)).setCell ⟨w.heap.size, 7, none⟩ (.int .i64 c.width)).setCell ⟨w.heap.size, 8, none⟩ (.int .i64 c.ribbon)).setCell ⟨w.heap.size, 9, none⟩ (.int .i64 c.mode)) = W12 at hst12 hkx12 hlo12 hzz12 ⊢
              have HST12 := Lib.hid hst12
              have HKX12 := Lib.hid hkx12
              have HLO12 := Lib.hid hlo12
              have HSM12 := Lib.hid hsm12
              clear hst12 hkx12 hlo12 hsm12 e0 e1 e2 e3 e4 e5 e6 e7 e8 e9 ef0 ef1 ef2 ef3 ef4 ef5 ef6 ef7 ef8 ef9
              obtain ⟨e0, e1, e2, e3, e4, e5, e6, e7, e8, e9, ez⟩ := (HST12.out.pbx).cells
              simp only [pfOf] at e1 e2 e3 e4 e5 e6 e7 e8 e9
              have ef0 := ez 0
              have ef1 := ez 1
              have ef2 := ez 2
              have ef3 := ez 3
              have ef4 := ez 4
              have ef5 := ez 5
              have ef6 := ez 6
              have ef7 := ez 7
              have ef8 := ez 8
              have ef9 := ez 9
              clear ez
              go_wp2
              go_roundw
              case rel =>
                refine ⟨k + 1, _, q12, l12, _, false, (q12.lines == q11.lines), by omega, rfl, rfl, by go_num, HST12.out.mono (by have := HTK.out; omega), HSM12.out, ?_, fun h => nomatch h⟩
                rw [HEQ.out, HDR.out, beq_sym]
                exact fill_line HSIM.out HV.out HFT.out HSM11.out HSM12.out
              case measure => simp [intOf]; omega
            | true =>
              have HFT := Lib.hid (show fillT c 10 true qk d.kids[k].flat = none by rw [HFL1.out]; rfl)
              have HC11 := Lib.hid (rline_any B (.slice Ak qk.out.length ck) c qk lk (M + 4000 * (wts (d.kids.take k) : Int)) w4 HST4.out.own HST4.out.ble HST4.out.inv (by have := HTK.out; have := HTD.out; omega))
              go_wp2_with fail
              refine HC11.out.mono ?_
              rintro e v11 ⟨V11, q11, l11, rfl, g1, g2, g3, g4, g5⟩
              obtain ⟨A11, c11, rfl⟩ := own_form g1
              have hp11 := HST4.out.pbx.stay g2 (fun e => Lib.ownBlock_ne HST4.out.own HST4.out.pbx.blk (by decide) e.symm)
              have hst11 := HST4.out.step l11 g1 g2 g3 g4
              have hkx11 := HST4.out.kid HKX4.out g2 (kb := wr.heap.size) (by omega) (.slice A11 q11.out.length c11) (pfOf c q11 l11)
              have hlo11 := HST4.out.lowStep hn g2 (.slice A11 q11.out.length c11) (pfOf c q11 l11)
              have hsm11 := sim_bind (f := (endl c)) HSIM.out g5
              have hsz11 : w2.heap.size ≤ v11.heap.size := Nat.le_trans hs4 g2.size
              simp only [pfOf] at hst11 hkx11 hlo11
              have HC0 := Lib.hid (fun hl hm => sim_col0 g5 hl hm)
              clear e0 e1 e2 e3 e4 e5 e6 e7 e8 e9 ef0 ef1 ef2 ef3 ef4 ef5 ef6 ef7 ef8 ef9 g1 g2 g3 g4 g5 HC11
              obtain ⟨e0, e1, e2, e3, e4, e5, e6, e7, e8, e9, ez⟩ := (hp11).cells
              simp only [pfOf] at e1 e2 e3 e4 e5 e6 e7 e8 e9
              have ef0 := ez 0
              have ef1 := ez 1
              have ef2 := ez 2
              have ef3 := ez 3
              have ef4 := ez 4
              have ef5 := ez 5
              have ef6 := ez 6
              have ef7 := ez 7
              have ef8 := ez 8
              have ef9 := ez 9
              clear ez
              clear hp11
              go_upto_region 13 with (fail)
              have hzz11 : (((((((((((v11.setCell ⟨w.heap.size, 0, none⟩ (.slice A11 q11.out.length c11)).setCell ⟨w.heap.size, 1, none⟩ (.int .i64 q11.col)).setCell ⟨w.heap.size, 2, none⟩ (.int .i64 q11.start)).setCell ⟨w.heap.size, 3, none⟩ (.bool q11.op)).setCell ⟨w.heap.size, 4, none⟩ (.int .i64 q11.owed)).setCell ⟨w.heap.size, 5, none⟩ (.int .i64 q11.lines)).setCell ⟨w.heap.size, 6, none⟩ (.bool l11)).setCell ⟨w.heap.size, 7, none⟩ (.int .i64 c.width)).setCell ⟨w.heap.size, 8, none⟩ (.int .i64 c.ribbon)).setCell ⟨w.heap.size, 9, none⟩ (.int .i64 c.mode)) : World).heap.size = v11.heap.size := by simp [World.setCell]
              generalize ((((((((((v11.setCell ⟨w.heap.size, 0, none⟩ (.slice A11 q11.out.length c11)).setCell ⟨w.heap.size, 1, none⟩ (.int .i64 q11.col)).setCell ⟨w.heap.size, 2, none⟩ (.int .i64 q11.start)).setCell ⟨w.heap.size, 3, none⟩ (.bool q11.op)).setCell ⟨w.heap.size, 4, none⟩ (.int .i64 q11.owed)).setCell ⟨w.heap.size, 5, none⟩ (.int .i64 q11.lines)).setCell ⟨w.heap.size, 6, none⟩ (.bool l11)).setCell ⟨w.heap.size, 7, none⟩ (.int .i64 c.width)).setCell ⟨w.heap.size, 8, none⟩ (.int .i64 c.ribbon)).setCell ⟨w.heap.size, 9, none⟩ (.int .i64 c.mode)) = W11 at hst11 hkx11 hlo11 hzz11 ⊢
              have HST11 := Lib.hid hst11
              have HKX11 := Lib.hid hkx11
              have HLO11 := Lib.hid hlo11
              have HSM11 := Lib.hid hsm11
              clear hst11 hkx11 hlo11 hsm11 e0 e1 e2 e3 e4 e5 e6 e7 e8 e9 ef0 ef1 ef2 ef3 ef4 ef5 ef6 ef7 ef8 ef9
              have HKK11 := Lib.hid (kidsAt_below HKK4.out HLO11.out)
              obtain ⟨z0, z1, z2, z3, _, _, _, _⟩ := (HKX11.out).box
              obtain ⟨e0, e1, e2, e3, e4, e5, e6, e7, e8, e9, ez⟩ := (HST11.out.pbx).cells
              simp only [pfOf] at e1 e2 e3 e4 e5 e6 e7 e8 e9
              have ef0 := ez 0
              have ef1 := ez 1
              have ef2 := ez 2
              have ef3 := ez 3
              have ef4 := ez 4
              have ef5 := ez 5
              have ef6 := ez 6
              have ef7 := ez 7
              have ef8 := ez 8
              have ef9 := ez 9
              clear ez
              go_upto_region 14 with (fail)
              have HC12 := Lib.hid (HSK.out.1 B n₀ (.slice A11 q11.out.length c11) c q11 l11 base ((M + 4000 * (wts (d.kids.take k) : Int)) + 1) true A' c' W11 HST11.out.own HST11.out.ble HST11.out.inv (fun hl _ _ hm => by rw [HC0.out hl hm]; exact Int.le_max_left _ _) (by have := HTK.out; omega) (by have := HTK.out; omega) (by have := HTK.out; have := HTD.out; omega) hn HNIL.out hcapk HKK11.out)
              go_wp2_with fail
              refine HC12.out.mono ?_
              rintro e v12 ⟨V12, q12, l12, rfl, g1, g2, g3, g4, g5⟩
              obtain ⟨A12, c12, rfl⟩ := own_form g1
              have hp12 := HST11.out.pbx.stay g2 (fun e => Lib.ownBlock_ne HST11.out.own HST11.out.pbx.blk (by decide) e.symm)
              have hst12 := HST11.out.step l12 g1 g2 g3 g4
              have hkx12 := HST11.out.kid HKX11.out g2 (kb := wr.heap.size) (by omega) (.slice A12 q12.out.length c12) (pfOf c q12 l12)
              have hlo12 := HST11.out.lowStep hn g2 (.slice A12 q12.out.length c12) (pfOf c q12 l12)
              have hsm12 := sim_bind (f := (fun p => d.kids[k].lay c p base true)) HSM11.out g5
              have hsz12 : w2.heap.size ≤ v12.heap.size := Nat.le_trans (by omega) g2.size
              simp only [pfOf] at hst12 hkx12 hlo12
              clear e0 e1 e2 e3 e4 e5 e6 e7 e8 e9 ef0 ef1 ef2 ef3 ef4 ef5 ef6 ef7 ef8 ef9 z0 z1 z2 z3 g1 g2 g3 g4 g5 HC12
              obtain ⟨e0, e1, e2, e3, e4, e5, e6, e7, e8, e9, ez⟩ := (hp12).cells
              simp only [pfOf] at e1 e2 e3 e4 e5 e6 e7 e8 e9
              have ef0 := ez 0
              have ef1 := ez 1
              have ef2 := ez 2
              have ef3 := ez 3
              have ef4 := ez 4
              have ef5 := ez 5
              have ef6 := ez 6
              have ef7 := ez 7
              have ef8 := ez 8
              have ef9 := ez 9
              clear ez
              clear hp12
              go_upto_region 20 with (fail)
              have hzz12 : (((((((((((v12.setCell ⟨w.heap.size, 0, none⟩ (.slice A12 q12.out.length c12)).setCell ⟨w.heap.size, 1, none⟩ (.int .i64 q12.col)).setCell ⟨w.heap.size, 2, none⟩ (.int .i64 q12.start)).setCell ⟨w.heap.size, 3, none⟩ (.bool q12.op)).setCell ⟨w.heap.size, 4, none⟩ (.int .i64 q12.owed)).setCell ⟨w.heap.size, 5, none⟩ (.int .i64 q12.lines)).setCell ⟨w.heap.size, 6, none⟩ (.bool l12)).setCell ⟨w.heap.size, 7, none⟩ (.int .i64 c.width)).setCell ⟨w.heap.size, 8, none⟩ (.int .i64 c.ribbon)).setCell ⟨w.heap.size, 9, none⟩ (.int .i64 c.mode)) : World).heap.size = v12.heap.size := by simp [World.setCell]
              generalize ((((((((((v12.setCell ⟨w.heap.size, 0, none⟩ (.slice A12 q12.out.length c12)).setCell ⟨w.heap.size, 1, none⟩ (.int .i64 q12.col)).setCell ⟨w.heap.size, 2, none⟩ (.int .i64 q12.start)).setCell ⟨w.heap.size, 3, none⟩ (.bool q12.op)).setCell ⟨w.heap.size, 4, none⟩ (.int .i64 q12.owed)).setCell ⟨w.heap.size, 5, none⟩ (.int .i64 q12.lines)).setCell ⟨w.heap.size, 6, none⟩ (.bool l12)).setCell ⟨w.heap.size, 7, none⟩ (.int .i64 c.width)).setCell ⟨w.heap.size, 8, none⟩ (.int .i64 c.ribbon)).setCell ⟨w.heap.size, 9, none⟩ (.int .i64 c.mode)) = W12 at hst12 hkx12 hlo12 hzz12 ⊢
              have HST12 := Lib.hid hst12
              have HKX12 := Lib.hid hkx12
              have HLO12 := Lib.hid hlo12
              have HSM12 := Lib.hid hsm12
              clear hst12 hkx12 hlo12 hsm12 e0 e1 e2 e3 e4 e5 e6 e7 e8 e9 ef0 ef1 ef2 ef3 ef4 ef5 ef6 ef7 ef8 ef9
              obtain ⟨e0, e1, e2, e3, e4, e5, e6, e7, e8, e9, ez⟩ := (HST12.out.pbx).cells
              simp only [pfOf] at e1 e2 e3 e4 e5 e6 e7 e8 e9
              have ef0 := ez 0
              have ef1 := ez 1
              have ef2 := ez 2
              have ef3 := ez 3
              have ef4 := ez 4
              have ef5 := ez 5
              have ef6 := ez 6
              have ef7 := ez 7
              have ef8 := ez 8
              have ef9 := ez 9
              clear ez
              go_wp2
              go_roundw
              case rel =>
                refine ⟨k + 1, _, q12, l12, _, false, (q12.lines == q11.lines), by omega, rfl, rfl, by go_num, HST12.out.mono (by have := HTK.out; omega), HSM12.out, ?_, fun h => nomatch h⟩
                rw [HEQ.out, HDR.out, beq_sym]
                exact fill_line HSIM.out HV.out HFT.out HSM11.out HSM12.out
              case measure => simp [intOf]; omega
        | some s =>
          have hsz := flat_size hfl
          have HFL1 := Lib.hid hfl
          clear hfl
          have hfc := HFL.out
          unfold FlatSaid at hfc
          rw [HFL1.out] at hfc
          simp only [flatV] at hfc
          refine hfc.mono ?_
          rintro e w4 ⟨rfl, hb4⟩
          have HST4 := Lib.hid (HST2.out.on hb4)
          have HKX4 := Lib.hid (HKX2.out.on hb4)
          have HKK4 := Lib.hid (kidsAt_below HKK2.out (hb4.mono (by omega)))
          have hs4 := hb4.size
          clear hb4 z0 z1 z2 z3 HFL hfc
          obtain ⟨e0, e1, e2, e3, e4, e5, e6, e7, e8, e9, ez⟩ := (HST4.out.pbx).cells
          simp only [pfOf] at e1 e2 e3 e4 e5 e6 e7 e8 e9
          have ef0 := ez 0
          have ef1 := ez 1
          have ef2 := ez 2
          have ef3 := ez 3
          have ef4 := ez 4
          have ef5 := ez 5
          have ef6 := ez 6
          have ef7 := ez 7
          have ef8 := ez 8
          have ef9 := ez 9
          clear ez
          cases fst with
          | true =>
            obtain ⟨rfl, rfl, hf0⟩ := HFST.out rfl
            have HFO := Lib.hid (show FOk c q (base + d.kids[k].lead0) fresh by obtain ⟨r, hr⟩ := filter_first hlt hf0 HV.out; exact HF.out _ _ hr)
            obtain ⟨z0, z1, z2, z3, _, _, _, _⟩ := (HKX4.out).box
            clear hf0
            have HC8 := Lib.hid (HSK.out.1 B n₀ (.slice Ak q.out.length ck) c q false base (M + 4000 * (wts (d.kids.take k) : Int)) fresh A' c' w4 HST4.out.own HST4.out.ble HST4.out.inv (fun _ _ => HFO.out) (by have := HTK.out; omega) (by have := HTK.out; omega) (by have := HTK.out; have := HTD.out; omega) hn HNIL.out hcapk HKK4.out)
            go_wp2_with fail
            refine HC8.out.mono ?_
            rintro e v8 ⟨V8, q8, l8, rfl, g1, g2, g3, g4, g5⟩
            obtain ⟨A8, c8, rfl⟩ := own_form g1
            have hp8 := HST4.out.pbx.stay g2 (fun e => Lib.ownBlock_ne HST4.out.own HST4.out.pbx.blk (by decide) e.symm)
            have hst8 := HST4.out.step l8 g1 g2 g3 g4
            have hkx8 := HST4.out.kid HKX4.out g2 (kb := wr.heap.size) (by omega) (.slice A8 q8.out.length c8) (pfOf c q8 l8)
            have hlo8 := HST4.out.lowStep hn g2 (.slice A8 q8.out.length c8) (pfOf c q8 l8)
            have hsm8 := sim_bind (f := (fun p => d.kids[k].lay c p base fresh)) HSIM.out g5
            have hsz8 : w2.heap.size ≤ v8.heap.size := Nat.le_trans hs4 g2.size
            simp only [pfOf] at hst8 hkx8 hlo8
            clear e0 e1 e2 e3 e4 e5 e6 e7 e8 e9 ef0 ef1 ef2 ef3 ef4 ef5 ef6 ef7 ef8 ef9 z0 z1 z2 z3 g1 g2 g3 g4 g5 HC8
            obtain ⟨e0, e1, e2, e3, e4, e5, e6, e7, e8, e9, ez⟩ := (hp8).cells
            simp only [pfOf] at e1 e2 e3 e4 e5 e6 e7 e8 e9
            have ef0 := ez 0
            have ef1 := ez 1
            have ef2 := ez 2
            have ef3 := ez 3
            have ef4 := ez 4
            have ef5 := ez 5
            have ef6 := ez 6
            have ef7 := ez 7
            have ef8 := ez 8
            have ef9 := ez 9
            clear ez
            clear hp8
            go_upto_region 20 with (fail)
            have hzz8 : (((((((((((v8.setCell ⟨w.heap.size, 0, none⟩ (.slice A8 q8.out.length c8)).setCell ⟨w.heap.size, 1, none⟩ (.int .i64 q8.col)).setCell ⟨w.heap.size, 2, none⟩ (.int .i64 q8.start)).setCell ⟨w.heap.size, 3, none⟩ (.bool q8.op)).setCell ⟨w.heap.size, 4, none⟩ (.int .i64 q8.owed)).setCell ⟨w.heap.size, 5, none⟩ (.int .i64 q8.lines)).setCell ⟨w.heap.size, 6, none⟩ (.bool l8)).setCell ⟨w.heap.size, 7, none⟩ (.int .i64 c.width)).setCell ⟨w.heap.size, 8, none⟩ (.int .i64 c.ribbon)).setCell ⟨w.heap.size, 9, none⟩ (.int .i64 c.mode)) : World).heap.size = v8.heap.size := by simp [World.setCell]
            generalize ((((((((((v8.setCell ⟨w.heap.size, 0, none⟩ (.slice A8 q8.out.length c8)).setCell ⟨w.heap.size, 1, none⟩ (.int .i64 q8.col)).setCell ⟨w.heap.size, 2, none⟩ (.int .i64 q8.start)).setCell ⟨w.heap.size, 3, none⟩ (.bool q8.op)).setCell ⟨w.heap.size, 4, none⟩ (.int .i64 q8.owed)).setCell ⟨w.heap.size, 5, none⟩ (.int .i64 q8.lines)).setCell ⟨w.heap.size, 6, none⟩ (.bool l8)).setCell ⟨w.heap.size, 7, none⟩ (.int .i64 c.width)).setCell ⟨w.heap.size, 8, none⟩ (.int .i64 c.ribbon)).setCell ⟨w.heap.size, 9, none⟩ (.int .i64 c.mode)) = W8 at hst8 hkx8 hlo8 hzz8 ⊢
            have HST8 := Lib.hid hst8
            have HKX8 := Lib.hid hkx8
            have HLO8 := Lib.hid hlo8
            have HSM8 := Lib.hid hsm8
            clear hst8 hkx8 hlo8 hsm8 e0 e1 e2 e3 e4 e5 e6 e7 e8 e9 ef0 ef1 ef2 ef3 ef4 ef5 ef6 ef7 ef8 ef9
            obtain ⟨e0, e1, e2, e3, e4, e5, e6, e7, e8, e9, ez⟩ := (HST8.out.pbx).cells
            simp only [pfOf] at e1 e2 e3 e4 e5 e6 e7 e8 e9
            have ef0 := ez 0
            have ef1 := ez 1
            have ef2 := ez 2
            have ef3 := ez 3
            have ef4 := ez 4
            have ef5 := ez 5
            have ef6 := ez 6
            have ef7 := ez 7
            have ef8 := ez 8
            have ef9 := ez 9
            clear ez
            go_wp2
            go_roundw
            case rel =>
              refine ⟨k + 1, _, q8, l8, _, false, (q8.lines == q.lines), by omega, rfl, rfl, by go_num, HST8.out.mono (by have := HTK.out; omega), HSM8.out, ?_, fun h => nomatch h⟩
              rw [HEQ.out, HDR.out, beq_sym]
              exact fill_first HSIM.out HV.out HSM8.out
            case measure => simp [intOf]; omega
          | false =>
            cases one with
            | false =>
              have HFT := Lib.hid (show fillT c 10 false qk d.kids[k].flat = none by rfl)
              have HC11 := Lib.hid (rline_any B (.slice Ak qk.out.length ck) c qk lk (M + 4000 * (wts (d.kids.take k) : Int)) w4 HST4.out.own HST4.out.ble HST4.out.inv (by have := HTK.out; have := HTD.out; omega))
              go_wp2_with fail
              refine HC11.out.mono ?_
              rintro e v11 ⟨V11, q11, l11, rfl, g1, g2, g3, g4, g5⟩
              obtain ⟨A11, c11, rfl⟩ := own_form g1
              have hp11 := HST4.out.pbx.stay g2 (fun e => Lib.ownBlock_ne HST4.out.own HST4.out.pbx.blk (by decide) e.symm)
              have hst11 := HST4.out.step l11 g1 g2 g3 g4
              have hkx11 := HST4.out.kid HKX4.out g2 (kb := wr.heap.size) (by omega) (.slice A11 q11.out.length c11) (pfOf c q11 l11)
              have hlo11 := HST4.out.lowStep hn g2 (.slice A11 q11.out.length c11) (pfOf c q11 l11)
              have hsm11 := sim_bind (f := (endl c)) HSIM.out g5
              have hsz11 : w2.heap.size ≤ v11.heap.size := Nat.le_trans hs4 g2.size
              simp only [pfOf] at hst11 hkx11 hlo11
              have HC0 := Lib.hid (fun hl hm => sim_col0 g5 hl hm)
              clear e0 e1 e2 e3 e4 e5 e6 e7 e8 e9 ef0 ef1 ef2 ef3 ef4 ef5 ef6 ef7 ef8 ef9 g1 g2 g3 g4 g5 HC11
              obtain ⟨e0, e1, e2, e3, e4, e5, e6, e7, e8, e9, ez⟩ := (hp11).cells
              simp only [pfOf] at e1 e2 e3 e4 e5 e6 e7 e8 e9
              have ef0 := ez 0
              have ef1 := ez 1
              have ef2 := ez 2
              have ef3 := ez 3
              have ef4 := ez 4
              have ef5 := ez 5
              have ef6 := ez 6
              have ef7 := ez 7
              have ef8 := ez 8
              have ef9 := ez 9
              clear ez
              clear hp11
              go_upto_region 13 with (fail)
              have hzz11 : (((((((((((v11.setCell ⟨w.heap.size, 0, none⟩ (.slice A11 q11.out.length c11)).setCell ⟨w.heap.size, 1, none⟩ (.int .i64 q11.col)).setCell ⟨w.heap.size, 2, none⟩ (.int .i64 q11.start)).setCell ⟨w.heap.size, 3, none⟩ (.bool q11.op)).setCell ⟨w.heap.size, 4, none⟩ (.int .i64 q11.owed)).setCell ⟨w.heap.size, 5, none⟩ (.int .i64 q11.lines)).setCell ⟨w.heap.size, 6, none⟩ (.bool l11)).setCell ⟨w.heap.size, 7, none⟩ (.int .i64 c.width)).setCell ⟨w.heap.size, 8, none⟩ (.int .i64 c.ribbon)).setCell ⟨w.heap.size, 9, none⟩ (.int .i64 c.mode)) : World).heap.size = v11.heap.size := by simp [World.setCell]
              generalize ((((((((((v11.setCell ⟨w.heap.size, 0, none⟩ (.slice A11 q11.out.length c11)).setCell ⟨w.heap.size, 1, none⟩ (.int .i64 q11.col)).setCell ⟨w.heap.size, 2, none⟩ (.int .i64 q11.start)).setCell ⟨w.heap.size, 3, none⟩ (.bool q11.op)).setCell ⟨w.heap.size, 4, none⟩ (.int .i64 q11.owed)).setCell ⟨w.heap.size, 5, none⟩ (.int .i64 q11.lines)).setCell ⟨w.heap.size, 6, none⟩ (.bool l11)).setCell ⟨w.heap.size, 7, none⟩ (.int .i64 c.width)).setCell ⟨w.heap.size, 8, none⟩ (.int .i64 c.ribbon)).setCell ⟨w.heap.size, 9, none⟩ (.int .i64 c.mode)) = W11 at hst11 hkx11 hlo11 hzz11 ⊢
              have HST11 := Lib.hid hst11
              have HKX11 := Lib.hid hkx11
              have HLO11 := Lib.hid hlo11
              have HSM11 := Lib.hid hsm11
              clear hst11 hkx11 hlo11 hsm11 e0 e1 e2 e3 e4 e5 e6 e7 e8 e9 ef0 ef1 ef2 ef3 ef4 ef5 ef6 ef7 ef8 ef9
              have HKK11 := Lib.hid (kidsAt_below HKK4.out HLO11.out)
              obtain ⟨z0, z1, z2, z3, _, _, _, _⟩ := (HKX11.out).box
              obtain ⟨e0, e1, e2, e3, e4, e5, e6, e7, e8, e9, ez⟩ := (HST11.out.pbx).cells
              simp only [pfOf] at e1 e2 e3 e4 e5 e6 e7 e8 e9
              have ef0 := ez 0
              have ef1 := ez 1
              have ef2 := ez 2
              have ef3 := ez 3
              have ef4 := ez 4
              have ef5 := ez 5
              have ef6 := ez 6
              have ef7 := ez 7
              have ef8 := ez 8
              have ef9 := ez 9
              clear ez
              go_upto_region 14 with (fail)
              have HC12 := Lib.hid (HSK.out.1 B n₀ (.slice A11 q11.out.length c11) c q11 l11 base ((M + 4000 * (wts (d.kids.take k) : Int)) + 1) true A' c' W11 HST11.out.own HST11.out.ble HST11.out.inv (fun hl _ _ hm => by rw [HC0.out hl hm]; exact Int.le_max_left _ _) (by have := HTK.out; omega) (by have := HTK.out; omega) (by have := HTK.out; have := HTD.out; omega) hn HNIL.out hcapk HKK11.out)
              go_wp2_with fail
              refine HC12.out.mono ?_
              rintro e v12 ⟨V12, q12, l12, rfl, g1, g2, g3, g4, g5⟩
              obtain ⟨A12, c12, rfl⟩ := own_form g1
              have hp12 := HST11.out.pbx.stay g2 (fun e => Lib.ownBlock_ne HST11.out.own HST11.out.pbx.blk (by decide) e.symm)
              have hst12 := HST11.out.step l12 g1 g2 g3 g4
              have hkx12 := HST11.out.kid HKX11.out g2 (kb := wr.heap.size) (by omega) (.slice A12 q12.out.length c12) (pfOf c q12 l12)
              have hlo12 := HST11.out.lowStep hn g2 (.slice A12 q12.out.length c12) (pfOf c q12 l12)
              have hsm12 := sim_bind (f := (fun p => d.kids[k].lay c p base true)) HSM11.out g5
              have hsz12 : w2.heap.size ≤ v12.heap.size := Nat.le_trans (by omega) g2.size
              simp only [pfOf] at hst12 hkx12 hlo12
              clear e0 e1 e2 e3 e4 e5 e6 e7 e8 e9 ef0 ef1 ef2 ef3 ef4 ef5 ef6 ef7 ef8 ef9 z0 z1 z2 z3 g1 g2 g3 g4 g5 HC12
              obtain ⟨e0, e1, e2, e3, e4, e5, e6, e7, e8, e9, ez⟩ := (hp12).cells
              simp only [pfOf] at e1 e2 e3 e4 e5 e6 e7 e8 e9
              have ef0 := ez 0
              have ef1 := ez 1
              have ef2 := ez 2
              have ef3 := ez 3
              have ef4 := ez 4
              have ef5 := ez 5
              have ef6 := ez 6
              have ef7 := ez 7
              have ef8 := ez 8
              have ef9 := ez 9
              clear ez
              clear hp12
              go_upto_region 20 with (fail)
              have hzz12 : (((((((((((v12.setCell ⟨w.heap.size, 0, none⟩ (.slice A12 q12.out.length c12)).setCell ⟨w.heap.size, 1, none⟩ (.int .i64 q12.col)).setCell ⟨w.heap.size, 2, none⟩ (.int .i64 q12.start)).setCell ⟨w.heap.size, 3, none⟩ (.bool q12.op)).setCell ⟨w.heap.size, 4, none⟩ (.int .i64 q12.owed)).setCell ⟨w.heap.size, 5, none⟩ (.int .i64 q12.lines)).setCell ⟨w.heap.size, 6, none⟩ (.bool l12)).setCell ⟨w.heap.size, 7, none⟩ (.int .i64 c.width)).setCell ⟨w.heap.size, 8, none⟩ (.int .i64 c.ribbon)).setCell ⟨w.heap.size, 9, none⟩ (.int .i64 c.mode)) : World).heap.size = v12.heap.size := by simp [World.setCell]
              generalize ((((((((((v12.setCell ⟨w.heap.size, 0, none⟩ (.slice A12 q12.out.length c12)).setCell ⟨w.heap.size, 1, none⟩ (.int .i64 q12.col)).setCell ⟨w.heap.size, 2, none⟩ (.int .i64 q12.start)).setCell ⟨w.heap.size, 3, none⟩ (.bool q12.op)).setCell ⟨w.heap.size, 4, none⟩ (.int .i64 q12.owed)).setCell ⟨w.heap.size, 5, none⟩ (.int .i64 q12.lines)).setCell ⟨w.heap.size, 6, none⟩ (.bool l12)).setCell ⟨w.heap.size, 7, none⟩ (.int .i64 c.width)).setCell ⟨w.heap.size, 8, none⟩ (.int .i64 c.ribbon)).setCell ⟨w.heap.size, 9, none⟩ (.int .i64 c.mode)) = W12 at hst12 hkx12 hlo12 hzz12 ⊢
              have HST12 := Lib.hid hst12
              have HKX12 := Lib.hid hkx12
              have HLO12 := Lib.hid hlo12
              have HSM12 := Lib.hid hsm12
              clear hst12 hkx12 hlo12 hsm12 e0 e1 e2 e3 e4 e5 e6 e7 e8 e9 ef0 ef1 ef2 ef3 ef4 ef5 ef6 ef7 ef8 ef9
              obtain ⟨e0, e1, e2, e3, e4, e5, e6, e7, e8, e9, ez⟩ := (HST12.out.pbx).cells
              simp only [pfOf] at e1 e2 e3 e4 e5 e6 e7 e8 e9
              have ef0 := ez 0
              have ef1 := ez 1
              have ef2 := ez 2
              have ef3 := ez 3
              have ef4 := ez 4
              have ef5 := ez 5
              have ef6 := ez 6
              have ef7 := ez 7
              have ef8 := ez 8
              have ef9 := ez 9
              clear ez
              go_wp2
              go_roundw
              case rel =>
                refine ⟨k + 1, _, q12, l12, _, false, (q12.lines == q11.lines), by omega, rfl, rfl, by go_num, HST12.out.mono (by have := HTK.out; omega), HSM12.out, ?_, fun h => nomatch h⟩
                rw [HEQ.out, HDR.out, beq_sym]
                exact fill_line HSIM.out HV.out HFT.out HSM11.out HSM12.out
              case measure => simp [intOf]; omega
            | true =>
              have hszu : (noB ++ s).size ≤ 2 * d.kids[k].wt := by rw [ByteArray.size_append]; exact Nat.le_trans (Nat.add_le_add_right (show noB.size ≤ 1 by decide) _) (by omega)
              have HC5 := Lib.hid (rfits_any (.slice Ak qk.out.length ck) c qk lk (noB ++ s) 0 (M + 4000 * (wts (d.kids.take k) : Int)) false w4 HST4.out.inv (by have := HTK.out; have := HTD.out; omega) (by have := HST4.out.inv.start; have := HST4.out.inv.startM; omega) (by omega))
              go_wp2_with fail
              refine HC5.out.mono ?_
              rintro e w5 ⟨rfl, hb5⟩
              have HST5 := Lib.hid (HST4.out.on hb5)
              have HKX5 := Lib.hid (HKX4.out.on hb5)
              have HKK5 := Lib.hid (kidsAt_below HKK4.out (hb5.mono (by omega)))
              have hs5 := hb5.size
              clear hb5 e0 e1 e2 e3 e4 e5 e6 e7 e8 e9 ef0 ef1 ef2 ef3 ef4 ef5 ef6 ef7 ef8 ef9 HC5
              obtain ⟨e0, e1, e2, e3, e4, e5, e6, e7, e8, e9, ez⟩ := (HST5.out.pbx).cells
              simp only [pfOf] at e1 e2 e3 e4 e5 e6 e7 e8 e9
              have ef0 := ez 0
              have ef1 := ez 1
              have ef2 := ez 2
              have ef3 := ez 3
              have ef4 := ez 4
              have ef5 := ez 5
              have ef6 := ez 6
              have ef7 := ez 7
              have ef8 := ez 8
              have ef9 := ez 9
              clear ez
              cases hfit : fitsB c qk (noB ++ s) 0 false with
              | true =>
                have HFT := Lib.hid (show fillT c 10 true qk d.kids[k].flat = some (fblank 10 ++ s) by have e : fblank 10 = noB := rfl; simp [fillT, HFL1.out, e, hfit])
                have HCOLS := Lib.hid hszu
                clear hfit
                have HC9 := Lib.hid (rput_any B (.slice Ak qk.out.length ck) c qk lk (noB ++ s) 0 (M + 4000 * (wts (d.kids.take k) : Int)) false w5 HST5.out.own HST5.out.ble HST5.out.inv (fok_not _ _ _) (by have := HTK.out; have := HTD.out; omega) (by have := HST5.out.inv.start; have := HST5.out.inv.startM; omega) (by omega))
                go_wp2_with fail
                refine HC9.out.mono ?_
                rintro e v9 ⟨V9, q9, l9, rfl, g1, g2, g3, g4, g5⟩
                obtain ⟨A9, c9, rfl⟩ := own_form g1
                have hp9 := HST5.out.pbx.stay g2 (fun e => Lib.ownBlock_ne HST5.out.own HST5.out.pbx.blk (by decide) e.symm)
                have hst9 := HST5.out.step l9 g1 g2 g3 g4
                have hkx9 := HST5.out.kid HKX5.out g2 (kb := wr.heap.size) (by omega) (.slice A9 q9.out.length c9) (pfOf c q9 l9)
                have hlo9 := HST5.out.lowStep hn g2 (.slice A9 q9.out.length c9) (pfOf c q9 l9)
                have hsm9 := sim_bind (f := (fun p => put c p (noB ++ s) 0 false)) HSIM.out g5
                have hsz9 : w2.heap.size ≤ v9.heap.size := Nat.le_trans (by omega) g2.size
                simp only [pfOf] at hst9 hkx9 hlo9
                clear e0 e1 e2 e3 e4 e5 e6 e7 e8 e9 ef0 ef1 ef2 ef3 ef4 ef5 ef6 ef7 ef8 ef9 g1 g2 g3 g4 g5 HC9
                obtain ⟨e0, e1, e2, e3, e4, e5, e6, e7, e8, e9, ez⟩ := (hp9).cells
                simp only [pfOf] at e1 e2 e3 e4 e5 e6 e7 e8 e9
                have ef0 := ez 0
                have ef1 := ez 1
                have ef2 := ez 2
                have ef3 := ez 3
                have ef4 := ez 4
                have ef5 := ez 5
                have ef6 := ez 6
                have ef7 := ez 7
                have ef8 := ez 8
                have ef9 := ez 9
                clear ez
                clear hp9
                go_upto_region 20 with (fail)
                have hzz9 : (((((((((((v9.setCell ⟨w.heap.size, 0, none⟩ (.slice A9 q9.out.length c9)).setCell ⟨w.heap.size, 1, none⟩ (.int .i64 q9.col)).setCell ⟨w.heap.size, 2, none⟩ (.int .i64 q9.start)).setCell ⟨w.heap.size, 3, none⟩ (.bool q9.op)).setCell ⟨w.heap.size, 4, none⟩ (.int .i64 q9.owed)).setCell ⟨w.heap.size, 5, none⟩ (.int .i64 q9.lines)).setCell ⟨w.heap.size, 6, none⟩ (.bool l9)).setCell ⟨w.heap.size, 7, none⟩ (.int .i64 c.width)).setCell ⟨w.heap.size, 8, none⟩ (.int .i64 c.ribbon)).setCell ⟨w.heap.size, 9, none⟩ (.int .i64 c.mode)) : World).heap.size = v9.heap.size := by simp [World.setCell]
                generalize ((((((((((v9.setCell ⟨w.heap.size, 0, none⟩ (.slice A9 q9.out.length c9)).setCell ⟨w.heap.size, 1, none⟩ (.int .i64 q9.col)).setCell ⟨w.heap.size, 2, none⟩ (.int .i64 q9.start)).setCell ⟨w.heap.size, 3, none⟩ (.bool q9.op)).setCell ⟨w.heap.size, 4, none⟩ (.int .i64 q9.owed)).setCell ⟨w.heap.size, 5, none⟩ (.int .i64 q9.lines)).setCell ⟨w.heap.size, 6, none⟩ (.bool l9)).setCell ⟨w.heap.size, 7, none⟩ (.int .i64 c.width)).setCell ⟨w.heap.size, 8, none⟩ (.int .i64 c.ribbon)).setCell ⟨w.heap.size, 9, none⟩ (.int .i64 c.mode)) = W9 at hst9 hkx9 hlo9 hzz9 ⊢
                have HST9 := Lib.hid hst9
                have HKX9 := Lib.hid hkx9
                have HLO9 := Lib.hid hlo9
                have HSM9 := Lib.hid hsm9
                clear hst9 hkx9 hlo9 hsm9 e0 e1 e2 e3 e4 e5 e6 e7 e8 e9 ef0 ef1 ef2 ef3 ef4 ef5 ef6 ef7 ef8 ef9
                have HST9' := Lib.hid (HST9.out.mono (M' := (M + 4000 * (wts (d.kids.take k) : Int)) + 1 + 4000 * (d.kids[k].wt : Int) - 2000) (by have := HCOLS.out; omega))
                obtain ⟨e0, e1, e2, e3, e4, e5, e6, e7, e8, e9, ez⟩ := (HST9.out.pbx).cells
                simp only [pfOf] at e1 e2 e3 e4 e5 e6 e7 e8 e9
                have ef0 := ez 0
                have ef1 := ez 1
                have ef2 := ez 2
                have ef3 := ez 3
                have ef4 := ez 4
                have ef5 := ez 5
                have ef6 := ez 6
                have ef7 := ez 7
                have ef8 := ez 8
                have ef9 := ez 9
                clear ez
                go_wp2
                go_roundw
                case rel =>
                  refine ⟨k + 1, _, q9, l9, _, false, (q9.lines == qk.lines), by omega, rfl, rfl, by go_num, HST9'.out.mono (by have := HTK.out; omega), HSM9.out, ?_, fun h => nomatch h⟩
                  rw [HEQ.out, HDR.out, beq_sym]
                  exact fill_text HSIM.out HV.out HFT.out HSM9.out
                case measure => simp [intOf]; omega
              | false =>
                have HFT := Lib.hid (show fillT c 10 true qk d.kids[k].flat = none by have e : fblank 10 = noB := rfl; simp [fillT, HFL1.out, e, hfit])
                have HC11 := Lib.hid (rline_any B (.slice Ak qk.out.length ck) c qk lk (M + 4000 * (wts (d.kids.take k) : Int)) w5 HST5.out.own HST5.out.ble HST5.out.inv (by have := HTK.out; have := HTD.out; omega))
                go_wp2_with fail
                refine HC11.out.mono ?_
                rintro e v11 ⟨V11, q11, l11, rfl, g1, g2, g3, g4, g5⟩
                obtain ⟨A11, c11, rfl⟩ := own_form g1
                have hp11 := HST5.out.pbx.stay g2 (fun e => Lib.ownBlock_ne HST5.out.own HST5.out.pbx.blk (by decide) e.symm)
                have hst11 := HST5.out.step l11 g1 g2 g3 g4
                have hkx11 := HST5.out.kid HKX5.out g2 (kb := wr.heap.size) (by omega) (.slice A11 q11.out.length c11) (pfOf c q11 l11)
                have hlo11 := HST5.out.lowStep hn g2 (.slice A11 q11.out.length c11) (pfOf c q11 l11)
                have hsm11 := sim_bind (f := (endl c)) HSIM.out g5
                have hsz11 : w2.heap.size ≤ v11.heap.size := Nat.le_trans (by omega) g2.size
                simp only [pfOf] at hst11 hkx11 hlo11
                have HC0 := Lib.hid (fun hl hm => sim_col0 g5 hl hm)
                clear e0 e1 e2 e3 e4 e5 e6 e7 e8 e9 ef0 ef1 ef2 ef3 ef4 ef5 ef6 ef7 ef8 ef9 g1 g2 g3 g4 g5 HC11
                obtain ⟨e0, e1, e2, e3, e4, e5, e6, e7, e8, e9, ez⟩ := (hp11).cells
                simp only [pfOf] at e1 e2 e3 e4 e5 e6 e7 e8 e9
                have ef0 := ez 0
                have ef1 := ez 1
                have ef2 := ez 2
                have ef3 := ez 3
                have ef4 := ez 4
                have ef5 := ez 5
                have ef6 := ez 6
                have ef7 := ez 7
                have ef8 := ez 8
                have ef9 := ez 9
                clear ez
                clear hp11
                go_upto_region 13 with (fail)
                have hzz11 : (((((((((((v11.setCell ⟨w.heap.size, 0, none⟩ (.slice A11 q11.out.length c11)).setCell ⟨w.heap.size, 1, none⟩ (.int .i64 q11.col)).setCell ⟨w.heap.size, 2, none⟩ (.int .i64 q11.start)).setCell ⟨w.heap.size, 3, none⟩ (.bool q11.op)).setCell ⟨w.heap.size, 4, none⟩ (.int .i64 q11.owed)).setCell ⟨w.heap.size, 5, none⟩ (.int .i64 q11.lines)).setCell ⟨w.heap.size, 6, none⟩ (.bool l11)).setCell ⟨w.heap.size, 7, none⟩ (.int .i64 c.width)).setCell ⟨w.heap.size, 8, none⟩ (.int .i64 c.ribbon)).setCell ⟨w.heap.size, 9, none⟩ (.int .i64 c.mode)) : World).heap.size = v11.heap.size := by simp [World.setCell]
                generalize ((((((((((v11.setCell ⟨w.heap.size, 0, none⟩ (.slice A11 q11.out.length c11)).setCell ⟨w.heap.size, 1, none⟩ (.int .i64 q11.col)).setCell ⟨w.heap.size, 2, none⟩ (.int .i64 q11.start)).setCell ⟨w.heap.size, 3, none⟩ (.bool q11.op)).setCell ⟨w.heap.size, 4, none⟩ (.int .i64 q11.owed)).setCell ⟨w.heap.size, 5, none⟩ (.int .i64 q11.lines)).setCell ⟨w.heap.size, 6, none⟩ (.bool l11)).setCell ⟨w.heap.size, 7, none⟩ (.int .i64 c.width)).setCell ⟨w.heap.size, 8, none⟩ (.int .i64 c.ribbon)).setCell ⟨w.heap.size, 9, none⟩ (.int .i64 c.mode)) = W11 at hst11 hkx11 hlo11 hzz11 ⊢
                have HST11 := Lib.hid hst11
                have HKX11 := Lib.hid hkx11
                have HLO11 := Lib.hid hlo11
                have HSM11 := Lib.hid hsm11
                clear hst11 hkx11 hlo11 hsm11 e0 e1 e2 e3 e4 e5 e6 e7 e8 e9 ef0 ef1 ef2 ef3 ef4 ef5 ef6 ef7 ef8 ef9
                have HKK11 := Lib.hid (kidsAt_below HKK5.out HLO11.out)
                obtain ⟨z0, z1, z2, z3, _, _, _, _⟩ := (HKX11.out).box
                obtain ⟨e0, e1, e2, e3, e4, e5, e6, e7, e8, e9, ez⟩ := (HST11.out.pbx).cells
                simp only [pfOf] at e1 e2 e3 e4 e5 e6 e7 e8 e9
                have ef0 := ez 0
                have ef1 := ez 1
                have ef2 := ez 2
                have ef3 := ez 3
                have ef4 := ez 4
                have ef5 := ez 5
                have ef6 := ez 6
                have ef7 := ez 7
                have ef8 := ez 8
                have ef9 := ez 9
                clear ez
                go_upto_region 14 with (fail)
                have HC12 := Lib.hid (HSK.out.1 B n₀ (.slice A11 q11.out.length c11) c q11 l11 base ((M + 4000 * (wts (d.kids.take k) : Int)) + 1) true A' c' W11 HST11.out.own HST11.out.ble HST11.out.inv (fun hl _ _ hm => by rw [HC0.out hl hm]; exact Int.le_max_left _ _) (by have := HTK.out; omega) (by have := HTK.out; omega) (by have := HTK.out; have := HTD.out; omega) hn HNIL.out hcapk HKK11.out)
                go_wp2_with fail
                refine HC12.out.mono ?_
                rintro e v12 ⟨V12, q12, l12, rfl, g1, g2, g3, g4, g5⟩
                obtain ⟨A12, c12, rfl⟩ := own_form g1
                have hp12 := HST11.out.pbx.stay g2 (fun e => Lib.ownBlock_ne HST11.out.own HST11.out.pbx.blk (by decide) e.symm)
                have hst12 := HST11.out.step l12 g1 g2 g3 g4
                have hkx12 := HST11.out.kid HKX11.out g2 (kb := wr.heap.size) (by omega) (.slice A12 q12.out.length c12) (pfOf c q12 l12)
                have hlo12 := HST11.out.lowStep hn g2 (.slice A12 q12.out.length c12) (pfOf c q12 l12)
                have hsm12 := sim_bind (f := (fun p => d.kids[k].lay c p base true)) HSM11.out g5
                have hsz12 : w2.heap.size ≤ v12.heap.size := Nat.le_trans (by omega) g2.size
                simp only [pfOf] at hst12 hkx12 hlo12
                clear e0 e1 e2 e3 e4 e5 e6 e7 e8 e9 ef0 ef1 ef2 ef3 ef4 ef5 ef6 ef7 ef8 ef9 z0 z1 z2 z3 g1 g2 g3 g4 g5 HC12
                obtain ⟨e0, e1, e2, e3, e4, e5, e6, e7, e8, e9, ez⟩ := (hp12).cells
                simp only [pfOf] at e1 e2 e3 e4 e5 e6 e7 e8 e9
                have ef0 := ez 0
                have ef1 := ez 1
                have ef2 := ez 2
                have ef3 := ez 3
                have ef4 := ez 4
                have ef5 := ez 5
                have ef6 := ez 6
                have ef7 := ez 7
                have ef8 := ez 8
                have ef9 := ez 9
                clear ez
                clear hp12
                go_upto_region 20 with (fail)
                have hzz12 : (((((((((((v12.setCell ⟨w.heap.size, 0, none⟩ (.slice A12 q12.out.length c12)).setCell ⟨w.heap.size, 1, none⟩ (.int .i64 q12.col)).setCell ⟨w.heap.size, 2, none⟩ (.int .i64 q12.start)).setCell ⟨w.heap.size, 3, none⟩ (.bool q12.op)).setCell ⟨w.heap.size, 4, none⟩ (.int .i64 q12.owed)).setCell ⟨w.heap.size, 5, none⟩ (.int .i64 q12.lines)).setCell ⟨w.heap.size, 6, none⟩ (.bool l12)).setCell ⟨w.heap.size, 7, none⟩ (.int .i64 c.width)).setCell ⟨w.heap.size, 8, none⟩ (.int .i64 c.ribbon)).setCell ⟨w.heap.size, 9, none⟩ (.int .i64 c.mode)) : World).heap.size = v12.heap.size := by simp [World.setCell]
                generalize ((((((((((v12.setCell ⟨w.heap.size, 0, none⟩ (.slice A12 q12.out.length c12)).setCell ⟨w.heap.size, 1, none⟩ (.int .i64 q12.col)).setCell ⟨w.heap.size, 2, none⟩ (.int .i64 q12.start)).setCell ⟨w.heap.size, 3, none⟩ (.bool q12.op)).setCell ⟨w.heap.size, 4, none⟩ (.int .i64 q12.owed)).setCell ⟨w.heap.size, 5, none⟩ (.int .i64 q12.lines)).setCell ⟨w.heap.size, 6, none⟩ (.bool l12)).setCell ⟨w.heap.size, 7, none⟩ (.int .i64 c.width)).setCell ⟨w.heap.size, 8, none⟩ (.int .i64 c.ribbon)).setCell ⟨w.heap.size, 9, none⟩ (.int .i64 c.mode)) = W12 at hst12 hkx12 hlo12 hzz12 ⊢
                have HST12 := Lib.hid hst12
                have HKX12 := Lib.hid hkx12
                have HLO12 := Lib.hid hlo12
                have HSM12 := Lib.hid hsm12
                clear hst12 hkx12 hlo12 hsm12 e0 e1 e2 e3 e4 e5 e6 e7 e8 e9 ef0 ef1 ef2 ef3 ef4 ef5 ef6 ef7 ef8 ef9
                obtain ⟨e0, e1, e2, e3, e4, e5, e6, e7, e8, e9, ez⟩ := (HST12.out.pbx).cells
                simp only [pfOf] at e1 e2 e3 e4 e5 e6 e7 e8 e9
                have ef0 := ez 0
                have ef1 := ez 1
                have ef2 := ez 2
                have ef3 := ez 3
                have ef4 := ez 4
                have ef5 := ez 5
                have ef6 := ez 6
                have ef7 := ez 7
                have ef8 := ez 8
                have ef9 := ez 9
                clear ez
                go_wp2
                go_roundw
                case rel =>
                  refine ⟨k + 1, _, q12, l12, _, false, (q12.lines == q11.lines), by omega, rfl, rfl, by go_num, HST12.out.mono (by have := HTK.out; omega), HSM12.out, ?_, fun h => nomatch h⟩
                  rw [HEQ.out, HDR.out, beq_sym]
                  exact fill_line HSIM.out HV.out HFT.out HSM11.out HSM12.out
                case measure => simp [intOf]; omega
    · obtain rfl : k = d.kids.length := by omega
      obtain ⟨e0, e1, e2, e3, e4, e5, e6, e7, e8, e9, ez⟩ := (HST.out.pbx).cells
      simp only [pfOf] at e1 e2 e3 e4 e5 e6 e7 e8 e9
      have ef0 := ez 0
      have ef1 := ez 1
      have ef2 := ez 2
      have ef3 := ez 3
      have ef4 := ez 4
      have ef5 := ez 5
      have ef6 := ez 6
      have ef7 := ez 7
      have ef8 := ez 8
      have ef9 := ez 9
      clear ez
      obtain ⟨u0, u1, u2, u3, u4, u5, u6, u7, u8, u9, uz⟩ := (HST.out.rbx).cells
      simp only [PF0] at u1 u2 u3 u4 u5 u6 u7 u8 u9
      have uf0 := uz 0
      have uf1 := uz 1
      have uf2 := uz 2
      have uf3 := uz 3
      have uf4 := uz 4
      have uf5 := uz 5
      have uf6 := uz 6
      have uf7 := uz 7
      have uf8 := uz 8
      have uf9 := uz 9
      clear uz
      go_wp2
      have nr : Value.ownBlock (.slice Ak qk.out.length ck) ≠ some W1.heap.size := Lib.ownBlock_ne HST.out.own HST.out.rbx.blk (by decide)
      have kz := HST.out.rbx.put (.slice Ak qk.out.length ck) (pfOf c qk lk)
      have oz := own_put HST.out.own nr (.slice Ak qk.out.length ck) (pfOf c qk lk)
      have bz := stay_put2 HST.out.stay (b := W1.heap.size) (by omega) (.slice Ak qk.out.length ck) (pfOf c qk lk)
      simp only [pfOf] at kz oz bz
      generalize ((((((((((wr.setCell ⟨W1.heap.size, 0, none⟩ (.slice Ak qk.out.length ck)).setCell ⟨W1.heap.size, 1, none⟩ (.int .i64 qk.col)).setCell ⟨W1.heap.size, 2, none⟩ (.int .i64 qk.start)).setCell ⟨W1.heap.size, 3, none⟩ (.bool qk.op)).setCell ⟨W1.heap.size, 4, none⟩ (.int .i64 qk.owed)).setCell ⟨W1.heap.size, 5, none⟩ (.int .i64 qk.lines)).setCell ⟨W1.heap.size, 6, none⟩ (.bool lk)).setCell ⟨W1.heap.size, 7, none⟩ (.int .i64 c.width)).setCell ⟨W1.heap.size, 8, none⟩ (.int .i64 c.ribbon)).setCell ⟨W1.heap.size, 9, none⟩ (.int .i64 c.mode)) = WZ at kz oz bz ⊢
      obtain ⟨z0, z1, z2, z3, z4, z5, z6, z7, z8, z9, -⟩ := kz.cells
      simp only at z1 z2 z3 z4 z5 z6 z7 z8 z9
      refine bodyPost_ret (v := .agg #[(.slice Ak qk.out.length ck), (.int .i64 qk.col), (.int .i64 qk.start), (.bool qk.op), (.int .i64 qk.owed), (.int .i64 qk.lines), (.bool lk), (.int .i64 c.width), (.int .i64 c.ribbon), (.int .i64 c.mode)]) (by simp [results, Tryd.results77, go_sem, z0, z1, z2, z3, z4, z5, z6, z7, z8, z9]) rfl ?_
      refine ⟨_, qk, lk, rfl, oz, bz, HST.out.next, HST.out.inv.mono (by have := wts_take_le d.kids d.kids.length; omega), ?_⟩
      rw [HEQ.out, List.drop_length]
      have hbn : ∀ (o : Option Pen) (g : Pen → Option Pen), (∀ p, g p = some p) → o.bind g = o := fun o g hg => by cases o <;> simp [hg]
      rw [hbn _ _ (fun p => by simp only [fills])]
      exact HSIM.out

end Go.Proofs.YtnpaplfdmpjfgaaDoor
