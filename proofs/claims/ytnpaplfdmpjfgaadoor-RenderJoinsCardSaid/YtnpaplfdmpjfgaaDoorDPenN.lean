/- The program's pen: a line is ended; the kids that are there. -/
import Derived.Test.YtnpaplfdmpjfgaaDoorDPenT
namespace Go.Proofs.YtnpaplfdmpjfgaaDoor
open Go.RowKit

set_option maxRecDepth 100000 in
set_option maxHeartbeats 4000000 in
theorem pline_any (B b : Nat) (V : Value) (c : Cfg) (q : Pen) (lg : Bool) (M : Int) (w : World) (h : PenAt B w b V (pfOf c q lg) q.out) (hi : Inv M q) (hM : M ≤ 1099511627776) :
    Calls Tryd.prog 90 #[.pointer (some ⟨b, 0, none⟩)] w (PLaid B b w V c (M + 1) (liveO lg (endl c q))) := by
  have hc := h.cells
  have hM0 : 0 ≤ M := by have := hi.start; have := hi.startM; omega
  have HP := Lib.hid h
  have HI := Lib.hid hi
  have c4 := hc.c4
  simp only [pfOf] at c4
  cases hm : (c.mode == 2) with
  | true =>
    have HR := Lib.hid (show endl c q = put c q blankB 0 false by simp only [endl, hm, if_true])
    have HC := Lib.hid (ptext_any B b V c q lg blankB 0 M false w h hi (fok_not _ _ _) hM hM0 (by decide))
    clear h hi hc
    go_enter Tryd.func90, Tryd.ntmps90
    go_wp2_with fail
    refine HC.out.mono ?_
    rintro e w1 ⟨rfl, V', q', lg', h1, h2, h3, h4⟩
    go_wp2
    go_end0
    exact ⟨rfl, V', q', lg', h1, h2, h3, by rw [HR.out]; exact h4⟩
  | false =>
    have HC := Lib.hid (blen_same B b V (pfOf c q lg) q.out w h)
    have hol := hi.out
    by_cases hbig : 16777216 ≤ q.out.length
    · have HR := Lib.hid (show endl c q = none by simp only [endl, hm, Bool.false_eq_true, if_false, if_pos hbig])
      have f10 := hc.fz 10
      have c10 := hc.c10
      have g1 : decide ((16777216 : Int) ≤ (q.out.length : Int)) = true := decide_eq_true (by omega)
      clear h hi hc hbig
      go_enter Tryd.func90, Tryd.ntmps90
      go_wp2_with (go_at_call 88; refine HC.out.mono ?_; rintro e w1 ⟨rfl, rfl⟩)
      go_end0
      exact ⟨rfl, V, q, true, HP.out.set (pfOf c q true) 10 (.bool true) (fun P => rfl), moved_set _ _ _ _ _, HI.out.mono (by omega), sim_dead HR.out⟩
    · have HR := Lib.hid (show endl c q = some { q with out := q.out ++ [10], col := 0, owed := 0, op := false, lines := q.lines + 1 } by simp only [endl, hm, Bool.false_eq_true, if_false, if_neg hbig])
      have g1 : decide ((16777216 : Int) ≤ (q.out.length : Int)) = false := decide_eq_false (by omega)
      have HC2 := Lib.hid (bbyte_any B b V (pfOf c q lg) q.out w h (by omega))
      have HINV := Lib.hid (endl_inv HI.out HR.out)
      have hl0 := hi.lines
      have hl1 := hi.linesM
      clear h hi hc hbig
      go_enter Tryd.func90, Tryd.ntmps90
      go_wp2_with (go_at_call 88; refine HC.out.mono ?_; rintro e w1 ⟨rfl, rfl⟩)
      refine HC2.out.mono ?_
      rintro e w2 ⟨rfl, V2, f2, bs2, hp2, hm2, rfl, rfl⟩
      obtain ⟨-, -, -, -, c5, -, c7, c8, c9, -, fz⟩ := hp2.cells
      simp only [pfOf] at c5 c7 c8 c9
      have f5 := fz 5
      have f7 := fz 7
      have f8 := fz 8
      have f9 := fz 9
      have HP2 := Lib.hid hp2
      have HM2 := Lib.hid hm2
      clear hp2 hm2 fz c4 HC HC2
      go_wp2
      go_end0
      have k1 := HP2.out.set { pfOf c q lg with cl := 0 } 5 (.int .i64 0) (fun P => rfl)
      have k2 := k1.set { pfOf c q lg with cl := 0, ow := 0 } 7 (.int .i64 0) (fun P => rfl)
      have k3 := k2.set { pfOf c q lg with cl := 0, ow := 0, op := false } 9 (.bool false) (fun P => rfl)
      have k4 := k3.set { pfOf c q lg with cl := 0, ow := 0, op := false, ln := q.lines + 1 } 8 (.int .i64 (q.lines + 1)) (fun P => rfl)
      have m4 := (((HM2.out.set 5 (.int .i64 0)).set 7 (.int .i64 0)).set 9 (.bool false)).set 8 (.int .i64 (q.lines + 1))
      exact ⟨rfl, V2, { q with out := q.out ++ [10], col := 0, owed := 0, op := false, lines := q.lines + 1 }, lg, k4, m4, HINV.out, by rw [HR.out]; exact sim_live (fun p hp => Option.some.inj hp) (fun h => nomatch h)⟩

set_option maxRecDepth 100000 in
set_option maxHeartbeats 4000000 in
theorem there_any (n₀ : Nat) (d : Doc) (A : Option Addr) (c : Nat) (w : World) (hB : d.wt ≤ 16777216) (hn₀ : n₀ ≤ w.heap.size) (hK : KidsAt n₀ w d.kids A) :
    Calls Tryd.prog 71 #[.agg #[.int .i64 d.kind, .string d.text, .int .i64 d.n, .slice A d.kids.length c]] w (KeptAt n₀ d.kids w) := by
  obtain ⟨hbx, hb0, hs0⟩ := box_new w (.int .i64 d.kind) (.string d.text) (.int .i64 d.n) (.slice A d.kids.length c)
  obtain ⟨W, hW⟩ : ∃ W, w.alloc (.cells #[.int .i64 d.kind, .string d.text, .int .i64 d.n, .slice A d.kids.length c] 24) = W := ⟨_, rfl⟩
  rw [hW] at hbx hb0 hs0
  have hO := World.ownsRow_lit (base := w.heap.size) (e := 24) (size := 4) W #[] 0 (by omega) (by decide) rfl
  have hb1 := (Below.refl W.heap.size W).alloc (Nat.le_refl _) (.cells #[] 24)
  obtain ⟨W1, hW1⟩ : ∃ W1, W.alloc (.cells #[] 24) = W1 := ⟨_, rfl⟩
  have hs1 : W1.heap.size = W.heap.size + 1 := by rw [← hW1]; simp
  rw [hW1] at hO hb1
  have hkl := kids_lt d
  have HO := Lib.hid hO
  have HB1 := Lib.hid (hb0.trans (hb1.mono (by omega)))
  have HK := Lib.hid hK
  obtain ⟨x0, x1, x2, x3, _, _, _, _⟩ := hbx.below hb1 (by omega)
  have HS := Lib.hid hs1
  clear hO hb1 hb0 hK hbx hs0 hs1
  go_enter Tryd.func71, Tryd.ntmps71
  go_wp2_with fail
  clear hW hW1
  go_loopw [3, 10] (fun out i wr => ∃ (k : Nat) (l : List DV), k ≤ d.kids.length ∧ i = .int .i64 k ∧ l.map DV.d = (d.kids.take k).filter Doc.there ∧ (∀ t ∈ l, t.Ok n₀ w) ∧ wr.ownsRow w.heap.size 24 4 out l.length (flatD l) ∧ Below w.heap.size w wr) (fun _ i wr => d.kids.length - (intOf i).toNat)
  case atStart => exact ⟨0, [], by omega, rfl, rfl, by simp, HO.out, HB1.out⟩
  case round =>
    obtain ⟨k, l, hk, rfl, hl, hok, hown, hB'⟩ := hrel
    have hll : l.length ≤ k := by have := congrArg List.length hl; rw [List.length_map] at this; rw [this]; have := List.length_filter_le Doc.there (d.kids.take k); rw [List.length_take] at this; omega
    have HL := Lib.hid hl
    have HOK := Lib.hid hok
    have HOWN := Lib.hid hown
    have HB := Lib.hid hB'
    have hsz := hB'.size
    clear hl hok hown hB'
    by_cases hlt : k < d.kids.length
    · obtain ⟨b, o, rfl, hat⟩ := kidsAt_get HK.out (kid_in hlt)
      obtain ⟨A', c', q1, q2, q3, q4, q5, q6, q7, q8⟩ := docAt_iff.1 hat
      obtain ⟨A'', c'', h1, h2, h3, h4, h5, h6, h7, h8⟩ := docAt_iff.1 (at_below hat (below_le HB.out hn₀))
      obtain ⟨rfl, rfl⟩ : A' = A'' ∧ c' = c'' := by
        have := ((below_le HB.out hn₀).cell (p := ⟨b, o + k * 4 + 3, none⟩) h1).trans q5
        rw [h5] at this
        simp only [Option.some.injEq, Value.slice.injEq] at this
        exact ⟨this.1.symm, this.2.2.symm⟩
      have hdv : (⟨d.kids[k], A', c'⟩ : DV).Ok n₀ w := ⟨q6, q7, q8⟩
      have HDV := Lib.hid hdv
      clear q1 q2 q3 q4 q5 q6 q7 q8 hat h6 h7 hdv
      have hkw := kid_lt (List.getElem_mem hlt)
      obtain ⟨hbx, hb0, hs0⟩ := box_new wr (.int .i64 d.kids[k].kind) (.string d.kids[k].text) (.int .i64 d.kids[k].n) (.slice A' d.kids[k].kids.length c')
      obtain ⟨W3, hW3⟩ : ∃ W3, wr.alloc (.cells #[.int .i64 d.kids[k].kind, .string d.kids[k].text, .int .i64 d.kids[k].n, .slice A' d.kids[k].kids.length c'] 24) = W3 := ⟨_, rfl⟩
      rw [hW3] at hbx hb0 hs0
      have hk8 := kidsAt_on (kidsAt_mono h8 (Nat.le_trans hn₀ hsz)) hb0
      have HC := Lib.hid (void_any d.kids[k] A' c' W3 (by omega) hk8)
      have HBX := Lib.hid hbx
      have HB3 := Lib.hid hb0
      have hs' : wr.heap.size < W3.heap.size := by omega
      obtain ⟨z0, z1, z2, z3, _, _, _, _⟩ := hbx
      clear h8 hb0 hs0 hk8
      go_wp2_with fail
      clear hW3
      refine HC.out.mono ?_
      rintro e w2 ⟨rfl, hb2⟩
      have hx2 := HBX.out.below hb2 hs'
      have hb12 := HB3.out.trans (hb2.mono (Nat.le_of_lt hs'))
      have hB2 := Lib.hid (HB.out.trans (hb12.mono hsz))
      have hO2 := own_below HOWN.out hb12
      have hs2 := hb2.size
      clear hb2 hb12 z0 z1 z2 z3 h1 h2 h3 h4 h5
      cases hv : d.kids[k].void with
      | true =>
        have HV := Lib.hid (there_keep hlt hv)
        have HO2 := Lib.hid hO2
        clear hv hx2 hO2
        go_wp2
        go_roundw
        case rel => exact ⟨k + 1, l, by omega, by go_num, by rw [HV.out]; exact HL.out, HOK.out, HO2.out, hB2.out⟩
        case measure => simp [intOf]; omega
      | false =>
        have HV := Lib.hid (there_add hlt hv)
        obtain ⟨x0, x1, x2, x3, _, _, _, _⟩ := hx2
        clear hv
        go_wp2_with (at_builtin; refine wpList_app1 rfl _ _ 22 rfl 24 _ 4 56 Tryd.underlying22 info24 rfl (by decide) w2 (DV.cells ⟨d.kids[k], A', c'⟩) rfl _ rfl w.heap.size _ _ _ rfl hO2 rfl rfl (by simp [DV.cells, Value.oneCell']) (by unfold maxLen; omega) (by omega) (by omega) ?_; intro g cc w4 hown4 hB4 _ _)
        go_roundw
        case rel =>
          refine ⟨k + 1, l ++ [⟨d.kids[k], A', c'⟩], by omega, by go_num, by rw [HV.out, List.map_append, HL.out]; rfl, fun t ht => ?_, by rw [flatD_snoc, List.length_append]; exact hown4, hB2.out.trans hB4⟩
          rcases List.mem_append.1 ht with h | h
          · exact HOK.out t h
          · simp at h
            subst h
            exact HDV.out
        case measure => simp [intOf]; omega
    · obtain rfl : k = d.kids.length := by omega
      go_wp2
      go_ret
      exact ⟨_, l, rfl, ⟨HOWN.out, fun t ht => ((HOK.out t ht).below (below_le HB.out hn₀)).mono (Nat.le_trans hn₀ hsz)⟩, by rw [HL.out, List.take_length], HB.out, fun t ht => (HOK.out t ht).below (below_le HB.out hn₀)⟩
end Go.Proofs.YtnpaplfdmpjfgaaDoor
