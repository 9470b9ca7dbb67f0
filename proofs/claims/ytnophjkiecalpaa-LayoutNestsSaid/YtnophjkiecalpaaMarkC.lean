/- The reference of Mark: what it hands back. -/
import Derived.Test.YtnophjkiecalpaaMarkB
import Derived.Deep.DeepCutAuto
namespace Go.Proofs.Ytnophjkiecalpaa
open Go.RowKit

def tk0 : Tok := ⟨0, .empty, 0, 0⟩
/-- Token k; behind the end: one of no kind. -/
def tk (l : List Tok) (k : Nat) : Tok := l[k]?.getD tk0
theorem tk_in {l : List Tok} {k : Nat} (h : k < l.length) : l[k]? = some (tk l k) := by simp [tk, h]
theorem tk_out {l : List Tok} {k : Nat} (h : l.length ≤ k) : tk l k = tk0 := by simp [tk, h]
theorem tk_mem {l : List Tok} {k : Nat} (h : k < l.length) : tk l k ∈ l := by simp [tk, h]
def isModule (t : Tok) : Bool := t.kind == 9 && t.text.toList == [109, 111, 100, 117, 108, 101]
/-- Does a block begin ahead of token k? -/
def begins (l : List Tok) : Nat → Bool
  | 0 => !brace (tk l 0) && !isModule (tk l 0)
  | k + 1 => opens (tk l k) && !brace (tk l (k + 1))
/-- Does token k begin its line? -/
def onLine (l : List Tok) : Nat → Bool
  | 0 => true
  | k + 1 => fresh (tk l k) (tk l (k + 1))
def markTok (k : Int) (t : Tok) : Tok := ⟨k, .empty, t.line, t.col⟩
/-- The mark ahead of token k. -/
def pre (l : List Tok) (k : Nat) : List Tok := if begins l k then [markTok 16 (tk l k)] else if onLine l k then [markTok 17 (tk l k)] else []
/-- The first k tokens with their marks. -/
def marks (l : List Tok) : Nat → List Tok
  | 0 => []
  | k + 1 => (marks l k ++ pre l k) ++ [tk l k]
def markAll (l : List Tok) : List Tok := if l.length = 0 then [markTok 16 tk0] else marks l l.length ++ if begins l l.length then [markTok 16 tk0] else []
theorem pre_le (l : List Tok) (k : Nat) : (pre l k).length ≤ 1 := by unfold pre; split <;> (try split) <;> simp
theorem marks_le (l : List Tok) (k : Nat) : (marks l k).length ≤ 2 * k := by
  induction k with
  | zero => simp [marks]
  | succ k ih => have := pre_le l k; simp only [marks, List.length_append, List.length_cons, List.length_nil]; omega

/-- A token in a box of its own. -/
structure Box (w : World) (b : Nat) (t : Tok) : Prop where
  kind : w.cell? ⟨b, 0, none⟩ = some (.int .i64 t.kind)
  text : w.cell? ⟨b, 1, none⟩ = some (.string t.text)
  line : w.cell? ⟨b, 2, none⟩ = some (.int .i64 t.line)
  col : w.cell? ⟨b, 3, none⟩ = some (.int .i64 t.col)
theorem Box.new (w : World) (t : Tok) : Box (w.alloc (.cells #[.int .i64 t.kind, .string t.text, .int .i64 t.line, .int .i64 t.col] 23)) w.heap.size t :=
  ⟨by simp, by simp, by simp, by simp⟩
theorem Box.lt {w : World} {b : Nat} {t : Tok} (h : Box w b t) : b < w.heap.size := World.block_lt_of_cell? w _ h.kind
theorem Box.grown {w w' : World} {b : Nat} {t : Tok} {row : Option Nat} (h : Box w b t) (hg : w.grownBy w' row) (hne : some b ≠ row) : Box w' b t :=
  ⟨hg.cell h.kind hne, hg.cell h.text hne, hg.cell h.line hne, hg.cell h.col hne⟩
theorem Box.below {w w' : World} {b : Nat} {t : Tok} (h : Box w b t) (hg : Below w.heap.size w w') : Box w' b t :=
  ⟨(hg.cell (p := ⟨b, 0, none⟩) h.lt).trans h.kind, (hg.cell (p := ⟨b, 1, none⟩) h.lt).trans h.text, (hg.cell (p := ⟨b, 2, none⟩) h.lt).trans h.line, (hg.cell (p := ⟨b, 3, none⟩) h.lt).trans h.col⟩

set_option maxRecDepth 100000 in
set_option maxHeartbeats 1600000 in
theorem refMark_any (A : Option Addr) (l : List Tok) (c : Nat) (w : World) (hn : l.length ≤ 1048576) (ht : ∀ t ∈ l, t.text.size ≤ 1099511627776) (h : Toks w.heap.size w A l) :
    Calls Try.prog 20 #[.slice A l.length c] w fun e w' => ∃ v, e = .returned v ∧ IsToks w'.heap.size w' v (markAll l) ∧ Below w.heap.size w w' := by
  by_cases h0 : l.length = 0
  · have he : l = [] := List.eq_nil_of_length_eq_zero h0
    subst he
    go_enter Try.func20, Try.ntmps20
    go_wp2_with (at_builtin; refine wpList_app1 rfl _ _ 26 rfl 23 _ 4 40 Try.underlying26 info23 rfl (by decide) w (markTok 16 tk0).cells rfl _ rfl w.heap.size (.slice none 0 0) _ _ rfl (World.ownsRow_nil _ _ _ _) rfl rfl (by simp [Tok.cells, Value.oneCell']) (by unfold maxLen; omega) (by omega) (Nat.le_refl _) ?_; intro g c w1 hown1 hB1 _ _)
    go_ret
    exact ⟨_, rfl, isToks_of_own (l := [markTok 16 tk0]) hown1, hB1⟩
  · have h0i : ((l.length : Int) == 0) = false := by simpa using h0
    have hpos : 0 < l.length := by omega
    go_enter Try.func20, Try.ntmps20
    go_upto_region 4 with (fail)
    go_cut [4] (fun b wx => b = .bool (begins l 0) ∧ Below w.heap.size w wx)
    case first =>
      obtain ⟨b, o, rfl, hb, hc⟩ := h 0 (tk l 0) (tk_in hpos)
      obtain ⟨g1, g2, g3, g4⟩ := hc
      simp only [Nat.zero_mul, Nat.add_zero] at g1 g2 g3 g4
      have hbe : begins l 0 = (!brace (tk l 0) && !isModule (tk l 0)) := rfl
      have HBE := Lib.hid hbe
      clear hbe
      cases hbr : brace (tk l 0)
      all_goals
        have HBR := Lib.hid hbr
        go_wp2_with fail
        refine (brace_any (tk l 0) _).mono ?_
        rintro e w1 ⟨rfl, hb1⟩
        have g1' := (hb1.cell (p := ⟨b, o, none⟩) hb).trans g1
        have g2' := (hb1.cell (p := ⟨b, o + 1, none⟩) hb).trans g2
        go_wp2
        all_goals go_meet
        all_goals (case rel => exact ⟨by rw [HBE.out, HBR.out]; simp_all [isModule], hb1⟩)
    case rest =>
      obtain ⟨rfl, hB0⟩ := hcut
      go_wp2
      go_loopw [3, 4, 5] (fun out b i wr => ∃ k : Nat, k ≤ l.length ∧ i = .int .i64 k ∧ b = .bool (begins l k) ∧ wr.ownsRow w.heap.size 23 4 out (marks l k).length (flat (marks l k)) ∧ Below w.heap.size w wr) (fun _ _ i wr => l.length - (intOf i).toNat)
      case atStart => exact ⟨0, by omega, rfl, rfl, World.ownsRow_nil _ _ _ _, hB0⟩
      case round =>
        obtain ⟨k, hk, rfl, rfl, hown, hB⟩ := hrel
        have hsz := hB.size
        by_cases hlt : k < l.length
        · obtain ⟨b, o, rfl, hb, hc⟩ := (h.below hB) k (tk l k) (tk_in hlt)
          obtain ⟨g1, g2, g3, g4⟩ := hc
          have hml := marks_le l k
          go_upto_if 43 with (fail)
          have hbx := Box.new wr (tk l k)
          go_cut [3, 4] (fun out _ wx => wx.ownsRow w.heap.size 23 4 out (marks l k ++ pre l k).length (flat (marks l k ++ pre l k)) ∧ Below w.heap.size w wx ∧ Box wx wr.heap.size (tk l k) ∧ some wr.heap.size ≠ out.ownBlock)
          case first =>
            obtain ⟨wb, hwb⟩ : ∃ wb, wr.alloc (.cells #[.int .i64 (tk l k).kind, .string (tk l k).text, .int .i64 (tk l k).line, .int .i64 (tk l k).col] 23) = wb := ⟨_, rfl⟩
            have hownb : wb.ownsRow w.heap.size 23 4 u3 (marks l k).length (flat (marks l k)) := by rw [← hwb]; exact hown.alloc _
            have hBb : Below w.heap.size w wb := by rw [← hwb]; exact hB.alloc hsz _
            have hszb : wr.heap.size + 1 = wb.heap.size := by rw [← hwb]; simp
            have hne : some wr.heap.size ≠ u3.ownBlock := own_ne hown (Nat.le_refl _)
            rw [hwb] at hbx ⊢
            have HSZ := Lib.hid hszb
            clear hwb hszb
            have hbl := hbx.lt
            obtain ⟨b1, b2, b3, b4⟩ := hbx
            cases hbe : begins l k
            · have HBE := Lib.hid hbe
              clear hbe
              by_cases hk0 : k = 0
              · subst hk0
                have hpre : pre l 0 = [markTok 17 (tk l 0)] := by simp [pre, HBE.out, onLine]
                have HPRE := Lib.hid hpre
                clear hpre
                go_wp2_with fail
                go_quiet (fail)
                go_wp2_with (at_builtin; refine wpList_app1 rfl _ _ 26 rfl 23 _ 4 40 Try.underlying26 info23 rfl (by decide) (wb.drewN _) (markTok 17 (tk l 0)).cells rfl _ rfl w.heap.size u3 _ _ rfl (own_drewN hownb _) rfl rfl (by simp [Tok.cells, Value.oneCell']) (by unfold maxLen; omega) (by omega) hBb.size ?_; intro g c w1 hown1 hB1 hg1 hd1)
                go_meet
                case rel => exact ⟨own_add hown1 (by rw [HPRE.out]), hBb.trans ((below_drewN (Below.refl _ wb) _).trans hB1), Box.grown (w := wb.drewN _) ⟨b1, b2, b3, b4⟩ hg1 hne, fun e => hd1 _ hne hbl (by simpa [Value.ownBlock] using e)⟩
              · have hk1 : 0 < k := by omega
                obtain ⟨b', o', hA', hb', hc'⟩ := (h.below hBb) (k - 1) (tk l (k - 1)) (tk_in (by omega))
                simp only [Option.some.injEq, Addr.mk.injEq, and_true] at hA'
                obtain ⟨rfl, rfl⟩ := hA'
                obtain ⟨p1, p2, p3, p4⟩ := hc'
                have htj := ht (tk l (k - 1)) (tk_mem (by omega))
                have hwr : w.heap.size ≤ wb.heap.size := hBb.size
                have hwb2 := (show Box wb wr.heap.size (tk l k) from ⟨b1, b2, b3, b4⟩).lt
                have hki : ((k : Int) == 0) = false := by simpa using hk0
                have hkw : IntKind.i64.wrap ((k : Int) - 1) = (k : Int) - 1 := IntWalk.i64_in _ (by omega)
                have hkn : ((k : Int) - 1).toNat = k - 1 := by omega
                have hk2 : (0 : Int) ≤ (k : Int) - 1 := by omega
                have hk3 : (k : Int) - 1 < (l.length : Int) := by omega
                have hk4 : (1 : Int) ≤ (k : Int) := by omega
                have hpre : pre l k = if fresh (tk l (k - 1)) (tk l k) then [markTok 17 (tk l k)] else [] := by
                  obtain ⟨j, rfl⟩ : ∃ j, k = j + 1 := ⟨k - 1, by omega⟩
                  unfold pre; rw [HBE.out]; rfl
                have HPRE := Lib.hid hpre
                clear hpre hk0
                go_wp2_with fail
                go_region_held3 (fun w' : World => w'.cell? ⟨b, o + (k - 1) * 4, none⟩ = some (.int .i64 (tk l (k - 1)).kind) ∧ w'.cell? ⟨b, o + (k - 1) * 4 + 1, none⟩ = some (.string (tk l (k - 1)).text) ∧ w'.cell? ⟨b, o + (k - 1) * 4 + 2, none⟩ = some (.int .i64 (tk l (k - 1)).line) ∧ w'.cell? ⟨b, o + (k - 1) * 4 + 3, none⟩ = some (.int .i64 (tk l (k - 1)).col) ∧ w'.cell? ⟨wr.heap.size, 0, none⟩ = some (.int .i64 (tk l k).kind) ∧ w'.cell? ⟨wr.heap.size, 1, none⟩ = some (.string (tk l k).text) ∧ w'.cell? ⟨wr.heap.size, 2, none⟩ = some (.int .i64 (tk l k).line) ∧ w'.cell? ⟨wr.heap.size, 3, none⟩ = some (.int .i64 (tk l k).col) ∧ Below wb.heap.size wb w')
                  (first | (exact ⟨p1, p2, p3, p4, b1, b2, b3, b4, (Below.refl _ _).drew⟩) | (exact held8 (by assumption) hbf (by dsimp only; omega) (by dsimp only; omega) (by dsimp only; omega) (by dsimp only; omega) (by dsimp only; omega) (by dsimp only; omega) (by dsimp only; omega) (by dsimp only; omega)) | assumption)
                  (first | (go_at_call 34; refine (fresh_any (tk l (k - 1)) (tk l k) _ htj).mono ?_; rintro e w1 ⟨rfl, hbf⟩))
                rename_i hH
                obtain ⟨_, _, _, _, q1, q2, q3, q4, q5⟩ := hH
                have hown3 := own_below hownb q5
                have hB3 : Below w.heap.size w w1 := hBb.trans (q5.mono hwr)
                cases hf : fresh (tk l (k - 1)) (tk l k)
                · have HF := Lib.hid hf
                  clear hf
                  go_wp2
                  go_meet
                  case rel => exact ⟨by rw [HPRE.out, HF.out]; simpa using hown3, hB3, ⟨q1, q2, q3, q4⟩, hne⟩
                · have HF := Lib.hid hf
                  clear hf
                  go_wp2_with (at_builtin; refine wpList_app1 rfl _ _ 26 rfl 23 _ 4 40 Try.underlying26 info23 rfl (by decide) w1 (markTok 17 (tk l k)).cells rfl _ rfl w.heap.size u3 _ _ rfl hown3 rfl rfl (by simp [Tok.cells, Value.oneCell']) (by unfold maxLen; omega) (by omega) hB3.size ?_; intro g c w2 hown1 hB1 hg1 hd1)
                  go_meet
                  case rel => exact ⟨own_add hown1 (by rw [HPRE.out, HF.out]; rfl), hB3.trans hB1, Box.grown ⟨q1, q2, q3, q4⟩ hg1 hne, fun e => hd1 _ hne (Box.lt ⟨q1, q2, q3, q4⟩) (by simpa [Value.ownBlock] using e)⟩
            · have hpre : pre l k = [markTok 16 (tk l k)] := by simp [pre, hbe]
              have HPRE := Lib.hid hpre
              have HBE := Lib.hid hbe
              clear hpre hbe
              go_wp2_with (at_builtin; refine wpList_app1 rfl _ _ 26 rfl 23 _ 4 40 Try.underlying26 info23 rfl (by decide) wb (markTok 16 (tk l k)).cells rfl _ rfl w.heap.size u3 _ _ rfl hownb rfl rfl (by simp [Tok.cells, Value.oneCell']) (by unfold maxLen; omega) (by omega) hBb.size ?_; intro g c w1 hown1 hB1 hg1 hd1)
              go_meet
              case rel => exact ⟨own_add hown1 (by rw [HPRE.out]), hBb.trans hB1, Box.grown ⟨b1, b2, b3, b4⟩ hg1 hne, fun e => hd1 _ hne hbl (by simpa [Value.ownBlock] using e)⟩
          case rest =>
            obtain ⟨hown2, hB2, hbx2, hne2⟩ := hcut
            have hbl2 := hbx2.lt
            have hpl := pre_le l k
            have hlen : (marks l k ++ pre l k).length ≤ 2 * k + 1 := by rw [List.length_append]; omega
            have hmk : marks l (k + 1) = (marks l k ++ pre l k) ++ [tk l k] := rfl
            generalize marks l k ++ pre l k = q at hown2 hlen hmk
            have HMK := Lib.hid hmk
            clear hmk
            obtain ⟨b1, b2, b3, b4⟩ := hbx2
            go_upto_region 14 with (at_builtin; refine wpList_app1 rfl _ _ 26 rfl 23 _ 4 40 Try.underlying26 info23 rfl (by decide) wc (tk l k).cells rfl _ rfl w.heap.size u3 _ _ rfl hown2 rfl rfl (by simp [Tok.cells, Value.oneCell']) (by unfold maxLen; omega) (by omega) hB2.size ?_; intro g c w1 hown1 hB1 hg1 hd1)
            have hbx3 := Box.grown ⟨b1, b2, b3, b4⟩ hg1 hne2
            have hown4 := own_add (l' := marks l (k + 1)) hown1 HMK.out
            have hB4 := hB2.trans hB1
            obtain ⟨c1, c2, c3, c4⟩ := hbx3
            have hbn : begins l (k + 1) = (opens (tk l k) && !brace (tk l (k + 1))) := rfl
            have HBN := Lib.hid hbn
            clear hbn b1 b2 b3 b4
            cases hop : opens (tk l k)
            · have HOP := Lib.hid hop
              clear hop
              go_wp2_with (go_at_call 17; refine (rOpens_any (tk l k) _).mono ?_; rintro e w2 ⟨rfl, hb2⟩; rw [HOP.out])
              go_roundw
              case rel => exact ⟨k + 1, by omega, by go_num, by rw [HBN.out, HOP.out]; rfl, own_below hown4 hb2, hB4.trans (hb2.mono hB4.size)⟩
              case measure => simp [intOf]; omega
            · have HOP := Lib.hid hop
              clear hop
              by_cases hlast : k + 1 < l.length
              · have hkl : ((k : Int) + 1 == (l.length : Int)) = false := by rw [beq_eq_false_iff_ne]; omega
                obtain ⟨b', o', hA', hb', hc'⟩ := (h.below hB4) (k + 1) (tk l (k + 1)) (tk_in hlast)
                simp only [Option.some.injEq, Addr.mk.injEq, and_true] at hA'
                obtain ⟨rfl, rfl⟩ := hA'
                go_wp2_with (go_at_call 17; refine (rOpens_any (tk l k) _).mono ?_; rintro e w2 ⟨rfl, hb2⟩; rw [HOP.out]; obtain ⟨p1, p2, p3, p4⟩ := hc'.below (hb2.mono hB4.size) hb)
                refine (brace_any (tk l (k + 1)) _).mono ?_
                rintro e w3 ⟨rfl, hb3⟩
                have hb23 : Below w1.heap.size w1 w3 := hb2.trans (hb3.mono hb2.size)
                go_wp2
                go_roundw
                case rel => exact ⟨k + 1, by omega, by go_num, by rw [HBN.out, HOP.out]; rfl, own_below hown4 hb23, hB4.trans (hb23.mono hB4.size)⟩
                case measure => simp [intOf]; omega
              · have hkl : ((k : Int) + 1 == (l.length : Int)) = true := by rw [beq_iff_eq]; omega
                go_wp2_with (go_at_call 17; refine (rOpens_any (tk l k) _).mono ?_; rintro e w2 ⟨rfl, hb2⟩; rw [HOP.out])
                go_roundw
                case rel => exact ⟨k + 1, by omega, by go_num, by rw [HBN.out, HOP.out, tk_out (by omega)]; rfl, own_below hown4 hb2, hB4.trans (hb2.mono hB4.size)⟩
                case measure => simp [intOf]; omega
        · have hkl : k = l.length := by omega
          have hall : markAll l = marks l k ++ if begins l k then [markTok 16 tk0] else [] := by rw [hkl]; unfold markAll; rw [if_neg h0]
          have hml := marks_le l k
          have HALL := Lib.hid hall
          clear hall hkl
          cases hbe : begins l k
          · have HBE := Lib.hid hbe
            clear hbe
            go_wp2
            go_ret
            exact ⟨_, rfl, isToks_of_own (by rw [HALL.out, HBE.out]; simpa using hown), hB⟩
          · have HBE := Lib.hid hbe
            clear hbe
            go_wp2_with (at_builtin; refine wpList_app1 rfl _ _ 26 rfl 23 _ 4 40 Try.underlying26 info23 rfl (by decide) wr (markTok 16 tk0).cells rfl _ rfl w.heap.size _ _ _ rfl hown rfl rfl (by simp [Tok.cells, Value.oneCell']) (by unfold maxLen; omega) (by omega) hB.size ?_; intro g c w1 hown1 hB1 _ _)
            go_ret
            exact ⟨_, rfl, isToks_of_own (own_add hown1 (by rw [HALL.out, HBE.out]; rfl)), hB.trans hB1⟩
end Go.Proofs.Ytnophjkiecalpaa
