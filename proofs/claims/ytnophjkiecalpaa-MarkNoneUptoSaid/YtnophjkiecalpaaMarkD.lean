/- The iterator of the layer mark: what it yields. -/
import Derived.Test.YtnophjkiecalpaaMarkC
import Derived.RangeFuncNested
import Derived.RangeFuncBound
import Derived.RangeFuncCalls
import Derived.RangeFuncLeaves
import Derived.Shelf.Abstract
import Derived.Shelf.RegionOpen
import Derived.OwnWalkIn
import Derived.TacticsInMore
import Derived.LoopNIn
import Derived.LoopIn
import Derived.Sort.CutIn
namespace Go.Proofs.Ytnophjkiecalpaa
open Go.RowKit Go.Shelf

attribute [local go_sem] Oper.semAt_some

/-- Does token k begin its line, as the program asks it? -/
def onLineP (l : List Tok) (k : Nat) : Bool := (tk l k).line != (tk l (k - 1)).line && ((tk l k).line != endLine (tk l (k - 1)))
/-- The mark's kind ahead of token k, as the program has it. -/
def markNo (l : List Tok) (k : Nat) : Int := if begins l k then 16 else if k = 0 then 17 else if onLineP l k then 17 else 0

theorem isTok_module (t : Tok) : isTok t 9 ⟨#[109, 111, 100, 117, 108, 101]⟩ = isModule t := by unfold isTok isModule; rw [show (ByteArray.mk #[109, 111, 100, 117, 108, 101]).toList = [109, 111, 100, 117, 108, 101] from by rw [ByteArray.toList_eq]]
theorem isTok_brace (t : Tok) : isTok t 15 ⟨#[123]⟩ = brace t := by unfold isTok brace; rw [show (ByteArray.mk #[123]).toList = [123] from by rw [ByteArray.toList_eq]]
def upto (l : List Tok) (k : Nat) : List (Fin l.length) := (List.finRange l.length).take k
theorem upto_succ {l : List Tok} {k : Nat} (h : k < l.length) : upto l (k + 1) = upto l k ++ [⟨k, h⟩] := by
  unfold upto; rw [List.take_succ_eq_append_getElem (by simpa using h)]; simp
theorem upto_length {l : List Tok} {k : Nat} (h : k ≤ l.length) : (upto l k).length = k := by simp [upto]; omega

set_option maxRecDepth 100000 in
set_option maxHeartbeats 2000000 in
theorem steps1_in (n : Nat) (hn : 2 ≤ n) (lp Bs n₀ : Nat) (A : Option Addr) (l : List Tok) (c : Nat) (hlen : l.length ≤ 1048576) (htx : ∀ t ∈ l, t.text.size ≤ 1099511627776) (J Jx : List (Fin l.length) → World → Prop)
    (hJ : ∀ pre W W', J pre W → n₀ ≤ W.heap.size → Below W.heap.size W W' → J pre W')
    (hY : ∀ pre (x : Fin l.length) W, J pre W → pre.length < l.length → YieldAt Fence.wide (n - 1) Try.prog lp #[.int .i64 (x.1 : Int), .int .i64 (markNo l x.1)] W fun e W' =>
      (e = .returned (.bool true) ∧ J (pre ++ [x]) W' ∧ Below n₀ W W' ∧ W'.cell? ⟨Bs, 0, none⟩ = W.cell? ⟨Bs, 0, none⟩) ∨ (e = .returned (.bool false) ∧ Jx (pre ++ [x]) W'))
    (W : World) (hn₀ : n₀ ≤ W.heap.size) (hBs : Bs < W.heap.size) (hcB : W.cell? ⟨Bs, 0, none⟩ = some (.slice A l.length c)) (hT : Toks n₀ W A l) (h0 : J [] W) :
    CallsIn Fence.wide n Try.prog 47 #[.func (.yield lp) #[] #[], .pointer (some ⟨Bs, 0, none⟩)] W fun e W' => (∃ v, e = .returned v) ∧
      ((∃ ys, ys = upto l l.length ∧ J ys W') ∨ (∃ pre, (∃ k, k ≤ l.length ∧ pre = upto l k) ∧ Jx pre W')) := by
  refine callsIn_of_wp Try.func47 rfl trivial ?_ rfl
  simp only [Try.ntmps47, List.size_toArray, List.length_cons, List.length_nil, Nat.reduceAdd, Nat.reduceSub, Array.replicate_succ, Array.replicate_zero, List.push_toArray, List.append_toArray, List.nil_append, List.cons_append]
  gi_wp2
  gi_loopw [8] (fun i wr => ∃ k : Nat, k ≤ l.length ∧ i = .int .i64 k ∧ J (upto l k) wr ∧ Below n₀ W wr ∧ wr.cell? ⟨Bs, 0, none⟩ = some (.slice A l.length c))
    (fun i _ => l.length - (intOf i).toNat)
  case atStart => exact ⟨0, Nat.zero_le _, rfl, h0, Below.refl _ _, hcB⟩
  case round =>
    obtain ⟨k, hk, rfl, hJs, hnx, hcr⟩ := hrel
    have hBr : Bs < wr.heap.size := Nat.lt_of_lt_of_le hBs hnx.size
    have hsz : n₀ ≤ wr.heap.size := Nat.le_trans hn₀ hnx.size
    by_cases hlt : k < l.length
    · obtain ⟨b, o, rfl, hb, hc⟩ := (hT.below hnx) k (tk l k) (tk_in hlt)
      obtain ⟨g1, g2, g3, g4⟩ := hc
      gi_upto_region 3 with (fail)
      iterate 8 gi_step
      refine wpIn_wide.2 ?_
      have hbx := Box.new wr (tk l k)
      go_cut [5] (fun m wx => m = .int .i64 (markNo l k) ∧ Below n₀ W wx ∧ J (upto l k) wx ∧ wx.cell? ⟨Bs, 0, none⟩ = some (.slice (some ⟨b, o, none⟩) l.length c))
      case first =>
        obtain ⟨wb, hwb⟩ : ∃ wb, wr.alloc (.cells #[.int .i64 (tk l k).kind, .string (tk l k).text, .int .i64 (tk l k).line, .int .i64 (tk l k).col] 23) = wb := ⟨_, rfl⟩
        have hbr : Below wr.heap.size wr wb := by rw [← hwb]; exact (Below.refl _ _).alloc (Nat.le_refl _) _
        have hBb : Below n₀ W wb := hnx.trans (hbr.mono hsz)
        have hJb : J (upto l k) wb := hJ _ _ _ hJs hsz hbr
        rw [hwb] at hbx ⊢
        clear hwb
        have hfin : ∀ w1, Below wb.heap.size wb w1 → Below n₀ W w1 ∧ J (upto l k) w1 ∧ w1.cell? ⟨Bs, 0, none⟩ = some (.slice (some ⟨b, o, none⟩) l.length c) := fun w1 h1 => ⟨hBb.trans (h1.mono (Nat.le_trans hsz hbr.size)), hJ _ _ _ hJb (Nat.le_trans hsz hbr.size) h1, (h1.cell (p := ⟨Bs, 0, none⟩) (Nat.lt_of_lt_of_le hBr hbr.size)).trans ((hbr.cell (p := ⟨Bs, 0, none⟩) hBr).trans hcr)⟩
        have HFIN := Lib.hid hfin
        clear hfin
        obtain ⟨b1, b2, b3, b4⟩ := hbx
        by_cases hk0 : k = 0
        · subst hk0
          have hmn : markNo l 0 = if isModule (tk l 0) then 17 else if brace (tk l 0) then 17 else 16 := by
            unfold markNo; simp only [begins]; cases isModule (tk l 0) <;> cases brace (tk l 0) <;> rfl
          have HMN := Lib.hid hmn
          clear hmn
          go_wp2_with fail
          refine (is_any (tk l 0) _ _ _).mono ?_
          rintro e w1 ⟨rfl, hb1⟩
          rw [isTok_module]
          obtain ⟨b1, b2, b3, b4⟩ := Box.below ⟨b1, b2, b3, b4⟩ hb1
          cases hm : isModule (tk l 0)
          · have HM := Lib.hid hm
            clear hm
            go_wp2_with fail
            refine (is_any (tk l 0) _ _ _).mono ?_
            rintro e w2 ⟨rfl, hb2⟩
            rw [isTok_brace]
            have hb12 := hb1.trans (hb2.mono hb1.size)
            cases hm2 : brace (tk l 0)
            all_goals
              have HM2 := Lib.hid hm2
              clear hm2
              go_wp2
              go_meet
              case rel => exact ⟨by rw [HMN.out, HM.out, HM2.out]; rfl, HFIN.out _ hb12⟩
          · have HM := Lib.hid hm
            clear hm
            go_wp2
            go_meet
            case rel => exact ⟨by rw [HMN.out, HM.out]; rfl, HFIN.out _ hb1⟩
        · have hk1 : 0 < k := by omega
          have hT' : ∀ w1, Below wb.heap.size wb w1 → TokAt w1 b (o + (k - 1) * 4) (tk l (k - 1)) ∧ w1.cell? ⟨Bs, 0, none⟩ = some (.slice (some ⟨b, o, none⟩) l.length c) := fun w1 h1 => by
            have hB := (HFIN.out w1 h1).1
            obtain ⟨b', o', hA', hb', hc'⟩ := (hT.below hB) (k - 1) (tk l (k - 1)) (tk_in (by omega))
            simp only [Option.some.injEq, Addr.mk.injEq, and_true] at hA'
            obtain ⟨rfl, rfl⟩ := hA'
            exact ⟨hc', (HFIN.out w1 h1).2.2⟩
          have HT := Lib.hid hT'
          clear hT'
          have htj := htx (tk l (k - 1)) (tk_mem (by omega))
          have hwr : n₀ ≤ wb.heap.size := Nat.le_trans hn₀ hBb.size
          have hki : ((k : Int) == 0) = false := by simpa using hk0
          have hkw : IntKind.i64.wrap ((k : Int) - 1) = (k : Int) - 1 := IntWalk.i64_in _ (by omega)
          have hkn : ((k : Int) - 1).toNat = k - 1 := by omega
          have hk2 : (0 : Int) ≤ (k : Int) - 1 := by omega
          have hk3 : (k : Int) - 1 < (l.length : Int) := by omega
          have hk4 : (1 : Int) ≤ (k : Int) := by omega
          have hmn : markNo l k = if opens (tk l (k - 1)) && !brace (tk l k) then 16 else if onLineP l k then 17 else 0 := by
            obtain ⟨j, rfl⟩ : ∃ j, k = j + 1 := ⟨k - 1, by omega⟩
            unfold markNo; rw [if_neg hk0]; rfl
          have HMN := Lib.hid hmn
          clear hmn hk0
          obtain ⟨⟨p1, p2, p3, p4⟩, q1⟩ := HT.out wb (Below.refl _ _)
          go_upto_region 9 with (fail)
          go_cut [29] (fun s wx => s = .bool (opens (tk l (k - 1)) && !brace (tk l k)) ∧ Below wb.heap.size wb wx)
          case first =>
            cases hop : opens (tk l (k - 1))
            · have HOP := Lib.hid hop
              clear hop
              go_wp2_with (go_at_call 16; refine (mOpens_any (tk l (k - 1)) _).mono ?_; rintro e w1 ⟨rfl, hb1⟩; rw [HOP.out])
              go_meet
              case rel => exact ⟨by rw [HOP.out]; rfl, hb1⟩
            · have HOP := Lib.hid hop
              clear hop
              go_wp2_with (go_at_call 16; refine (mOpens_any (tk l (k - 1)) _).mono ?_; rintro e w1 ⟨rfl, hb1⟩; rw [HOP.out]; obtain ⟨c1, c2, c3, c4⟩ := Box.below ⟨b1, b2, b3, b4⟩ hb1)
              refine (is_any (tk l k) _ _ _).mono ?_
              rintro e w2 ⟨rfl, hb2⟩
              rw [isTok_brace]
              go_wp2
              go_meet
              case rel => exact ⟨by rw [HOP.out]; rfl, hb1.trans (hb2.mono hb1.size)⟩
          case rest =>
            obtain ⟨rfl, hb1⟩ := hcut
            obtain ⟨c1, c2, c3, c4⟩ := Box.below ⟨b1, b2, b3, b4⟩ hb1
            obtain ⟨⟨p1', p2', p3', p4'⟩, q1'⟩ := HT.out wc hb1
            cases hbe : (opens (tk l (k - 1)) && !brace (tk l k))
            · have HBE := Lib.hid hbe
              clear hbe
              cases hne : ((tk l k).line != (tk l (k - 1)).line)
              · have HNE := Lib.hid hne
                go_wp2_with fail
                go_quiet (fail)
                go_wp2
                go_meet
                case rel => exact ⟨by rw [HMN.out, HBE.out]; simp [onLineP, HNE.out], HFIN.out _ (below_drewN hb1 _)⟩
              · have HNE := Lib.hid hne
                go_wp2_with fail
                have hl1 : wr.heap.size < wc.heap.size := Box.lt ⟨c1, c2, c3, c4⟩
                have hl2 : b < wc.heap.size := Nat.lt_of_lt_of_le hb (Nat.le_trans hwr hb1.size)
                have hl3 : Bs < wc.heap.size := Nat.lt_of_lt_of_le hBr (Nat.le_trans hbr.size hb1.size)
                go_region_held3 (fun w' : World => w'.cell? ⟨b, o + (k - 1) * 4, none⟩ = some (.int .i64 (tk l (k - 1)).kind) ∧ w'.cell? ⟨b, o + (k - 1) * 4 + 1, none⟩ = some (.string (tk l (k - 1)).text) ∧ w'.cell? ⟨b, o + (k - 1) * 4 + 2, none⟩ = some (.int .i64 (tk l (k - 1)).line) ∧ w'.cell? ⟨b, o + (k - 1) * 4 + 3, none⟩ = some (.int .i64 (tk l (k - 1)).col) ∧ w'.cell? ⟨wr.heap.size, 2, none⟩ = some (.int .i64 (tk l k).line) ∧ w'.cell? ⟨Bs, 0, none⟩ = some (.slice (some ⟨b, o, none⟩) l.length c) ∧ Below wc.heap.size wc w')
                  (first | (exact ⟨p1', p2', p3', p4', c3, q1', (Below.refl _ _).drew⟩) | (exact held6 (by assumption) hbf hl2 hl2 hl2 hl2 hl1 hl3) | assumption)
                  (first | (go_at_call 49; refine (ends_any (tk l (k - 1)) _ htj).mono ?_; rintro e w1 ⟨rfl, hbf⟩))
                rename_i hH
                have q5 := hH.2.2.2.2.2.2
                have hop : onLineP l k = ((tk l k).line != endLine (tk l (k - 1))) := by unfold onLineP; rw [HNE.out]; rfl
                cases hol : ((tk l k).line != endLine (tk l (k - 1)))
                all_goals
                  have HOL := Lib.hid hol
                  have HOP := Lib.hid hop
                  clear hol hop
                  go_wp2
                  go_meet
                  case rel => exact ⟨by rw [HMN.out, HBE.out, HOP.out, HOL.out]; rfl, HFIN.out _ (hb1.trans (q5.mono hb1.size))⟩
            · have HBE := Lib.hid hbe
              clear hbe
              go_wp2
              go_meet
              case rel => exact ⟨by rw [HMN.out, HBE.out]; rfl, HFIN.out _ hb1⟩
      case rest =>
        obtain ⟨rfl, hB2, hJ2, hcw⟩ := hcut
        obtain ⟨fn, tmps, assign, body, hy, hR⟩ := hY _ ⟨k, hlt⟩ wc hJ2 (by rw [upto_length hk]; exact hlt)
        dsimp only at hy
        gi_wp2
        refine ⟨fun _ => by omega, hR.mono ?_⟩
        rintro e W3 (⟨rfl, hJ3, hk3, hs3⟩ | ⟨rfl, hJx3⟩)
        · gi_wp2
          go_roundw
          case rel => exact ⟨k + 1, by omega, by go_num, by rw [upto_succ hlt]; exact hJ3, hB2.trans hk3, hs3.trans hcw⟩
          case measure => simp [intOf]; omega
        · gi_wp2
          refine bodyPost_ret (results_none rfl _ _ _) rfl ?_
          exact ⟨⟨_, rfl⟩, .inr ⟨_, ⟨k + 1, by omega, (upto_succ hlt).symm⟩, hJx3⟩⟩
    · obtain rfl : k = l.length := by omega
      gi_wp2
      go_end0
      exact ⟨⟨_, rfl⟩, .inl ⟨_, rfl, hJs⟩⟩
end Go.Proofs.Ytnophjkiecalpaa
