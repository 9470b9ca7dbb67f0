/- The law MarkNone, walked. -/
import Derived.Test.YtnophjkiecalpaaLaw6
namespace Go.Proofs.Ytnophjkiecalpaa
open Go.RowKit

/-- From address A on lie the strings ss, in a block below n₀. -/
def Strs (n₀ : Nat) (w : World) (A : Option Addr) (ss : List ByteArray) : Prop :=
  ∀ k s, ss[k]? = some s → ∃ b o, A = some ⟨b, o, none⟩ ∧ b < n₀ ∧ w.cell? ⟨b, o + k, none⟩ = some (.string s)
theorem Strs.below {B : Nat} {w w' : World} {A : Option Addr} {ss : List ByteArray} (h : Strs B w A ss) (hb : Below B w w') : Strs B w' A ss := fun k s hk => by
  obtain ⟨b, o, e, hlt, hc⟩ := h k s hk
  exact ⟨b, o, e, hlt, (hb.cell (p := ⟨b, o + k, none⟩) hlt).trans hc⟩

/-- The tokens that MarkNone makes. -/
def row1 (ss : List ByteArray) (line col : Int) : List Tok := ss.map fun s => ⟨1, s, line, col⟩
theorem row1_length (ss : List ByteArray) (line col : Int) : (row1 ss line col).length = ss.length := by simp [row1]
theorem row1_take (ss : List ByteArray) (line col : Int) (k : Nat) (h : k < ss.length) : row1 (ss.take (k + 1)) line col = row1 (ss.take k) line col ++ [⟨1, ss[k], line, col⟩] := by
  unfold row1
  rw [List.take_succ_eq_append_getElem h, List.map_append]
  rfl
theorem row1_mem {ss : List ByteArray} {line col : Int} {t : Tok} (h : t ∈ row1 ss line col) : t.kind = 1 ∧ t.line = line ∧ t.col = col ∧ t.text ∈ ss := by
  obtain ⟨s, hs, rfl⟩ := List.mem_map.1 h
  exact ⟨rfl, rfl, rfl, hs⟩

theorem same_len (A A' : Option Addr) (l : List Tok) (n n' c c' : Nat) (w : World) (hn : l.length ≤ 9223372036854775807) (e : n = l.length) (e' : n' = l.length) (h : Toks w.heap.size w A l) (h' : Toks w.heap.size w A' l) :
    Calls Try.prog 18 #[.slice A n c, .slice A' n' c'] w fun e w' => e = .returned (.bool true) ∧ Below w.heap.size w w' := by
  subst e e'
  exact same_any A A' l c c' w hn h h'

set_option maxRecDepth 100000 in
set_option maxHeartbeats 2000000 in
theorem markNone_any (A : Option Addr) (ss : List ByteArray) (c : Nat) (line col : Int) (w : World) (hlen : ss.length ≤ 1048576) (htx : ∀ s ∈ ss, s.size ≤ 1099511627776) (hln : (Lit.int .i64 line).wf = true) (h : Strs w.heap.size w A ss) :
    Calls Try.prog 8 #[.slice A ss.length c, .int .i64 line, .int .i64 col] w fun e w' => e = .returned (.bool true) ∧ Below w.heap.size w w' := by
  have hS := Lib.hid h
  clear h
  go_enter Try.func8, Try.ntmps8
  go_wp2_with fail
  refine (awake8_any _).mono ?_
  rintro e w1 ⟨rfl, hb1⟩
  have HLN := Lib.hid hln
  have HTX := Lib.hid htx
  clear hln htx
  go_wp2_with fail
  go_loopw [8, 9] (fun out i wr => ∃ k : Nat, k ≤ ss.length ∧ i = .int .i64 k ∧ wr.ownsRow w.heap.size 23 4 out (row1 (ss.take k) line col).length (flat (row1 (ss.take k) line col)) ∧ Below w.heap.size w wr) (fun _ i wr => ss.length - (intOf i).toNat)
  case atStart => exact ⟨0, by omega, rfl, World.ownsRow_nil _ _ _ _, hb1⟩
  case round =>
    obtain ⟨k, hk, rfl, hown, hB⟩ := hrel
    have hsz := hB.size
    by_cases hlt : k < ss.length
    · obtain ⟨b, o, rfl, hb, hc⟩ := (hS.out.below hB) k ss[k] (by simp [hlt])
      have hrl : (row1 (ss.take k) line col).length ≤ k := by rw [row1_length, List.length_take]; omega
      have HT := Lib.hid (row1_take ss line col k hlt)
      go_wp2_with (at_builtin; refine wpList_app1 rfl _ _ 26 rfl 23 _ 4 40 Try.underlying26 info23 rfl (by decide) wr (Tok.cells ⟨1, ss[k], line, col⟩) rfl _ rfl w.heap.size _ _ _ rfl hown rfl rfl (by simp [Tok.cells, Value.oneCell']) (by unfold maxLen; omega) (by omega) hsz ?_; intro g c w1 hown1 hB1 _ _)
      go_roundw
      case rel => exact ⟨k + 1, by omega, by go_num, own_add hown1 HT.out, hB.trans hB1⟩
      case measure => simp [intOf]; omega
    · obtain rfl : k = ss.length := by omega
      rw [List.take_length] at hown
      have hrl := row1_length ss line col
      have hmem : ∀ t ∈ row1 ss line col, t.kind = 1 ∧ t.line = line ∧ t.col = col ∧ t.text ∈ ss := fun t ht => row1_mem ht
      generalize row1 ss line col = l at *
      have hl : Lines l := fun t ht => by rw [(hmem t ht).2.1]; exact HLN.out
      have hlx : ∀ t ∈ l, t.text.size ≤ 1099511627776 := fun t ht => HTX.out _ (hmem t ht).2.2.2
      obtain ⟨A1, c1, e1, hT1⟩ := isToks_of_own hown
      have hle := progAll_le l
      have hpe := Lib.hid (progAll_eq l hl)
      have HMEM := Lib.hid hmem
      have HL := Lib.hid hl
      have HLX := Lib.hid hlx
      have HT1 := Lib.hid hT1
      rw [e1]
      have hll : l.length ≤ 1048576 := by omega
      clear hmem hl hlx hT1 hown e1
      rw [← hrl]
      clear hrl
      go_wp2_with fail
      refine (mark_own A1 l c1 _ hll HLX.out HT1.out).mono ?_
      rintro e w2 ⟨v, rfl, ⟨base, hv⟩, hb2⟩
      have hB2 := hB.trans (hb2.mono hsz)
      by_cases h0 : l.length = 0
      · have he : l = [] := List.eq_nil_of_length_eq_zero h0
        subst he
        have hp : progAll [] = [markTok 16 tk0] := rfl
        rw [hp] at hv
        obtain ⟨A2, c2, rfl, hT2⟩ := isToks_of_own hv
        obtain ⟨b, o, rfl, hb, hc⟩ := hT2 0 (markTok 16 tk0) rfl
        obtain ⟨g1, g2, g3, g4⟩ := hc
        simp only [Nat.zero_mul, Nat.add_zero] at g1 g2 g3 g4
        clear hv hpe hp
        go_wp2_with fail
        go_ret
        exact ⟨ret_bool (by simp [eqTok, markTok, tk0]), hB2⟩
      · have h0i : ((l.length : Int) == 0) = false := by simpa using h0
        have hflat : progAll l = markTok 16 (tk l 0) :: l := by rw [hpe.out]; exact markAll_flat l line (fun e => h0 (by rw [e]; rfl)) (fun t ht => ⟨(HMEM.out t ht).1, (HMEM.out t ht).2.1⟩)
        rw [hflat] at hv
        obtain ⟨g, cap, rfl⟩ := ownsRow_succ hv
        have hcap : l.length + 1 ≤ cap := by
          rcases hv.2 with ⟨e, _⟩ | ⟨g', cap', cur, e, _, _, hcap, _⟩
          · cases e
          · cases e
            exact hcap
        have hT2 := isToks_of_own hv
        have hT3 : Toks w2.heap.size w2 (some ⟨g, 4, none⟩) l := by
          obtain ⟨A2, c2, e2, hT2⟩ := isToks_of_own hv
          simp only [Value.slice.injEq] at e2
          obtain ⟨rfl, _, _⟩ := e2
          intro k t hk
          obtain ⟨b, o, e, hb, hc⟩ := hT2 (k + 1) t (by simpa using hk)
          simp only [Option.some.injEq, Addr.mk.injEq, and_true] at e
          obtain ⟨rfl, rfl⟩ := e
          exact ⟨g, 4, rfl, hb, by rw [show 4 + k * 4 = 0 + (k + 1) * 4 by omega]; exact hc⟩
        obtain ⟨A2, c2, e2, hT2⟩ := isToks_of_own hv
        simp only [Value.slice.injEq] at e2
        obtain ⟨rfl, _, _⟩ := e2
        obtain ⟨b, o, e, hb, hc⟩ := hT2 0 (markTok 16 (tk l 0)) rfl
        simp only [Option.some.injEq, Addr.mk.injEq, and_true] at e
        obtain ⟨rfl, rfl⟩ := e
        have g1 := hc.kind
        simp only [Nat.zero_mul, Nat.add_zero] at g1
        have HT3 := Lib.hid hT3
        have HT4 := Lib.hid ((HT1.out.below hb2).mono hb2.size)
        clear hT2 hT3 hc hv hpe hflat
        have hq5 : 1 ≤ l.length := by omega
        clear h0
        dsimp only
        obtain ⟨n1, hn1⟩ : ∃ n1, l.length + 1 = n1 := ⟨_, rfl⟩
        rw [hn1] at hcap ⊢
        have hq1 : ((n1 : Int) == (l.length : Int) + 1) = true := by rw [beq_iff_eq]; omega
        have hq2 : 2 ≤ n1 := by omega
        have hq4 : ¬ c2 = 1 := by omega
        have hq3 : n1 ≤ 1048577 := by omega
        have HN1 := Lib.hid hn1
        clear hn1
        go_wp2_with fail
        refine (same_len (some ⟨g, 4, none⟩) A1 l _ _ _ _ _ (by omega) (by have := HN1.out; omega) rfl HT3.out HT4.out).mono ?_
        rintro e w3 ⟨rfl, hb3⟩
        go_wp2
        go_ret
        exact ⟨rfl, hB2.trans (hb3.mono (Nat.le_trans hsz hb2.size))⟩
end Go.Proofs.Ytnophjkiecalpaa
