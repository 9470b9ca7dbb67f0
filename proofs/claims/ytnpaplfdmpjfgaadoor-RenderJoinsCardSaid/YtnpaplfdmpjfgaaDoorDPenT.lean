/- The program's pen: a text is laid. -/
import Derived.Test.YtnpaplfdmpjfgaaDoorDPenF
import Derived.IntWalk
namespace Go.Proofs.YtnpaplfdmpjfgaaDoor
open Go.RowKit

/-- What a step of the pen leaves, by what is laid. -/
def PLaid (B b : Nat) (w : World) (V : Value) (c : Cfg) (M : Int) (o : Option Pen) (e : Ending) (w' : World) : Prop :=
  e = .returned (.tuple #[]) ∧ ∃ V' q' lg', PenAt B w' b V' (pfOf c q' lg') q'.out ∧ Moved b V w V' w' ∧ Inv M q' ∧ Sim o q' lg'
def liveO (lg : Bool) (o : Option Pen) : Option Pen := if lg then none else o
theorem sim_live {o : Option Pen} {q : Pen} {lg : Bool} (h : ∀ p, o = some p → q = p) (h2 : o ≠ none) : Sim (liveO lg o) q lg := by
  cases lg with
  | true => rfl
  | false =>
    cases o with
    | none => exact absurd rfl h2
    | some p => exact ⟨h p rfl, rfl⟩
theorem sim_dead {o : Option Pen} {q : Pen} {lg : Bool} (h : o = none) : Sim (liveO lg o) q true := by
  subst h
  unfold liveO
  split <;> rfl
theorem blen_same (B b : Nat) (V : Value) (f : PF) (bs : List UInt8) (w : World) (h : PenAt B w b V f bs) : Calls Tryd.prog 88 #[.pointer (some ⟨b, 0, none⟩)] w fun e w' => e = .returned (.int .i64 bs.length) ∧ w' = w :=
  (blen_any B b V f bs w h).mono fun _ _ ⟨h1, h2⟩ => ⟨h1, h2.symm⟩
def blanksB (n : Int) : ByteArray := ⟨(List.replicate n.toNat 32).toArray⟩
theorem blanks_rep (n : Nat) : Lib.repeatL (ByteArray.data ⟨#[32]⟩).toList n = List.replicate n 32 := by
  induction n with
  | zero => rfl
  | succ n ih => simp [Lib.repeatL, ih, List.replicate_succ] at *
theorem blanks_size (n : Int) : (blanksB n).size = n.toNat := by
  show (List.replicate n.toNat (32 : UInt8)).toArray.size = _
  rw [List.size_toArray, List.length_replicate]
theorem repeat_any (n : Int) (h0 : 0 ≤ n) (h1 : n ≤ 140737488355328) (w : World) : Calls Tryd.prog 89 #[.string ⟨#[32]⟩, .int .i64 n] w fun e w' => e = .returned (.string (blanksB n)) ∧ Below w.heap.size w w' := by
  have h := Tryd.strings_Repeat ⟨#[32]⟩ n.toNat w (by omega) (by show 1 * n.toNat ≤ _; omega)
  rw [show ((n.toNat : Nat) : Int) = n by omega, blanks_rep] at h
  exact h
theorem set_own {w : World} {B e size n b i : Nat} {v u : Value} {xs : List Value} (h : w.ownsRow B e size v n xs) (hne : v.ownBlock ≠ some b) : (w.setCell ⟨b, i, none⟩ u).ownsRow B e size v n xs :=
  h.kept (row := some b) ⟨rfl, rfl, rfl, by simp [World.setCell], fun k _ hk => Below.heap_setCell _ _ _ _ (fun e => hk (by simp [e]))⟩ (Or.inr hne)

set_option maxRecDepth 100000 in
set_option maxHeartbeats 4000000 in
theorem ptext_any (B b : Nat) (V : Value) (c : Cfg) (q : Pen) (lg : Bool) (s : ByteArray) (base M : Int) (fresh : Bool) (w : World) (h : PenAt B w b V (pfOf c q lg) q.out) (hi : Inv M q) (hf : FOk c q base fresh) (hM : M ≤ 1099511627776) (hb : base ≤ M) (hs : s.size ≤ 1073741824) :
    Calls Tryd.prog 69 #[.pointer (some ⟨b, 0, none⟩), .string s, .agg #[.int .i64 base, .bool fresh]] w (PLaid B b w V c (M + s.size) (liveO lg (put c q s base fresh))) := by
  obtain ⟨s0, s1, hb0, hs0⟩ := spot_new w (.int .i64 base) (.bool fresh)
  obtain ⟨W, hW⟩ : ∃ W, w.alloc (.cells #[.int .i64 base, .bool fresh] 70) = W := ⟨_, rfl⟩
  rw [hW] at s0 s1 hb0 hs0
  have h1 := h.later hb0
  have HC := Lib.hid (pbegins_any B b V c q lg base fresh W h1)
  have hbM := begins_M (c := c) (fresh := fresh) hi hb
  have hbL := begins_le hf
  have HO := Lib.hid (opened_inv hi hf hb)
  have HI := Lib.hid hi
  have HF := Lib.hid hf
  obtain ⟨i1, i2, i3, i4, i5, _, _, i8⟩ := hi
  have HB := Lib.hid hb0
  have HP := Lib.hid h1
  have hlt := h.lt
  clear h h1 hb0 hf
  go_enter Tryd.func69, Tryd.ntmps69
  go_wp2_with fail
  refine HC.out.mono ?_
  rintro e w1 ⟨rfl, hb1⟩
  have hp1 := HP.out.later hb1
  obtain ⟨-, -, -, -, d5, d6, d7, -, d9, -, fz⟩ := hp1.cells
  simp only [pfOf] at d5 d6 d7 d9
  have f5 := fz 5
  have f6 := fz 6
  have f7 := fz 7
  have f9 := fz 9
  have HP1 := Lib.hid hp1
  have HM1 := Lib.hid (Moved.of_below (b := b) (V := V) (HB.out.trans (hb1.mono (by omega))))
  clear hp1 fz hb1 s0 s1 hW
  go_upto_region 2 with (fail)
  go_still_tail 13, (by kernel_rfl)
  change wpList _ _ _ _ _ w1.drew
  generalize hgb : begins c q base fresh = b0 at hbM hbL ⊢
  have HGB := Lib.hid hgb
  clear hgb
  cases hop : q.op with
  | true =>
    rw [hop] at d9
    go_upto_region 6 with (fail)
    have hp5 : PenAt B (((w1.setCell ⟨b, 7, none⟩ (.int .i64 (q.owed + (b0 - q.col)))).setCell ⟨b, 5, none⟩ (.int .i64 b0)).drew) b V (pfOf c (opened c q base fresh) lg) q.out := by
      have k1 := HP1.out.set { pfOf c q lg with ow := q.owed + (b0 - q.col) } 7 (.int .i64 (q.owed + (b0 - q.col))) (fun P => rfl)
      have k2 := k1.set { pfOf c q lg with ow := q.owed + (b0 - q.col), cl := b0 } 5 (.int .i64 b0) (fun P => rfl)
      have hpf : ({ pfOf c q lg with ow := q.owed + (b0 - q.col), cl := b0 } : PF) = pfOf c (opened c q base fresh) lg := by
        simp only [pfOf, opened, firstC, hop, if_true, HGB.out]
        congr 1
        omega
      rw [hpf] at k2
      exact ⟨k2.base, k2.blk, k2.own⟩
    have hm5 : Moved b V w V (((w1.setCell ⟨b, 7, none⟩ (.int .i64 (q.owed + (b0 - q.col)))).setCell ⟨b, 5, none⟩ (.int .i64 b0)).drew) := by
      have := (HM1.out.set 7 (.int .i64 (q.owed + (b0 - q.col)))).set 5 (.int .i64 b0)
      exact ⟨⟨this.1.os, this.1.tape, this.1.output, this.1.size, this.1.block⟩, this.2⟩
    generalize (((w1.setCell ⟨b, 7, none⟩ (.int .i64 (q.owed + (b0 - q.col)))).setCell ⟨b, 5, none⟩ (.int .i64 b0)).drew) = W5 at hp5 hm5 ⊢
    have hcol : (opened c q base fresh).col = b0 := HGB.out
    have HO5 := Lib.hid HO.out
    have HPUT := Lib.hid (show put c q s base fresh = if s.size = 0 then some (opened c q base fresh) else if 16777216 < q.out.length + (opened c q base fresh).owed.toNat + s.size then none else some { opened c q base fresh with out := q.out ++ List.replicate (opened c q base fresh).owed.toNat 32 ++ s.data.toList, owed := 0, col := (opened c q base fresh).col + cols s } from rfl)
    have HINV := Lib.hid (fun q' hq => put_inv (c := c) (s := s) (q := q') HI.out HF.out hb hq)
    generalize hp1 : opened c q base fresh = p1 at HO5 HPUT hp5 hcol
    have HP5 := Lib.hid hp5
    have HM5 := Lib.hid hm5
    have hout : p1.out = q.out := by rw [← hp1]; rfl
    have HOUT := Lib.hid hout
    have HP1E := Lib.hid hp1
    obtain ⟨j1, j2, j3, -, -, -, -, j8⟩ := HO5.out
    obtain ⟨-, -, -, -, d5, -, d7, -, -, d10, fz⟩ := hp5.cells
    simp only [pfOf] at d5 d7 d10
    have f5 := fz 5
    have f7 := fz 7
    have f10 := fz 10
    have HCOL := Lib.hid hcol
    clear hp1 hp5 hm5 fz d9 f6 f9 hop HM1 HP1 HP HB HC HGB hcol hout
    by_cases hs0' : s.size = 0
    · have e1 : s.toList.isEmpty = true := by rw [isEmpty_size, hs0']; rfl
      have HR := Lib.hid (show put c q s base fresh = some p1 by rw [HPUT.out, if_pos hs0'])
      clear hs0'
      go_wp2
      go_end0
      exact ⟨rfl, V, p1, lg, by rw [HOUT.out]; exact HP5.out, HM5.out, HO5.out.mono (by omega), by rw [HR.out]; exact sim_live (fun p hp => (Option.some.inj hp)) (fun h => nomatch h)⟩
    · have e1 : s.toList.isEmpty = false := by rw [isEmpty_size]; simpa using hs0'
      go_upto_region 7 with (fail)
      have hw1 : IntKind.i64.wrap ((q.out.length : Int) + p1.owed) = (q.out.length : Int) + p1.owed := IntWalk.i64_in _ (by omega)
      have hw2 : IntKind.i64.wrap ((q.out.length : Int) + p1.owed + (s.size : Int)) = (q.out.length : Int) + p1.owed + (s.size : Int) := IntWalk.i64_in _ (by omega)
      by_cases hbig : 16777216 < q.out.length + p1.owed.toNat + s.size
      · have g1 : decide (16777216 < (q.out.length : Int) + p1.owed + (s.size : Int)) = true := decide_eq_true (by omega)
        have HR := Lib.hid (show put c q s base fresh = none by rw [HPUT.out, if_neg hs0', if_pos hbig])
        clear hbig hs0'
        go_quiet ((go_at_call 88; exact Calls.quiet_of_same (blen_same B b V (pfOf c p1 lg) q.out _ ⟨HP5.out.base, HP5.out.blk, HP5.out.own⟩)))
        clear hw1 hw2
        go_wp2
        go_end0
        have k := HP5.out.set (pfOf c p1 true) 10 (.bool true) (fun P => rfl)
        have hm := HM5.out.set 10 (.bool true)
        exact ⟨rfl, V, p1, true, by rw [HOUT.out]; exact ⟨k.base, k.blk, k.own⟩, ⟨⟨hm.1.os, hm.1.tape, hm.1.output, hm.1.size, hm.1.block⟩, hm.2⟩, HO5.out.mono (by omega), sim_dead HR.out⟩
      · have g1 : decide (16777216 < (q.out.length : Int) + p1.owed + (s.size : Int)) = false := decide_eq_false (by omega)
        have HR := Lib.hid (show put c q s base fresh = some { p1 with out := q.out ++ List.replicate p1.owed.toNat 32 ++ s.data.toList, owed := 0, col := p1.col + cols s } by rw [HPUT.out, if_neg hs0', if_neg hbig])
        have hsm : q.out.length + p1.owed.toNat + s.size ≤ 16777216 := by omega
        clear hbig hs0'
        go_quiet ((go_at_call 88; exact Calls.quiet_of_same (blen_same B b V (pfOf c p1 lg) q.out _ ⟨HP5.out.base, HP5.out.blk, HP5.out.own⟩)))
        clear hw1 hw2
        go_upto_region 9 with (fail)
        have hm6 : Moved b V w V (W5.drewN nq) := ⟨⟨HM5.out.1.os, HM5.out.1.tape, HM5.out.1.output, HM5.out.1.size, HM5.out.1.block⟩, HM5.out.2⟩
        have hp6 : PenAt B (W5.drewN nq) b V (pfOf c p1 lg) q.out := ⟨HP5.out.base, HP5.out.blk, HP5.out.own⟩
        generalize W5.drewN nq = W6 at hp6 hm6 ⊢
        obtain ⟨-, -, -, -, c5, -, c7, -, -, -, -⟩ := hp6.cells
        simp only [pfOf] at c5 c7
        have HM6 := Lib.hid hm6
        have HP6 := Lib.hid hp6
        clear hm6 hp6 d5 d7 f5 f7 f10 d10
        go_region_held3 (fun w' : World => w'.cell? ⟨b, 7, none⟩ = some (.int .i64 p1.owed))
          (first | exact c7 | exact (hb7.cell (p := ⟨b, 7, none⟩) HP6.out.lt).trans c7 | exact hp8.cells.c7)
          (first | (go_at_call 89; refine (repeat_any p1.owed j1 (by omega) W6.drew).mono ?_; rintro e w7 ⟨rfl, hb7⟩) | (go_at_call 64; refine (bstring_any B b V (pfOf c p1 lg) q.out (blanksB p1.owed) _ (PenAt.later (w := W6.drew) ⟨HP6.out.base, HP6.out.blk, HP6.out.own⟩ hb7) (by rw [blanks_size]; omega)).mono ?_; rintro e w8 ⟨rfl, V8, f8, bs8, hp8, hm8, rfl, rfl⟩))
        rename_i hH
        clear hH
        have HM7 := Lib.hid (HM6.out.trans (Moved.of_below (Below.trans (Below.drew (Below.refl _ _)) hb7)))
        have HM8 := Lib.hid (HM7.out.trans hm8)
        have hl8 : (q.out ++ (blanksB p1.owed).data.toList).length = q.out.length + p1.owed.toNat := by rw [List.length_append, data_len, blanks_size]
        have HC8 := Lib.hid (bstring_any B b V8 (pfOf c p1 lg) _ s w8 hp8 (by rw [hl8]; omega))
        clear hp8 hm8 HM7 c5 c7 hl8 hb7 HP6 HM6
        go_wp2_with fail
        refine HC8.out.mono ?_
        rintro e w9 ⟨rfl, V9, f9, bs9, hp9, hm9, rfl, rfl⟩
        have HM9 := Lib.hid (HM8.out.trans hm9)
        obtain ⟨-, -, -, -, c5, -, c7, -, -, -, fz⟩ := hp9.cells
        simp only [pfOf] at c5 c7
        have f5 := fz 5
        have f7 := fz 7
        have HP9 := Lib.hid hp9
        clear fz hp9 hm9 HC8 HM8
        go_upto_region 12 with (fail)
        have k10 := HP9.out.set (pfOf c { p1 with owed := 0 } lg) 7 (.int .i64 0) (fun P => rfl)
        have m10 := HM9.out.set 7 (.int .i64 0)
        generalize w9.setCell ⟨b, 7, none⟩ (.int .i64 0) = W10 at k10 m10 ⊢
        obtain ⟨-, -, -, -, g5, -, -, -, -, -, gz⟩ := k10.cells
        simp only [pfOf] at g5
        have gf := gz 5
        have hlt10 := k10.lt
        have HP10 := Lib.hid k10
        have HM10 := Lib.hid m10
        have hwc : IntKind.i64.wrap (p1.col + cols s) = p1.col + cols s := IntWalk.i64_in _ (by have := cols_nn s; have := cols_le s; omega)
        clear c5 c7 f5 f7 gz k10 m10 HP9 HM9
        go_region_with (go_at_call 59; refine (runes_any s (by omega) _).mono ?_; rintro e w11 ⟨rfl, hb11⟩; have g5' := (hb11.cell (p := ⟨b, 5, none⟩) (by simpa using hlt10)).trans g5; have gf' := (hb11.frozen (p := ⟨b, 5, none⟩) (by simpa using hlt10)).trans gf)
        all_goals
          clear hwc
          go_wp2
          go_end0
          have k11 := (PenAt.later (w := W10.drew) ⟨HP10.out.base, HP10.out.blk, HP10.out.own⟩ hb11).set (pfOf c { p1 with out := q.out ++ List.replicate p1.owed.toNat 32 ++ s.data.toList, owed := 0, col := p1.col + cols s } lg) 5 (.int .i64 (p1.col + cols s)) (fun P => rfl)
          have m11 := (HM10.out.trans (Moved.of_below (Below.trans (Below.drew (Below.refl _ _)) hb11))).set 5 (.int .i64 (p1.col + cols s))
          exact ⟨rfl, V9, { p1 with out := q.out ++ List.replicate p1.owed.toNat 32 ++ s.data.toList, owed := 0, col := p1.col + cols s }, lg, k11, m11, HINV.out _ HR.out, by rw [HR.out]; exact sim_live (fun p hp => Option.some.inj hp) (fun h => nomatch h)⟩
  | false =>
    rw [hop] at d9
    go_upto_region 6 with (fail)
    have hp5 : PenAt B (((((w1.setCell ⟨b, 7, none⟩ (.int .i64 (q.owed + (b0 - q.col)))).setCell ⟨b, 5, none⟩ (.int .i64 b0)).setCell ⟨b, 9, none⟩ (.bool true)).setCell ⟨b, 6, none⟩ (.int .i64 b0)).drew) b V (pfOf c (opened c q base fresh) lg) q.out := by
      have k1 := HP1.out.set { pfOf c q lg with ow := q.owed + (b0 - q.col) } 7 (.int .i64 (q.owed + (b0 - q.col))) (fun P => rfl)
      have k2 := k1.set { pfOf c q lg with ow := q.owed + (b0 - q.col), cl := b0 } 5 (.int .i64 b0) (fun P => rfl)
      have k3 := k2.set { pfOf c q lg with ow := q.owed + (b0 - q.col), cl := b0, op := true } 9 (.bool true) (fun P => rfl)
      have k4 := k3.set { pfOf c q lg with ow := q.owed + (b0 - q.col), cl := b0, op := true, st := b0 } 6 (.int .i64 b0) (fun P => rfl)
      have hpf : ({ pfOf c q lg with ow := q.owed + (b0 - q.col), cl := b0, op := true, st := b0 } : PF) = pfOf c (opened c q base fresh) lg := by
        simp only [pfOf, opened, firstC, hop, Bool.false_eq_true, if_false, HGB.out]
        congr 1
        omega
      rw [hpf] at k4
      exact ⟨k4.base, k4.blk, k4.own⟩
    have hm5 : Moved b V w V (((((w1.setCell ⟨b, 7, none⟩ (.int .i64 (q.owed + (b0 - q.col)))).setCell ⟨b, 5, none⟩ (.int .i64 b0)).setCell ⟨b, 9, none⟩ (.bool true)).setCell ⟨b, 6, none⟩ (.int .i64 b0)).drew) := by
      have := (((HM1.out.set 7 (.int .i64 (q.owed + (b0 - q.col)))).set 5 (.int .i64 b0)).set 9 (.bool true)).set 6 (.int .i64 b0)
      exact ⟨⟨this.1.os, this.1.tape, this.1.output, this.1.size, this.1.block⟩, this.2⟩
    generalize (((((w1.setCell ⟨b, 7, none⟩ (.int .i64 (q.owed + (b0 - q.col)))).setCell ⟨b, 5, none⟩ (.int .i64 b0)).setCell ⟨b, 9, none⟩ (.bool true)).setCell ⟨b, 6, none⟩ (.int .i64 b0)).drew) = W5 at hp5 hm5 ⊢
    have hcol : (opened c q base fresh).col = b0 := HGB.out
    have HO5 := Lib.hid HO.out
    have HPUT := Lib.hid (show put c q s base fresh = if s.size = 0 then some (opened c q base fresh) else if 16777216 < q.out.length + (opened c q base fresh).owed.toNat + s.size then none else some { opened c q base fresh with out := q.out ++ List.replicate (opened c q base fresh).owed.toNat 32 ++ s.data.toList, owed := 0, col := (opened c q base fresh).col + cols s } from rfl)
    have HINV := Lib.hid (fun q' hq => put_inv (c := c) (s := s) (q := q') HI.out HF.out hb hq)
    generalize hp1 : opened c q base fresh = p1 at HO5 HPUT hp5 hcol
    have HP5 := Lib.hid hp5
    have HM5 := Lib.hid hm5
    have hout : p1.out = q.out := by rw [← hp1]; rfl
    have HOUT := Lib.hid hout
    have HP1E := Lib.hid hp1
    obtain ⟨j1, j2, j3, -, -, -, -, j8⟩ := HO5.out
    obtain ⟨-, -, -, -, d5, -, d7, -, -, d10, fz⟩ := hp5.cells
    simp only [pfOf] at d5 d7 d10
    have f5 := fz 5
    have f7 := fz 7
    have f10 := fz 10
    have HCOL := Lib.hid hcol
    clear hp1 hp5 hm5 fz d9 f6 f9 hop HM1 HP1 HP HB HC HGB hcol hout
    by_cases hs0' : s.size = 0
    · have e1 : s.toList.isEmpty = true := by rw [isEmpty_size, hs0']; rfl
      have HR := Lib.hid (show put c q s base fresh = some p1 by rw [HPUT.out, if_pos hs0'])
      clear hs0'
      go_wp2
      go_end0
      exact ⟨rfl, V, p1, lg, by rw [HOUT.out]; exact HP5.out, HM5.out, HO5.out.mono (by omega), by rw [HR.out]; exact sim_live (fun p hp => (Option.some.inj hp)) (fun h => nomatch h)⟩
    · have e1 : s.toList.isEmpty = false := by rw [isEmpty_size]; simpa using hs0'
      go_upto_region 7 with (fail)
      have hw1 : IntKind.i64.wrap ((q.out.length : Int) + p1.owed) = (q.out.length : Int) + p1.owed := IntWalk.i64_in _ (by omega)
      have hw2 : IntKind.i64.wrap ((q.out.length : Int) + p1.owed + (s.size : Int)) = (q.out.length : Int) + p1.owed + (s.size : Int) := IntWalk.i64_in _ (by omega)
      by_cases hbig : 16777216 < q.out.length + p1.owed.toNat + s.size
      · have g1 : decide (16777216 < (q.out.length : Int) + p1.owed + (s.size : Int)) = true := decide_eq_true (by omega)
        have HR := Lib.hid (show put c q s base fresh = none by rw [HPUT.out, if_neg hs0', if_pos hbig])
        clear hbig hs0'
        go_quiet ((go_at_call 88; exact Calls.quiet_of_same (blen_same B b V (pfOf c p1 lg) q.out _ ⟨HP5.out.base, HP5.out.blk, HP5.out.own⟩)))
        clear hw1 hw2
        go_wp2
        go_end0
        have k := HP5.out.set (pfOf c p1 true) 10 (.bool true) (fun P => rfl)
        have hm := HM5.out.set 10 (.bool true)
        exact ⟨rfl, V, p1, true, by rw [HOUT.out]; exact ⟨k.base, k.blk, k.own⟩, ⟨⟨hm.1.os, hm.1.tape, hm.1.output, hm.1.size, hm.1.block⟩, hm.2⟩, HO5.out.mono (by omega), sim_dead HR.out⟩
      · have g1 : decide (16777216 < (q.out.length : Int) + p1.owed + (s.size : Int)) = false := decide_eq_false (by omega)
        have HR := Lib.hid (show put c q s base fresh = some { p1 with out := q.out ++ List.replicate p1.owed.toNat 32 ++ s.data.toList, owed := 0, col := p1.col + cols s } by rw [HPUT.out, if_neg hs0', if_neg hbig])
        have hsm : q.out.length + p1.owed.toNat + s.size ≤ 16777216 := by omega
        clear hbig hs0'
        go_quiet ((go_at_call 88; exact Calls.quiet_of_same (blen_same B b V (pfOf c p1 lg) q.out _ ⟨HP5.out.base, HP5.out.blk, HP5.out.own⟩)))
        clear hw1 hw2
        go_upto_region 9 with (fail)
        have hm6 : Moved b V w V (W5.drewN nq) := ⟨⟨HM5.out.1.os, HM5.out.1.tape, HM5.out.1.output, HM5.out.1.size, HM5.out.1.block⟩, HM5.out.2⟩
        have hp6 : PenAt B (W5.drewN nq) b V (pfOf c p1 lg) q.out := ⟨HP5.out.base, HP5.out.blk, HP5.out.own⟩
        generalize W5.drewN nq = W6 at hp6 hm6 ⊢
        obtain ⟨-, -, -, -, c5, -, c7, -, -, -, -⟩ := hp6.cells
        simp only [pfOf] at c5 c7
        have HM6 := Lib.hid hm6
        have HP6 := Lib.hid hp6
        clear hm6 hp6 d5 d7 f5 f7 f10 d10
        go_region_held3 (fun w' : World => w'.cell? ⟨b, 7, none⟩ = some (.int .i64 p1.owed))
          (first | exact c7 | exact (hb7.cell (p := ⟨b, 7, none⟩) HP6.out.lt).trans c7 | exact hp8.cells.c7)
          (first | (go_at_call 89; refine (repeat_any p1.owed j1 (by omega) W6.drew).mono ?_; rintro e w7 ⟨rfl, hb7⟩) | (go_at_call 64; refine (bstring_any B b V (pfOf c p1 lg) q.out (blanksB p1.owed) _ (PenAt.later (w := W6.drew) ⟨HP6.out.base, HP6.out.blk, HP6.out.own⟩ hb7) (by rw [blanks_size]; omega)).mono ?_; rintro e w8 ⟨rfl, V8, f8, bs8, hp8, hm8, rfl, rfl⟩))
        rename_i hH
        clear hH
        have HM7 := Lib.hid (HM6.out.trans (Moved.of_below (Below.trans (Below.drew (Below.refl _ _)) hb7)))
        have HM8 := Lib.hid (HM7.out.trans hm8)
        have hl8 : (q.out ++ (blanksB p1.owed).data.toList).length = q.out.length + p1.owed.toNat := by rw [List.length_append, data_len, blanks_size]
        have HC8 := Lib.hid (bstring_any B b V8 (pfOf c p1 lg) _ s w8 hp8 (by rw [hl8]; omega))
        clear hp8 hm8 HM7 c5 c7 hl8 hb7 HP6 HM6
        go_wp2_with fail
        refine HC8.out.mono ?_
        rintro e w9 ⟨rfl, V9, f9, bs9, hp9, hm9, rfl, rfl⟩
        have HM9 := Lib.hid (HM8.out.trans hm9)
        obtain ⟨-, -, -, -, c5, -, c7, -, -, -, fz⟩ := hp9.cells
        simp only [pfOf] at c5 c7
        have f5 := fz 5
        have f7 := fz 7
        have HP9 := Lib.hid hp9
        clear fz hp9 hm9 HC8 HM8
        go_upto_region 12 with (fail)
        have k10 := HP9.out.set (pfOf c { p1 with owed := 0 } lg) 7 (.int .i64 0) (fun P => rfl)
        have m10 := HM9.out.set 7 (.int .i64 0)
        generalize w9.setCell ⟨b, 7, none⟩ (.int .i64 0) = W10 at k10 m10 ⊢
        obtain ⟨-, -, -, -, g5, -, -, -, -, -, gz⟩ := k10.cells
        simp only [pfOf] at g5
        have gf := gz 5
        have hlt10 := k10.lt
        have HP10 := Lib.hid k10
        have HM10 := Lib.hid m10
        have hwc : IntKind.i64.wrap (p1.col + cols s) = p1.col + cols s := IntWalk.i64_in _ (by have := cols_nn s; have := cols_le s; omega)
        clear c5 c7 f5 f7 gz k10 m10 HP9 HM9
        go_region_with (go_at_call 59; refine (runes_any s (by omega) _).mono ?_; rintro e w11 ⟨rfl, hb11⟩; have g5' := (hb11.cell (p := ⟨b, 5, none⟩) (by simpa using hlt10)).trans g5; have gf' := (hb11.frozen (p := ⟨b, 5, none⟩) (by simpa using hlt10)).trans gf)
        all_goals
          clear hwc
          go_wp2
          go_end0
          have k11 := (PenAt.later (w := W10.drew) ⟨HP10.out.base, HP10.out.blk, HP10.out.own⟩ hb11).set (pfOf c { p1 with out := q.out ++ List.replicate p1.owed.toNat 32 ++ s.data.toList, owed := 0, col := p1.col + cols s } lg) 5 (.int .i64 (p1.col + cols s)) (fun P => rfl)
          have m11 := (HM10.out.trans (Moved.of_below (Below.trans (Below.drew (Below.refl _ _)) hb11))).set 5 (.int .i64 (p1.col + cols s))
          exact ⟨rfl, V9, { p1 with out := q.out ++ List.replicate p1.owed.toNat 32 ++ s.data.toList, owed := 0, col := p1.col + cols s }, lg, k11, m11, HINV.out _ HR.out, by rw [HR.out]; exact sim_live (fun p hp => Option.some.inj hp) (fun h => nomatch h)⟩
end Go.Proofs.YtnpaplfdmpjfgaaDoor
