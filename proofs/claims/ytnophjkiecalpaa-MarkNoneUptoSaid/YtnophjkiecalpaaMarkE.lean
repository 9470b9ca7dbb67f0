/- Mark: the tokens with marks, as the program lays them. Some lines of the loop's body are printed by a small program (wip/A/gen10.py). -/
import Derived.Test.YtnophjkiecalpaaRound
namespace Go.Proofs.Ytnophjkiecalpaa
open Go.RowKit Go.Shelf

attribute [local go_sem] Oper.semAt_some

set_option maxHeartbeats 1000000 in
theorem steps_in (n : Nat) (A : Option Addr) (len c : Nat) (w : World) :
    CallsIn Fence.wide n Try.prog 32 #[.slice A len c] w fun e w' => e = .returned (.func (.func 47) #[] #[.pointer (some ⟨w.heap.size, 0, none⟩)]) ∧ w' = w.alloc (.cells #[.slice A len c] 26) := by
  refine callsIn_of_wp Try.func32 rfl trivial ?_ rfl
  simp only [Try.ntmps32, List.size_toArray, List.length_cons, List.length_nil, Nat.reduceAdd, Nat.reduceSub, Array.replicate_succ, Array.replicate_zero, List.push_toArray, List.append_toArray, List.nil_append, List.cons_append]
  gi_wp2
  go_ret
  exact ⟨rfl, rfl⟩

/-- What the iterator asks of a round. -/
def KpS (n₀ Bs : Nat) (W W' : World) : Prop := Below n₀ W W' ∧ W'.cell? ⟨Bs, 0, none⟩ = W.cell? ⟨Bs, 0, none⟩
theorem KpS.trans {n₀ Bs : Nat} {A B C : World} (h : KpS n₀ Bs A B) (k : KpS n₀ Bs B C) : KpS n₀ Bs A C := ⟨h.1.trans k.1, k.2.trans h.2⟩
theorem KpS.put {n₀ Bs : Nat} {w : World} (hn : n₀ ≤ w.heap.size) (hb : Bs < w.heap.size) (W : World) (l : Nat) (o o' : Obj) (hl : w.heap.size ≤ l) (h : W.heap[l]? = some o) (hc : o.isCells = false) (hw : o.isWalk = false) : KpS n₀ Bs W (W.putObj l o') := by
  refine ⟨belowK_b hn W l o o' hl h hc hw, World.cell?_of_block ?_⟩
  exact (grownBy_putObj' W l o').block Bs (by have := (Array.getElem?_eq_some_iff.1 h).1; omega) (by intro e; cases e; omega)

theorem steps_stops (n : Nat) (hn : 2 ≤ n) (Bs n₀ : Nat) (A : Option Addr) (l : List Tok) (c : Nat) (hlen : l.length ≤ 1048576) (htx : ∀ t ∈ l, t.text.size ≤ 1099511627776) (w : World)
    (hBs : Bs < w.heap.size) (hn₀ : n₀ ≤ w.heap.size) (hcB : w.cell? ⟨Bs, 0, none⟩ = some (.slice A l.length c)) (hT : Toks n₀ w A l) :
    SeqStopsK Fence.wide n Try.prog 47 #[.pointer (some ⟨Bs, 0, none⟩)] (fun x : Fin l.length => #[.int .i64 (x.1 : Int), .int .i64 (markNo l x.1)]) (KpS n₀ Bs) (fun ys => ys = upto l l.length)
      (fun pre => ∃ k, k ≤ l.length ∧ pre = upto l k) l.length w := fun lp J Jx W hW hJ _ hY h0 => by
  have hsz := hW.size
  have hJ' : ∀ pre W1 W', J pre W1 → Below W1.heap.size W1 W' → J pre W' := fun pre W1 W' h1 h3 =>
    hJ pre W1 W' none h1 ⟨h3.os, h3.tape, h3.output, h3.size, fun k hk _ => h3.block k hk⟩ (fun r e => by cases e)
  exact steps1_in n hn lp Bs n₀ A l c hlen htx J Jx (fun pre W1 W' h1 _ h3 => hJ' pre W1 W' h1 h3)
    (fun pre x W1 hJ1 hl1 => hY pre x W1 hJ1 hl1) W (by omega) (by omega) ((hW.cell (p := ⟨Bs, 0, none⟩) hBs).trans hcB) (hT.below (hW.mono hn₀)) h0

def progOne (l : List Tok) (k : Nat) : List Tok := (if markNo l k = 0 then [] else [markTok (markNo l k) (tk l k)]) ++ [tk l k]
def flatM (l : List Tok) (pre : List (Fin l.length)) : List Tok := pre.flatMap fun x => progOne l x.1
theorem flatM_snoc (l : List Tok) (pre : List (Fin l.length)) (x : Fin l.length) : flatM l (pre ++ [x]) = flatM l pre ++ progOne l x.1 := by simp [flatM]
theorem flatM_le (l : List Tok) (pre : List (Fin l.length)) : (flatM l pre).length ≤ 2 * pre.length := by
  induction pre with
  | nil => simp [flatM]
  | cons x pre ih =>
    simp only [flatM, List.flatMap_cons, List.length_append, List.length_cons] at *
    have : (progOne l x.1).length ≤ 2 := by unfold progOne; split <;> simp
    omega
/-- All tokens with their marks, as the program lays them. -/
def progAll (l : List Tok) : List Tok := flatM l (upto l l.length) ++ if l.length = 0 ∨ opens (tk l (l.length - 1)) = true then [markTok 16 tk0] else []

/-- How the loop's variables stand when the tokens ys are laid; W0: the world in which the round began. -/
structure St (w : World) (A : Option Addr) (c : Nat) (l ys : List Tok) (W0 W : World) : Prop where
  out : ∃ v, Boxed W (w.heap.size + 1 + 1) 26 v ∧ W.ownsRow (w.heap.size + 1) 23 4 v ys.length (flat ys)
  below : Below w.heap.size w W
  bl : Boxed W w.heap.size 26 (.slice A l.length c)
  bs : Boxed W (w.heap.size + 1 + 1 + 1) 26 (.slice A l.length c)
  keeps : KeepsOthers W0 W
  belowW : Below w.heap.size W0 W
theorem St.drew {w : World} {A : Option Addr} {c : Nat} {l ys : List Tok} {W0 W : World} (h : St w A c l ys W0 W) : St w A c l ys W0 W.drew :=
  ⟨h.out, h.below.drew, h.bl, h.bs, h.keeps.trans (KeepsOthers.drew _), h.belowW.drew⟩

set_option maxRecDepth 100000 in
set_option maxHeartbeats 4000000 in
theorem mark_in (n : Nat) (hn : 5 ≤ n) (A : Option Addr) (l : List Tok) (c : Nat) (w : World) (hlen : l.length ≤ 1048576) (htx : ∀ t ∈ l, t.text.size ≤ 1099511627776) (h : Toks w.heap.size w A l) :
    CallsIn Fence.wide n Try.prog 19 #[.slice A l.length c] w fun e w' => ∃ v, e = .returned v ∧ (∃ base, w'.ownsRow base 23 4 v (progAll l).length (flat (progAll l))) ∧ Below w.heap.size w w' := by
  have h1 : 1 ≤ n := by omega
  obtain ⟨i0, hi, hz0, hz1, hz2⟩ := info_parts info23
  obtain ⟨MC, hMC, hmk⟩ : ∃ MC : Array Value, MC.size = (2 * l.length + 1) * 4 ∧ ∀ u : World, (Instr.makeSlice 26 (.int .i64 0) (.int .i64 (2 * (l.length : Int) + 1))).run Try.prog u =
      .ok (.slice (some ⟨u.heap.size, 0, none⟩) 0 (2 * l.length + 1)) (u.alloc (.cells MC 23)) := by
    refine ⟨madeCells _ _, size_madeCells (Value.cells (.agg #[.int .i64 0, .string .empty, .int .i64 0, .int .i64 0])) ((2 * l.length + 1) * 4), fun u => ?_⟩
    have h := run_make (P := Try.prog) u 26 23 i0 _ Try.underlying26 hi hz0 .i64 .i64 0 (2 * (l.length : Int) + 1) (by omega) (by omega) (by rw [hz2]; omega) (by omega)
    rw [hz1, show (2 * (l.length : Int) + 1).toNat = 2 * l.length + 1 from by omega] at h
    exact h
  refine callsIn_of_wp_marks Try.func19 rfl trivial ?_ rfl
  simp only [Try.ntmps19, List.size_toArray, List.length_cons, List.length_nil, Nat.reduceAdd, Nat.reduceSub, Array.replicate_succ, Array.replicate_zero, List.push_toArray, List.append_toArray, List.nil_append, List.cons_append]
  have HMC := Lib.hid hMC
  clear hMC
  gi_wp2_with fail
  refine ⟨trivial, (steps_in (n - 1) _ _ _ _).mono ?_⟩
  rintro e w' ⟨rfl, rfl⟩
  gi_wp2
  have s1 := World.size_alloc w (.cells #[.slice A l.length c] 26)
  have bL0 := Boxed.new w 26 (.slice A l.length c)
  have hB1 := (Below.refl w.heap.size w).alloc (Nat.le_refl _) (.cells #[.slice A l.length c] 26)
  generalize w.alloc (.cells #[.slice A l.length c] 26) = w1 at *
  have hO1 := World.ownsRow_made (base := w.heap.size + 1) (e := 23) (size := 4) w1 MC (2 * l.length + 1) (by omega) (by unfold maxLen; omega) HMC.out
  have s2 := World.size_alloc w1 (.cells MC 23)
  have bL1 := bL0.alloc (.cells MC 23)
  have hB2 := hB1.alloc (by omega) (.cells MC 23)
  generalize w1.alloc (.cells MC 23) = w2 at *
  rw [s1] at hO1 s2
  have bO0 := Boxed.new w2 26 (.slice (some ⟨w.heap.size + 1, 0, none⟩) 0 (2 * l.length + 1))
  have s3 := World.size_alloc w2 (.cells #[.slice (some ⟨w.heap.size + 1, 0, none⟩) 0 (2 * l.length + 1)] 26)
  have hO2 := hO1.alloc (.cells #[.slice (some ⟨w.heap.size + 1, 0, none⟩) 0 (2 * l.length + 1)] 26)
  have bL2 := bL1.alloc (.cells #[.slice (some ⟨w.heap.size + 1, 0, none⟩) 0 (2 * l.length + 1)] 26)
  have hB3 := hB2.alloc (by omega) (.cells #[.slice (some ⟨w.heap.size + 1, 0, none⟩) 0 (2 * l.length + 1)] 26)
  generalize w2.alloc (.cells #[.slice (some ⟨w.heap.size + 1, 0, none⟩) 0 (2 * l.length + 1)] 26) = w3 at *
  rw [s2] at bO0 s3
  have bO1 := bO0.alloc (.cells #[.slice A l.length c] 26)
  have bS := Boxed.new w3 26 (.slice A l.length c)
  have s4 := World.size_alloc w3 (.cells #[.slice A l.length c] 26)
  have hO3 := hO2.alloc (.cells #[.slice A l.length c] 26)
  have bL3 := bL2.alloc (.cells #[.slice A l.length c] 26)
  have hB4 := hB3.alloc (by omega) (.cells #[.slice A l.length c] 26)
  rw [s3] at bS s4
  generalize w3.alloc (.cells #[.slice A l.length c] 26) = w4 at *
  clear hO1 hO2 bL0 bL1 bL2 bO0 hB1 hB2 hB3 s1 s2 s3 hmk
  refine wpIn_rangeFunc_ownG rfl h1 (gf := 47) (lb := #[.pointer (some ⟨w.heap.size + 1 + 1 + 1, 0, none⟩)]) rfl trivial (enters_of Try.func47 (by kernel_rfl) rfl)
    (steps_stops (n - 1) (by omega) (w.heap.size + 1 + 1 + 1) w.heap.size A l c hlen htx w4 (by omega) (by omega) bS.cell (h.below hB4)) KpS.trans (KpS.put (by omega) (by omega)) (Below.refl _ _) (fun _ => rfl)
    (fun pre W => ((∃ v, Boxed W (w.heap.size + 1 + 1) 26 v ∧ W.ownsRow (w.heap.size + 1) 23 4 v (flatM l pre).length (flat (flatM l pre)) ∧ True) ∧ Below w.heap.size w W) ∧ (Boxed W w.heap.size 26 (.slice A l.length c) ∧ Boxed W (w.heap.size + 1 + 1 + 1) 26 (.slice A l.length c)))
    (fun _ _ _ => False)
    (OwnFrom.and (OwnFrom.and (Own.from (holdsRow_own (w.heap.size + 1) (w.heap.size + 1 + 1) 26 23 4 (fun pre => (flatM l pre).length) (fun pre => flat (flatM l pre)) (fun _ _ => True)) _) (ownFrom_below (Nat.le_refl _) (by omega))) (OwnFrom.and (Own.from (boxed_own _ _ _) _) (Own.from (boxed_own _ _ _) _)))
    (fun _ _ _ _ _ hs _ _ => hs)
    ⟨⟨⟨_, bO1, hO3, trivial⟩, hB4⟩, bL3, bS⟩
    (fun x => { tmps := #[.slice A l.length c, .pointer (some ⟨w.heap.size, 0, none⟩), .slice none 0 0, .pointer (some ⟨w.heap.size + 1 + 1, 0, none⟩), .int .i64 (x.1 : Int), .int .i64 (markNo l x.1), .slice A l.length c, .int .i64 (l.length : Int), .int .i64 (2 * (l.length : Int)), .int .i64 (2 * (l.length : Int) + 1), .slice (some ⟨w.heap.size + 1, 0, none⟩) 0 (2 * l.length + 1), .slice A l.length c, .func (.func 47) #[] #[.pointer (some ⟨w.heap.size + 1 + 1 + 1, 0, none⟩)], .int .i64 (x.1 : Int), .int .i64 (markNo l x.1), undef, undef, undef, undef, undef, undef, undef, undef, undef, undef, undef, undef, undef, undef, undef, undef, undef, undef, undef, undef, undef, undef, undef, undef, undef, undef, undef, undef, undef, undef, undef, undef, undef, undef, undef, undef, undef, undef, undef, undef, undef], defers := [] }) ?assign ?body ?done ?stop
  case assign =>
    intro lp x W K hK
    gi_wp2
    exact hK
  case body =>
    rintro lp pre x W0 ⟨⟨⟨v, hv, hrow, _⟩, hB⟩, hcl, hcs⟩ hlt
    have hst0 : St w A c l (flatM l pre) W0 W0 := ⟨⟨v, hv, hrow⟩, hB, hcl, hcs, KeepsOthers.refl _, Below.refl _ _⟩
    obtain ⟨b, o, rfl, hb, hT⟩ := h x.1 (tk l x.1) (tk_in x.2)
    have hxl := x.2
    have hfl := flatM_le l pre
    clear hv hrow hB hcl hcs
    by_cases hm : markNo l x.1 = 0
    · have hf : flatM l (pre ++ [x]) = flatM l pre ++ [tk l x.1] := by rw [flatM_snoc]; unfold progOne; rw [if_pos hm]; rfl
      have HF := Lib.hid hf
      clear hf
      gi_wp2
      refine wpIn_region_held (S := (fun w' : World => w'.cell? ⟨w.heap.size, 0, none⟩ = some (.slice (some ⟨b, o, none⟩) l.length c) ∧ w'.cell? ⟨b, o + x.1 * 4, none⟩ = some (.int .i64 (tk l x.1).kind) ∧ w'.cell? ⟨b, o + x.1 * 4 + 1, none⟩ = some (.string (tk l x.1).text) ∧ w'.cell? ⟨b, o + x.1 * 4 + 2, none⟩ = some (.int .i64 (tk l x.1).line) ∧ w'.cell? ⟨b, o + x.1 * 4 + 3, none⟩ = some (.int .i64 (tk l x.1).col))) (by kernel_rfl) (by kernel_rfl) (fun ⟨_, _, h⟩ => h) ?_
      obtain ⟨⟨v, hv, hrow⟩, hBw, hcl, hcs, hKO, hBW⟩ := hst0.drew
      have hS : (fun w' : World => w'.cell? ⟨w.heap.size, 0, none⟩ = some (.slice (some ⟨b, o, none⟩) l.length c) ∧ w'.cell? ⟨b, o + x.1 * 4, none⟩ = some (.int .i64 (tk l x.1).kind) ∧ w'.cell? ⟨b, o + x.1 * 4 + 1, none⟩ = some (.string (tk l x.1).text) ∧ w'.cell? ⟨b, o + x.1 * 4 + 2, none⟩ = some (.int .i64 (tk l x.1).line) ∧ w'.cell? ⟨b, o + x.1 * 4 + 3, none⟩ = some (.int .i64 (tk l x.1).col)) W0.drew := ⟨hcl.cell, (hT.below hBw hb).kind, (hT.below hBw hb).text, (hT.below hBw hb).line, (hT.below hBw hb).col⟩
      have hcv := hv.cell
      have hszW := hv.lt
      generalize W0.drew = Wd at *
      have hal : ∀ o' : Obj, (fun w' : World => w'.cell? ⟨w.heap.size, 0, none⟩ = some (.slice (some ⟨b, o, none⟩) l.length c) ∧ w'.cell? ⟨b, o + x.1 * 4, none⟩ = some (.int .i64 (tk l x.1).kind) ∧ w'.cell? ⟨b, o + x.1 * 4 + 1, none⟩ = some (.string (tk l x.1).text) ∧ w'.cell? ⟨b, o + x.1 * 4 + 2, none⟩ = some (.int .i64 (tk l x.1).line) ∧ w'.cell? ⟨b, o + x.1 * 4 + 3, none⟩ = some (.int .i64 (tk l x.1).col)) (Wd.alloc o') := fun o' => by
        have hq := (Below.refl (w.heap.size + 1) Wd).alloc (by omega) o'
        exact ⟨(hq.cell (p := ⟨w.heap.size, 0, none⟩) (by dsimp only; omega)).trans hS.1, (hq.cell (p := ⟨b, o + x.1 * 4, none⟩) (by dsimp only; omega)).trans hS.2.1, (hq.cell (p := ⟨b, o + x.1 * 4 + 1, none⟩) (by dsimp only; omega)).trans hS.2.2.1, (hq.cell (p := ⟨b, o + x.1 * 4 + 2, none⟩) (by dsimp only; omega)).trans hS.2.2.2.1, (hq.cell (p := ⟨b, o + x.1 * 4 + 3, none⟩) (by dsimp only; omega)).trans hS.2.2.2.2⟩
      refine wpAnyH_take (i := 1) (v := ?_) rfl (by kernel_rfl) (by kernel_rfl) (by kernel_rfl) (fun _ _ _ h => h) (Or.inl ⟨by rfl, ?_⟩) hS ?_
      rotate_left
      · intro w' hSw
        obtain ⟨f0, f1, f2, f3, f4⟩ := hSw
        go_simp
        try with_reducible rfl
      try simp only [Act.put, List.setIfInBounds_toArray, List.set_cons_zero, List.set_cons_succ, List.getElem_toArray, List.getElem_cons_zero, List.getElem_cons_succ]
      refine wpAnyH_take (i := 2) (v := ?_) rfl (by kernel_rfl) (by kernel_rfl) (by kernel_rfl) (fun _ _ _ h => h) (Or.inl ⟨by rfl, ?_⟩) hS ?_
      rotate_left
      · intro w' hSw
        obtain ⟨f0, f1, f2, f3, f4⟩ := hSw
        go_simp
        try with_reducible rfl
      try simp only [Act.put, List.setIfInBounds_toArray, List.set_cons_zero, List.set_cons_succ, List.getElem_toArray, List.getElem_cons_zero, List.getElem_cons_succ]
      refine wpAnyH_take (i := 3) (v := ?_) rfl (by kernel_rfl) (by kernel_rfl) (by kernel_rfl) (fun _ _ _ h => h) (Or.inl ⟨by rfl, ?_⟩) hS ?_
      rotate_left
      · intro w' hSw
        obtain ⟨f0, f1, f2, f3, f4⟩ := hSw
        go_simp
        try with_reducible rfl
      try simp only [Act.put, List.setIfInBounds_toArray, List.set_cons_zero, List.set_cons_succ, List.getElem_toArray, List.getElem_cons_zero, List.getElem_cons_succ]
      refine wpAnyH_take (i := 4) (v := ?_) rfl (by kernel_rfl) (by kernel_rfl) (by kernel_rfl) (fun _ _ _ h => h) (Or.inl ⟨by rfl, ?_⟩) hS ?_
      rotate_left
      · intro w' hSw
        obtain ⟨f0, f1, f2, f3, f4⟩ := hSw
        go_simp
        try with_reducible rfl
      try simp only [Act.put, List.setIfInBounds_toArray, List.set_cons_zero, List.set_cons_succ, List.getElem_toArray, List.getElem_cons_zero, List.getElem_cons_succ]
      refine wpAnyH_ready (rs := [0, 5]) (by kernel_rfl) (by simp) ?_
      refine AllReadyH.cons rfl (fun K hK => ?_) (AllReadyH.cons rfl (fun K hK => ?_) AllReadyH.nil)
      · rw [if_pos (by rfl)]
        go_simp
        refine hK.out _ _ hS (fun _ => ?_)
        clear hK K
        try simp only [Act.put, List.setIfInBounds_toArray, List.set_cons_zero, List.set_cons_succ, List.getElem_toArray, List.getElem_cons_zero, List.getElem_cons_succ]
        refine wpAnyH_ready (rs := [5]) (by kernel_rfl) (by simp) ?_
        refine AllReadyH.cons rfl (fun K hK => ?_) AllReadyH.nil
        rw [if_pos (by rfl)]
        go_simp
        refine hK.out _ _ (hal _) (fun _ => ?_)
        clear hK K
        try simp only [Act.put, List.setIfInBounds_toArray, List.set_cons_zero, List.set_cons_succ, List.getElem_toArray, List.getElem_cons_zero, List.getElem_cons_succ]
        refine wpAnyH_ready (rs := [6]) (by kernel_rfl) (by simp) ?_
        refine AllReadyH.cons rfl (fun K hK => ?_) AllReadyH.nil
        rw [if_pos (by rfl)]
        refine wp_app1 _ _ 26 rfl 23 _ 4 40 Try.underlying26 info23 rfl (by decide) Wd (tk l x.1).cells rfl _ rfl (w.heap.size + 1) v _ _ rfl hrow rfl rfl (by simp [Tok.cells, Value.oneCell']) (by unfold maxLen; omega) (by omega) (by omega) ?_
        intro g cc w1 hown1 hB1 hg1 hd1
        refine hK.out _ _ ⟨(hB1.cell (p := ⟨w.heap.size, 0, none⟩) (by dsimp only; omega)).trans hS.1, (hB1.cell (p := ⟨b, o + x.1 * 4, none⟩) (by dsimp only; omega)).trans hS.2.1, (hB1.cell (p := ⟨b, o + x.1 * 4 + 1, none⟩) (by dsimp only; omega)).trans hS.2.2.1, (hB1.cell (p := ⟨b, o + x.1 * 4 + 2, none⟩) (by dsimp only; omega)).trans hS.2.2.2.1, (hB1.cell (p := ⟨b, o + x.1 * 4 + 3, none⟩) (by dsimp only; omega)).trans hS.2.2.2.2⟩ (fun _ => ?_)
        clear hK K
        try simp only [Act.put, List.setIfInBounds_toArray, List.set_cons_zero, List.set_cons_succ, List.getElem_toArray, List.getElem_cons_zero, List.getElem_cons_succ]
        obtain ⟨hv1, hv2, hr2, hk2, hb2, hbo⟩ := appended2 hv (by decide) hrow (by omega) (by omega) (own_add hown1 rfl) hg1
        have hc1 := hv1.cell
        have hf1 := hv1.frozen
        refine wpAnyH_ready (rs := [7]) (by kernel_rfl) (by simp) ?_
        refine AllReadyH.cons rfl (fun K hK => ?_) AllReadyH.nil
        rw [if_pos (by rfl)]
        go_simp
        refine hK.out _ _ ⟨(hb2.cell (p := ⟨w.heap.size, 0, none⟩) (by dsimp only; omega)).trans hS.1, (hb2.cell (p := ⟨b, o + x.1 * 4, none⟩) (by dsimp only; omega)).trans hS.2.1, (hb2.cell (p := ⟨b, o + x.1 * 4 + 1, none⟩) (by dsimp only; omega)).trans hS.2.2.1, (hb2.cell (p := ⟨b, o + x.1 * 4 + 2, none⟩) (by dsimp only; omega)).trans hS.2.2.2.1, (hb2.cell (p := ⟨b, o + x.1 * 4 + 3, none⟩) (by dsimp only; omega)).trans hS.2.2.2.2⟩ (fun _ => ?_)
        clear hK K
        try simp only [Act.put, List.setIfInBounds_toArray, List.set_cons_zero, List.set_cons_succ, List.getElem_toArray, List.getElem_cons_zero, List.getElem_cons_succ]
        refine wpAnyH_done (by kernel_rfl) ?_ _
        have hst2 : St w (some ⟨b, o, none⟩) c l ((flatM l pre) ++ [(tk l x.1)]) W0 _ := ⟨⟨_, hv2, hr2⟩, hBw.trans (hb2.mono (by omega)), hbo _ _ (by omega) hcl, hbo _ _ (by omega) hcs, hKO.trans hk2, hBW.trans (hb2.mono (by omega))⟩
        gi_wp2
        exact ⟨hst2.keeps.from _, ⟨hst2.belowW, hst2.bs.cell.trans hst0.bs.cell.symm⟩, by dsimp only; rw [HF.out]; exact ⟨⟨⟨_, hst2.out.choose_spec.1, hst2.out.choose_spec.2⟩, hst2.below⟩, hst2.bl, hst2.bs⟩⟩
      · rw [if_pos (by rfl)]
        go_simp
        refine hK.out _ _ (hal _) (fun _ => ?_)
        clear hK K
        try simp only [Act.put, List.setIfInBounds_toArray, List.set_cons_zero, List.set_cons_succ, List.getElem_toArray, List.getElem_cons_zero, List.getElem_cons_succ]
        have hcva := (hv.alloc (.cells (tk l x.1).cells.toArray 23)).cell
        refine wpAnyH_ready (rs := [0]) (by kernel_rfl) (by simp) ?_
        refine AllReadyH.cons rfl (fun K hK => ?_) AllReadyH.nil
        rw [if_pos (by rfl)]
        go_simp
        refine hK.out _ _ (hal _) (fun _ => ?_)
        clear hK K
        try simp only [Act.put, List.setIfInBounds_toArray, List.set_cons_zero, List.set_cons_succ, List.getElem_toArray, List.getElem_cons_zero, List.getElem_cons_succ]
        refine wpAnyH_ready (rs := [6]) (by kernel_rfl) (by simp) ?_
        refine AllReadyH.cons rfl (fun K hK => ?_) AllReadyH.nil
        rw [if_pos (by rfl)]
        refine wp_app1 _ _ 26 rfl 23 _ 4 40 Try.underlying26 info23 rfl (by decide) Wd (tk l x.1).cells rfl _ rfl (w.heap.size + 1) v _ _ rfl hrow rfl rfl (by simp [Tok.cells, Value.oneCell']) (by unfold maxLen; omega) (by omega) (by omega) ?_
        intro g cc w1 hown1 hB1 hg1 hd1
        refine hK.out _ _ ⟨(hB1.cell (p := ⟨w.heap.size, 0, none⟩) (by dsimp only; omega)).trans hS.1, (hB1.cell (p := ⟨b, o + x.1 * 4, none⟩) (by dsimp only; omega)).trans hS.2.1, (hB1.cell (p := ⟨b, o + x.1 * 4 + 1, none⟩) (by dsimp only; omega)).trans hS.2.2.1, (hB1.cell (p := ⟨b, o + x.1 * 4 + 2, none⟩) (by dsimp only; omega)).trans hS.2.2.2.1, (hB1.cell (p := ⟨b, o + x.1 * 4 + 3, none⟩) (by dsimp only; omega)).trans hS.2.2.2.2⟩ (fun _ => ?_)
        clear hK K
        try simp only [Act.put, List.setIfInBounds_toArray, List.set_cons_zero, List.set_cons_succ, List.getElem_toArray, List.getElem_cons_zero, List.getElem_cons_succ]
        obtain ⟨hv1, hv2, hr2, hk2, hb2, hbo⟩ := appended2 hv (by decide) hrow (by omega) (by omega) (own_add hown1 rfl) hg1
        have hc1 := hv1.cell
        have hf1 := hv1.frozen
        refine wpAnyH_ready (rs := [7]) (by kernel_rfl) (by simp) ?_
        refine AllReadyH.cons rfl (fun K hK => ?_) AllReadyH.nil
        rw [if_pos (by rfl)]
        go_simp
        refine hK.out _ _ ⟨(hb2.cell (p := ⟨w.heap.size, 0, none⟩) (by dsimp only; omega)).trans hS.1, (hb2.cell (p := ⟨b, o + x.1 * 4, none⟩) (by dsimp only; omega)).trans hS.2.1, (hb2.cell (p := ⟨b, o + x.1 * 4 + 1, none⟩) (by dsimp only; omega)).trans hS.2.2.1, (hb2.cell (p := ⟨b, o + x.1 * 4 + 2, none⟩) (by dsimp only; omega)).trans hS.2.2.2.1, (hb2.cell (p := ⟨b, o + x.1 * 4 + 3, none⟩) (by dsimp only; omega)).trans hS.2.2.2.2⟩ (fun _ => ?_)
        clear hK K
        try simp only [Act.put, List.setIfInBounds_toArray, List.set_cons_zero, List.set_cons_succ, List.getElem_toArray, List.getElem_cons_zero, List.getElem_cons_succ]
        refine wpAnyH_done (by kernel_rfl) ?_ _
        have hst2 : St w (some ⟨b, o, none⟩) c l ((flatM l pre) ++ [(tk l x.1)]) W0 _ := ⟨⟨_, hv2, hr2⟩, hBw.trans (hb2.mono (by omega)), hbo _ _ (by omega) hcl, hbo _ _ (by omega) hcs, hKO.trans hk2, hBW.trans (hb2.mono (by omega))⟩
        gi_wp2
        exact ⟨hst2.keeps.from _, ⟨hst2.belowW, hst2.bs.cell.trans hst0.bs.cell.symm⟩, by dsimp only; rw [HF.out]; exact ⟨⟨⟨_, hst2.out.choose_spec.1, hst2.out.choose_spec.2⟩, hst2.below⟩, hst2.bl, hst2.bs⟩⟩
    · have hf : flatM l (pre ++ [x]) = (flatM l pre ++ [markTok (markNo l x.1) (tk l x.1)]) ++ [tk l x.1] := by rw [flatM_snoc]; unfold progOne; rw [if_neg hm]; simp
      have HF := Lib.hid hf
      have hm0 : (markNo l x.1 != 0) = true := by simpa using hm
      clear hf hm
      gi_wp2
      refine wpIn_region_held (S := (fun w' : World => w'.cell? ⟨w.heap.size, 0, none⟩ = some (.slice (some ⟨b, o, none⟩) l.length c) ∧ w'.cell? ⟨b, o + x.1 * 4, none⟩ = some (.int .i64 (tk l x.1).kind) ∧ w'.cell? ⟨b, o + x.1 * 4 + 1, none⟩ = some (.string (tk l x.1).text) ∧ w'.cell? ⟨b, o + x.1 * 4 + 2, none⟩ = some (.int .i64 (tk l x.1).line) ∧ w'.cell? ⟨b, o + x.1 * 4 + 3, none⟩ = some (.int .i64 (tk l x.1).col))) (by kernel_rfl) (by kernel_rfl) (fun ⟨_, _, h⟩ => h) ?_
      obtain ⟨⟨v, hv, hrow⟩, hBw, hcl, hcs, hKO, hBW⟩ := hst0.drew
      have hS : (fun w' : World => w'.cell? ⟨w.heap.size, 0, none⟩ = some (.slice (some ⟨b, o, none⟩) l.length c) ∧ w'.cell? ⟨b, o + x.1 * 4, none⟩ = some (.int .i64 (tk l x.1).kind) ∧ w'.cell? ⟨b, o + x.1 * 4 + 1, none⟩ = some (.string (tk l x.1).text) ∧ w'.cell? ⟨b, o + x.1 * 4 + 2, none⟩ = some (.int .i64 (tk l x.1).line) ∧ w'.cell? ⟨b, o + x.1 * 4 + 3, none⟩ = some (.int .i64 (tk l x.1).col)) W0.drew := ⟨hcl.cell, (hT.below hBw hb).kind, (hT.below hBw hb).text, (hT.below hBw hb).line, (hT.below hBw hb).col⟩
      have hcv := hv.cell
      have hszW := hv.lt
      generalize W0.drew = Wd at *
      have hal : ∀ o' : Obj, (fun w' : World => w'.cell? ⟨w.heap.size, 0, none⟩ = some (.slice (some ⟨b, o, none⟩) l.length c) ∧ w'.cell? ⟨b, o + x.1 * 4, none⟩ = some (.int .i64 (tk l x.1).kind) ∧ w'.cell? ⟨b, o + x.1 * 4 + 1, none⟩ = some (.string (tk l x.1).text) ∧ w'.cell? ⟨b, o + x.1 * 4 + 2, none⟩ = some (.int .i64 (tk l x.1).line) ∧ w'.cell? ⟨b, o + x.1 * 4 + 3, none⟩ = some (.int .i64 (tk l x.1).col)) (Wd.alloc o') := fun o' => by
        have hq := (Below.refl (w.heap.size + 1) Wd).alloc (by omega) o'
        exact ⟨(hq.cell (p := ⟨w.heap.size, 0, none⟩) (by dsimp only; omega)).trans hS.1, (hq.cell (p := ⟨b, o + x.1 * 4, none⟩) (by dsimp only; omega)).trans hS.2.1, (hq.cell (p := ⟨b, o + x.1 * 4 + 1, none⟩) (by dsimp only; omega)).trans hS.2.2.1, (hq.cell (p := ⟨b, o + x.1 * 4 + 2, none⟩) (by dsimp only; omega)).trans hS.2.2.2.1, (hq.cell (p := ⟨b, o + x.1 * 4 + 3, none⟩) (by dsimp only; omega)).trans hS.2.2.2.2⟩
      refine wpAnyH_take (i := 1) (v := ?_) rfl (by kernel_rfl) (by kernel_rfl) (by kernel_rfl) (fun _ _ _ h => h) (Or.inl ⟨by rfl, ?_⟩) hS ?_
      rotate_left
      · intro w' hSw
        obtain ⟨f0, f1, f2, f3, f4⟩ := hSw
        go_simp
        try with_reducible rfl
      try simp only [Act.put, List.setIfInBounds_toArray, List.set_cons_zero, List.set_cons_succ, List.getElem_toArray, List.getElem_cons_zero, List.getElem_cons_succ]
      refine wpAnyH_take (i := 2) (v := ?_) rfl (by kernel_rfl) (by kernel_rfl) (by kernel_rfl) (fun _ _ _ h => h) (Or.inl ⟨by rfl, ?_⟩) hS ?_
      rotate_left
      · intro w' hSw
        obtain ⟨f0, f1, f2, f3, f4⟩ := hSw
        go_simp
        try with_reducible rfl
      try simp only [Act.put, List.setIfInBounds_toArray, List.set_cons_zero, List.set_cons_succ, List.getElem_toArray, List.getElem_cons_zero, List.getElem_cons_succ]
      refine wpAnyH_take (i := 3) (v := ?_) rfl (by kernel_rfl) (by kernel_rfl) (by kernel_rfl) (fun _ _ _ h => h) (Or.inl ⟨by rfl, ?_⟩) hS ?_
      rotate_left
      · intro w' hSw
        obtain ⟨f0, f1, f2, f3, f4⟩ := hSw
        go_simp
        try with_reducible rfl
      try simp only [Act.put, List.setIfInBounds_toArray, List.set_cons_zero, List.set_cons_succ, List.getElem_toArray, List.getElem_cons_zero, List.getElem_cons_succ]
      refine wpAnyH_take (i := 4) (v := ?_) rfl (by kernel_rfl) (by kernel_rfl) (by kernel_rfl) (fun _ _ _ h => h) (Or.inl ⟨by rfl, ?_⟩) hS ?_
      rotate_left
      · intro w' hSw
        obtain ⟨f0, f1, f2, f3, f4⟩ := hSw
        go_simp
        try with_reducible rfl
      try simp only [Act.put, List.setIfInBounds_toArray, List.set_cons_zero, List.set_cons_succ, List.getElem_toArray, List.getElem_cons_zero, List.getElem_cons_succ]
      refine wpAnyH_take (i := 5) (v := ?_) rfl (by kernel_rfl) (by kernel_rfl) (by kernel_rfl) (fun _ _ _ h => h) (Or.inl ⟨by rfl, ?_⟩) hS ?_
      rotate_left
      · intro w' hSw
        obtain ⟨f0, f1, f2, f3, f4⟩ := hSw
        go_simp
        try with_reducible rfl
      try simp only [Act.put, List.setIfInBounds_toArray, List.set_cons_zero, List.set_cons_succ, List.getElem_toArray, List.getElem_cons_zero, List.getElem_cons_succ]
      refine wpAnyH_take (i := 6) (v := ?_) rfl (by kernel_rfl) (by kernel_rfl) (by kernel_rfl) (fun _ _ _ h => h) (Or.inl ⟨by rfl, ?_⟩) hS ?_
      rotate_left
      · intro w' hSw
        obtain ⟨f0, f1, f2, f3, f4⟩ := hSw
        go_simp
        try with_reducible rfl
      try simp only [Act.put, List.setIfInBounds_toArray, List.set_cons_zero, List.set_cons_succ, List.getElem_toArray, List.getElem_cons_zero, List.getElem_cons_succ]
      refine wpAnyH_take (i := 7) (v := ?_) rfl (by kernel_rfl) (by kernel_rfl) (by kernel_rfl) (fun _ _ _ h => h) (Or.inl ⟨by rfl, ?_⟩) hS ?_
      rotate_left
      · intro w' hSw
        obtain ⟨f0, f1, f2, f3, f4⟩ := hSw
        go_simp
        try with_reducible rfl
      try simp only [Act.put, List.setIfInBounds_toArray, List.set_cons_zero, List.set_cons_succ, List.getElem_toArray, List.getElem_cons_zero, List.getElem_cons_succ]
      refine wpAnyH_take (i := 8) (v := ?_) rfl (by kernel_rfl) (by kernel_rfl) (by kernel_rfl) (fun _ _ _ h => h) (Or.inl ⟨by rfl, ?_⟩) hS ?_
      rotate_left
      · intro w' hSw
        obtain ⟨f0, f1, f2, f3, f4⟩ := hSw
        go_simp
        try with_reducible rfl
      try simp only [Act.put, List.setIfInBounds_toArray, List.set_cons_zero, List.set_cons_succ, List.getElem_toArray, List.getElem_cons_zero, List.getElem_cons_succ]
      refine wpAnyH_take (i := 9) (v := ?_) rfl (by kernel_rfl) (by kernel_rfl) (by kernel_rfl) (fun _ _ _ h => h) (Or.inl ⟨by rfl, ?_⟩) hS ?_
      rotate_left
      · intro w' hSw
        obtain ⟨f0, f1, f2, f3, f4⟩ := hSw
        go_simp
        try with_reducible rfl
      try simp only [Act.put, List.setIfInBounds_toArray, List.set_cons_zero, List.set_cons_succ, List.getElem_toArray, List.getElem_cons_zero, List.getElem_cons_succ]
      refine wpAnyH_take (i := 10) (v := ?_) rfl (by kernel_rfl) (by kernel_rfl) (by kernel_rfl) (fun _ _ _ h => h) (Or.inl ⟨by rfl, ?_⟩) hS ?_
      rotate_left
      · intro w' hSw
        obtain ⟨f0, f1, f2, f3, f4⟩ := hSw
        go_simp
        try with_reducible rfl
      try simp only [Act.put, List.setIfInBounds_toArray, List.set_cons_zero, List.set_cons_succ, List.getElem_toArray, List.getElem_cons_zero, List.getElem_cons_succ]
      refine wpAnyH_take (i := 11) (v := ?_) rfl (by kernel_rfl) (by kernel_rfl) (by kernel_rfl) (fun _ _ _ h => h) (Or.inl ⟨by rfl, ?_⟩) hS ?_
      rotate_left
      · intro w' hSw
        obtain ⟨f0, f1, f2, f3, f4⟩ := hSw
        go_simp
        try with_reducible rfl
      try simp only [Act.put, List.setIfInBounds_toArray, List.set_cons_zero, List.set_cons_succ, List.getElem_toArray, List.getElem_cons_zero, List.getElem_cons_succ]
      refine wpAnyH_take (i := 12) (v := ?_) rfl (by kernel_rfl) (by kernel_rfl) (by kernel_rfl) (fun _ _ _ h => h) (Or.inl ⟨by rfl, ?_⟩) hS ?_
      rotate_left
      · intro w' hSw
        obtain ⟨f0, f1, f2, f3, f4⟩ := hSw
        go_simp
        try with_reducible rfl
      try simp only [Act.put, List.setIfInBounds_toArray, List.set_cons_zero, List.set_cons_succ, List.getElem_toArray, List.getElem_cons_zero, List.getElem_cons_succ]
      refine wpAnyH_ready (rs := [0, 13]) (by kernel_rfl) (by simp) ?_
      refine AllReadyH.cons rfl (fun K hK => ?_) (AllReadyH.cons rfl (fun K hK => ?_) AllReadyH.nil)
      · rw [if_pos (by rfl)]
        go_simp
        refine hK.out _ _ hS (fun _ => ?_)
        clear hK K
        try simp only [Act.put, List.setIfInBounds_toArray, List.set_cons_zero, List.set_cons_succ, List.getElem_toArray, List.getElem_cons_zero, List.getElem_cons_succ]
        refine wpAnyH_ready (rs := [13]) (by kernel_rfl) (by simp) ?_
        refine AllReadyH.cons rfl (fun K hK => ?_) AllReadyH.nil
        rw [if_pos (by rfl)]
        go_simp
        refine hK.out _ _ (hal _) (fun _ => ?_)
        clear hK K
        try simp only [Act.put, List.setIfInBounds_toArray, List.set_cons_zero, List.set_cons_succ, List.getElem_toArray, List.getElem_cons_zero, List.getElem_cons_succ]
        refine wpAnyH_ready (rs := [14]) (by kernel_rfl) (by simp) ?_
        refine AllReadyH.cons rfl (fun K hK => ?_) AllReadyH.nil
        rw [if_pos (by rfl)]
        refine wp_app1 _ _ 26 rfl 23 _ 4 40 Try.underlying26 info23 rfl (by decide) Wd (markTok (markNo l x.1) (tk l x.1)).cells rfl _ rfl (w.heap.size + 1) v _ _ rfl hrow rfl rfl (by simp [Tok.cells, markTok, Value.oneCell']) (by unfold maxLen; omega) (by omega) (by omega) ?_
        intro g cc w1 hown1 hB1 hg1 hd1
        refine hK.out _ _ ⟨(hB1.cell (p := ⟨w.heap.size, 0, none⟩) (by dsimp only; omega)).trans hS.1, (hB1.cell (p := ⟨b, o + x.1 * 4, none⟩) (by dsimp only; omega)).trans hS.2.1, (hB1.cell (p := ⟨b, o + x.1 * 4 + 1, none⟩) (by dsimp only; omega)).trans hS.2.2.1, (hB1.cell (p := ⟨b, o + x.1 * 4 + 2, none⟩) (by dsimp only; omega)).trans hS.2.2.2.1, (hB1.cell (p := ⟨b, o + x.1 * 4 + 3, none⟩) (by dsimp only; omega)).trans hS.2.2.2.2⟩ (fun _ => ?_)
        clear hK K
        try simp only [Act.put, List.setIfInBounds_toArray, List.set_cons_zero, List.set_cons_succ, List.getElem_toArray, List.getElem_cons_zero, List.getElem_cons_succ]
        obtain ⟨hv1, hv2, hr2, hk2, hb2, hbo⟩ := appended2 hv (by decide) hrow (by omega) (by omega) (own_add hown1 rfl) hg1
        have hc1 := hv1.cell
        have hf1 := hv1.frozen
        refine wpAnyH_ready (rs := [15]) (by kernel_rfl) (by simp) ?_
        refine AllReadyH.cons rfl (fun K hK => ?_) AllReadyH.nil
        rw [if_pos (by rfl)]
        go_simp
        refine hK.out _ _ ⟨(hb2.cell (p := ⟨w.heap.size, 0, none⟩) (by dsimp only; omega)).trans hS.1, (hb2.cell (p := ⟨b, o + x.1 * 4, none⟩) (by dsimp only; omega)).trans hS.2.1, (hb2.cell (p := ⟨b, o + x.1 * 4 + 1, none⟩) (by dsimp only; omega)).trans hS.2.2.1, (hb2.cell (p := ⟨b, o + x.1 * 4 + 2, none⟩) (by dsimp only; omega)).trans hS.2.2.2.1, (hb2.cell (p := ⟨b, o + x.1 * 4 + 3, none⟩) (by dsimp only; omega)).trans hS.2.2.2.2⟩ (fun _ => ?_)
        clear hK K
        try simp only [Act.put, List.setIfInBounds_toArray, List.set_cons_zero, List.set_cons_succ, List.getElem_toArray, List.getElem_cons_zero, List.getElem_cons_succ]
        refine wpAnyH_done (by kernel_rfl) ?_ _
        have hst2 : St w (some ⟨b, o, none⟩) c l ((flatM l pre) ++ [(markTok (markNo l x.1) (tk l x.1))]) W0 _ := ⟨⟨_, hv2, hr2⟩, hBw.trans (hb2.mono (by omega)), hbo _ _ (by omega) hcl, hbo _ _ (by omega) hcs, hKO.trans hk2, hBW.trans (hb2.mono (by omega))⟩
        clear hS hal hcv hc1 hf1 hcl hcs hv hrow hv1 hv2 hr2 hbo
        generalize w1.setCell ⟨w.heap.size + 1 + 1, 0, none⟩ (.slice (some ⟨g, 0, none⟩) ((flatM l pre).length + 1) cc) = W6 at *
        obtain ⟨ys, hys, hst6, hyl⟩ : ∃ ys, flatM l pre ++ [markTok (markNo l x.1) (tk l x.1)] = ys ∧ St w (some ⟨b, o, none⟩) c l ys W0 W6 ∧ ys.length ≤ 2 * pre.length + 1 := ⟨_, rfl, hst2, by simp; omega⟩
        have HYS := Lib.hid hys
        clear hys hst2
        gi_wp2
        refine wpIn_region_held (S := (fun w' : World => w'.cell? ⟨w.heap.size, 0, none⟩ = some (.slice (some ⟨b, o, none⟩) l.length c) ∧ w'.cell? ⟨b, o + x.1 * 4, none⟩ = some (.int .i64 (tk l x.1).kind) ∧ w'.cell? ⟨b, o + x.1 * 4 + 1, none⟩ = some (.string (tk l x.1).text) ∧ w'.cell? ⟨b, o + x.1 * 4 + 2, none⟩ = some (.int .i64 (tk l x.1).line) ∧ w'.cell? ⟨b, o + x.1 * 4 + 3, none⟩ = some (.int .i64 (tk l x.1).col))) (by kernel_rfl) (by kernel_rfl) (fun ⟨_, _, h⟩ => h) ?_
        obtain ⟨⟨v, hv, hrow⟩, hBw, hcl, hcs, hKO, hBW⟩ := hst6.drew
        have hS : (fun w' : World => w'.cell? ⟨w.heap.size, 0, none⟩ = some (.slice (some ⟨b, o, none⟩) l.length c) ∧ w'.cell? ⟨b, o + x.1 * 4, none⟩ = some (.int .i64 (tk l x.1).kind) ∧ w'.cell? ⟨b, o + x.1 * 4 + 1, none⟩ = some (.string (tk l x.1).text) ∧ w'.cell? ⟨b, o + x.1 * 4 + 2, none⟩ = some (.int .i64 (tk l x.1).line) ∧ w'.cell? ⟨b, o + x.1 * 4 + 3, none⟩ = some (.int .i64 (tk l x.1).col)) W6.drew := ⟨hcl.cell, (hT.below hBw hb).kind, (hT.below hBw hb).text, (hT.below hBw hb).line, (hT.below hBw hb).col⟩
        have hcv := hv.cell
        have hszW := hv.lt
        generalize W6.drew = Wd at *
        have hal : ∀ o' : Obj, (fun w' : World => w'.cell? ⟨w.heap.size, 0, none⟩ = some (.slice (some ⟨b, o, none⟩) l.length c) ∧ w'.cell? ⟨b, o + x.1 * 4, none⟩ = some (.int .i64 (tk l x.1).kind) ∧ w'.cell? ⟨b, o + x.1 * 4 + 1, none⟩ = some (.string (tk l x.1).text) ∧ w'.cell? ⟨b, o + x.1 * 4 + 2, none⟩ = some (.int .i64 (tk l x.1).line) ∧ w'.cell? ⟨b, o + x.1 * 4 + 3, none⟩ = some (.int .i64 (tk l x.1).col)) (Wd.alloc o') := fun o' => by
          have hq := (Below.refl (w.heap.size + 1) Wd).alloc (by omega) o'
          exact ⟨(hq.cell (p := ⟨w.heap.size, 0, none⟩) (by dsimp only; omega)).trans hS.1, (hq.cell (p := ⟨b, o + x.1 * 4, none⟩) (by dsimp only; omega)).trans hS.2.1, (hq.cell (p := ⟨b, o + x.1 * 4 + 1, none⟩) (by dsimp only; omega)).trans hS.2.2.1, (hq.cell (p := ⟨b, o + x.1 * 4 + 2, none⟩) (by dsimp only; omega)).trans hS.2.2.2.1, (hq.cell (p := ⟨b, o + x.1 * 4 + 3, none⟩) (by dsimp only; omega)).trans hS.2.2.2.2⟩
        refine wpAnyH_take (i := 1) (v := ?_) rfl (by kernel_rfl) (by kernel_rfl) (by kernel_rfl) (fun _ _ _ h => h) (Or.inl ⟨by rfl, ?_⟩) hS ?_
        rotate_left
        · intro w' hSw
          obtain ⟨f0, f1, f2, f3, f4⟩ := hSw
          go_simp
          try with_reducible rfl
        try simp only [Act.put, List.setIfInBounds_toArray, List.set_cons_zero, List.set_cons_succ, List.getElem_toArray, List.getElem_cons_zero, List.getElem_cons_succ]
        refine wpAnyH_take (i := 2) (v := ?_) rfl (by kernel_rfl) (by kernel_rfl) (by kernel_rfl) (fun _ _ _ h => h) (Or.inl ⟨by rfl, ?_⟩) hS ?_
        rotate_left
        · intro w' hSw
          obtain ⟨f0, f1, f2, f3, f4⟩ := hSw
          go_simp
          try with_reducible rfl
        try simp only [Act.put, List.setIfInBounds_toArray, List.set_cons_zero, List.set_cons_succ, List.getElem_toArray, List.getElem_cons_zero, List.getElem_cons_succ]
        refine wpAnyH_take (i := 3) (v := ?_) rfl (by kernel_rfl) (by kernel_rfl) (by kernel_rfl) (fun _ _ _ h => h) (Or.inl ⟨by rfl, ?_⟩) hS ?_
        rotate_left
        · intro w' hSw
          obtain ⟨f0, f1, f2, f3, f4⟩ := hSw
          go_simp
          try with_reducible rfl
        try simp only [Act.put, List.setIfInBounds_toArray, List.set_cons_zero, List.set_cons_succ, List.getElem_toArray, List.getElem_cons_zero, List.getElem_cons_succ]
        refine wpAnyH_take (i := 4) (v := ?_) rfl (by kernel_rfl) (by kernel_rfl) (by kernel_rfl) (fun _ _ _ h => h) (Or.inl ⟨by rfl, ?_⟩) hS ?_
        rotate_left
        · intro w' hSw
          obtain ⟨f0, f1, f2, f3, f4⟩ := hSw
          go_simp
          try with_reducible rfl
        try simp only [Act.put, List.setIfInBounds_toArray, List.set_cons_zero, List.set_cons_succ, List.getElem_toArray, List.getElem_cons_zero, List.getElem_cons_succ]
        refine wpAnyH_ready (rs := [0, 5]) (by kernel_rfl) (by simp) ?_
        refine AllReadyH.cons rfl (fun K hK => ?_) (AllReadyH.cons rfl (fun K hK => ?_) AllReadyH.nil)
        · rw [if_pos (by rfl)]
          go_simp
          refine hK.out _ _ hS (fun _ => ?_)
          clear hK K
          try simp only [Act.put, List.setIfInBounds_toArray, List.set_cons_zero, List.set_cons_succ, List.getElem_toArray, List.getElem_cons_zero, List.getElem_cons_succ]
          refine wpAnyH_ready (rs := [5]) (by kernel_rfl) (by simp) ?_
          refine AllReadyH.cons rfl (fun K hK => ?_) AllReadyH.nil
          rw [if_pos (by rfl)]
          go_simp
          refine hK.out _ _ (hal _) (fun _ => ?_)
          clear hK K
          try simp only [Act.put, List.setIfInBounds_toArray, List.set_cons_zero, List.set_cons_succ, List.getElem_toArray, List.getElem_cons_zero, List.getElem_cons_succ]
          refine wpAnyH_ready (rs := [6]) (by kernel_rfl) (by simp) ?_
          refine AllReadyH.cons rfl (fun K hK => ?_) AllReadyH.nil
          rw [if_pos (by rfl)]
          refine wp_app1 _ _ 26 rfl 23 _ 4 40 Try.underlying26 info23 rfl (by decide) Wd (tk l x.1).cells rfl _ rfl (w.heap.size + 1) v _ _ rfl hrow rfl rfl (by simp [Tok.cells, Value.oneCell']) (by unfold maxLen; omega) (by omega) (by omega) ?_
          intro g cc w1 hown1 hB1 hg1 hd1
          refine hK.out _ _ ⟨(hB1.cell (p := ⟨w.heap.size, 0, none⟩) (by dsimp only; omega)).trans hS.1, (hB1.cell (p := ⟨b, o + x.1 * 4, none⟩) (by dsimp only; omega)).trans hS.2.1, (hB1.cell (p := ⟨b, o + x.1 * 4 + 1, none⟩) (by dsimp only; omega)).trans hS.2.2.1, (hB1.cell (p := ⟨b, o + x.1 * 4 + 2, none⟩) (by dsimp only; omega)).trans hS.2.2.2.1, (hB1.cell (p := ⟨b, o + x.1 * 4 + 3, none⟩) (by dsimp only; omega)).trans hS.2.2.2.2⟩ (fun _ => ?_)
          clear hK K
          try simp only [Act.put, List.setIfInBounds_toArray, List.set_cons_zero, List.set_cons_succ, List.getElem_toArray, List.getElem_cons_zero, List.getElem_cons_succ]
          obtain ⟨hv1, hv2, hr2, hk2, hb2, hbo⟩ := appended2 hv (by decide) hrow (by omega) (by omega) (own_add hown1 rfl) hg1
          have hc1 := hv1.cell
          have hf1 := hv1.frozen
          refine wpAnyH_ready (rs := [7]) (by kernel_rfl) (by simp) ?_
          refine AllReadyH.cons rfl (fun K hK => ?_) AllReadyH.nil
          rw [if_pos (by rfl)]
          go_simp
          refine hK.out _ _ ⟨(hb2.cell (p := ⟨w.heap.size, 0, none⟩) (by dsimp only; omega)).trans hS.1, (hb2.cell (p := ⟨b, o + x.1 * 4, none⟩) (by dsimp only; omega)).trans hS.2.1, (hb2.cell (p := ⟨b, o + x.1 * 4 + 1, none⟩) (by dsimp only; omega)).trans hS.2.2.1, (hb2.cell (p := ⟨b, o + x.1 * 4 + 2, none⟩) (by dsimp only; omega)).trans hS.2.2.2.1, (hb2.cell (p := ⟨b, o + x.1 * 4 + 3, none⟩) (by dsimp only; omega)).trans hS.2.2.2.2⟩ (fun _ => ?_)
          clear hK K
          try simp only [Act.put, List.setIfInBounds_toArray, List.set_cons_zero, List.set_cons_succ, List.getElem_toArray, List.getElem_cons_zero, List.getElem_cons_succ]
          refine wpAnyH_done (by kernel_rfl) ?_ _
          have hst2 : St w (some ⟨b, o, none⟩) c l (ys ++ [(tk l x.1)]) W0 _ := ⟨⟨_, hv2, hr2⟩, hBw.trans (hb2.mono (by omega)), hbo _ _ (by omega) hcl, hbo _ _ (by omega) hcs, hKO.trans hk2, hBW.trans (hb2.mono (by omega))⟩
          gi_wp2
          exact ⟨hst2.keeps.from _, ⟨hst2.belowW, hst2.bs.cell.trans hst0.bs.cell.symm⟩, by dsimp only; rw [HF.out, HYS.out]; exact ⟨⟨⟨_, hst2.out.choose_spec.1, hst2.out.choose_spec.2⟩, hst2.below⟩, hst2.bl, hst2.bs⟩⟩
        · rw [if_pos (by rfl)]
          go_simp
          refine hK.out _ _ (hal _) (fun _ => ?_)
          clear hK K
          try simp only [Act.put, List.setIfInBounds_toArray, List.set_cons_zero, List.set_cons_succ, List.getElem_toArray, List.getElem_cons_zero, List.getElem_cons_succ]
          have hcva := (hv.alloc (.cells (tk l x.1).cells.toArray 23)).cell
          refine wpAnyH_ready (rs := [0]) (by kernel_rfl) (by simp) ?_
          refine AllReadyH.cons rfl (fun K hK => ?_) AllReadyH.nil
          rw [if_pos (by rfl)]
          go_simp
          refine hK.out _ _ (hal _) (fun _ => ?_)
          clear hK K
          try simp only [Act.put, List.setIfInBounds_toArray, List.set_cons_zero, List.set_cons_succ, List.getElem_toArray, List.getElem_cons_zero, List.getElem_cons_succ]
          refine wpAnyH_ready (rs := [6]) (by kernel_rfl) (by simp) ?_
          refine AllReadyH.cons rfl (fun K hK => ?_) AllReadyH.nil
          rw [if_pos (by rfl)]
          refine wp_app1 _ _ 26 rfl 23 _ 4 40 Try.underlying26 info23 rfl (by decide) Wd (tk l x.1).cells rfl _ rfl (w.heap.size + 1) v _ _ rfl hrow rfl rfl (by simp [Tok.cells, Value.oneCell']) (by unfold maxLen; omega) (by omega) (by omega) ?_
          intro g cc w1 hown1 hB1 hg1 hd1
          refine hK.out _ _ ⟨(hB1.cell (p := ⟨w.heap.size, 0, none⟩) (by dsimp only; omega)).trans hS.1, (hB1.cell (p := ⟨b, o + x.1 * 4, none⟩) (by dsimp only; omega)).trans hS.2.1, (hB1.cell (p := ⟨b, o + x.1 * 4 + 1, none⟩) (by dsimp only; omega)).trans hS.2.2.1, (hB1.cell (p := ⟨b, o + x.1 * 4 + 2, none⟩) (by dsimp only; omega)).trans hS.2.2.2.1, (hB1.cell (p := ⟨b, o + x.1 * 4 + 3, none⟩) (by dsimp only; omega)).trans hS.2.2.2.2⟩ (fun _ => ?_)
          clear hK K
          try simp only [Act.put, List.setIfInBounds_toArray, List.set_cons_zero, List.set_cons_succ, List.getElem_toArray, List.getElem_cons_zero, List.getElem_cons_succ]
          obtain ⟨hv1, hv2, hr2, hk2, hb2, hbo⟩ := appended2 hv (by decide) hrow (by omega) (by omega) (own_add hown1 rfl) hg1
          have hc1 := hv1.cell
          have hf1 := hv1.frozen
          refine wpAnyH_ready (rs := [7]) (by kernel_rfl) (by simp) ?_
          refine AllReadyH.cons rfl (fun K hK => ?_) AllReadyH.nil
          rw [if_pos (by rfl)]
          go_simp
          refine hK.out _ _ ⟨(hb2.cell (p := ⟨w.heap.size, 0, none⟩) (by dsimp only; omega)).trans hS.1, (hb2.cell (p := ⟨b, o + x.1 * 4, none⟩) (by dsimp only; omega)).trans hS.2.1, (hb2.cell (p := ⟨b, o + x.1 * 4 + 1, none⟩) (by dsimp only; omega)).trans hS.2.2.1, (hb2.cell (p := ⟨b, o + x.1 * 4 + 2, none⟩) (by dsimp only; omega)).trans hS.2.2.2.1, (hb2.cell (p := ⟨b, o + x.1 * 4 + 3, none⟩) (by dsimp only; omega)).trans hS.2.2.2.2⟩ (fun _ => ?_)
          clear hK K
          try simp only [Act.put, List.setIfInBounds_toArray, List.set_cons_zero, List.set_cons_succ, List.getElem_toArray, List.getElem_cons_zero, List.getElem_cons_succ]
          refine wpAnyH_done (by kernel_rfl) ?_ _
          have hst2 : St w (some ⟨b, o, none⟩) c l (ys ++ [(tk l x.1)]) W0 _ := ⟨⟨_, hv2, hr2⟩, hBw.trans (hb2.mono (by omega)), hbo _ _ (by omega) hcl, hbo _ _ (by omega) hcs, hKO.trans hk2, hBW.trans (hb2.mono (by omega))⟩
          gi_wp2
          exact ⟨hst2.keeps.from _, ⟨hst2.belowW, hst2.bs.cell.trans hst0.bs.cell.symm⟩, by dsimp only; rw [HF.out, HYS.out]; exact ⟨⟨⟨_, hst2.out.choose_spec.1, hst2.out.choose_spec.2⟩, hst2.below⟩, hst2.bl, hst2.bs⟩⟩
      · rw [if_pos (by rfl)]
        go_simp
        refine hK.out _ _ (hal _) (fun _ => ?_)
        clear hK K
        try simp only [Act.put, List.setIfInBounds_toArray, List.set_cons_zero, List.set_cons_succ, List.getElem_toArray, List.getElem_cons_zero, List.getElem_cons_succ]
        have hcva := (hv.alloc (.cells (markTok (markNo l x.1) (tk l x.1)).cells.toArray 23)).cell
        refine wpAnyH_ready (rs := [0]) (by kernel_rfl) (by simp) ?_
        refine AllReadyH.cons rfl (fun K hK => ?_) AllReadyH.nil
        rw [if_pos (by rfl)]
        go_simp
        refine hK.out _ _ (hal _) (fun _ => ?_)
        clear hK K
        try simp only [Act.put, List.setIfInBounds_toArray, List.set_cons_zero, List.set_cons_succ, List.getElem_toArray, List.getElem_cons_zero, List.getElem_cons_succ]
        refine wpAnyH_ready (rs := [14]) (by kernel_rfl) (by simp) ?_
        refine AllReadyH.cons rfl (fun K hK => ?_) AllReadyH.nil
        rw [if_pos (by rfl)]
        refine wp_app1 _ _ 26 rfl 23 _ 4 40 Try.underlying26 info23 rfl (by decide) Wd (markTok (markNo l x.1) (tk l x.1)).cells rfl _ rfl (w.heap.size + 1) v _ _ rfl hrow rfl rfl (by simp [Tok.cells, markTok, Value.oneCell']) (by unfold maxLen; omega) (by omega) (by omega) ?_
        intro g cc w1 hown1 hB1 hg1 hd1
        refine hK.out _ _ ⟨(hB1.cell (p := ⟨w.heap.size, 0, none⟩) (by dsimp only; omega)).trans hS.1, (hB1.cell (p := ⟨b, o + x.1 * 4, none⟩) (by dsimp only; omega)).trans hS.2.1, (hB1.cell (p := ⟨b, o + x.1 * 4 + 1, none⟩) (by dsimp only; omega)).trans hS.2.2.1, (hB1.cell (p := ⟨b, o + x.1 * 4 + 2, none⟩) (by dsimp only; omega)).trans hS.2.2.2.1, (hB1.cell (p := ⟨b, o + x.1 * 4 + 3, none⟩) (by dsimp only; omega)).trans hS.2.2.2.2⟩ (fun _ => ?_)
        clear hK K
        try simp only [Act.put, List.setIfInBounds_toArray, List.set_cons_zero, List.set_cons_succ, List.getElem_toArray, List.getElem_cons_zero, List.getElem_cons_succ]
        obtain ⟨hv1, hv2, hr2, hk2, hb2, hbo⟩ := appended2 hv (by decide) hrow (by omega) (by omega) (own_add hown1 rfl) hg1
        have hc1 := hv1.cell
        have hf1 := hv1.frozen
        refine wpAnyH_ready (rs := [15]) (by kernel_rfl) (by simp) ?_
        refine AllReadyH.cons rfl (fun K hK => ?_) AllReadyH.nil
        rw [if_pos (by rfl)]
        go_simp
        refine hK.out _ _ ⟨(hb2.cell (p := ⟨w.heap.size, 0, none⟩) (by dsimp only; omega)).trans hS.1, (hb2.cell (p := ⟨b, o + x.1 * 4, none⟩) (by dsimp only; omega)).trans hS.2.1, (hb2.cell (p := ⟨b, o + x.1 * 4 + 1, none⟩) (by dsimp only; omega)).trans hS.2.2.1, (hb2.cell (p := ⟨b, o + x.1 * 4 + 2, none⟩) (by dsimp only; omega)).trans hS.2.2.2.1, (hb2.cell (p := ⟨b, o + x.1 * 4 + 3, none⟩) (by dsimp only; omega)).trans hS.2.2.2.2⟩ (fun _ => ?_)
        clear hK K
        try simp only [Act.put, List.setIfInBounds_toArray, List.set_cons_zero, List.set_cons_succ, List.getElem_toArray, List.getElem_cons_zero, List.getElem_cons_succ]
        refine wpAnyH_done (by kernel_rfl) ?_ _
        have hst2 : St w (some ⟨b, o, none⟩) c l ((flatM l pre) ++ [(markTok (markNo l x.1) (tk l x.1))]) W0 _ := ⟨⟨_, hv2, hr2⟩, hBw.trans (hb2.mono (by omega)), hbo _ _ (by omega) hcl, hbo _ _ (by omega) hcs, hKO.trans hk2, hBW.trans (hb2.mono (by omega))⟩
        clear hS hal hcv hc1 hf1 hcl hcs hv hrow hv1 hv2 hr2 hbo
        generalize w1.setCell ⟨w.heap.size + 1 + 1, 0, none⟩ (.slice (some ⟨g, 0, none⟩) ((flatM l pre).length + 1) cc) = W6 at *
        obtain ⟨ys, hys, hst6, hyl⟩ : ∃ ys, flatM l pre ++ [markTok (markNo l x.1) (tk l x.1)] = ys ∧ St w (some ⟨b, o, none⟩) c l ys W0 W6 ∧ ys.length ≤ 2 * pre.length + 1 := ⟨_, rfl, hst2, by simp; omega⟩
        have HYS := Lib.hid hys
        clear hys hst2
        gi_wp2
        refine wpIn_region_held (S := (fun w' : World => w'.cell? ⟨w.heap.size, 0, none⟩ = some (.slice (some ⟨b, o, none⟩) l.length c) ∧ w'.cell? ⟨b, o + x.1 * 4, none⟩ = some (.int .i64 (tk l x.1).kind) ∧ w'.cell? ⟨b, o + x.1 * 4 + 1, none⟩ = some (.string (tk l x.1).text) ∧ w'.cell? ⟨b, o + x.1 * 4 + 2, none⟩ = some (.int .i64 (tk l x.1).line) ∧ w'.cell? ⟨b, o + x.1 * 4 + 3, none⟩ = some (.int .i64 (tk l x.1).col))) (by kernel_rfl) (by kernel_rfl) (fun ⟨_, _, h⟩ => h) ?_
        obtain ⟨⟨v, hv, hrow⟩, hBw, hcl, hcs, hKO, hBW⟩ := hst6.drew
        have hS : (fun w' : World => w'.cell? ⟨w.heap.size, 0, none⟩ = some (.slice (some ⟨b, o, none⟩) l.length c) ∧ w'.cell? ⟨b, o + x.1 * 4, none⟩ = some (.int .i64 (tk l x.1).kind) ∧ w'.cell? ⟨b, o + x.1 * 4 + 1, none⟩ = some (.string (tk l x.1).text) ∧ w'.cell? ⟨b, o + x.1 * 4 + 2, none⟩ = some (.int .i64 (tk l x.1).line) ∧ w'.cell? ⟨b, o + x.1 * 4 + 3, none⟩ = some (.int .i64 (tk l x.1).col)) W6.drew := ⟨hcl.cell, (hT.below hBw hb).kind, (hT.below hBw hb).text, (hT.below hBw hb).line, (hT.below hBw hb).col⟩
        have hcv := hv.cell
        have hszW := hv.lt
        generalize W6.drew = Wd at *
        have hal : ∀ o' : Obj, (fun w' : World => w'.cell? ⟨w.heap.size, 0, none⟩ = some (.slice (some ⟨b, o, none⟩) l.length c) ∧ w'.cell? ⟨b, o + x.1 * 4, none⟩ = some (.int .i64 (tk l x.1).kind) ∧ w'.cell? ⟨b, o + x.1 * 4 + 1, none⟩ = some (.string (tk l x.1).text) ∧ w'.cell? ⟨b, o + x.1 * 4 + 2, none⟩ = some (.int .i64 (tk l x.1).line) ∧ w'.cell? ⟨b, o + x.1 * 4 + 3, none⟩ = some (.int .i64 (tk l x.1).col)) (Wd.alloc o') := fun o' => by
          have hq := (Below.refl (w.heap.size + 1) Wd).alloc (by omega) o'
          exact ⟨(hq.cell (p := ⟨w.heap.size, 0, none⟩) (by dsimp only; omega)).trans hS.1, (hq.cell (p := ⟨b, o + x.1 * 4, none⟩) (by dsimp only; omega)).trans hS.2.1, (hq.cell (p := ⟨b, o + x.1 * 4 + 1, none⟩) (by dsimp only; omega)).trans hS.2.2.1, (hq.cell (p := ⟨b, o + x.1 * 4 + 2, none⟩) (by dsimp only; omega)).trans hS.2.2.2.1, (hq.cell (p := ⟨b, o + x.1 * 4 + 3, none⟩) (by dsimp only; omega)).trans hS.2.2.2.2⟩
        refine wpAnyH_take (i := 1) (v := ?_) rfl (by kernel_rfl) (by kernel_rfl) (by kernel_rfl) (fun _ _ _ h => h) (Or.inl ⟨by rfl, ?_⟩) hS ?_
        rotate_left
        · intro w' hSw
          obtain ⟨f0, f1, f2, f3, f4⟩ := hSw
          go_simp
          try with_reducible rfl
        try simp only [Act.put, List.setIfInBounds_toArray, List.set_cons_zero, List.set_cons_succ, List.getElem_toArray, List.getElem_cons_zero, List.getElem_cons_succ]
        refine wpAnyH_take (i := 2) (v := ?_) rfl (by kernel_rfl) (by kernel_rfl) (by kernel_rfl) (fun _ _ _ h => h) (Or.inl ⟨by rfl, ?_⟩) hS ?_
        rotate_left
        · intro w' hSw
          obtain ⟨f0, f1, f2, f3, f4⟩ := hSw
          go_simp
          try with_reducible rfl
        try simp only [Act.put, List.setIfInBounds_toArray, List.set_cons_zero, List.set_cons_succ, List.getElem_toArray, List.getElem_cons_zero, List.getElem_cons_succ]
        refine wpAnyH_take (i := 3) (v := ?_) rfl (by kernel_rfl) (by kernel_rfl) (by kernel_rfl) (fun _ _ _ h => h) (Or.inl ⟨by rfl, ?_⟩) hS ?_
        rotate_left
        · intro w' hSw
          obtain ⟨f0, f1, f2, f3, f4⟩ := hSw
          go_simp
          try with_reducible rfl
        try simp only [Act.put, List.setIfInBounds_toArray, List.set_cons_zero, List.set_cons_succ, List.getElem_toArray, List.getElem_cons_zero, List.getElem_cons_succ]
        refine wpAnyH_take (i := 4) (v := ?_) rfl (by kernel_rfl) (by kernel_rfl) (by kernel_rfl) (fun _ _ _ h => h) (Or.inl ⟨by rfl, ?_⟩) hS ?_
        rotate_left
        · intro w' hSw
          obtain ⟨f0, f1, f2, f3, f4⟩ := hSw
          go_simp
          try with_reducible rfl
        try simp only [Act.put, List.setIfInBounds_toArray, List.set_cons_zero, List.set_cons_succ, List.getElem_toArray, List.getElem_cons_zero, List.getElem_cons_succ]
        refine wpAnyH_ready (rs := [0, 5]) (by kernel_rfl) (by simp) ?_
        refine AllReadyH.cons rfl (fun K hK => ?_) (AllReadyH.cons rfl (fun K hK => ?_) AllReadyH.nil)
        · rw [if_pos (by rfl)]
          go_simp
          refine hK.out _ _ hS (fun _ => ?_)
          clear hK K
          try simp only [Act.put, List.setIfInBounds_toArray, List.set_cons_zero, List.set_cons_succ, List.getElem_toArray, List.getElem_cons_zero, List.getElem_cons_succ]
          refine wpAnyH_ready (rs := [5]) (by kernel_rfl) (by simp) ?_
          refine AllReadyH.cons rfl (fun K hK => ?_) AllReadyH.nil
          rw [if_pos (by rfl)]
          go_simp
          refine hK.out _ _ (hal _) (fun _ => ?_)
          clear hK K
          try simp only [Act.put, List.setIfInBounds_toArray, List.set_cons_zero, List.set_cons_succ, List.getElem_toArray, List.getElem_cons_zero, List.getElem_cons_succ]
          refine wpAnyH_ready (rs := [6]) (by kernel_rfl) (by simp) ?_
          refine AllReadyH.cons rfl (fun K hK => ?_) AllReadyH.nil
          rw [if_pos (by rfl)]
          refine wp_app1 _ _ 26 rfl 23 _ 4 40 Try.underlying26 info23 rfl (by decide) Wd (tk l x.1).cells rfl _ rfl (w.heap.size + 1) v _ _ rfl hrow rfl rfl (by simp [Tok.cells, Value.oneCell']) (by unfold maxLen; omega) (by omega) (by omega) ?_
          intro g cc w1 hown1 hB1 hg1 hd1
          refine hK.out _ _ ⟨(hB1.cell (p := ⟨w.heap.size, 0, none⟩) (by dsimp only; omega)).trans hS.1, (hB1.cell (p := ⟨b, o + x.1 * 4, none⟩) (by dsimp only; omega)).trans hS.2.1, (hB1.cell (p := ⟨b, o + x.1 * 4 + 1, none⟩) (by dsimp only; omega)).trans hS.2.2.1, (hB1.cell (p := ⟨b, o + x.1 * 4 + 2, none⟩) (by dsimp only; omega)).trans hS.2.2.2.1, (hB1.cell (p := ⟨b, o + x.1 * 4 + 3, none⟩) (by dsimp only; omega)).trans hS.2.2.2.2⟩ (fun _ => ?_)
          clear hK K
          try simp only [Act.put, List.setIfInBounds_toArray, List.set_cons_zero, List.set_cons_succ, List.getElem_toArray, List.getElem_cons_zero, List.getElem_cons_succ]
          obtain ⟨hv1, hv2, hr2, hk2, hb2, hbo⟩ := appended2 hv (by decide) hrow (by omega) (by omega) (own_add hown1 rfl) hg1
          have hc1 := hv1.cell
          have hf1 := hv1.frozen
          refine wpAnyH_ready (rs := [7]) (by kernel_rfl) (by simp) ?_
          refine AllReadyH.cons rfl (fun K hK => ?_) AllReadyH.nil
          rw [if_pos (by rfl)]
          go_simp
          refine hK.out _ _ ⟨(hb2.cell (p := ⟨w.heap.size, 0, none⟩) (by dsimp only; omega)).trans hS.1, (hb2.cell (p := ⟨b, o + x.1 * 4, none⟩) (by dsimp only; omega)).trans hS.2.1, (hb2.cell (p := ⟨b, o + x.1 * 4 + 1, none⟩) (by dsimp only; omega)).trans hS.2.2.1, (hb2.cell (p := ⟨b, o + x.1 * 4 + 2, none⟩) (by dsimp only; omega)).trans hS.2.2.2.1, (hb2.cell (p := ⟨b, o + x.1 * 4 + 3, none⟩) (by dsimp only; omega)).trans hS.2.2.2.2⟩ (fun _ => ?_)
          clear hK K
          try simp only [Act.put, List.setIfInBounds_toArray, List.set_cons_zero, List.set_cons_succ, List.getElem_toArray, List.getElem_cons_zero, List.getElem_cons_succ]
          refine wpAnyH_done (by kernel_rfl) ?_ _
          have hst2 : St w (some ⟨b, o, none⟩) c l (ys ++ [(tk l x.1)]) W0 _ := ⟨⟨_, hv2, hr2⟩, hBw.trans (hb2.mono (by omega)), hbo _ _ (by omega) hcl, hbo _ _ (by omega) hcs, hKO.trans hk2, hBW.trans (hb2.mono (by omega))⟩
          gi_wp2
          exact ⟨hst2.keeps.from _, ⟨hst2.belowW, hst2.bs.cell.trans hst0.bs.cell.symm⟩, by dsimp only; rw [HF.out, HYS.out]; exact ⟨⟨⟨_, hst2.out.choose_spec.1, hst2.out.choose_spec.2⟩, hst2.below⟩, hst2.bl, hst2.bs⟩⟩
        · rw [if_pos (by rfl)]
          go_simp
          refine hK.out _ _ (hal _) (fun _ => ?_)
          clear hK K
          try simp only [Act.put, List.setIfInBounds_toArray, List.set_cons_zero, List.set_cons_succ, List.getElem_toArray, List.getElem_cons_zero, List.getElem_cons_succ]
          have hcva := (hv.alloc (.cells (tk l x.1).cells.toArray 23)).cell
          refine wpAnyH_ready (rs := [0]) (by kernel_rfl) (by simp) ?_
          refine AllReadyH.cons rfl (fun K hK => ?_) AllReadyH.nil
          rw [if_pos (by rfl)]
          go_simp
          refine hK.out _ _ (hal _) (fun _ => ?_)
          clear hK K
          try simp only [Act.put, List.setIfInBounds_toArray, List.set_cons_zero, List.set_cons_succ, List.getElem_toArray, List.getElem_cons_zero, List.getElem_cons_succ]
          refine wpAnyH_ready (rs := [6]) (by kernel_rfl) (by simp) ?_
          refine AllReadyH.cons rfl (fun K hK => ?_) AllReadyH.nil
          rw [if_pos (by rfl)]
          refine wp_app1 _ _ 26 rfl 23 _ 4 40 Try.underlying26 info23 rfl (by decide) Wd (tk l x.1).cells rfl _ rfl (w.heap.size + 1) v _ _ rfl hrow rfl rfl (by simp [Tok.cells, Value.oneCell']) (by unfold maxLen; omega) (by omega) (by omega) ?_
          intro g cc w1 hown1 hB1 hg1 hd1
          refine hK.out _ _ ⟨(hB1.cell (p := ⟨w.heap.size, 0, none⟩) (by dsimp only; omega)).trans hS.1, (hB1.cell (p := ⟨b, o + x.1 * 4, none⟩) (by dsimp only; omega)).trans hS.2.1, (hB1.cell (p := ⟨b, o + x.1 * 4 + 1, none⟩) (by dsimp only; omega)).trans hS.2.2.1, (hB1.cell (p := ⟨b, o + x.1 * 4 + 2, none⟩) (by dsimp only; omega)).trans hS.2.2.2.1, (hB1.cell (p := ⟨b, o + x.1 * 4 + 3, none⟩) (by dsimp only; omega)).trans hS.2.2.2.2⟩ (fun _ => ?_)
          clear hK K
          try simp only [Act.put, List.setIfInBounds_toArray, List.set_cons_zero, List.set_cons_succ, List.getElem_toArray, List.getElem_cons_zero, List.getElem_cons_succ]
          obtain ⟨hv1, hv2, hr2, hk2, hb2, hbo⟩ := appended2 hv (by decide) hrow (by omega) (by omega) (own_add hown1 rfl) hg1
          have hc1 := hv1.cell
          have hf1 := hv1.frozen
          refine wpAnyH_ready (rs := [7]) (by kernel_rfl) (by simp) ?_
          refine AllReadyH.cons rfl (fun K hK => ?_) AllReadyH.nil
          rw [if_pos (by rfl)]
          go_simp
          refine hK.out _ _ ⟨(hb2.cell (p := ⟨w.heap.size, 0, none⟩) (by dsimp only; omega)).trans hS.1, (hb2.cell (p := ⟨b, o + x.1 * 4, none⟩) (by dsimp only; omega)).trans hS.2.1, (hb2.cell (p := ⟨b, o + x.1 * 4 + 1, none⟩) (by dsimp only; omega)).trans hS.2.2.1, (hb2.cell (p := ⟨b, o + x.1 * 4 + 2, none⟩) (by dsimp only; omega)).trans hS.2.2.2.1, (hb2.cell (p := ⟨b, o + x.1 * 4 + 3, none⟩) (by dsimp only; omega)).trans hS.2.2.2.2⟩ (fun _ => ?_)
          clear hK K
          try simp only [Act.put, List.setIfInBounds_toArray, List.set_cons_zero, List.set_cons_succ, List.getElem_toArray, List.getElem_cons_zero, List.getElem_cons_succ]
          refine wpAnyH_done (by kernel_rfl) ?_ _
          have hst2 : St w (some ⟨b, o, none⟩) c l (ys ++ [(tk l x.1)]) W0 _ := ⟨⟨_, hv2, hr2⟩, hBw.trans (hb2.mono (by omega)), hbo _ _ (by omega) hcl, hbo _ _ (by omega) hcs, hKO.trans hk2, hBW.trans (hb2.mono (by omega))⟩
          gi_wp2
          exact ⟨hst2.keeps.from _, ⟨hst2.belowW, hst2.bs.cell.trans hst0.bs.cell.symm⟩, by dsimp only; rw [HF.out, HYS.out]; exact ⟨⟨⟨_, hst2.out.choose_spec.1, hst2.out.choose_spec.2⟩, hst2.below⟩, hst2.bl, hst2.bs⟩⟩
  case done =>
    rintro D ys W hD rfl ⟨⟨⟨v, hv, hrow, _⟩, hB⟩, hcl, hcs⟩ hK
    have hc := hv.cell
    have hcl0 := hcl.cell
    have hlv := hv.lt
    have hfl := flatM_le l (upto l l.length)
    rw [upto_length (Nat.le_refl _)] at hfl
    have hpa : progAll l = flatM l (upto l l.length) ++ if l.length = 0 ∨ opens (tk l (l.length - 1)) = true then [markTok 16 tk0] else [] := rfl
    have HPA := Lib.hid hpa
    clear hpa
    have hfin : ∀ (W' : World) (u : Value), W'.heap[D]? = some (.deferred (some [])) → W'.ownsRow (w.heap.size + 1) 23 4 u (progAll l).length (flat (progAll l)) → Below w.heap.size w W' →
        (∃ base, (W'.putObj D (.deferred none)).ownsRow base 23 4 u (progAll l).length (flat (progAll l))) ∧ Below w.heap.size w (W'.putObj D (.deferred none)) := fun W' u h1 h2 h3 =>
      ⟨⟨_, ownsRow_putObj h2 _ h1 rfl⟩, h3.trans (belowK_b (w := w) (Nat.le_refl _) W' D _ _ (by omega) h1 rfl rfl)⟩
    have HFIN := Lib.hid hfin
    clear hfin
    by_cases h0 : l.length = 0
    · have h0i : ((l.length : Int) == 0) = true := by simpa using h0
      have hpa : progAll l = flatM l (upto l l.length) ++ [markTok 16 tk0] := by rw [HPA.out, if_pos (.inl h0)]
      have HPA2 := Lib.hid hpa
      clear hpa h0
      gi_wp2
      refine ⟨trivial, ?_⟩
      gi_wp2_with (gi_at_builtin; refine wpListIn_of_op rfl (wp_app1 _ _ 26 rfl 23 _ 4 40 Try.underlying26 info23 rfl (by decide) W (markTok 16 tk0).cells rfl _ rfl (w.heap.size + 1) v _ _ rfl hrow rfl rfl (by simp [Tok.cells, Value.oneCell']) (by unfold maxLen; omega) (by omega) (by omega) ?_); intro g cc w5 hown1 hB1 hg1 _; obtain ⟨hv1, hv2, hr2, hk2, hb2, _⟩ := appended2 hv (by decide) hrow (by omega) (by omega) (own_add hown1 rfl) hg1; have hc1 := hv1.cell; have hf1 := hv1.frozen; have hK3 := hk2.same D _ hK rfl)
      refine ⟨by simp, .inl ⟨_, _, rfl, run_takeDeferred hK3, ?_⟩⟩
      exact ⟨_, results_tmp rfl _ _ _, _, rfl, HFIN.out _ _ hK3 (by rw [HPA2.out]; exact hr2) (hB.trans (hb2.mono (by omega)))⟩
    · have h0i : ((l.length : Int) == 0) = false := by simpa using h0
      obtain ⟨b, o, rfl, hb, hT⟩ := h (l.length - 1) (tk l (l.length - 1)) (tk_in (by omega))
      obtain ⟨g1, g2, g3, g4⟩ := hT.below hB hb
      have hk2 : (0 : Int) ≤ (l.length : Int) - 1 := by omega
      have hk3 : (l.length : Int) - 1 < (l.length : Int) := by omega
      have hk4 : (1 : Int) ≤ (l.length : Int) := by omega
      cases hop : opens (tk l (l.length - 1))
      · have hpa : progAll l = flatM l (upto l l.length) := by rw [HPA.out, if_neg (by rw [hop]; simp [h0])]; simp
        have HPA2 := Lib.hid hpa
        have HOP := Lib.hid hop
        clear hpa hop h0
        gi_wp2_with fail
        refine ⟨trivial, (callsIn_wide.2 (mOpens_any (tk l (l.length - 1)) _)).mono ?_⟩
        rintro e w5 ⟨rfl, hb5⟩
        rw [HOP.out]
        have hK5 := (hb5.block D (Array.getElem?_eq_some_iff.1 hK).1).trans hK
        have hc5 := (hb5.cell (p := ⟨w.heap.size + 1 + 1, 0, none⟩) hlv).trans hc
        gi_wp2
        refine ⟨by simp, .inl ⟨_, _, rfl, run_takeDeferred hK5, ?_⟩⟩
        exact ⟨_, results_tmp rfl _ _ _, _, rfl, HFIN.out _ _ hK5 (by rw [HPA2.out]; exact own_below hrow hb5) (hB.trans (hb5.mono hB.size))⟩
      · have hpa : progAll l = flatM l (upto l l.length) ++ [markTok 16 tk0] := by rw [HPA.out, if_pos (.inr hop)]
        have HPA2 := Lib.hid hpa
        have HOP := Lib.hid hop
        clear hpa hop h0
        gi_wp2_with fail
        refine ⟨trivial, (callsIn_wide.2 (mOpens_any (tk l (l.length - 1)) _)).mono ?_⟩
        rintro e w6 ⟨rfl, hb5⟩
        rw [HOP.out]
        have hK5 := (hb5.block D (Array.getElem?_eq_some_iff.1 hK).1).trans hK
        have hv5 : Boxed w6 (w.heap.size + 1 + 1) 26 v := (hb5.block _ hlv).trans hv
        have hc5 := hv5.cell
        have hrow5 := own_below hrow hb5
        have hs5 := hb5.size
        gi_wp2_with (gi_at_builtin; refine wpListIn_of_op rfl (wp_app1 _ _ 26 rfl 23 _ 4 40 Try.underlying26 info23 rfl (by decide) w6 (markTok 16 tk0).cells rfl _ rfl (w.heap.size + 1) v _ _ rfl hrow5 rfl rfl (by simp [Tok.cells, Value.oneCell']) (by unfold maxLen; omega) (by omega) (by omega) ?_); intro g cc w5 hown1 hB1 hg1 _; obtain ⟨hv1, hv2, hr2, hk2, hb2, _⟩ := appended2 hv5 (by decide) hrow5 (by omega) (by omega) (own_add hown1 rfl) hg1; have hc1 := hv1.cell; have hf1 := hv1.frozen; have hK3 := hk2.same D _ hK5 rfl)
        refine ⟨by simp, .inl ⟨_, _, rfl, run_takeDeferred hK3, ?_⟩⟩
        exact ⟨_, results_tmp rfl _ _ _, _, rfl, HFIN.out _ _ hK3 (by rw [HPA2.out]; exact hr2) ((hB.trans (hb5.mono hB.size)).trans (hb2.mono (by omega)))⟩
  case stop =>
    rintro D c pre W _ _ h _
    exact h.elim

theorem mark_own (A : Option Addr) (l : List Tok) (c : Nat) (w : World) (hlen : l.length ≤ 1048576) (htx : ∀ t ∈ l, t.text.size ≤ 1099511627776) (h : Toks w.heap.size w A l) :
    Calls Try.prog 19 #[.slice A l.length c] w fun e w' => ∃ v, e = .returned v ∧ (∃ base, w'.ownsRow base 23 4 v (progAll l).length (flat (progAll l))) ∧ Below w.heap.size w w' :=
  callsIn_wide.1 (mark_in 5 (by omega) A l c w hlen htx h)
theorem mark_any (A : Option Addr) (l : List Tok) (c : Nat) (w : World) (hlen : l.length ≤ 1048576) (htx : ∀ t ∈ l, t.text.size ≤ 1099511627776) (h : Toks w.heap.size w A l) :
    Calls Try.prog 19 #[.slice A l.length c] w fun e w' => ∃ v, e = .returned v ∧ IsToks w'.heap.size w' v (progAll l) ∧ Below w.heap.size w w' :=
  (mark_own A l c w hlen htx h).mono fun _ _ ⟨v, he, ⟨_, ho⟩, hb⟩ => ⟨v, he, isToks_of_own ho, hb⟩
end Go.Proofs.Ytnophjkiecalpaa
