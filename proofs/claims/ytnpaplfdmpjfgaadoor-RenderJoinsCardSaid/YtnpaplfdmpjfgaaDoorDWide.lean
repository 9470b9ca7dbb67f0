/- How many columns the widest line has, by the program and by its reference. -/
import Derived.Test.YtnpaplfdmpjfgaaDoorDCols
import Derived.Test.YtnpaplfdmpjfgaaDoorDPenF
import Derived.Lib.SplitLaws
namespace Go.Proofs.YtnpaplfdmpjfgaaDoor
open Go.RowKit

theorem runesFrom_step (s : ByteArray) (f pos : Nat) (h : pos < s.size) (hf : s.size ≤ pos + (f + 1)) : Lib.runeCountFrom s (f + 1) pos = 1 + Lib.runeCountFrom s s.size (pos + (Utf8.decode s pos).2) := by
  have hK := (dec_facts s pos).1
  simp only [Lib.runeCountFrom, if_pos h]
  rw [runes_fuel s f s.size _ (by omega) (by omega)]
set_option maxRecDepth 100000 in
set_option maxHeartbeats 2000000 in
theorem columns_any (s : ByteArray) (hs : s.size ≤ 16777216) (w : World) : Calls Tryd.prog 42 #[.string s] w fun e w' => e = .returned (.int .i64 (cols s)) ∧ Below w.heap.size w w' := by
  go_enter Tryd.func42, Tryd.ntmps42
  go_wp2
  go_loopw [3, 4] (fun n i wr => ∃ k p : Nat, p ≤ s.size ∧ k ≤ p ∧ i = .int .i64 p ∧ n = .int .i64 k ∧ (k : Int) + Lib.runeCountFrom s s.size p = cols s ∧ Below w.heap.size w wr) (fun _ i _ => s.size - (intOf i).toNat)
  case atStart => exact ⟨0, 0, by omega, by omega, rfl, rfl, by show _ = ((Lib.runeCountFrom s s.size 0 : Nat) : Int); omega, Below.refl _ _⟩
  case round =>
    obtain ⟨k, p, hp, hkp, rfl, rfl, hq, hb⟩ := hrel
    have HQ := Lib.hid hq
    have HB := Lib.hid hb
    clear hq hb
    by_cases hlt : p < s.size
    · obtain ⟨hK1, hK2, hK3, _, _⟩ := dec_facts s p
      have hK3 := hK3 hlt
      have HST := Lib.hid (runesFrom_step s (s.size - p - 1) p hlt (by omega))
      have HFU := Lib.hid (runes_fuel s s.size (s.size - p - 1 + 1) p (by omega) (by omega))
      have hN := next_any s p hlt hs wr
      unfold NextSaid at hN
      generalize (Utf8.decode s p).1 = R at hN
      generalize (Utf8.decode s p).2 = K at hN hK1 hK2 hK3 HST
      have HN := Lib.hid hN
      clear hN
      go_wp2_with fail
      refine HN.out.mono ?_
      rintro e w2 ⟨rfl, hb2⟩
      have HB2 := Lib.hid (HB.out.trans (hb2.mono HB.out.size))
      clear hb2
      go_wp2
      go_roundw
      case rel => exact ⟨k + 1, p + K, by omega, by omega, by go_num, by go_num, by have h1 := HQ.out; rw [HFU.out, HST.out] at h1; omega, HB2.out⟩
      case measure => simp [intOf]; omega
    · obtain rfl : p = s.size := by omega
      go_wp2
      go_ret
      exact ⟨ret_int (by have h1 := HQ.out; rw [Lib.runeCountFrom_end s _ _ (by omega)] at h1; omega), HB.out⟩

def nlB : ByteArray := ⟨#[10]⟩
def linesOf (s : ByteArray) : List ByteArray := Lib.splitB nlB 0 (Lib.countB s nlB) s
/-- How many columns the widest line has. -/
def widest (s : ByteArray) : Int := (linesOf s).foldl (fun m l => max m (cols l)) 0
theorem idx_byte (s : ByteArray) (k : Nat) (h : k < s.size) : s.data.toList[k]? = some (s[k]'h) := Lib.data_getElem? s k h
theorem index_nl (s : ByteArray) : Lib.indexB s nlB = Lib.indexByte s.data.toList 10 := Lib.index_one s.data.toList 10
theorem byte10 (s : ByteArray) (k : Nat) (h : k < s.size) : s.data.toList[k]? = some 10 ↔ byteN s k = 10 := by
  rw [idx_byte s k h, Option.some.injEq, ← get_byte s k h]
  constructor
  · intro e; rw [e]; rfl
  · intro e; exact UInt8.toNat_inj.1 e
theorem lines_hit {s : ByteArray} {i : Nat} (hi : i < s.size) (h10 : byteN s i = 10) (hno : ∀ j, j < i → byteN s j ≠ 10) : linesOf s = s.extract 0 i :: linesOf (s.extract (i + 1) s.size) := by
  have hidx : Lib.indexB s nlB = (i : Int) := by
    rcases Lib.indexB_cases s nlB with h | ⟨i', h, hle⟩
    · rw [index_nl] at h
      exact absurd ((byte10 s i hi).2 h10) (Lib.indexByte_none h i)
    · have hle' : i' + 1 ≤ s.size := hle
      rw [index_nl] at h
      obtain ⟨h1, h2⟩ := Lib.indexByte_some h
      rw [index_nl, h]
      rcases Nat.lt_trichotomy i' i with hlt | heq | hgt
      · exact absurd ((byte10 s i' (by omega)).1 h1) (hno i' hlt)
      · rw [heq]
      · exact absurd ((byte10 s i hi).2 h10) (h2 i hgt)
  have hc := Lib.countB_hit s nlB i (by decide) hidx
  unfold linesOf
  rw [hc, Nat.add_comm 1, Lib.splitB_hit nlB 0 _ s i hidx]
  rfl
theorem lines_miss {s : ByteArray} (hno : ∀ j, j < s.size → byteN s j ≠ 10) : linesOf s = [s] := by
  have hidx : Lib.indexB s nlB = -1 := by
    rcases Lib.indexB_cases s nlB with h | ⟨i', h, hle⟩
    · exact h
    · have hle' : i' + 1 ≤ s.size := hle
      rw [index_nl] at h
      obtain ⟨h1, _⟩ := Lib.indexByte_some h
      exact absurd ((byte10 s i' (by omega)).1 h1) (hno i' (by omega))
  unfold linesOf
  exact Lib.splitB_miss _ _ _ _ hidx
theorem byteN_extract (s : ByteArray) (f j : Nat) (hj : f + j < s.size) : byteN (s.extract f s.size) j = byteN s (f + j) := by
  have hs : (s.extract f s.size).size = s.size - f := by rw [ByteArray.size_extract]; omega
  rw [← get_byte s (f + j) hj, ← get_byte (s.extract f s.size) j (by omega), ByteArray.getElem_extract]
theorem extract_extract0 (s : ByteArray) (f i : Nat) (hf : f ≤ i) (_hi : i ≤ s.size) : (s.extract f s.size).extract 0 (i - f) = s.extract f i := by
  rw [ByteArray.extract_extract]
  congr 1 <;> omega
theorem extract_extract1 (s : ByteArray) (f i : Nat) (hf : f ≤ i) (_hi : i < s.size) : (s.extract f s.size).extract (i - f + 1) (s.extract f s.size).size = s.extract (i + 1) s.size := by
  rw [ByteArray.extract_extract, ByteArray.size_extract]
  congr 1 <;> omega
theorem lines_at {s : ByteArray} {f i : Nat} (hf : f ≤ i) (hi : i < s.size) (h10 : byteN s i = 10) (hno : ∀ j, f ≤ j → j < i → byteN s j ≠ 10) : linesOf (s.extract f s.size) = s.extract f i :: linesOf (s.extract (i + 1) s.size) := by
  have hs : (s.extract f s.size).size = s.size - f := by rw [ByteArray.size_extract]; omega
  have h := lines_hit (s := s.extract f s.size) (i := i - f) (by omega) (by rw [byteN_extract _ _ _ (by omega)]; rw [show f + (i - f) = i by omega]; exact h10) (fun j hj => by rw [byteN_extract _ _ _ (by omega)]; exact hno _ (by omega) (by omega))
  rw [h, extract_extract0 s f i hf (by omega), extract_extract1 s f i hf hi]
theorem lines_end {s : ByteArray} {f : Nat} (hno : ∀ j, f ≤ j → j < s.size → byteN s j ≠ 10) : linesOf (s.extract f s.size) = [s.extract f s.size] := by
  have hs : (s.extract f s.size).size = s.size - f := by rw [ByteArray.size_extract]; omega
  exact lines_miss fun j hj => by rw [byteN_extract _ _ _ (by omega)]; exact hno _ (by omega) (by omega)
theorem extract_all (s : ByteArray) : s.extract 0 s.size = s := ByteArray.extract_zero_size

theorem fold_max_le (ls : List ByteArray) (B : Int) (hl : ∀ l ∈ ls, cols l ≤ B) : ∀ m : Int, 0 ≤ m → m ≤ B → 0 ≤ ls.foldl (fun m l => max m (cols l)) m ∧ ls.foldl (fun m l => max m (cols l)) m ≤ B := by
  induction ls with
  | nil => intro m h0 h1; exact ⟨h0, h1⟩
  | cons a r ih =>
    intro m h0 h1
    have := hl a List.mem_cons_self
    exact ih (fun l h => hl l (List.mem_cons_of_mem _ h)) (max m (cols a)) (by omega) (by omega)

set_option maxRecDepth 100000 in
set_option maxHeartbeats 4000000 in
theorem rwidest_any (s : ByteArray) (hs : s.size ≤ 16777216) (w : World) : Calls Tryd.prog 37 #[.string s] w fun e w' => e = .returned (.int .i64 (widest s)) ∧ Below w.heap.size w w' := by
  go_enter Tryd.func37, Tryd.ntmps37
  go_wp2
  go_loopw [3, 4, 5] (fun mo fr i wr => ∃ (m : Int) (f k : Nat), mo = .int .i64 m ∧ fr = .int .i64 f ∧ i = .int .i64 k ∧ 0 ≤ m ∧ m ≤ s.size ∧ k ≤ s.size + 1 ∧ f ≤ k ∧
      (k ≤ s.size → (linesOf (s.extract f s.size)).foldl (fun m l => max m (cols l)) m = widest s ∧ ∀ j, f ≤ j → j < k → byteN s j ≠ 10) ∧ (k = s.size + 1 → m = widest s) ∧ Below w.heap.size w wr) (fun _ _ i _ => s.size + 1 - (intOf i).toNat)
  case atStart => exact ⟨0, 0, 0, rfl, rfl, rfl, by omega, by omega, by omega, by omega, fun _ => ⟨by rw [extract_all]; rfl, fun j _ h => by omega⟩, fun h => by omega, Below.refl _ _⟩
  case round =>
    obtain ⟨m, f, k, rfl, rfl, rfl, hm0, hm1, hk, hfk, h1, h2, hb⟩ := hrel
    have H1 := Lib.hid h1
    have H2 := Lib.hid h2
    have HB := Lib.hid hb
    clear h1 h2 hb
    by_cases hle : k ≤ s.size
    · obtain ⟨hw, hno⟩ := H1.out hle
      have HW := Lib.hid hw
      have HNO := Lib.hid hno
      clear hw hno
      have hex : (s.extract f k).size = k - f := by rw [ByteArray.size_extract]; omega
      have hcn := cols_nn (s.extract f k)
      have hcl := cols_le (s.extract f k)
      by_cases hend : k = s.size
      · have HE := Lib.hid hend
        have g1 : ((k : Int) == (s.size : Int)) = true := by rw [hend]; simp
        have g1' : (k == s.size) = true := by rw [hend]; simp
        have HC := Lib.hid (columns_any (s.extract f k) (by omega) wr)
        have HL := Lib.hid (show (linesOf (s.extract f s.size)) = [s.extract f k] by rw [lines_end (fun j hj hjs => HNO.out j hj (by omega)), hend])
        clear hend
        go_wp2_with fail
        refine HC.out.mono ?_
        rintro e w2 ⟨rfl, hb2⟩
        have HB2 := Lib.hid (HB.out.trans (hb2.mono HB.out.size))
        clear hb2
        by_cases hgt : m < cols (s.extract f k)
        · have e2 : decide (m < cols (s.extract f k)) = true := decide_eq_true hgt
          go_wp2
          go_roundw
          case rel =>
            exact ⟨_, k + 1, k + 1, by go_num, by go_num, by go_num, by omega, by omega, by omega, by omega, fun h => absurd h (by have := HE.out; omega), fun _ => by
            have h1 := HW.out
            rw [HL.out] at h1
            simp only [List.foldl_cons, List.foldl_nil] at h1
            omega, HB2.out⟩
          case measure => simp [intOf]; omega
        · have e2 : decide (m < cols (s.extract f k)) = false := decide_eq_false hgt
          go_wp2
          go_roundw
          case rel =>
            exact ⟨_, k + 1, k + 1, by go_num, by go_num, by go_num, by omega, by omega, by omega, by omega, fun h => absurd h (by have := HE.out; omega), fun _ => by
            have h1 := HW.out
            rw [HL.out] at h1
            simp only [List.foldl_cons, List.foldl_nil] at h1
            omega, HB2.out⟩
          case measure => simp [intOf]; omega
      · have hlt : k < s.size := by omega
        have g1 : ((k : Int) == (s.size : Int)) = false := by simp only [beq_eq_false_iff_ne, ne_eq]; omega
        have g1' : (k == s.size) = false := by simpa using hend
        have hby := get_byte s k hlt
        by_cases h10 : byteN s k = 10
        · have g2 : ((s[k]'hlt).toNat == 10) = true := by rw [hby, h10]; rfl
          have g3 : (((s[k]'hlt).toNat : Int) == 10) = true := by rw [hby, h10]; rfl
          have HC := Lib.hid (columns_any (s.extract f k) (by omega) wr)
          have HL := Lib.hid (lines_at hfk hlt h10 HNO.out)
          clear h10 hby hend
          go_wp2_with fail
          refine HC.out.mono ?_
          rintro e w2 ⟨rfl, hb2⟩
          have HB2 := Lib.hid (HB.out.trans (hb2.mono HB.out.size))
          clear hb2
          by_cases hgt : m < cols (s.extract f k)
          · have e2 : decide (m < cols (s.extract f k)) = true := decide_eq_true hgt
            go_wp2
            go_roundw
            case rel =>
              exact ⟨_, k + 1, k + 1, by go_num, by go_num, by go_num, by omega, by omega, by omega, by omega, fun _ => ⟨by
              have h1 := HW.out
              rw [HL.out] at h1
              simp only [List.foldl_cons] at h1
              rw [← h1]
              congr 1
              omega, fun j h1 h2 => by omega⟩, fun h => absurd h (by omega), HB2.out⟩
            case measure => simp [intOf]; omega
          · have e2 : decide (m < cols (s.extract f k)) = false := decide_eq_false hgt
            go_wp2
            go_roundw
            case rel =>
              exact ⟨_, k + 1, k + 1, by go_num, by go_num, by go_num, by omega, by omega, by omega, by omega, fun _ => ⟨by
              have h1 := HW.out
              rw [HL.out] at h1
              simp only [List.foldl_cons] at h1
              rw [← h1]
              congr 1
              omega, fun j h1 h2 => by omega⟩, fun h => absurd h (by omega), HB2.out⟩
            case measure => simp [intOf]; omega
        · have g2 : ((s[k]'hlt).toNat == 10) = false := by rw [hby]; simpa using h10
          have g3 : (((s[k]'hlt).toNat : Int) == 10) = false := by rw [hby]; simp only [beq_eq_false_iff_ne, ne_eq]; omega
          have H10 := Lib.hid h10
          clear h10 hby hend
          go_wp2
          go_roundw
          case rel => exact ⟨m, f, k + 1, rfl, rfl, by go_num, by omega, by omega, by omega, by omega, fun _ => ⟨HW.out, fun j h1 h2 => by
            by_cases hjk : j = k
            · rw [hjk]; exact H10.out
            · exact HNO.out j h1 (by omega)⟩, fun h => absurd h (by omega), HB.out⟩
          case measure => simp [intOf]; omega
    · obtain rfl : k = s.size + 1 := by omega
      have HR := Lib.hid (H2.out rfl)
      go_wp2
      go_ret
      exact ⟨ret_int HR.out, HB.out⟩

/-- What package strings' search wants of the world. -/
def MaxI (w : World) : Prop := ∃ m, w.cell? ⟨0, 0, none⟩ = some (.int .i64 m)
theorem maxI_of {w : World} (h : w.ShapedOpen Tryd.prog) : MaxI w := Tryd.laysM146.s1_3 w h
theorem MaxI.below {w w' : World} (h : MaxI w) (hb : Below w.heap.size w w') : MaxI w' := by
  obtain ⟨m, h⟩ := h
  exact ⟨m, (hb.cell (p := ⟨0, 0, none⟩) (World.block_lt_of_cell? w _ h)).trans h⟩
theorem lines_len (s : ByteArray) : (linesOf s).length = Lib.countB s nlB + 1 := Lib.splitB_all nlB (by decide) 0 _ s rfl
theorem lines_cols (s : ByteArray) : ∀ l ∈ linesOf s, l.size ≤ s.size := by
  have h : ∀ (n : Nat) (s : ByteArray), s.size ≤ n → ∀ l ∈ linesOf s, l.size ≤ s.size := by
    intro n
    induction n with
    | zero =>
      intro s hs l hl
      rw [lines_miss (fun j hj => by omega)] at hl
      rw [List.mem_singleton.1 hl]
      exact Nat.le_refl _
    | succ n ih =>
      intro s hs l hl
      by_cases hno : ∀ j, j < s.size → byteN s j ≠ 10
      · rw [lines_miss hno] at hl
        rw [List.mem_singleton.1 hl]
        exact Nat.le_refl _
      · have hex : ∃ i, i < s.size ∧ byteN s i = 10 ∧ ∀ j, j < i → byteN s j ≠ 10 := by
          rcases Lib.indexB_cases s nlB with h | ⟨i', h, hle⟩
          · rw [index_nl] at h
            exact absurd (fun j hj e => Lib.indexByte_none h j ((byte10 s j hj).2 e)) hno
          · have hle' : i' + 1 ≤ s.size := hle
            rw [index_nl] at h
            obtain ⟨h1, h2⟩ := Lib.indexByte_some h
            exact ⟨i', by omega, (byte10 s i' (by omega)).1 h1, fun j hj e => h2 j hj ((byte10 s j (by omega)).2 e)⟩
        obtain ⟨i, hi, h10, hno'⟩ := hex
        rw [lines_hit hi h10 hno'] at hl
        rcases List.mem_cons.1 hl with rfl | hl
        · rw [ByteArray.size_extract]; omega
        · have := ih (s.extract (i + 1) s.size) (by rw [ByteArray.size_extract]; omega) l hl
          rw [ByteArray.size_extract] at this
          omega
  exact h s.size s (Nat.le_refl _)

set_option maxRecDepth 100000 in
set_option maxHeartbeats 4000000 in
theorem pwidest_any (s : ByteArray) (hs : s.size ≤ 16777216) (w : World) (hm : MaxI w) : Calls Tryd.prog 36 #[.string s] w fun e w' => e = .returned (.int .i64 (widest s)) ∧ Below w.heap.size w w' := by
  obtain ⟨m0, hm0⟩ := hm
  have HS := Lib.hid (Tryd.strings_Split s nlB m0 w (by omega) hm0 (by decide))
  have hll := lines_len s
  have hcn : (linesOf s).length ≤ s.size + 1 := by
    rw [hll]
    have := Lib.countB_le nlB (by decide) s.size s (Nat.le_refl _)
    omega
  have hb1 := (Below.refl w.heap.size w).alloc (Nat.le_refl _) (.cells ((linesOf s).map Value.string).toArray 9)
  have hcell : ∀ j (hj : j < (linesOf s).length), (w.alloc (.cells ((linesOf s).map Value.string).toArray 9)).cell? ⟨w.heap.size, j, none⟩ = some (.string (linesOf s)[j]) := fun j hj => by
    rw [World.cell?_alloc_new]
    simp [hj]
  have HLC := Lib.hid (lines_cols s)
  have hwd : (linesOf s).foldl (fun m l => max m (cols l)) 0 = widest s := rfl
  rw [← hll] at HS
  have HS' := Lib.hid (show Calls Tryd.prog 58 #[.string s, .string ⟨#[10]⟩] w fun e w' => e = .returned (.slice (some ⟨w.heap.size, 0, none⟩) (linesOf s).length (linesOf s).length) ∧ w' = w.alloc (.cells ((linesOf s).map Value.string).toArray 9) from HS.out)
  obtain ⟨W, hW⟩ : ∃ W, w.alloc (.cells ((linesOf s).map Value.string).toArray 9) = W := ⟨_, rfl⟩
  rw [hW] at hb1 hcell HS'
  generalize linesOf s = ls at hll hcn hcell HLC hwd HS'
  have HB := Lib.hid hb1
  have HCE := Lib.hid hcell
  have HWD := Lib.hid hwd
  have hsz : w.heap.size < W.heap.size := by rw [← hW]; simp
  clear hm0 HS hll hb1 hcell hwd hW
  go_enter Tryd.func36, Tryd.ntmps36
  go_wp2_with fail
  refine HS'.out.mono ?_
  rintro e w1 ⟨rfl, rfl⟩
  go_wp2_with fail
  go_loopw [3, 9] (fun n i wr => ∃ k : Nat, k ≤ ls.length ∧ i = .int .i64 k ∧ n = .int .i64 ((ls.take k).foldl (fun m l => max m (cols l)) 0) ∧ Below w1.heap.size w1 wr) (fun _ i _ => ls.length - (intOf i).toNat)
  case atStart => exact ⟨0, by omega, rfl, rfl, Below.refl _ _⟩
  case round =>
    obtain ⟨k, hk, rfl, rfl, hb⟩ := hrel
    have HBR := Lib.hid hb
    have hfm := fold_max_le (ls.take k) 16777216 (fun l hl => by have := cols_le l; have := HLC.out l (List.mem_of_mem_take hl); omega) 0 (by omega) (by omega)
    by_cases hlt : k < ls.length
    · have h1 := (hb.cell (p := ⟨w.heap.size, k, none⟩) (by dsimp only; omega)).trans (HCE.out k hlt)
      have hll := HLC.out ls[k] (List.getElem_mem hlt)
      have HC := Lib.hid (runes_any ls[k] (by omega) wr)
      have HTK := Lib.hid (show (ls.take (k + 1)).foldl (fun m l => max m (cols l)) 0 = max ((ls.take k).foldl (fun m l => max m (cols l)) 0) (cols ls[k]) by rw [List.take_succ_eq_append_getElem hlt, List.foldl_append]; rfl)
      generalize (ls.take k).foldl (fun m l => max m (cols l)) 0 = mk at hfm HTK ⊢
      clear hb
      go_wp2_with fail
      refine HC.out.mono ?_
      rintro e w2 ⟨rfl, hb2⟩
      have HB2 := Lib.hid (HBR.out.trans (hb2.mono HBR.out.size))
      clear hb2 h1
      go_wp2
      go_roundw
      case rel => exact ⟨k + 1, by omega, by go_num, by rw [HTK.out], HB2.out⟩
      case measure => simp [intOf]; omega
    · obtain rfl : k = ls.length := by omega
      clear hb
      go_wp2
      go_ret
      exact ⟨ret_int (by rw [List.take_length]; exact HWD.out), HB.out.trans (HBR.out.mono (by omega))⟩
end Go.Proofs.YtnpaplfdmpjfgaaDoor
