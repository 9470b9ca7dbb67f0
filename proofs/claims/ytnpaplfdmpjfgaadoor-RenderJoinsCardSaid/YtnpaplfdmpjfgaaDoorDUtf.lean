/- Runes: the reference's Next and Check, as the model decodes. -/
import Derived.Test.YtnpaplfdmpjfgaaDoorDKit
import Derived.Lib.RuneCount
import Derived.Lib.DecodeN
namespace Go.Proofs.YtnpaplfdmpjfgaaDoor
open Go.RowKit

def byteN (s : ByteArray) (k : Nat) : Nat := (s.get! k).toNat
def contN (s : ByteArray) (k : Nat) : Bool := decide (k < s.size) && byteN s k / 64 == 2
/-- What bytes behind the first one make. -/
def accN (s : ByteArray) (i c0 : Nat) : Nat → Nat
  | 0 => c0
  | k + 1 => accN s i c0 k * 64 + byteN s (i + (k + 1)) % 64
theorem byteN_lt (s : ByteArray) (k : Nat) : byteN s k < 256 := UInt8.toNat_lt_size _
/-- What a first byte says: how many bytes, the least rune, what it brings. -/
def Leads (b n least c0 : Nat) : Prop := (n = 2 ∧ 194 ≤ b ∧ b ≤ 223 ∧ least = 128 ∧ c0 = b - 192) ∨ (n = 3 ∧ 224 ≤ b ∧ b ≤ 239 ∧ least = 2048 ∧ c0 = b - 224) ∨ (n = 4 ∧ 240 ≤ b ∧ b ≤ 244 ∧ least = 65536 ∧ c0 = b - 240)

theorem cont_no {s : ByteArray} {i j : Nat} (h : contN s (i + j) = false) : ¬ (j < s.size - i ∧ byteN s (i + j) / 64 = 2) := by
  intro hc
  have : contN s (i + j) = true := by simp only [contN, Bool.and_eq_true, decide_eq_true_eq, beq_iff_eq]; omega
  rw [this] at h
  cases h
theorem cont_yes {s : ByteArray} {i j : Nat} (h : contN s (i + j) = true) : j < s.size - i ∧ byteN s (i + j) / 64 = 2 := by
  simp only [contN, Bool.and_eq_true, decide_eq_true_eq, beq_iff_eq] at h
  omega
theorem dec_at (s : ByteArray) (i : Nat) : Utf8.decode s i = Lib.decodeN (s.size - i) (byteN s i) (byteN s (i + 1)) (byteN s (i + 2)) (byteN s (i + 3)) := Lib.decode_at s i
theorem dec_lo (s : ByteArray) (i : Nat) (h : byteN s i < 128) : Utf8.decode s i = (byteN s i, 1) := by
  rw [dec_at]
  unfold Lib.decodeN
  rw [if_pos h]
set_option maxRecDepth 100000 in
set_option maxHeartbeats 2000000 in
theorem dec_bad (s : ByteArray) (i : Nat) (h : 128 ≤ byteN s i) (h1 : byteN s i < 194 ∨ 244 < byteN s i) : Utf8.decode s i = (65533, 1) := by
  have hb := byteN_lt s i
  rw [dec_at]
  generalize byteN s i = b0 at *
  generalize byteN s (i + 1) = b1 at *
  generalize byteN s (i + 2) = b2 at *
  generalize byteN s (i + 3) = b3 at *
  unfold Lib.decodeN
  repeat' split
  all_goals first | rfl | (exfalso; omega)
set_option maxRecDepth 100000 in
set_option maxHeartbeats 2000000 in
theorem dec_cut (s : ByteArray) (i n least c0 j : Nat) (hl : Leads (byteN s i) n least c0) (h1 : 1 ≤ j) (h2 : j < n) (h : contN s (i + j) = false) : Utf8.decode s i = (65533, 1) := by
  have hc := cont_no h
  rw [dec_at]
  unfold Leads at hl
  have hj : j = 1 ∨ j = 2 ∨ j = 3 := by omega
  clear h
  rcases hj with rfl | rfl | rfl
  all_goals
    generalize byteN s i = b0 at *
    generalize byteN s (i + 1) = b1 at *
    generalize byteN s (i + 2) = b2 at *
    generalize byteN s (i + 3) = b3 at *
    unfold Lib.decodeN
    repeat' split
    all_goals first | rfl | (exfalso; omega)
set_option maxRecDepth 100000 in
set_option maxHeartbeats 4000000 in
/-- All bytes are there. -/
theorem dec_all (s : ByteArray) (i n least c0 : Nat) (hl : Leads (byteN s i) n least c0) (h : ∀ j, 1 ≤ j → j < n → contN s (i + j) = true) :
    Utf8.decode s i = if accN s i c0 (n - 1) < least ∨ accN s i c0 (n - 1) > 1114111 ∨ (55296 ≤ accN s i c0 (n - 1) ∧ accN s i c0 (n - 1) ≤ 57343) then (65533, 1) else (accN s i c0 (n - 1), n) := by
  rw [dec_at]
  unfold Leads at hl
  rcases hl with ⟨rfl, q1, q2, rfl, rfl⟩ | ⟨rfl, q1, q2, rfl, rfl⟩ | ⟨rfl, q1, q2, rfl, rfl⟩
  · have c1 := cont_yes (h 1 (by omega) (by omega))
    simp only [accN, Nat.reduceSub, Nat.zero_add]
    clear h
    generalize byteN s i = b0 at *
    generalize byteN s (i + 1) = b1 at *
    generalize byteN s (i + 2) = b2 at *
    generalize byteN s (i + 3) = b3 at *
    unfold Lib.decodeN
    repeat' split
    all_goals first | rfl | (exfalso; omega) | (apply Prod.ext <;> simp only <;> omega)
  · have c1 := cont_yes (h 1 (by omega) (by omega))
    have c2 := cont_yes (h 2 (by omega) (by omega))
    simp only [accN, Nat.reduceSub, Nat.zero_add, Nat.reduceAdd]
    clear h
    generalize byteN s i = b0 at *
    generalize byteN s (i + 1) = b1 at *
    generalize byteN s (i + 2) = b2 at *
    generalize byteN s (i + 3) = b3 at *
    unfold Lib.decodeN
    repeat' split
    all_goals first | rfl | (exfalso; omega) | (apply Prod.ext <;> simp only <;> omega)
  · have c1 := cont_yes (h 1 (by omega) (by omega))
    have c2 := cont_yes (h 2 (by omega) (by omega))
    have c3 := cont_yes (h 3 (by omega) (by omega))
    simp only [accN, Nat.reduceSub, Nat.zero_add, Nat.reduceAdd]
    clear h
    generalize byteN s i = b0 at *
    generalize byteN s (i + 1) = b1 at *
    generalize byteN s (i + 2) = b2 at *
    generalize byteN s (i + 3) = b3 at *
    unfold Lib.decodeN
    repeat' split
    all_goals first | rfl | (exfalso; omega) | (apply Prod.ext <;> simp only <;> omega)

theorem get_byte (s : ByteArray) (k : Nat) (h : k < s.size) : (s[k]'h).toNat = byteN s k := by
  unfold byteN
  cases s with
  | mk d => exact congrArg UInt8.toNat (getElem!_pos d k h).symm

/-- The byte at a place, or -1. -/
def atZ (s : ByteArray) (k : Nat) : Int := if k < s.size then byteN s k else -1
theorem at_any (s : ByteArray) (j : Int) (k : Nat) (hj : j = k) (w : World) : Calls Tryd.prog 81 #[.string s, .int .i64 j] w fun e w' => e = .returned (.int .i64 (atZ s k)) ∧ Below w.heap.size w w' := by
  subst hj
  by_cases h : k < s.size
  · have h1 : ¬ (s.size : Int) ≤ k := by omega
    go_enter Tryd.func81, Tryd.ntmps81
    go_wp2
    go_ret
    refine ⟨ret_int ?_, Below.refl _ _⟩
    have hb := byteN_lt s k
    rw [get_byte s k h]
    simp only [atZ, h, if_true]
    unfold wrap64
    omega
  · have h1 : (s.size : Int) ≤ k := by omega
    go_enter Tryd.func81, Tryd.ntmps81
    go_wp2
    go_ret
    exact ⟨ret_int (by simp [atZ, h]), Below.refl _ _⟩
-- WALK
theorem at_in (s : ByteArray) (j : Int) (k : Nat) (hj : j = k) (hk : k < s.size) (w : World) : Calls Tryd.prog 81 #[.string s, .int .i64 j] w fun e w' => e = .returned (.int .i64 (byteN s k)) ∧ Below w.heap.size w w' :=
  (at_any s j k hj w).mono fun e w' ⟨h1, h2⟩ => ⟨by rw [h1, atZ, if_pos hk], h2⟩
theorem acc_lt (s : ByteArray) (i c0 k : Nat) (h0 : c0 < 32) (hk : k ≤ 3) : accN s i c0 k < 8388608 := by
  have h : ∀ k, accN s i c0 k < 32 * 64 ^ k := by
    intro k
    induction k with
    | zero => simpa [accN] using h0
    | succ k ih => simp only [accN, Nat.pow_succ]; omega
  have h3 : 64 ^ k ≤ 64 ^ 3 := Nat.pow_le_pow_right (by decide) hk
  have := h k
  simp at h3
  omega
theorem ret_pair {k1 k2 : IntKind} {a b c d : Int} (h1 : a = c) (h2 : b = d) : Ending.returned (.tuple #[.int k1 a, .int k2 b]) = .returned (.tuple #[.int k1 c, .int k2 d]) := by rw [h1, h2]

def NextSaid (s : ByteArray) (i : Nat) (w : World) (e : Ending) (w' : World) : Prop := e = .returned (.tuple #[.int .i64 (Utf8.decode s i).1, .int .i64 (Utf8.decode s i).2]) ∧ Below w.heap.size w w'

set_option maxHeartbeats 1000000 in
theorem next_lo (s : ByteArray) (i : Nat) (hi : i < s.size) (w : World) (h : byteN s i < 128) : Calls Tryd.prog 60 #[.string s, .int .i64 i] w (NextSaid s i w) := by
  obtain ⟨B, hB⟩ : ∃ B : Int, (byteN s i : Int) = B := ⟨_, rfl⟩
  have hcall := at_in s i i rfl hi w
  rw [hB] at hcall
  have HB := Lib.hid hB
  have HC := Lib.hid hcall
  clear hcall
  have h0 : ¬ B < 0 := by omega
  have h1 : B < 128 := by omega
  have HR := Lib.hid (dec_lo s i h)
  clear hB h
  go_enter Tryd.func60, Tryd.ntmps60
  go_wp2_with fail
  refine HC.out.mono ?_
  rintro e w1 ⟨rfl, hb1⟩
  go_wp2
  go_ret2
  exact ⟨ret_pair (by rw [HR.out]; exact HB.out.symm) (by rw [HR.out]; rfl), hb1⟩

set_option maxHeartbeats 1000000 in
theorem next_bad (s : ByteArray) (i : Nat) (hi : i < s.size) (w : World) (h : 128 ≤ byteN s i) (hbad : byteN s i < 194 ∨ 244 < byteN s i) : Calls Tryd.prog 60 #[.string s, .int .i64 i] w (NextSaid s i w) := by
  obtain ⟨B, hB⟩ : ∃ B : Int, (byteN s i : Int) = B := ⟨_, rfl⟩
  have hcall := at_in s i i rfl hi w
  rw [hB] at hcall
  have HB := Lib.hid hB
  have HC := Lib.hid hcall
  clear hcall
  have h0 : ¬ B < 0 := by omega
  have h1 : ¬ B < 128 := by omega
  have HR := Lib.hid (dec_bad s i h hbad)
  rcases hbad with hx | hx
  · have g1 : ¬ 194 ≤ B := by omega
    have g2 : ¬ 224 ≤ B := by omega
    have g3 : ¬ 240 ≤ B := by omega
    clear hB h hx
    go_enter Tryd.func60, Tryd.ntmps60
    go_wp2_with fail
    refine HC.out.mono ?_
    rintro e w1 ⟨rfl, hb1⟩
    go_wp2
    go_ret2
    exact ⟨ret_pair (by rw [HR.out]; rfl) (by rw [HR.out]; rfl), hb1⟩
  · have g1 : 194 ≤ B := by omega
    have g2 : ¬ B ≤ 223 := by omega
    have g3 : 224 ≤ B := by omega
    have g4 : ¬ B ≤ 239 := by omega
    have g5 : 240 ≤ B := by omega
    have g6 : ¬ B ≤ 244 := by omega
    clear hB h hx
    go_enter Tryd.func60, Tryd.ntmps60
    go_wp2_with fail
    refine HC.out.mono ?_
    rintro e w1 ⟨rfl, hb1⟩
    go_wp2
    go_ret2
    exact ⟨ret_pair (by rw [HR.out]; rfl) (by rw [HR.out]; rfl), hb1⟩

set_option maxRecDepth 100000 in
set_option maxHeartbeats 4000000 in
theorem next_2 (s : ByteArray) (i : Nat) (hi : i < s.size) (hs : s.size ≤ 16777216) (w : World) (hl0 : 194 ≤ byteN s i) (hl1 : byteN s i ≤ 223) : Calls Tryd.prog 60 #[.string s, .int .i64 i] w (NextSaid s i w) := by
  obtain ⟨B, hB⟩ : ∃ B : Int, (byteN s i : Int) = B := ⟨_, rfl⟩
  have hcall := at_in s i i rfl hi w
  rw [hB] at hcall
  have HB := Lib.hid hB
  have HC := Lib.hid hcall
  clear hcall
  have h0 : ¬ B < 0 := by omega
  have h1 : ¬ B < 128 := by omega
  have g0 : 194 ≤ B := by omega
  have g1 : B ≤ 223 := by omega
  obtain ⟨c0, hc0⟩ : ∃ c0, byteN s i - 192 = c0 := ⟨_, rfl⟩
  have hL : Leads (byteN s i) 2 128 c0 := by unfold Leads; omega
  have HL := Lib.hid hL
  have hcB : B = (c0 : Int) + 192 := by omega
  have hc32 : c0 < 32 := by omega
  have HCB := Lib.hid hcB
  clear hB hl0 hl1 hc0 hL hcB
  go_enter Tryd.func60, Tryd.ntmps60
  go_wp2_with fail
  refine HC.out.mono ?_
  rintro e w1 ⟨rfl, hb1⟩
  have HB1 := Lib.hid hb1
  clear hb1
  go_wp2_with fail
  go_loopw [9, 10] (fun c q wr => ∃ k : Nat, k + 1 ≤ 2 ∧ c = .int .i64 (accN s i c0 k) ∧ q = .int .i64 ((k + 1 : Nat) : Int) ∧ (∀ j, 1 ≤ j → j ≤ k → contN s (i + j) = true) ∧ Below w.heap.size w wr) (fun _ q wr => 2 - (intOf q).toNat)
  case atStart => exact ⟨0, by omega, by have := HCB.out; simp only [accN]; congr 1; omega, rfl, fun j _ _ => by omega, HB1.out⟩
  case round =>
    obtain ⟨k, hk, rfl, rfl, hall, hBw⟩ := hrel
    have HA := Lib.hid hall
    have HW := Lib.hid hBw
    have hac := acc_lt s i c0 k hc32 (by omega)
    clear hall hBw
    by_cases hlt : k + 1 < 2
    · have hat := at_any s ((i : Int) + ((k + 1 : Nat) : Int)) (i + (k + 1)) (by omega) wr
      cases hc : contN s (i + (k + 1)) with
      | false =>
        have HR := Lib.hid (dec_cut s i 2 128 c0 (k + 1) HL.out (by omega) hlt hc)
        have hz : atZ s (i + (k + 1)) < 128 ∨ 191 < atZ s (i + (k + 1)) := by
          unfold atZ
          by_cases hks : i + (k + 1) < s.size
          · rw [if_pos hks]
            have := byteN_lt s (i + (k + 1))
            have : ¬ byteN s (i + (k + 1)) / 64 = 2 := by
              intro h2
              simp [contN, h2, hks] at hc
            omega
          · rw [if_neg hks]
            omega
        obtain ⟨Z, hZ⟩ : ∃ Z, atZ s (i + (k + 1)) = Z := ⟨_, rfl⟩
        rw [hZ] at hat hz
        have HAT := Lib.hid hat
        clear hat hc hZ
        rcases hz with hz | hz
        · go_wp2_with fail
          refine HAT.out.mono ?_
          rintro e w2 ⟨rfl, hb2⟩
          go_wp2
          go_ret2
          exact ⟨ret_pair (by rw [HR.out]; rfl) (by rw [HR.out]; rfl), HW.out.trans (hb2.mono HW.out.size)⟩
        · have hz' : ¬ Z < 128 := by omega
          go_wp2_with fail
          refine HAT.out.mono ?_
          rintro e w2 ⟨rfl, hb2⟩
          go_wp2
          go_ret2
          exact ⟨ret_pair (by rw [HR.out]; rfl) (by rw [HR.out]; rfl), HW.out.trans (hb2.mono HW.out.size)⟩
      | true =>
        have hcc : atZ s (i + (k + 1)) = ((byteN s (i + (k + 1)) % 64 : Nat) : Int) + 128 := by
          simp only [contN, Bool.and_eq_true, decide_eq_true_eq, beq_iff_eq] at hc
          rw [atZ, if_pos hc.1]
          omega
        have HCN := Lib.hid hc
        obtain ⟨x, hx⟩ : ∃ x, byteN s (i + (k + 1)) % 64 = x := ⟨_, rfl⟩
        have hxl : x < 64 := by omega
        have HX := Lib.hid hx
        rw [hx] at hcc
        obtain ⟨Z, hZ⟩ : ∃ Z, atZ s (i + (k + 1)) = Z := ⟨_, rfl⟩
        rw [hZ] at hat hcc
        have HAT := Lib.hid hat
        have z1 : ¬ Z < 128 := by omega
        have z2 : ¬ 191 < Z := by omega
        have HZ := Lib.hid hcc
        clear hat hc hZ hx hcc
        go_wp2_with fail
        refine HAT.out.mono ?_
        rintro e w2 ⟨rfl, hb2⟩
        go_wp2
        go_roundw
        case rel =>
          refine ⟨k + 1, by omega, ?_, by go_num, fun j h1 h2 => ?_, HW.out.trans (hb2.mono HW.out.size)⟩
          · have hz := HZ.out
            have hx := HX.out
            simp only [accN, hx]
            subst hz
            go_num
          · by_cases h : j ≤ k
            · exact HA.out j h1 h
            · obtain rfl : j = k + 1 := by omega
              exact HCN.out
        case measure => simp [intOf]; omega
    · have hkn : k = 2 - 1 := by omega
      have HR := dec_all s i 2 128 c0 HL.out (fun j h1 h2 => HA.out j h1 (by omega))
      rw [← hkn] at HR
      generalize hC : accN s i c0 k = C at *
      by_cases hbad : C < 128 ∨ C > 1114111 ∨ (55296 ≤ C ∧ C ≤ 57343)
      · rw [if_pos hbad] at HR
        have HR := Lib.hid HR
        obtain ⟨Z, hZ⟩ : ∃ Z : Int, (C : Int) = Z := ⟨_, rfl⟩
        rcases hbad with hx | hx | hx
        · have z1 : Z < 128 := by omega
          rw [hZ]
          clear hx hZ hC
          go_wp2
          go_ret2
          exact ⟨ret_pair (by rw [HR.out]; rfl) (by rw [HR.out]; rfl), HW.out⟩
        · have z1 : ¬ Z < 128 := by omega
          have z2 : 1114111 < Z := by omega
          rw [hZ]
          clear hx hZ hC
          go_wp2
          go_ret2
          exact ⟨ret_pair (by rw [HR.out]; rfl) (by rw [HR.out]; rfl), HW.out⟩
        · by_cases hz0 : C < 128
          · have z1 : Z < 128 := by omega
            rw [hZ]
            clear hx hZ hz0 hC
            go_wp2
            go_ret2
            exact ⟨ret_pair (by rw [HR.out]; rfl) (by rw [HR.out]; rfl), HW.out⟩
          · have z1 : ¬ Z < 128 := by omega
            have z2 : ¬ 1114111 < Z := by omega
            have z3 : 55296 ≤ Z := by omega
            have z4 : Z ≤ 57343 := by omega
            rw [hZ]
            clear hx hZ hz0 hC
            go_wp2
            go_ret2
            exact ⟨ret_pair (by rw [HR.out]; rfl) (by rw [HR.out]; rfl), HW.out⟩
      · rw [if_neg hbad] at HR
        have HR := Lib.hid HR
        obtain ⟨Z, hZ⟩ : ∃ Z : Int, (C : Int) = Z := ⟨_, rfl⟩
        have HZ := Lib.hid hZ
        have z1 : ¬ Z < 128 := by omega
        have z2 : ¬ 1114111 < Z := by omega
        have hk2 : k + 1 = 2 := by omega
        rw [hZ]
        by_cases z3 : 55296 ≤ Z
        · have z4 : ¬ Z ≤ 57343 := by omega
          clear hbad hZ hC
          go_wp2
          go_ret2
          exact ⟨ret_pair (by rw [HR.out]; exact HZ.out.symm) (by rw [HR.out]; rfl), HW.out⟩
        · clear hbad hZ hC
          go_wp2
          go_ret2
          exact ⟨ret_pair (by rw [HR.out]; exact HZ.out.symm) (by rw [HR.out]; rfl), HW.out⟩

set_option maxRecDepth 100000 in
set_option maxHeartbeats 4000000 in
theorem next_3 (s : ByteArray) (i : Nat) (hi : i < s.size) (hs : s.size ≤ 16777216) (w : World) (hl0 : 224 ≤ byteN s i) (hl1 : byteN s i ≤ 239) : Calls Tryd.prog 60 #[.string s, .int .i64 i] w (NextSaid s i w) := by
  obtain ⟨B, hB⟩ : ∃ B : Int, (byteN s i : Int) = B := ⟨_, rfl⟩
  have hcall := at_in s i i rfl hi w
  rw [hB] at hcall
  have HB := Lib.hid hB
  have HC := Lib.hid hcall
  clear hcall
  have h0 : ¬ B < 0 := by omega
  have h1 : ¬ B < 128 := by omega
  have g0 : 194 ≤ B := by omega
  have g1 : ¬ B ≤ 223 := by omega
  have g2 : 224 ≤ B := by omega
  have g3 : B ≤ 239 := by omega
  obtain ⟨c0, hc0⟩ : ∃ c0, byteN s i - 224 = c0 := ⟨_, rfl⟩
  have hL : Leads (byteN s i) 3 2048 c0 := by unfold Leads; omega
  have HL := Lib.hid hL
  have hcB : B = (c0 : Int) + 224 := by omega
  have hc32 : c0 < 32 := by omega
  have HCB := Lib.hid hcB
  clear hB hl0 hl1 hc0 hL hcB
  go_enter Tryd.func60, Tryd.ntmps60
  go_wp2_with fail
  refine HC.out.mono ?_
  rintro e w1 ⟨rfl, hb1⟩
  have HB1 := Lib.hid hb1
  clear hb1
  go_wp2_with fail
  go_loopw [9, 10] (fun c q wr => ∃ k : Nat, k + 1 ≤ 3 ∧ c = .int .i64 (accN s i c0 k) ∧ q = .int .i64 ((k + 1 : Nat) : Int) ∧ (∀ j, 1 ≤ j → j ≤ k → contN s (i + j) = true) ∧ Below w.heap.size w wr) (fun _ q wr => 3 - (intOf q).toNat)
  case atStart => exact ⟨0, by omega, by have := HCB.out; simp only [accN]; congr 1; omega, rfl, fun j _ _ => by omega, HB1.out⟩
  case round =>
    obtain ⟨k, hk, rfl, rfl, hall, hBw⟩ := hrel
    have HA := Lib.hid hall
    have HW := Lib.hid hBw
    have hac := acc_lt s i c0 k hc32 (by omega)
    clear hall hBw
    by_cases hlt : k + 1 < 3
    · have hat := at_any s ((i : Int) + ((k + 1 : Nat) : Int)) (i + (k + 1)) (by omega) wr
      cases hc : contN s (i + (k + 1)) with
      | false =>
        have HR := Lib.hid (dec_cut s i 3 2048 c0 (k + 1) HL.out (by omega) hlt hc)
        have hz : atZ s (i + (k + 1)) < 128 ∨ 191 < atZ s (i + (k + 1)) := by
          unfold atZ
          by_cases hks : i + (k + 1) < s.size
          · rw [if_pos hks]
            have := byteN_lt s (i + (k + 1))
            have : ¬ byteN s (i + (k + 1)) / 64 = 2 := by
              intro h2
              simp [contN, h2, hks] at hc
            omega
          · rw [if_neg hks]
            omega
        obtain ⟨Z, hZ⟩ : ∃ Z, atZ s (i + (k + 1)) = Z := ⟨_, rfl⟩
        rw [hZ] at hat hz
        have HAT := Lib.hid hat
        clear hat hc hZ
        rcases hz with hz | hz
        · go_wp2_with fail
          refine HAT.out.mono ?_
          rintro e w2 ⟨rfl, hb2⟩
          go_wp2
          go_ret2
          exact ⟨ret_pair (by rw [HR.out]; rfl) (by rw [HR.out]; rfl), HW.out.trans (hb2.mono HW.out.size)⟩
        · have hz' : ¬ Z < 128 := by omega
          go_wp2_with fail
          refine HAT.out.mono ?_
          rintro e w2 ⟨rfl, hb2⟩
          go_wp2
          go_ret2
          exact ⟨ret_pair (by rw [HR.out]; rfl) (by rw [HR.out]; rfl), HW.out.trans (hb2.mono HW.out.size)⟩
      | true =>
        have hcc : atZ s (i + (k + 1)) = ((byteN s (i + (k + 1)) % 64 : Nat) : Int) + 128 := by
          simp only [contN, Bool.and_eq_true, decide_eq_true_eq, beq_iff_eq] at hc
          rw [atZ, if_pos hc.1]
          omega
        have HCN := Lib.hid hc
        obtain ⟨x, hx⟩ : ∃ x, byteN s (i + (k + 1)) % 64 = x := ⟨_, rfl⟩
        have hxl : x < 64 := by omega
        have HX := Lib.hid hx
        rw [hx] at hcc
        obtain ⟨Z, hZ⟩ : ∃ Z, atZ s (i + (k + 1)) = Z := ⟨_, rfl⟩
        rw [hZ] at hat hcc
        have HAT := Lib.hid hat
        have z1 : ¬ Z < 128 := by omega
        have z2 : ¬ 191 < Z := by omega
        have HZ := Lib.hid hcc
        clear hat hc hZ hx hcc
        go_wp2_with fail
        refine HAT.out.mono ?_
        rintro e w2 ⟨rfl, hb2⟩
        go_wp2
        go_roundw
        case rel =>
          refine ⟨k + 1, by omega, ?_, by go_num, fun j h1 h2 => ?_, HW.out.trans (hb2.mono HW.out.size)⟩
          · have hz := HZ.out
            have hx := HX.out
            simp only [accN, hx]
            subst hz
            go_num
          · by_cases h : j ≤ k
            · exact HA.out j h1 h
            · obtain rfl : j = k + 1 := by omega
              exact HCN.out
        case measure => simp [intOf]; omega
    · have hkn : k = 3 - 1 := by omega
      have HR := dec_all s i 3 2048 c0 HL.out (fun j h1 h2 => HA.out j h1 (by omega))
      rw [← hkn] at HR
      generalize hC : accN s i c0 k = C at *
      by_cases hbad : C < 2048 ∨ C > 1114111 ∨ (55296 ≤ C ∧ C ≤ 57343)
      · rw [if_pos hbad] at HR
        have HR := Lib.hid HR
        obtain ⟨Z, hZ⟩ : ∃ Z : Int, (C : Int) = Z := ⟨_, rfl⟩
        rcases hbad with hx | hx | hx
        · have z1 : Z < 2048 := by omega
          rw [hZ]
          clear hx hZ hC
          go_wp2
          go_ret2
          exact ⟨ret_pair (by rw [HR.out]; rfl) (by rw [HR.out]; rfl), HW.out⟩
        · have z1 : ¬ Z < 2048 := by omega
          have z2 : 1114111 < Z := by omega
          rw [hZ]
          clear hx hZ hC
          go_wp2
          go_ret2
          exact ⟨ret_pair (by rw [HR.out]; rfl) (by rw [HR.out]; rfl), HW.out⟩
        · by_cases hz0 : C < 2048
          · have z1 : Z < 2048 := by omega
            rw [hZ]
            clear hx hZ hz0 hC
            go_wp2
            go_ret2
            exact ⟨ret_pair (by rw [HR.out]; rfl) (by rw [HR.out]; rfl), HW.out⟩
          · have z1 : ¬ Z < 2048 := by omega
            have z2 : ¬ 1114111 < Z := by omega
            have z3 : 55296 ≤ Z := by omega
            have z4 : Z ≤ 57343 := by omega
            rw [hZ]
            clear hx hZ hz0 hC
            go_wp2
            go_ret2
            exact ⟨ret_pair (by rw [HR.out]; rfl) (by rw [HR.out]; rfl), HW.out⟩
      · rw [if_neg hbad] at HR
        have HR := Lib.hid HR
        obtain ⟨Z, hZ⟩ : ∃ Z : Int, (C : Int) = Z := ⟨_, rfl⟩
        have HZ := Lib.hid hZ
        have z1 : ¬ Z < 2048 := by omega
        have z2 : ¬ 1114111 < Z := by omega
        have hk2 : k + 1 = 3 := by omega
        rw [hZ]
        by_cases z3 : 55296 ≤ Z
        · have z4 : ¬ Z ≤ 57343 := by omega
          clear hbad hZ hC
          go_wp2
          go_ret2
          exact ⟨ret_pair (by rw [HR.out]; exact HZ.out.symm) (by rw [HR.out]; rfl), HW.out⟩
        · clear hbad hZ hC
          go_wp2
          go_ret2
          exact ⟨ret_pair (by rw [HR.out]; exact HZ.out.symm) (by rw [HR.out]; rfl), HW.out⟩

set_option maxRecDepth 100000 in
set_option maxHeartbeats 4000000 in
theorem next_4 (s : ByteArray) (i : Nat) (hi : i < s.size) (hs : s.size ≤ 16777216) (w : World) (hl0 : 240 ≤ byteN s i) (hl1 : byteN s i ≤ 244) : Calls Tryd.prog 60 #[.string s, .int .i64 i] w (NextSaid s i w) := by
  obtain ⟨B, hB⟩ : ∃ B : Int, (byteN s i : Int) = B := ⟨_, rfl⟩
  have hcall := at_in s i i rfl hi w
  rw [hB] at hcall
  have HB := Lib.hid hB
  have HC := Lib.hid hcall
  clear hcall
  have h0 : ¬ B < 0 := by omega
  have h1 : ¬ B < 128 := by omega
  have g0 : 194 ≤ B := by omega
  have g1 : ¬ B ≤ 223 := by omega
  have g2 : 224 ≤ B := by omega
  have g3 : ¬ B ≤ 239 := by omega
  have g4 : 240 ≤ B := by omega
  have g5 : B ≤ 244 := by omega
  obtain ⟨c0, hc0⟩ : ∃ c0, byteN s i - 240 = c0 := ⟨_, rfl⟩
  have hL : Leads (byteN s i) 4 65536 c0 := by unfold Leads; omega
  have HL := Lib.hid hL
  have hcB : B = (c0 : Int) + 240 := by omega
  have hc32 : c0 < 32 := by omega
  have HCB := Lib.hid hcB
  clear hB hl0 hl1 hc0 hL hcB
  go_enter Tryd.func60, Tryd.ntmps60
  go_wp2_with fail
  refine HC.out.mono ?_
  rintro e w1 ⟨rfl, hb1⟩
  have HB1 := Lib.hid hb1
  clear hb1
  go_wp2_with fail
  go_loopw [9, 10] (fun c q wr => ∃ k : Nat, k + 1 ≤ 4 ∧ c = .int .i64 (accN s i c0 k) ∧ q = .int .i64 ((k + 1 : Nat) : Int) ∧ (∀ j, 1 ≤ j → j ≤ k → contN s (i + j) = true) ∧ Below w.heap.size w wr) (fun _ q wr => 4 - (intOf q).toNat)
  case atStart => exact ⟨0, by omega, by have := HCB.out; simp only [accN]; congr 1; omega, rfl, fun j _ _ => by omega, HB1.out⟩
  case round =>
    obtain ⟨k, hk, rfl, rfl, hall, hBw⟩ := hrel
    have HA := Lib.hid hall
    have HW := Lib.hid hBw
    have hac := acc_lt s i c0 k hc32 (by omega)
    clear hall hBw
    by_cases hlt : k + 1 < 4
    · have hat := at_any s ((i : Int) + ((k + 1 : Nat) : Int)) (i + (k + 1)) (by omega) wr
      cases hc : contN s (i + (k + 1)) with
      | false =>
        have HR := Lib.hid (dec_cut s i 4 65536 c0 (k + 1) HL.out (by omega) hlt hc)
        have hz : atZ s (i + (k + 1)) < 128 ∨ 191 < atZ s (i + (k + 1)) := by
          unfold atZ
          by_cases hks : i + (k + 1) < s.size
          · rw [if_pos hks]
            have := byteN_lt s (i + (k + 1))
            have : ¬ byteN s (i + (k + 1)) / 64 = 2 := by
              intro h2
              simp [contN, h2, hks] at hc
            omega
          · rw [if_neg hks]
            omega
        obtain ⟨Z, hZ⟩ : ∃ Z, atZ s (i + (k + 1)) = Z := ⟨_, rfl⟩
        rw [hZ] at hat hz
        have HAT := Lib.hid hat
        clear hat hc hZ
        rcases hz with hz | hz
        · go_wp2_with fail
          refine HAT.out.mono ?_
          rintro e w2 ⟨rfl, hb2⟩
          go_wp2
          go_ret2
          exact ⟨ret_pair (by rw [HR.out]; rfl) (by rw [HR.out]; rfl), HW.out.trans (hb2.mono HW.out.size)⟩
        · have hz' : ¬ Z < 128 := by omega
          go_wp2_with fail
          refine HAT.out.mono ?_
          rintro e w2 ⟨rfl, hb2⟩
          go_wp2
          go_ret2
          exact ⟨ret_pair (by rw [HR.out]; rfl) (by rw [HR.out]; rfl), HW.out.trans (hb2.mono HW.out.size)⟩
      | true =>
        have hcc : atZ s (i + (k + 1)) = ((byteN s (i + (k + 1)) % 64 : Nat) : Int) + 128 := by
          simp only [contN, Bool.and_eq_true, decide_eq_true_eq, beq_iff_eq] at hc
          rw [atZ, if_pos hc.1]
          omega
        have HCN := Lib.hid hc
        obtain ⟨x, hx⟩ : ∃ x, byteN s (i + (k + 1)) % 64 = x := ⟨_, rfl⟩
        have hxl : x < 64 := by omega
        have HX := Lib.hid hx
        rw [hx] at hcc
        obtain ⟨Z, hZ⟩ : ∃ Z, atZ s (i + (k + 1)) = Z := ⟨_, rfl⟩
        rw [hZ] at hat hcc
        have HAT := Lib.hid hat
        have z1 : ¬ Z < 128 := by omega
        have z2 : ¬ 191 < Z := by omega
        have HZ := Lib.hid hcc
        clear hat hc hZ hx hcc
        go_wp2_with fail
        refine HAT.out.mono ?_
        rintro e w2 ⟨rfl, hb2⟩
        go_wp2
        go_roundw
        case rel =>
          refine ⟨k + 1, by omega, ?_, by go_num, fun j h1 h2 => ?_, HW.out.trans (hb2.mono HW.out.size)⟩
          · have hz := HZ.out
            have hx := HX.out
            simp only [accN, hx]
            subst hz
            go_num
          · by_cases h : j ≤ k
            · exact HA.out j h1 h
            · obtain rfl : j = k + 1 := by omega
              exact HCN.out
        case measure => simp [intOf]; omega
    · have hkn : k = 4 - 1 := by omega
      have HR := dec_all s i 4 65536 c0 HL.out (fun j h1 h2 => HA.out j h1 (by omega))
      rw [← hkn] at HR
      generalize hC : accN s i c0 k = C at *
      by_cases hbad : C < 65536 ∨ C > 1114111 ∨ (55296 ≤ C ∧ C ≤ 57343)
      · rw [if_pos hbad] at HR
        have HR := Lib.hid HR
        obtain ⟨Z, hZ⟩ : ∃ Z : Int, (C : Int) = Z := ⟨_, rfl⟩
        rcases hbad with hx | hx | hx
        · have z1 : Z < 65536 := by omega
          rw [hZ]
          clear hx hZ hC
          go_wp2
          go_ret2
          exact ⟨ret_pair (by rw [HR.out]; rfl) (by rw [HR.out]; rfl), HW.out⟩
        · have z1 : ¬ Z < 65536 := by omega
          have z2 : 1114111 < Z := by omega
          rw [hZ]
          clear hx hZ hC
          go_wp2
          go_ret2
          exact ⟨ret_pair (by rw [HR.out]; rfl) (by rw [HR.out]; rfl), HW.out⟩
        · by_cases hz0 : C < 65536
          · have z1 : Z < 65536 := by omega
            rw [hZ]
            clear hx hZ hz0 hC
            go_wp2
            go_ret2
            exact ⟨ret_pair (by rw [HR.out]; rfl) (by rw [HR.out]; rfl), HW.out⟩
          · have z1 : ¬ Z < 65536 := by omega
            have z2 : ¬ 1114111 < Z := by omega
            have z3 : 55296 ≤ Z := by omega
            have z4 : Z ≤ 57343 := by omega
            rw [hZ]
            clear hx hZ hz0 hC
            go_wp2
            go_ret2
            exact ⟨ret_pair (by rw [HR.out]; rfl) (by rw [HR.out]; rfl), HW.out⟩
      · rw [if_neg hbad] at HR
        have HR := Lib.hid HR
        obtain ⟨Z, hZ⟩ : ∃ Z : Int, (C : Int) = Z := ⟨_, rfl⟩
        have HZ := Lib.hid hZ
        have z1 : ¬ Z < 65536 := by omega
        have z2 : ¬ 1114111 < Z := by omega
        have hk2 : k + 1 = 4 := by omega
        rw [hZ]
        by_cases z3 : 55296 ≤ Z
        · have z4 : ¬ Z ≤ 57343 := by omega
          clear hbad hZ hC
          go_wp2
          go_ret2
          exact ⟨ret_pair (by rw [HR.out]; exact HZ.out.symm) (by rw [HR.out]; rfl), HW.out⟩
        · clear hbad hZ hC
          go_wp2
          go_ret2
          exact ⟨ret_pair (by rw [HR.out]; exact HZ.out.symm) (by rw [HR.out]; rfl), HW.out⟩

theorem next_any (s : ByteArray) (i : Nat) (hi : i < s.size) (hs : s.size ≤ 16777216) (w : World) : Calls Tryd.prog 60 #[.string s, .int .i64 i] w (NextSaid s i w) := by
  have hb := byteN_lt s i
  by_cases h1 : byteN s i < 128
  · exact next_lo s i hi w h1
  · by_cases h2 : byteN s i < 194 ∨ 244 < byteN s i
    · exact next_bad s i hi w (by omega) h2
    · by_cases h3 : byteN s i ≤ 223
      · exact next_2 s i hi hs w (by omega) h3
      · by_cases h4 : byteN s i ≤ 239
        · exact next_3 s i hi hs w (by omega) h4
        · exact next_4 s i hi hs w (by omega) (by omega)
end Go.Proofs.YtnpaplfdmpjfgaaDoor
