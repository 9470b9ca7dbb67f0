/- In the mode One there is one line: plain, and the law RenderOnes, walked. -/
import Derived.Test.YtnpaplfdmpjfgaaDoorDLayM
import Derived.Test.YtnpaplfdmpjfgaaDoorDAwake19
namespace Go.Proofs.YtnpaplfdmpjfgaaDoor
open Go.RowKit

theorem plain_no : plainF noB = true := plain_e
theorem plain_blank : plainF blankB = true := plain_1 32 (by decide) (by decide)
theorem plain_flats_aux (m : Nat) : (∀ d : Doc, d.wt ≤ m → d.may = true → ∀ s, d.flat = some s → plainF s = true) ∧ (∀ ds : List Doc, wts ds ≤ m → (∀ d ∈ ds, d.may = true) → ∀ k f acc s, plainF acc = true → flats k f acc ds = some s → plainF s = true) := by
  induction m with
  | zero =>
    refine ⟨fun d hd => by have := wt_pos d; omega, fun ds hds _ k f acc s hg h => ?_⟩
    have : ds = [] := List.eq_nil_of_length_eq_zero (by have := len_le_wts ds; omega)
    subst this
    simp [flats] at h
    subst h
    exact hg
  | succ m ih =>
    have hd : ∀ d : Doc, d.wt ≤ m + 1 → d.may = true → ∀ s, d.flat = some s → plainF s = true := by
      intro d hd hm s h
      rw [flat_eq] at h
      split at h
      · cases h; exact may_plain hm
      · rw [wt_eq] at hd
        exact ih.2 d.kids (by omega) (may_kids hm) _ _ _ _ plain_no h
    refine ⟨hd, fun ds => ?_⟩
    induction ds with
    | nil => intro _ _ k f acc s hg h; simp [flats] at h; subst h; exact hg
    | cons a r ihr =>
      intro hw hm k f acc s hg h
      simp only [wts] at hw
      simp only [flats] at h
      have hmr := fun d hd => hm d (List.mem_cons_of_mem _ hd)
      split at h
      · exact ihr (by omega) hmr _ _ _ _ hg h
      · split at h
        · cases h
        · rename_i t ht
          have h1 := hd a (by omega) (hm a List.mem_cons_self) t ht
          split at h
          · cases h
          · refine ihr (by omega) hmr _ _ _ _ (plainF_app ?_ h1) h
            split
            · exact plainF_app hg plain_blank
            · exact hg
theorem plain_flat {d : Doc} (hm : d.may = true) {s : ByteArray} (h : d.flat = some s) : plainF s = true := (plain_flats_aux d.wt).1 d (Nat.le_refl _) hm s h

section
variable {c : Cfg} (Q : Pen → Prop) (hput : ∀ p q s a f, plainF s = true → Q p → put c p s a f = some q → Q q) (hend : ∀ p q, Q p → endl c p = some q → Q q)
include hput hend
/-- What each text and each line's end keeps, what is laid keeps. -/
theorem lay_keeps_aux (m : Nat) : ∀ d : Doc, d.wt ≤ m → d.may = true → ∀ p q base fresh, Q p → d.lay c p base fresh = some q → Q q := by
  induction m with
  | zero => intro d h; have := wt_pos d; omega
  | succ m ih =>
    intro d hm hmay p q base fresh hp hq
    have ih' : ∀ k ∈ d.kids, ∀ p q base fresh, Q p → k.lay c p base fresh = some q → Q q := fun k hk => ih k (by have := kid_lt hk; omega) (may_kids hmay k hk)
    have hmk := may_kids hmay
    have hfl := fun s h => plain_flat hmay (s := s) h
    have hpt := may_plain hmay
    rw [lay_eq] at hq
    revert hq ih' hmk
    generalize d.kids = ds
    intro hq ih' hmk
    have hB : ∀ k f p q base fresh, Q p → besides c k ds f p base fresh = some q → Q q := by
      intro k
      clear hq hmk
      induction ds with
      | nil => intro f p q base fresh hp hq; cases hq; exact hp
      | cons x r ihr =>
        have ihr := ihr (fun k hk => ih' k (List.mem_cons_of_mem _ hk))
        intro f p q base fresh hp hq
        cases hv : x.void with
        | true => rw [besides_void hv] at hq; exact ihr f p q base fresh hp hq
        | false =>
          cases f with
          | true =>
            rw [besides_first hv] at hq
            obtain ⟨q1, h1, h2⟩ := Option.bind_eq_some_iff.1 hq
            exact ihr _ _ _ _ _ (ih' x List.mem_cons_self _ _ _ _ hp h1) h2
          | false =>
            rw [besides_next hv] at hq
            obtain ⟨q0, h0, hq⟩ := Option.bind_eq_some_iff.1 hq
            obtain ⟨q1, h1, h2⟩ := Option.bind_eq_some_iff.1 hq
            have hp0 : Q q0 := by
              split at h0
              · exact hput _ _ _ _ _ plain_blank hp h0
              · cases h0; exact hp
            exact ihr _ _ _ _ _ (ih' x List.mem_cons_self _ _ _ _ hp0 h1) h2
    have hW : ∀ ov f p q base fresh, Q p → belows c ov ds f p base fresh = some q → Q q := by
      intro ov
      clear hq hmk hB
      induction ds with
      | nil => intro f p q base fresh hp hq; cases hq; exact hp
      | cons x r ihr =>
        have ihr := ihr (fun k hk => ih' k (List.mem_cons_of_mem _ hk))
        intro f p q base fresh hp hq
        cases hv : x.void with
        | true => rw [belows_void hv] at hq; exact ihr f p q base fresh hp hq
        | false =>
          cases f with
          | true =>
            rw [belows_first hv] at hq
            obtain ⟨q1, h1, h2⟩ := Option.bind_eq_some_iff.1 hq
            exact ihr _ _ _ _ _ (ih' x List.mem_cons_self _ _ _ _ hp h1) h2
          | false =>
            rw [belows_next hv] at hq
            obtain ⟨q0, h0, hq⟩ := Option.bind_eq_some_iff.1 hq
            obtain ⟨q1, h1, h2⟩ := Option.bind_eq_some_iff.1 hq
            have hp0 : Q q0 := by
              split at h0
              · cases h0; exact hp
              · exact hend _ _ hp h0
            exact ihr _ _ _ _ _ (ih' x List.mem_cons_self _ _ _ _ hp0 h1) h2
    have hF : ∀ k f one p q base fresh, Q p → fills c k ds f one p base fresh = some q → Q q := by
      intro k
      clear hq hB hW
      induction ds with
      | nil => intro f one p q base fresh hp hq; cases hq; exact hp
      | cons x r ihr =>
        have ihr := ihr (fun k hk => ih' k (List.mem_cons_of_mem _ hk)) (fun k hk => hmk k (List.mem_cons_of_mem _ hk))
        intro f one p q base fresh hp hq
        cases hv : x.void with
        | true => rw [fills_void hv] at hq; exact ihr f one p q base fresh hp hq
        | false =>
          cases f with
          | true =>
            rw [fills_first hv] at hq
            obtain ⟨q1, h1, h2⟩ := Option.bind_eq_some_iff.1 hq
            exact ihr _ _ _ _ _ _ (ih' x List.mem_cons_self _ _ _ _ hp h1) h2
          | false =>
            cases hT : fillT c k one p x.flat with
            | some s =>
              rw [fills_some hv hT] at hq
              obtain ⟨q1, h1, h2⟩ := Option.bind_eq_some_iff.1 hq
              have hs : plainF s = true := by
                unfold fillT at hT
                split at hT
                · split at hT
                  · rename_i t ht
                    split at hT
                    · cases hT
                      refine plainF_app ?_ (plain_flat (hmk x List.mem_cons_self) ht)
                      unfold fblank
                      split
                      · exact plain_blank
                      · exact plain_no
                    · cases hT
                  · cases hT
                · cases hT
              exact ihr _ _ _ _ _ _ (hput _ _ _ _ _ hs hp h1) h2
            | none =>
              rw [fills_none hv hT] at hq
              obtain ⟨q0, h0, hq⟩ := Option.bind_eq_some_iff.1 hq
              obtain ⟨q1, h1, h2⟩ := Option.bind_eq_some_iff.1 hq
              exact ihr _ _ _ _ _ _ (ih' x List.mem_cons_self _ _ _ _ (hend _ _ hp h0) h1) h2
    split at hq
    · exact hput _ _ _ _ _ hpt hp hq
    · split at hq
      · cases ds with
        | nil => cases hq; exact hp
        | cons x r => exact ih' x List.mem_cons_self _ _ _ _ hp hq
      · split at hq
        · exact hB _ _ _ _ _ _ hp hq
        · split at hq
          · exact hF _ _ _ _ _ _ _ hp hq
          · split at hq
            · rename_i s hs
              refine hput _ _ _ _ _ (hfl s ?_) hp hq
              unfold sepT at hs
              split at hs
              · split at hs
                · rename_i t ht
                  split at hs
                  · cases hs; exact ht
                  · cases hs
                · cases hs
              · cases hs
            · exact hW _ _ _ _ _ _ hp hq
theorem lay_keeps {d : Doc} (hm : d.may = true) {p q : Pen} {base : Int} {fresh : Bool} (hp : Q p) (hq : d.lay c p base fresh = some q) : Q q := lay_keeps_aux Q hput hend d.wt d (Nat.le_refl _) hm p q base fresh hp hq
end

/-- A pen that has ended no line. -/
def NoNl (p : Pen) : Prop := ∀ x ∈ p.out, x ≠ 10
theorem lowless_byte {s : ByteArray} (h : plainF s = true) : ∀ x ∈ s.data.toList, x ≠ 10 := by
  intro x hx e
  unfold plainF lowless at h
  rw [Bool.and_eq_true, decide_eq_true_eq] at h
  obtain ⟨j, hj, hjx⟩ := List.mem_iff_getElem.1 hx
  rw [data_len] at hj
  have h1 := h.2 j hj
  rw [← get_byte s j hj] at h1
  have h2 : s[j]'hj = x := by
    rw [← hjx]
    simp [ByteArray.getElem_eq_getElem_data]
  rw [h2, e] at h1
  exact absurd h1 (by decide)
theorem put_nonl {c : Cfg} (p q : Pen) (s : ByteArray) (a : Int) (f : Bool) (hs : plainF s = true) (hp : NoNl p) (hq : put c p s a f = some q) : NoNl q := by
  unfold put at hq
  split at hq
  · cases hq; exact hp
  · split at hq
    · cases hq
    · cases hq
      intro x hx
      simp only [List.mem_append] at hx
      rcases hx with (hx | hx) | hx
      · exact hp x hx
      · rw [(List.mem_replicate.1 hx).2]; decide
      · exact lowless_byte hs x hx
theorem endl_nonl {c : Cfg} (hm : c.mode = 2) (p q : Pen) (hp : NoNl p) (hq : endl c p = some q) : NoNl q := by
  unfold endl at hq
  rw [hm] at hq
  exact put_nonl p q blankB 0 false plain_blank hp hq
theorem check_may {d : Doc} (h : checkN d = 0) : d.may = true := by
  unfold checkN at h
  split at h
  · cases h
  · split at h
    · assumption
    · cases h
/-- In the mode One no line is ended. -/
theorem one_line (d : Doc) (wd rb : Int) : ∀ j, j < (renderV d wd rb 2).1.size → byteN (renderV d wd rb 2).1 j ≠ 10 := by
  intro j hj e
  have hno : ∀ x ∈ (renderV d wd rb 2).1.data.toList, x ≠ 10 := by
    unfold renderV
    split
    · intro x hx; cases hx
    · split
      · intro x hx; cases hx
      · rename_i hc
        have hmay := check_may (by simpa using hc)
        unfold laidV
        split
        · intro x hx; cases hx
        · rename_i p hp
          have := lay_keeps (c := ⟨wd, wd * rb / 1000, 2⟩) NoNl put_nonl (endl_nonl rfl) hmay (p := pen0) (fun x hx => by cases hx) hp
          intro x hx
          exact this x hx
  have h1 := (byte10 _ j hj).2 e
  exact hno 10 (List.mem_of_getElem? h1) rfl
theorem one_err (d : Doc) (wd rb : Int) : (renderV d wd rb 2).2 = (renderV d wd rb 1).2 ∨ (renderV d wd rb 2).2 = 3 ∨ (renderV d wd rb 1).2 = 3 := by
  have hb : badArg wd rb 2 = badArg wd rb 1 := by unfold badArg; rfl
  unfold renderV
  rw [hb]
  split
  · exact .inl rfl
  · split
    · exact .inl rfl
    · cases d.lay ⟨wd, wd * rb / 1000, 2⟩ pen0 0 true with
      | none => exact .inr (.inl rfl)
      | some p =>
        cases d.lay ⟨wd, wd * rb / 1000, 1⟩ pen0 0 true with
        | none => exact .inr (.inr rfl)
        | some p' => exact .inl rfl
theorem laid_size {c : Cfg} {d : Doc} {p : Pen} (hm : d.may = true) (h : d.lay c pen0 0 true = some p) : p.out.length ≤ 16777216 := by
  refine lay_keeps (c := c) (fun p => p.out.length ≤ 16777216) (fun p q s a f _ hp hq => ?_) (fun p q hp hq => ?_) hm (p := pen0) (by decide) h
  · unfold put at hq
    split at hq
    · cases hq; exact hp
    · split at hq
      · cases hq
      · cases hq
        simp only [List.length_append, List.length_replicate, data_len]
        omega
  · unfold endl at hq
    split at hq
    · unfold put at hq
      split at hq
      · cases hq; exact hp
      · split at hq
        · cases hq
        · cases hq
          simp only [List.length_append, List.length_replicate, data_len]
          omega
    · split at hq
      · cases hq
      · cases hq
        simp only [List.length_append, List.length_cons, List.length_nil]
        omega
theorem render_size (d : Doc) (wd rb md : Int) : (renderV d wd rb md).1.size ≤ 16777216 := by
  unfold renderV
  split
  · exact Nat.zero_le _
  · split
    · exact Nat.zero_le _
    · rename_i hc
      unfold laidV
      split
      · exact Nat.zero_le _
      · rename_i p hp
        have := laid_size (check_may (by simpa using hc)) hp
        show p.out.toArray.size ≤ _
        rw [List.size_toArray]
        exact this

set_option maxRecDepth 100000 in
set_option maxHeartbeats 8000000 in
theorem renderOnes_any (d : Doc) (A : Option Addr) (cc : Nat) (wd rb : Int) (w : World) (hO : d.Ok) (hT : Lib.Utf8Tabs 1 2 w) (hm : MaxI w) (hnil : A = none → cc = 0) (hcap : d.kids.length ≤ cc) (hK : KidsAt w.heap.size w d.kids A) :
    Calls Tryd.prog 14 #[.agg #[.int .i64 d.kind, .string d.text, .int .i64 d.n, .slice A d.kids.length cc], .int .i64 wd, .int .i64 rb] w fun e w' => e = .returned (.bool true) ∧ Below w.heap.size w w' := by
  obtain ⟨hbx, hb0, hs0⟩ := box_new w (.int .i64 d.kind) (.string d.text) (.int .i64 d.n) (.slice A d.kids.length cc)
  obtain ⟨W, hW⟩ : ∃ W, w.alloc (.cells #[.int .i64 d.kind, .string d.text, .int .i64 d.n, .slice A d.kids.length cc] 24) = W := ⟨_, rfl⟩
  rw [hW] at hbx hb0 hs0
  have HT := Lib.hid (Utf8Tabs_below hT hb0)
  have HK := Lib.hid (kidsAt_on hK hb0)
  have HB := Lib.hid hb0
  have HX := Lib.hid hbx
  have HNIL := Lib.hid hnil
  have hs' : w.heap.size < W.heap.size := by omega
  have HC := Lib.hid (awake19_any W HT.out (hm.below hb0))
  clear hT hm hK hb0 hs0 hbx hnil
  go_enter Tryd.func14, Tryd.ntmps14
  go_wp2_with fail
  clear hW
  refine HC.out.mono ?_
  rintro e w1 ⟨rfl, hb1⟩
  have HB1 := Lib.hid hb1
  obtain ⟨x0, x1, x2, x3, _, _, _, _⟩ := HX.out.below hb1 hs'
  have HC1 := Lib.hid (much_ok d A cc 400 w1 hO (kidsAt_on HK.out hb1))
  clear hb1 HC
  go_wp2_with fail
  refine HC1.out.mono ?_
  rintro e w2 ⟨rfl, hb2⟩
  have HB2 := Lib.hid (HB1.out.trans (hb2.mono HB1.out.size))
  clear hb2 HC1 x0 x1 x2 x3
  by_cases hmu : 400 < d.cnt 0
  · have g1 : decide (400 < d.cnt 0) = true := decide_eq_true hmu
    go_wp2
    go_ret
    exact ⟨rfl, HB.out.trans (HB2.out.mono (Nat.le_of_lt hs'))⟩
  · have g1 : decide (400 < d.cnt 0) = false := decide_eq_false hmu
    have hB : d.wt ≤ 16777216 := by have := small_wt (by decide) hmu; omega
    obtain ⟨y0, y1, y2, y3, _, _, _, _⟩ := HX.out.below HB2.out hs'
    have HC3 := Lib.hid (render_any d A cc wd rb 2 w2 hB (Utf8Tabs_below HT.out HB2.out) HNIL.out hcap (kidsAt_on HK.out HB2.out))
    clear hmu
    go_wp2_with fail
    refine HC3.out.mono ?_
    rintro e w3 ⟨rfl, hb3⟩
    have HB3 := Lib.hid (HB2.out.trans (hb3.mono HB2.out.size))
    obtain ⟨z0, z1, z2, z3, _, _, _, _⟩ := HX.out.below HB3.out hs'
    have HC4 := Lib.hid (render_any d A cc wd rb 1 w3 hB (Utf8Tabs_below HT.out HB3.out) HNIL.out hcap (kidsAt_on HK.out HB3.out))
    clear hb3 HC3 y0 y1 y2 y3
    go_wp2_with fail
    refine HC4.out.mono ?_
    rintro e w4 ⟨rfl, hb4⟩
    have HB4 := Lib.hid (HB3.out.trans (hb4.mono HB3.out.size))
    clear hb4 HC4 z0 z1 z2 z3
    have hno := one_line d wd rb
    have her := one_err d wd rb
    have hsz := render_size d wd rb 2
    generalize (renderV d wd rb 2).1 = s at hno hsz ⊢
    generalize (renderV d wd rb 2).2 = e1 at her ⊢
    generalize (renderV d wd rb 1).1 = s2
    generalize (renderV d wd rb 1).2 = e2 at her ⊢
    have HNO := Lib.hid hno
    have HER := Lib.hid her
    clear hno her
    go_wp2_with fail
    go_loop [12] (fun i => ∃ k : Nat, k ≤ s.size ∧ i = .int .i64 k) (fun i => s.size - (intOf i).toNat)
    case atStart => exact ⟨0, by omega, rfl⟩
    case round =>
      obtain ⟨k, hk, rfl⟩ := hrel
      by_cases hlt : k < s.size
      · have hby := get_byte s k hlt
        have h10 := HNO.out k hlt
        have g2 : ((s[k]'hlt).toNat == 10) = false := by rw [hby]; simpa using h10
        have g3 : (((s[k]'hlt).toNat : Int) == 10) = false := by rw [hby]; simp only [beq_eq_false_iff_ne, ne_eq]; omega
        clear hby h10
        go_wp2
        go_round
        case rel => exact ⟨k + 1, by omega, by go_num⟩
        case measure => simp [intOf]; omega
      · obtain rfl : k = s.size := by omega
        cases h1 : (e1 == e2) with
        | true =>
          go_wp2
          go_ret
          exact ⟨rfl, HB.out.trans (HB4.out.mono (Nat.le_of_lt hs'))⟩
        | false =>
          cases h2 : (e1 == 3) with
          | true =>
            go_wp2
            go_ret
            exact ⟨rfl, HB.out.trans (HB4.out.mono (Nat.le_of_lt hs'))⟩
          | false =>
            have h3 : (e2 == 3) = true := by
              rcases HER.out with h | h | h
              · rw [h] at h1; simp at h1
              · rw [h] at h2; simp at h2
              · rw [h]; rfl
            go_wp2
            go_ret
            exact ⟨rfl, HB.out.trans (HB4.out.mono (Nat.le_of_lt hs'))⟩
end Go.Proofs.YtnpaplfdmpjfgaaDoor
