/- Small functions of the laws of layer 19: count, much, same, of, str, nest. -/
import Derived.Test.YtnpaplfdmpjfgaaDoorDRend
import Derived.Test.YtnpaplfdmpjfgaaDoorDTop
import Derived.Test.YtnpaplfdmpjfgaaDoorDOk
namespace Go.Proofs.YtnpaplfdmpjfgaaDoor
open Go.RowKit

set_option maxHeartbeats 2000000 in
theorem of19_any (k : Int) (A : Option Addr) (n c : Nat) (w : World) : Calls Tryd.prog 38 #[.int .i64 k, .slice A n c] w fun e w' => e = .returned (.agg #[.int .i64 k, .string ⟨#[]⟩, .int .i64 0, .slice A n c]) ∧ Below w.heap.size w w' := by
  obtain ⟨hby, hb1, hs1⟩ := box_new w (.int .i64 0) (.string ⟨#[]⟩) (.int .i64 0) (.slice none 0 0)
  obtain ⟨W, hW⟩ : ∃ W, w.alloc (.cells #[.int .i64 0, .string ⟨#[]⟩, .int .i64 0, .slice none 0 0] 24) = W := ⟨_, rfl⟩
  rw [hW] at hby hb1 hs1
  have HY := Lib.hid hby
  have HB := Lib.hid hb1
  obtain ⟨y0, y1, y2, y3, f0, f1, f2, f3⟩ := hby
  go_enter Tryd.func38, Tryd.ntmps38
  go_wp2
  obtain ⟨hz, hg⟩ := HY.out.set (.int .i64 k) (.string ⟨#[]⟩) (.int .i64 0) (.slice A n c)
  have hb := gb_below HB.out hg (by omega) (by omega)
  have hgs := hg.size
  have HG := Lib.hid hg
  generalize ((((W.setCell ⟨w.heap.size, 0, none⟩ (.int .i64 k)).setCell ⟨w.heap.size, 1, none⟩ (.string ⟨#[]⟩)).setCell ⟨w.heap.size, 2, none⟩ (.int .i64 0)).setCell ⟨w.heap.size, 3, none⟩ (.slice A n c)) = W6 at hz hb HG hgs ⊢
  obtain ⟨z0, z1, z2, z3, _, _, _, _⟩ := hz
  refine bodyPost_ret (v := .agg #[.int .i64 k, .string ⟨#[]⟩, .int .i64 0, .slice A n c]) (by simp [results, Tryd.results38, go_sem, z0, z1, z2, z3]) rfl ?_
  exact ⟨rfl, hb⟩

set_option maxHeartbeats 2000000 in
theorem str19_any (t : ByteArray) (w : World) : Calls Tryd.prog 40 #[.string t] w fun e w' => e = .returned (.agg #[.int .i64 1, .string t, .int .i64 0, .slice none 0 0]) ∧ Below w.heap.size w w' := by
  obtain ⟨hby, hb1, hs1⟩ := box_new w (.int .i64 0) (.string ⟨#[]⟩) (.int .i64 0) (.slice none 0 0)
  obtain ⟨W, hW⟩ : ∃ W, w.alloc (.cells #[.int .i64 0, .string ⟨#[]⟩, .int .i64 0, .slice none 0 0] 24) = W := ⟨_, rfl⟩
  rw [hW] at hby hb1 hs1
  have HY := Lib.hid hby
  have HB := Lib.hid hb1
  obtain ⟨y0, y1, y2, y3, f0, f1, f2, f3⟩ := hby
  go_enter Tryd.func40, Tryd.ntmps40
  go_wp2
  obtain ⟨hz, hg⟩ := HY.out.set (.int .i64 1) (.string t) (.int .i64 0) (.slice none 0 0)
  have hb := gb_below HB.out hg (by omega) (by omega)
  have hgs := hg.size
  have HG := Lib.hid hg
  generalize ((((W.setCell ⟨w.heap.size, 0, none⟩ (.int .i64 1)).setCell ⟨w.heap.size, 1, none⟩ (.string t)).setCell ⟨w.heap.size, 2, none⟩ (.int .i64 0)).setCell ⟨w.heap.size, 3, none⟩ (.slice none 0 0)) = W6 at hz hb HG hgs ⊢
  obtain ⟨z0, z1, z2, z3, _, _, _, _⟩ := hz
  refine bodyPost_ret (v := .agg #[.int .i64 1, .string t, .int .i64 0, .slice none 0 0]) (by simp [results, Tryd.results40, go_sem, z0, z1, z2, z3]) rfl ?_
  exact ⟨rfl, hb⟩

/-- A document in a Nest. -/
def nestK (n : Int) (d : Doc) : Doc := ⟨2, noB, n, [d]⟩
set_option maxRecDepth 100000 in
set_option maxHeartbeats 4000000 in
theorem nest19_any (n : Int) (d : Doc) (A : Option Addr) (c : Nat) (w : World) (hnil : A = none → c = 0) (hcap : d.kids.length ≤ c) (hK : KidsAt w.heap.size w d.kids A) :
    Calls Tryd.prog 41 #[.int .i64 n, .agg #[.int .i64 d.kind, .string d.text, .int .i64 d.n, .slice A d.kids.length c]] w fun e w' => ∃ g, e = .returned (.agg #[.int .i64 2, .string ⟨#[]⟩, .int .i64 n, .slice (some ⟨g, 0, none⟩) 1 1]) ∧ KidsAt w'.heap.size w' [d] (some ⟨g, 0, none⟩) ∧ Below w.heap.size w w' := by
  obtain ⟨hbx, hb0, hs0⟩ := box_new w (.int .i64 d.kind) (.string d.text) (.int .i64 d.n) (.slice A d.kids.length c)
  obtain ⟨W0, hW0⟩ : ∃ W0, w.alloc (.cells #[.int .i64 d.kind, .string d.text, .int .i64 d.n, .slice A d.kids.length c] 24) = W0 := ⟨_, rfl⟩
  rw [hW0] at hbx hb0 hs0
  obtain ⟨hby, hb1, hs1⟩ := box_new W0 (.int .i64 0) (.string ⟨#[]⟩) (.int .i64 0) (.slice none 0 0)
  obtain ⟨W, hW⟩ : ∃ W, W0.alloc (.cells #[.int .i64 0, .string ⟨#[]⟩, .int .i64 0, .slice none 0 0] 24) = W := ⟨_, rfl⟩
  rw [hW] at hby hb1 hs1
  have hx := hbx.below hb1 (by omega)
  obtain ⟨x0, x1, x2, x3, _, _, _, _⟩ := id hx
  obtain ⟨y0, y1, y2, y3, f0, f1, f2, f3⟩ := id hby
  have hsz1 : w.heap.size < W0.heap.size := by omega
  have hsz2 : W0.heap.size < W.heap.size := by omega
  have hb5 := (Below.refl W.heap.size W).alloc (Nat.le_refl _) (.cells #[.int .i64 d.kind, .string d.text, .int .i64 d.n, .slice A d.kids.length c] 24)
  have hn5 := Box4.new W (.int .i64 d.kind) (.string d.text) (.int .i64 d.n) (.slice A d.kids.length c) 24
  have hy5 := hby.below hb5 hsz2
  obtain ⟨W5, hW5⟩ : ∃ W5, W.alloc (.cells #[.int .i64 d.kind, .string d.text, .int .i64 d.n, .slice A d.kids.length c] 24) = W5 := ⟨_, rfl⟩
  have hs5 : W5.heap.size = W.heap.size + 1 := by rw [← hW5]; simp
  rw [hW5] at hb5 hn5 hy5
  have HY := Lib.hid hy5
  have HN := Lib.hid hn5
  have HB5 := Lib.hid ((hb0.trans (hb1.mono (by omega))).trans (hb5.mono (by omega)))
  have HK := Lib.hid hK
  have HNIL := Lib.hid hnil
  obtain ⟨v0, v1, v2, v3, g0, g1, g2, g3⟩ := hy5
  have hs5' : W.heap.size < W5.heap.size := by omega
  clear hbx hb0 hs0 hb1 hs1 hx hby hb5 hn5 hK hnil hs5
  go_enter Tryd.func41, Tryd.ntmps41
  go_wp2
  clear hW0 hW hW5
  obtain ⟨hz, hg⟩ := HY.out.set (.int .i64 2) (.string ⟨#[]⟩) (.int .i64 n) (.slice (some ⟨W.heap.size, 0, none⟩) 1 1)
  have hb := gb_below HB5.out hg (by omega) (by omega)
  have hgs := hg.size
  have HG := Lib.hid hg
  generalize ((((W5.setCell ⟨W0.heap.size, 0, none⟩ (.int .i64 2)).setCell ⟨W0.heap.size, 1, none⟩ (.string ⟨#[]⟩)).setCell ⟨W0.heap.size, 2, none⟩ (.int .i64 n)).setCell ⟨W0.heap.size, 3, none⟩ (.slice (some ⟨W.heap.size, 0, none⟩) 1 1)) = W6 at hz hb HG hgs ⊢
  obtain ⟨u0, u1, u2, u3, _, _, _, _⟩ := hz
  refine bodyPost_ret (v := .agg #[.int .i64 2, .string ⟨#[]⟩, .int .i64 n, .slice (some ⟨W.heap.size, 0, none⟩) 1 1]) (by simp [results, Tryd.results41, go_sem, u0, u1, u2, u3]) rfl ?_
  have hn6 := HN.out.grown HG.out hs5' (by simp only [ne_eq, Option.some.injEq]; omega)
  refine ⟨W.heap.size, rfl, ⟨W.heap.size, 0, rfl, docAt_iff.2 ⟨A, c, by omega, hn6.c0, hn6.c1, hn6.c2, hn6.c3, hcap, HNIL.out, kidsAt_mono (kidsAt_below HK.out hb) (by omega)⟩, trivial⟩, hb⟩

/-! How many documents there are, as the law counts them. -/
mutual
def Doc.cnt : Doc → Int → Int
  | ⟨_, t, _, kids⟩, n => if 200 < t.size then 3000 else cnts kids (n + 1)
def cnts : List Doc → Int → Int
  | [], n => n
  | d :: r, n => if n ≤ 2000 then cnts r (d.cnt n) else n
end
theorem cnt_eq (d : Doc) (n : Int) : d.cnt n = if 200 < d.text.size then 3000 else cnts d.kids (n + 1) := by cases d; simp only [Doc.cnt]
theorem cnts_big (ds : List Doc) (n : Int) (h : ¬ n ≤ 2000) : cnts ds n = n := by
  cases ds with
  | nil => rfl
  | cons d r => simp [cnts, h]
theorem cnt_mono_aux (m : Nat) : (∀ d : Doc, d.wt ≤ m → ∀ n, n ≤ 2000 → n < d.cnt n ∧ d.cnt n ≤ 3000) ∧ (∀ ds : List Doc, wts ds ≤ m → ∀ n, n ≤ 3000 → n ≤ cnts ds n ∧ cnts ds n ≤ 3000) := by
  induction m with
  | zero =>
    refine ⟨fun d hd => by have := wt_pos d; omega, fun ds hds n hn => ?_⟩
    have : ds = [] := List.eq_nil_of_length_eq_zero (by have := len_le_wts ds; omega)
    subst this
    exact ⟨Int.le_refl _, hn⟩
  | succ m ih =>
    have hd : ∀ d : Doc, d.wt ≤ m + 1 → ∀ n, n ≤ 2000 → n < d.cnt n ∧ d.cnt n ≤ 3000 := by
      intro d hd n hn
      rw [cnt_eq]
      split
      · omega
      · rw [wt_eq] at hd
        have := ih.2 d.kids (by omega) (n + 1) (by omega)
        omega
    refine ⟨hd, fun ds => ?_⟩
    induction ds with
    | nil => intro _ n hn; exact ⟨Int.le_refl _, hn⟩
    | cons a r ihr =>
      intro hw n hn
      simp only [wts] at hw
      simp only [cnts]
      split
      · have h1 := hd a (by omega) n (by omega)
        have h2 := ihr (by omega) (a.cnt n) h1.2
        omega
      · omega
theorem cnt_mono (d : Doc) (n : Int) (hn : n ≤ 2000) : n < d.cnt n ∧ d.cnt n ≤ 3000 := (cnt_mono_aux d.wt).1 d (Nat.le_refl _) n hn

set_option maxRecDepth 100000 in
set_option maxHeartbeats 4000000 in
theorem count19_any (m : Nat) : ∀ (d : Doc) (A : Option Addr) (c : Nat) (n : Int) (w : World), d.wt ≤ m → d.Ok → 0 ≤ n → n ≤ 2000 → KidsAt w.heap.size w d.kids A →
    Calls Tryd.prog 54 #[.agg #[.int .i64 d.kind, .string d.text, .int .i64 d.n, .slice A d.kids.length c], .int .i64 n] w fun e w' => e = .returned (.int .i64 (d.cnt n)) ∧ Below w.heap.size w w' := by
  induction m with
  | zero => intro d A c n w h; have := wt_pos d; omega
  | succ m ih =>
    intro d A c n w hm hB hn0 hn1 hK
    obtain ⟨hbx, hb0, hs0⟩ := box_new w (.int .i64 d.kind) (.string d.text) (.int .i64 d.n) (.slice A d.kids.length c)
    obtain ⟨W, hW⟩ : ∃ W, w.alloc (.cells #[.int .i64 d.kind, .string d.text, .int .i64 d.n, .slice A d.kids.length c] 24) = W := ⟨_, rfl⟩
    rw [hW] at hbx hb0 hs0
    have hkl := (ok_iff.1 hB).2.1
    have htl := (ok_iff.1 hB).1
    have HOK := Lib.hid hB
    have HK := Lib.hid (kidsAt_on hK hb0)
    have HX := Lib.hid hbx
    have HB := Lib.hid hb0
    have HIH := Lib.hid ih
    have HV := Lib.hid (cnt_eq d n)
    have hs' : w.heap.size < W.heap.size := by omega
    obtain ⟨z0, z1, z2, z3, _, _, _, _⟩ := hbx
    clear hK hb0 hs0 ih hB
    by_cases hbig : 200 < d.text.size
    · have g1 : decide ((200 : Int) < (d.text.size : Int)) = true := decide_eq_true (by omega)
      have HR := Lib.hid (show d.cnt n = 3000 by rw [HV.out, if_pos hbig])
      clear hbig
      go_enter Tryd.func54, Tryd.ntmps54
      go_wp2
      go_ret
      exact ⟨ret_int HR.out.symm, HB.out⟩
    · have g1 : decide ((200 : Int) < (d.text.size : Int)) = false := decide_eq_false (by omega)
      have HR := Lib.hid (show d.cnt n = cnts d.kids (n + 1) by rw [HV.out, if_neg hbig])
      clear hbig
      go_enter Tryd.func54, Tryd.ntmps54
      go_wp2_with fail
      clear hW z0 z1 z2 z3
      go_loopw [1, 5] (fun nn i wr => ∃ (k : Nat) (v : Int), k ≤ d.kids.length ∧ i = .int .i64 k ∧ nn = .int .i64 v ∧ 0 ≤ v ∧ v ≤ 3000 ∧ cnts d.kids (n + 1) = cnts (d.kids.drop k) v ∧ Below W.heap.size W wr) (fun _ i wr => d.kids.length - (intOf i).toNat)
      case atStart => exact ⟨0, n + 1, by omega, rfl, rfl, by omega, by omega, rfl, Below.refl _ _⟩
      case round =>
        obtain ⟨k, v, hk, rfl, rfl, hv0, hv1, hq, hB1⟩ := hrel
        obtain ⟨x0, x1, x2, x3, _, _, _, _⟩ := HX.out.below hB1 hs'
        have HQ := Lib.hid hq
        have HB1 := Lib.hid hB1
        have hsz := hB1.size
        have HKr := Lib.hid (kidsAt_on HK.out hB1)
        clear hq hB1
        by_cases hlt : k < d.kids.length
        · by_cases hle : v ≤ 2000
          · obtain ⟨b, o, rfl, hat⟩ := kidsAt_get HKr.out (kid_in hlt)
            obtain ⟨A', c', h1, h2, h3, h4, h5, h6, h7, h8⟩ := docAt_iff.1 hat
            have HK' := Lib.hid h8
            have hwt := kid_lt (List.getElem_mem hlt)
            have hcm := cnt_mono d.kids[k] v hle
            have HC := Lib.hid (HIH.out d.kids[k] A' c' v wr (by omega) (ok_kid HOK.out (List.getElem_mem hlt)) hv0 hle HK'.out)
            have HST := Lib.hid (show cnts (d.kids.drop k) v = cnts (d.kids.drop (k + 1)) (d.kids[k].cnt v) by rw [List.drop_eq_getElem_cons hlt]; simp only [cnts, hle, if_true])
            have g2 : decide (v ≤ 2000) = true := decide_eq_true hle
            clear h8 hat h7
            go_wp2_with fail
            refine HC.out.mono ?_
            rintro e w2 ⟨rfl, hb2⟩
            have HB2 := Lib.hid (HB1.out.trans (hb2.mono hsz))
            clear hb2
            go_wp2
            go_roundw
            case rel => exact ⟨k + 1, d.kids[k].cnt v, by omega, by go_num, rfl, by omega, by omega, by rw [HQ.out, HST.out], HB2.out⟩
            case measure => simp [intOf]; omega
          · have g2 : decide (v ≤ 2000) = false := decide_eq_false hle
            have HE := Lib.hid (cnts_big (d.kids.drop k) v hle)
            clear hle
            go_wp2
            go_ret
            exact ⟨ret_int (by rw [HR.out, HQ.out, HE.out]), HB.out.trans (HB1.out.mono (by omega))⟩
        · obtain rfl : k = d.kids.length := by omega
          go_wp2
          go_ret
          exact ⟨ret_int (by rw [HR.out, HQ.out, List.drop_length]; rfl), HB.out.trans (HB1.out.mono (by omega))⟩

set_option maxRecDepth 100000 in
set_option maxHeartbeats 2000000 in
theorem much_ok (d : Doc) (A : Option Addr) (c : Nat) (L : Int) (w : World) (hB : d.Ok) (hK : KidsAt w.heap.size w d.kids A) :
    Calls Tryd.prog 32 #[.agg #[.int .i64 d.kind, .string d.text, .int .i64 d.n, .slice A d.kids.length c], .int .i64 L] w fun e w' => e = .returned (.bool (decide (L < d.cnt 0))) ∧ Below w.heap.size w w' := by
  obtain ⟨hbx, hb0, hs0⟩ := box_new w (.int .i64 d.kind) (.string d.text) (.int .i64 d.n) (.slice A d.kids.length c)
  obtain ⟨W, hW⟩ : ∃ W, w.alloc (.cells #[.int .i64 d.kind, .string d.text, .int .i64 d.n, .slice A d.kids.length c] 24) = W := ⟨_, rfl⟩
  rw [hW] at hbx hb0 hs0
  have HC := Lib.hid (count19_any d.wt d A c 0 W (Nat.le_refl _) hB (by omega) (by omega) (kidsAt_on hK hb0))
  have HB := Lib.hid hb0
  have hs' : w.heap.size < W.heap.size := by omega
  obtain ⟨z0, z1, z2, z3, _, _, _, _⟩ := hbx
  clear hK hb0 hs0
  go_enter Tryd.func32, Tryd.ntmps32
  go_wp2_with fail
  refine HC.out.mono ?_
  rintro e w2 ⟨rfl, hb2⟩
  have HB2 := Lib.hid (HB.out.trans (hb2.mono (by omega)))
  clear hb2
  go_wp2
  go_ret
  exact ⟨rfl, HB2.out⟩

theorem much_any (d : Doc) (A : Option Addr) (c : Nat) (L : Int) (w : World) (hB : d.wt ≤ 16777216) (hK : KidsAt w.heap.size w d.kids A) :
    Calls Tryd.prog 32 #[.agg #[.int .i64 d.kind, .string d.text, .int .i64 d.n, .slice A d.kids.length c], .int .i64 L] w fun e w' => e = .returned (.bool (decide (L < d.cnt 0))) ∧ Below w.heap.size w w' :=
  much_ok d A c L w (ok_of_wt (by omega)) hK
/-- What is not much is small. -/
theorem cnt_small_aux (m : Nat) : (∀ d : Doc, d.wt ≤ m → ∀ n, d.cnt n ≤ 2000 → (d.wt : Int) ≤ 201 * (d.cnt n - n)) ∧ (∀ ds : List Doc, wts ds ≤ m → ∀ n, cnts ds n ≤ 2000 → (wts ds : Int) ≤ 201 * (cnts ds n - n)) := by
  induction m with
  | zero =>
    refine ⟨fun d hd => by have := wt_pos d; omega, fun ds hds n _ => ?_⟩
    have : ds = [] := List.eq_nil_of_length_eq_zero (by have := len_le_wts ds; omega)
    subst this
    simp [wts, cnts]
  | succ m ih =>
    have hd : ∀ d : Doc, d.wt ≤ m + 1 → ∀ n, d.cnt n ≤ 2000 → (d.wt : Int) ≤ 201 * (d.cnt n - n) := by
      intro d hd n hn
      rw [cnt_eq] at hn ⊢
      split at hn
      · omega
      · rename_i hb
        rw [if_neg hb]
        rw [wt_eq] at hd ⊢
        have := ih.2 d.kids (by omega) (n + 1) hn
        omega
    refine ⟨hd, fun ds => ?_⟩
    induction ds with
    | nil => intro _ n hn; simp [wts, cnts]
    | cons a r ihr =>
      intro hw n hn
      simp only [wts] at hw ⊢
      simp only [cnts] at hn ⊢
      split at hn
      · rename_i hle
        rw [if_pos hle]
        have h2 := ihr (by omega) (a.cnt n) hn
        have h1 := (cnt_mono a n hle)
        by_cases h3 : a.cnt n ≤ 2000
        · have h4 := hd a (by omega) n h3
          omega
        · rw [cnts_big r (a.cnt n) h3] at hn
          omega
      · omega
theorem small_wt {d : Doc} {L : Int} (hL : L ≤ 2000) (h : ¬ L < d.cnt 0) : (d.wt : Int) ≤ 201 * L := by
  have := (cnt_small_aux d.wt).1 d (Nat.le_refl _) 0 (by omega)
  omega

/-- Are two documents laid out alike? -/
def sameB (d d' : Doc) (wd rb md : Int) : Bool := decide ((renderV d wd rb md).1.toList = (renderV d' wd rb md).1.toList) && ((renderV d wd rb md).2 == (renderV d' wd rb md).2)
end Go.Proofs.YtnpaplfdmpjfgaaDoor
