/- The law RenderNests, walked. -/
import Derived.Test.YtnpaplfdmpjfgaaDoorDLayJ
import Derived.Test.YtnpaplfdmpjfgaaDoorDTid19
namespace Go.Proofs.YtnpaplfdmpjfgaaDoor
open Go.RowKit

theorem bl_call {w w' w'' : World} (h : Below w.heap.size w w') (hb : Below w'.heap.size w' w'') : Below w.heap.size w w'' := h.trans (hb.mono h.size)
theorem bl_alloc {w w' : World} (h : Below w.heap.size w w') (o : Obj) : Below w.heap.size w (w'.alloc o) := h.trans ((Below.refl _ _).alloc h.size o)
theorem box4_al {w : World} {o : Obj} {b : Nat} {v0 v1 v2 v3 : Value} (h : Box4 w b v0 v1 v2 v3) : Box4 (w.alloc o) b v0 v1 v2 v3 :=
  h.grown (World.grownBy_alloc w o none) (World.block_lt_of_cell? w ⟨b, 0, none⟩ h.c0) (by simp)
theorem Box4.on {w w' : World} {b : Nat} {v0 v1 v2 v3 : Value} (h : Box4 w b v0 v1 v2 v3) (hb : Below w.heap.size w w') : Box4 w' b v0 v1 v2 v3 := h.below hb (World.block_lt_of_cell? w ⟨b, 0, none⟩ h.c0)
/-- A document that lies in the memory now. -/
structure Lies (w : World) (d : Doc) (A : Option Addr) (c : Nat) : Prop where
  cap : d.kids.length ≤ c
  nil : A = none → c = 0
  kids : KidsAt w.heap.size w d.kids A
theorem Lies.on {w w' : World} {d : Doc} {A : Option Addr} {c : Nat} (h : Lies w d A c) (hb : Below w.heap.size w w') : Lies w' d A c := ⟨h.cap, h.nil, kidsAt_on h.kids hb⟩
theorem Lies.al {w : World} {d : Doc} {A : Option Addr} {c : Nat} (h : Lies w d A c) (o : Obj) : Lies (w.alloc o) d A c := h.on ((Below.refl _ _).alloc (Nat.le_refl _) o)
/-- A row of two, just laid, behind a call. -/
theorem row2 {X w' : World} {x y : Doc} {Ax Ay : Option Addr} {cx cy : Nat} (hx : Lies X x Ax cx) (hy : Lies X y Ay cy)
    (hb : Below (X.alloc (.cells #[.int .i64 x.kind, .string x.text, .int .i64 x.n, .slice Ax x.kids.length cx, .int .i64 y.kind, .string y.text, .int .i64 y.n, .slice Ay y.kids.length cy] 24)).heap.size (X.alloc (.cells #[.int .i64 x.kind, .string x.text, .int .i64 x.n, .slice Ax x.kids.length cx, .int .i64 y.kind, .string y.text, .int .i64 y.n, .slice Ay y.kids.length cy] 24)) w') :
    KidsAt w'.heap.size w' [x, y] (some ⟨X.heap.size, 0, none⟩) :=
  kidsAt_on (kidsAt_lit [⟨x, Ax, cx⟩, ⟨y, Ay, cy⟩] X (by simp) (by
    intro t ht
    simp only [List.mem_cons, List.not_mem_nil, or_false] at ht
    rcases ht with rfl | rfl
    · exact ⟨hx.cap, hx.nil, hx.kids⟩
    · exact ⟨hy.cap, hy.nil, hy.kids⟩)) hb
theorem lies_of2 {w : World} {x y : Doc} {r : Nat} (k : Int) (h : KidsAt w.heap.size w [x, y] (some ⟨r, 0, none⟩)) : Lies w (ofK k [x, y]) (some ⟨r, 0, none⟩) 2 := ⟨Nat.le_refl _, fun e => (nomatch e), h⟩
/-- The box first, then the row, then a call. -/
theorem boxrow {X w' : World} {v0 v1 v2 v3 : Value} {T : TypeId} {o : Obj} (hb : Below ((X.alloc (.cells #[v0, v1, v2, v3] T)).alloc o).heap.size ((X.alloc (.cells #[v0, v1, v2, v3] T)).alloc o) w') : Box4 w' X.heap.size v0 v1 v2 v3 :=
  (box4_al (Box4.new X v0 v1 v2 v3 T)).on hb
/-- The row first, then the box, then a call. -/
theorem rowbox {X w' : World} {v0 v1 v2 v3 : Value} {T : TypeId} {o : Obj} (hb : Below ((X.alloc o).alloc (.cells #[v0, v1, v2, v3] T)).heap.size ((X.alloc o).alloc (.cells #[v0, v1, v2, v3] T)) w') : Box4 w' (X.alloc o).heap.size v0 v1 v2 v3 ∧ Below (X.alloc o).heap.size (X.alloc o) w' :=
  ⟨(Box4.new (X.alloc o) v0 v1 v2 v3 T).on hb, bl_call (bl_alloc (Below.refl _ _) _) hb⟩

theorem undrew {Z w' : World} (h : Below Z.drew.heap.size Z.drew w') : Below Z.heap.size Z w' := ((Below.refl Z.heap.size Z).drew).trans h
theorem kp11 {p0 p1 p2 p3 p4 p5 p6 p7 p8 p9 p10 p11 : Prop} (h : p0 ∧ p1 ∧ p2 ∧ p3 ∧ p4 ∧ p5 ∧ p6 ∧ p7 ∧ p8 ∧ p9 ∧ p10 ∧ p11) : p11 := h.2.2.2.2.2.2.2.2.2.2.2
theorem lies_nest {w : World} {x : Doc} {g : Nat} (k : Int) (h : KidsAt w.heap.size w [x] (some ⟨g, 0, none⟩)) : Lies w (nestK k x) (some ⟨g, 0, none⟩) 1 := ⟨Nat.le_refl _, fun e => (nomatch e), h⟩
theorem lies_str (w : World) (s : ByteArray) : Lies w (strD s) none 0 := ⟨Nat.le_refl _, fun _ => rfl, trivial⟩
theorem kids_al {w : World} {ds : List Doc} {A : Option Addr} (h : KidsAt w.heap.size w ds A) (o : Obj) : KidsAt (w.alloc o).heap.size (w.alloc o) ds A := kidsAt_on h ((Below.refl _ _).alloc (Nat.le_refl _) o)

set_option maxRecDepth 100000 in
set_option maxHeartbeats 32000000 in
theorem renderNests_any (a b : Doc) (Aa Ab : Option Addr) (ca cb : Nat) (n m : Int) (s : ByteArray) (wd rb md : Int) (w : World) (hT : Lib.Utf8Tabs 1 2 w) (hm : MaxI w) (hn0 : -128 ≤ n) (hn1 : n ≤ 127) (hm0 : -128 ≤ m) (hm1 : m ≤ 127) (hOa : a.Ok) (hnila : Aa = none → ca = 0) (hcapa : a.kids.length ≤ ca) (hKa : KidsAt w.heap.size w a.kids Aa) (hOb : b.Ok) (hnilb : Ab = none → cb = 0) (hcapb : b.kids.length ≤ cb) (hKb : KidsAt w.heap.size w b.kids Ab) :
    Calls Tryd.prog 12 #[.agg #[.int .i64 a.kind, .string a.text, .int .i64 a.n, .slice Aa a.kids.length ca], .agg #[.int .i64 b.kind, .string b.text, .int .i64 b.n, .slice Ab b.kids.length cb], .int .i8 n, .int .i8 m, .string s, .agg #[.int .i64 wd, .int .i64 rb, .int .i64 md]] w fun e w' => e = .returned (.bool true) ∧ Below w.heap.size w w' := by
  obtain ⟨hba, hwa, hsa⟩ := box_new w (.int .i64 a.kind) (.string a.text) (.int .i64 a.n) (.slice Aa a.kids.length ca)
  obtain ⟨W1, hW1⟩ : ∃ W, w.alloc (.cells #[.int .i64 a.kind, .string a.text, .int .i64 a.n, .slice Aa a.kids.length ca] 24) = W := ⟨_, rfl⟩
  rw [hW1] at hba hwa hsa
  obtain ⟨hbb, hwb, hsb⟩ := box_new W1 (.int .i64 b.kind) (.string b.text) (.int .i64 b.n) (.slice Ab b.kids.length cb)
  obtain ⟨W3, hW3⟩ : ∃ W, W1.alloc (.cells #[.int .i64 b.kind, .string b.text, .int .i64 b.n, .slice Ab b.kids.length cb] 24) = W := ⟨_, rfl⟩
  rw [hW3] at hbb hwb hsb
  have hwx := (Below.refl W3.heap.size W3).alloc (Nat.le_refl _) (.cells #[.int .i64 wd, .int .i64 rb, .int .i64 md] 41)
  have t0 : (W3.alloc (.cells #[.int .i64 wd, .int .i64 rb, .int .i64 md] 41)).cell? ⟨W3.heap.size, 0, none⟩ = some (.int .i64 wd) := by simp
  have t1 : (W3.alloc (.cells #[.int .i64 wd, .int .i64 rb, .int .i64 md] 41)).cell? ⟨W3.heap.size, 1, none⟩ = some (.int .i64 rb) := by simp
  have t2 : (W3.alloc (.cells #[.int .i64 wd, .int .i64 rb, .int .i64 md] 41)).cell? ⟨W3.heap.size, 2, none⟩ = some (.int .i64 md) := by simp
  obtain ⟨W, hW⟩ : ∃ W', W3.alloc (.cells #[.int .i64 wd, .int .i64 rb, .int .i64 md] 41) = W' := ⟨_, rfl⟩
  have hsx : W.heap.size = W3.heap.size + 1 := by rw [← hW]; simp
  rw [hW] at hwx t0 t1 t2
  have hl1 : w.heap.size < W1.heap.size := by omega
  have hl3 : W1.heap.size < W3.heap.size := by omega
  have hl4 : W3.heap.size < W.heap.size := by omega
  have hlw : w.heap.size < W.heap.size := by omega
  have hlb : W1.heap.size < W.heap.size := by omega
  have HXa := Lib.hid ((hba.below hwb hl1).below hwx (by omega))
  have HXb := Lib.hid (hbb.below hwx hl3)
  have hbw := (hwa.trans (hwb.mono (by omega))).trans (hwx.mono (by omega))
  have HB := Lib.hid hbw
  have HT := Lib.hid (Utf8Tabs_below hT hbw)
  have HTT := Lib.hid (And.intro t0 (And.intro t1 t2))
  have HKa := Lib.hid (kidsAt_on hKa hbw)
  have HKb := Lib.hid (kidsAt_on hKb hbw)
  have HNa := Lib.hid hnila
  have HNb := Lib.hid hnilb
  have HC := Lib.hid (awake19_any W HT.out (hm.below hbw))
  clear hba hwa hsa hbb hwb hsb hwx hsx t0 t1 t2 hbw hT hm hKa hKb hnila hnilb
  go_enter Tryd.func12, Tryd.ntmps12
  go_wp2_with fail
  clear hW hW1 hW3
  refine HC.out.mono ?_
  rintro e u0 ⟨rfl, hb0⟩
  have HB0 := Lib.hid hb0
  clear hb0 HC
  obtain ⟨x0, x1, x2, x3, _, _, _, _⟩ := HXa.out.below HB0.out hlw
  have HC0 := Lib.hid (much_ok a Aa ca 100 u0 hOa (kidsAt_on HKa.out HB0.out))
  go_wp2_with fail
  refine HC0.out.mono ?_
  rintro e u1 ⟨rfl, hb⟩
  have HB1 := Lib.hid (HB0.out.trans (hb.mono HB0.out.size))
  clear hb HC0 x0 x1 x2 x3
  by_cases ma : 100 < a.cnt 0
  · have g0 : decide (100 < a.cnt 0) = true := decide_eq_true ma
    clear ma
    go_wp2
    go_ret
    exact ⟨rfl, HB.out.trans (HB1.out.mono (Nat.le_of_lt hlw))⟩
  have g0 : decide (100 < a.cnt 0) = false := decide_eq_false ma
  have HMa := Lib.hid ma
  have hBa : a.wt ≤ 4194304 := by have := small_wt (by decide) ma; omega
  clear ma
  obtain ⟨x0, x1, x2, x3, _, _, _, _⟩ := HXb.out.below HB1.out hlb
  have HC1 := Lib.hid (much_ok b Ab cb 100 u1 hOb (kidsAt_on HKb.out HB1.out))
  go_wp2_with fail
  refine HC1.out.mono ?_
  rintro e u2 ⟨rfl, hb⟩
  have HB2 := Lib.hid (HB1.out.trans (hb.mono HB1.out.size))
  clear hb HC1 x0 x1 x2 x3
  by_cases mb : 100 < b.cnt 0
  · have g1 : decide (100 < b.cnt 0) = true := decide_eq_true mb
    clear mb
    go_wp2
    go_ret
    exact ⟨rfl, HB.out.trans (HB2.out.mono (Nat.le_of_lt hlw))⟩
  have g1 : decide (100 < b.cnt 0) = false := decide_eq_false mb
  have HMb := Lib.hid mb
  have hBb : b.wt ≤ 4194304 := by have := small_wt (by decide) mb; omega
  clear mb
  by_cases ml : (200 : Int) < (s.size : Int)
  · have gl : decide ((200 : Int) < (s.size : Int)) = true := decide_eq_true ml
    clear ml
    go_wp2
    go_ret
    exact ⟨rfl, HB.out.trans (HB2.out.mono (Nat.le_of_lt hlw))⟩
  have gl : decide ((200 : Int) < (s.size : Int)) = false := decide_eq_false ml
  have hsl : s.size ≤ 200 := by omega
  clear ml
  obtain ⟨x0, x1, x2, x3, _, _, _, _⟩ := HXa.out.below HB2.out hlw
  have HC2 := Lib.hid (pcheck_any a Aa ca u2 (by omega) (Utf8Tabs_below HT.out HB2.out) (kidsAt_on HKa.out HB2.out))
  go_wp2_with fail
  refine HC2.out.mono ?_
  rintro e u3 ⟨rfl, hb⟩
  have HB3 := Lib.hid (HB2.out.trans (hb.mono HB2.out.size))
  clear hb HC2 x0 x1 x2 x3
  cases ka : (checkN a == 0) with
  | false =>
    have g2 : (checkN a != 0) = true := by simp [bne, ka]
    clear ka
    go_wp2
    go_ret
    exact ⟨rfl, HB.out.trans (HB3.out.mono (Nat.le_of_lt hlw))⟩
  | true =>
    have g2 : (checkN a != 0) = false := by simp [bne, ka]
    have HSa := Lib.hid (sm_of (by have := HMa.out; omega) (show checkN a = 0 by simpa using ka))
    clear ka
    obtain ⟨x0, x1, x2, x3, _, _, _, _⟩ := HXb.out.below HB3.out hlb
    have HC3 := Lib.hid (pcheck_any b Ab cb u3 (by omega) (Utf8Tabs_below HT.out HB3.out) (kidsAt_on HKb.out HB3.out))
    go_wp2_with fail
    refine HC3.out.mono ?_
    rintro e u4 ⟨rfl, hb⟩
    have HB4 := Lib.hid (HB3.out.trans (hb.mono HB3.out.size))
    clear hb HC3 x0 x1 x2 x3
    cases kb : (checkN b == 0) with
    | false =>
      have g3 : (checkN b != 0) = true := by simp [bne, kb]
      clear kb
      go_wp2
      go_ret
      exact ⟨rfl, HB.out.trans (HB4.out.mono (Nat.le_of_lt hlw))⟩
    | true =>
      have g3 : (checkN b != 0) = false := by simp [bne, kb]
      have HSb := Lib.hid (sm_of (by have := HMb.out; omega) (show checkN b = 0 by simpa using kb))
      clear kb
      go_wp2_with fail
      refine (str19_any s u4).mono ?_
      rintro e u5 ⟨rfl, hb⟩
      have HB5 := Lib.hid (HB4.out.trans (hb.mono HB4.out.size))
      clear hb
      have HC5 := Lib.hid (pcheck_any (strD s) none 0 u5 (by simp only [strD, Doc.wt, wts]; omega) (Utf8Tabs_below HT.out HB5.out) trivial)
      go_wp2_with fail
      refine HC5.out.mono ?_
      rintro e u6 ⟨rfl, hb⟩
      have HB6 := Lib.hid (HB5.out.trans (hb.mono HB5.out.size))
      clear hb HC5
      cases ks : (checkN (strD s) == 0) with
      | false =>
        have g6 : (checkN (strD s) != 0) = true := by simp [bne, ks]
        clear ks
        go_wp2
        go_ret
        exact ⟨rfl, HB.out.trans (HB6.out.mono (Nat.le_of_lt hlw))⟩
      | true =>
        have g6 : (checkN (strD s) != 0) = false := by simp [bne, ks]
        have HSs := Lib.hid (show checkN (strD s) = 0 by simpa using ks)
        clear ks
        
        have wn : IntKind.i64.wrap n = n := IntWalk.i64_in _ (by omega)
        have wm : IntKind.i64.wrap m = m := IntWalk.i64_in _ (by omega)
        have wnm : IntKind.i64.wrap (n + m) = n + m := IntWalk.i64_in _ (by omega)
        have hw1 : (nestK n (ofK 5 [a, b])).wt ≤ 16777216 := by simp only [nestK, ofK, Doc.wt, wts, noB_size]; omega
        have hw2 : (ofK 5 [nestK n a, nestK n b]).wt ≤ 16777216 := by simp only [nestK, ofK, Doc.wt, wts, noB_size]; omega
        have hw3 : (nestK n (nestK m a)).wt ≤ 16777216 := by simp only [nestK, Doc.wt, wts, noB_size]; omega
        have hw4 : (nestK (n + m) a).wt ≤ 16777216 := by simp only [nestK, Doc.wt, wts, noB_size]; omega
        have hw5 : (ofK 3 [strD s, nestK n a]).wt ≤ 16777216 := by simp only [nestK, ofK, strD, Doc.wt, wts, noB_size]; omega
        have hw6 : (ofK 3 [strD s, a]).wt ≤ 16777216 := by simp only [ofK, strD, Doc.wt, wts, noB_size]; omega
        go_wp2_with fail
        go_loopw [16] (fun i wr => ∃ kd : Int, 5 ≤ kd ∧ kd ≤ 7 ∧ i = .int .i64 kd ∧ Below u6.heap.size u6 wr) (fun i wr => (7 - intOf i).toNat)
        case atStart => exact ⟨5, by omega, by omega, rfl, Below.refl _ _⟩
        case round =>
          obtain ⟨kd, hkd0, hkd1, rfl, hB⟩ := hrel
          have HR := Lib.hid hB
          have HVR := Lib.hid (HB6.out.trans (hB.mono HB6.out.size))
          have hsr := hB.size
          have hs6 := HB6.out.size
          clear hB
          obtain ⟨xa0, xa1, xa2, xa3, _, _, _, _⟩ := HXa.out.below HVR.out hlw
          obtain ⟨xb0, xb1, xb2, xb3, _, _, _, _⟩ := HXb.out.below HVR.out hlb
          obtain ⟨t0, t1, t2⟩ := HTT.out
          have v0 := (HVR.out.cell (p := ⟨W3.heap.size, 0, none⟩) hl4).trans t0
          have v1 := (HVR.out.cell (p := ⟨W3.heap.size, 1, none⟩) hl4).trans t1
          have v2 := (HVR.out.cell (p := ⟨W3.heap.size, 2, none⟩) hl4).trans t2
          clear t0 t1 t2
          have hwr0 : w.heap.size < wr.heap.size := by omega
          have hwr1 : W1.heap.size < wr.heap.size := by omega
          have hwr3 : W3.heap.size < wr.heap.size := by omega
          have HSS := Lib.hid (show ∀ w' : World, Below wr.heap.size wr w' → (w'.cell? ⟨w.heap.size, 0, none⟩ = some (.int .i64 a.kind) ∧ w'.cell? ⟨w.heap.size, 1, none⟩ = some (.string a.text) ∧ w'.cell? ⟨w.heap.size, 2, none⟩ = some (.int .i64 a.n) ∧ w'.cell? ⟨w.heap.size, 3, none⟩ = some (.slice Aa a.kids.length ca) ∧ w'.cell? ⟨W1.heap.size, 0, none⟩ = some (.int .i64 b.kind) ∧ w'.cell? ⟨W1.heap.size, 1, none⟩ = some (.string b.text) ∧ w'.cell? ⟨W1.heap.size, 2, none⟩ = some (.int .i64 b.n) ∧ w'.cell? ⟨W1.heap.size, 3, none⟩ = some (.slice Ab b.kids.length cb) ∧ w'.cell? ⟨W3.heap.size, 0, none⟩ = some (.int .i64 wd) ∧ w'.cell? ⟨W3.heap.size, 1, none⟩ = some (.int .i64 rb) ∧ w'.cell? ⟨W3.heap.size, 2, none⟩ = some (.int .i64 md) ∧ Below wr.heap.size wr w') from fun w' hb => ⟨(hb.cell (p := ⟨w.heap.size, 0, none⟩) hwr0).trans xa0, (hb.cell (p := ⟨w.heap.size, 1, none⟩) hwr0).trans xa1, (hb.cell (p := ⟨w.heap.size, 2, none⟩) hwr0).trans xa2, (hb.cell (p := ⟨w.heap.size, 3, none⟩) hwr0).trans xa3, (hb.cell (p := ⟨W1.heap.size, 0, none⟩) hwr1).trans xb0, (hb.cell (p := ⟨W1.heap.size, 1, none⟩) hwr1).trans xb1, (hb.cell (p := ⟨W1.heap.size, 2, none⟩) hwr1).trans xb2, (hb.cell (p := ⟨W1.heap.size, 3, none⟩) hwr1).trans xb3, (hb.cell (p := ⟨W3.heap.size, 0, none⟩) hwr3).trans v0, (hb.cell (p := ⟨W3.heap.size, 1, none⟩) hwr3).trans v1, (hb.cell (p := ⟨W3.heap.size, 2, none⟩) hwr3).trans v2, hb⟩)
          have HTr := Lib.hid (Utf8Tabs_below HT.out HVR.out)
          have HLa := Lib.hid (show Lies wr a Aa ca from ⟨hcapa, HNa.out, kidsAt_on HKa.out HVR.out⟩)
          have HLb := Lib.hid (show Lies wr b Ab cb from ⟨hcapb, HNb.out, kidsAt_on HKb.out HVR.out⟩)
          by_cases hlt : kd ≤ 6
          · have gd : decide (kd ≤ 6) = true := decide_eq_true hlt
            have HKD := Lib.hid (show kd = 5 ∨ kd = 6 by omega)
            have hw1 : (nestK n (ofK kd [a, b])).wt ≤ 16777216 := hw1
            have hw2 : (ofK kd [nestK n a, nestK n b]).wt ≤ 16777216 := hw2
            have wk : IntKind.i64.wrap (kd + 1) = kd + 1 := IntWalk.i64_in _ (by omega)
            go_upto_region 8 with (fail)
            go_region_held3 (fun w' : World => w'.cell? ⟨w.heap.size, 0, none⟩ = some (.int .i64 a.kind) ∧ w'.cell? ⟨w.heap.size, 1, none⟩ = some (.string a.text) ∧ w'.cell? ⟨w.heap.size, 2, none⟩ = some (.int .i64 a.n) ∧ w'.cell? ⟨w.heap.size, 3, none⟩ = some (.slice Aa a.kids.length ca) ∧ w'.cell? ⟨W1.heap.size, 0, none⟩ = some (.int .i64 b.kind) ∧ w'.cell? ⟨W1.heap.size, 1, none⟩ = some (.string b.text) ∧ w'.cell? ⟨W1.heap.size, 2, none⟩ = some (.int .i64 b.n) ∧ w'.cell? ⟨W1.heap.size, 3, none⟩ = some (.slice Ab b.kids.length cb) ∧ w'.cell? ⟨W3.heap.size, 0, none⟩ = some (.int .i64 wd) ∧ w'.cell? ⟨W3.heap.size, 1, none⟩ = some (.int .i64 rb) ∧ w'.cell? ⟨W3.heap.size, 2, none⟩ = some (.int .i64 md) ∧ Below wr.heap.size wr w')
              (first | (exact HSS.out _ (Below.refl _ _).drew) | (exact HSS.out _ (bl_call (kp11 (by assumption)) hbf)) | (exact HSS.out _ (bl_alloc (kp11 (by assumption)) _)) | (exact HSS.out _ (bl_alloc (Below.refl _ _).drew _)) | assumption)
              (first | (go_at_call 38; refine (of19_any _ _ _ _ _).mono ?_; rintro e w9 ⟨rfl, hbf⟩; refine imp_of (And.intro (row2 (lies_nest n hk64) (lies_nest n hk67) hbf) (kidsAt_on (kids_al hk60 _) hbf)) ?_; rintro ⟨hr68, hk60'⟩) | (go_at_call 38; refine (of19_any _ _ _ _ _).mono ?_; rintro e w9 ⟨rfl, hbf⟩; refine imp_of (row2 HLa.out HLb.out (undrew hbf)) ?_; intro hr58) | (go_at_call 41; refine (nest19_any n (ofK kd [a, b]) (some ⟨_, 0, none⟩) 2 _ (fun e => (nomatch e)) (Nat.le_refl _) hr58).mono ?_; rintro e w9 ⟨g60, rfl, hk60, hbf⟩) | (go_at_call 41; refine (nest19_any (n) a Aa ca _ HLa.out.nil HLa.out.cap (HLa.out.on (kp11 (by assumption))).kids).mono ?_; rintro e w9 ⟨g64, rfl, hk64, hbf⟩; have hk60 := kidsAt_on hk60 hbf) | (go_at_call 41; refine (nest19_any (n) b Ab cb _ HLb.out.nil HLb.out.cap (HLb.out.on (kp11 (by assumption))).kids).mono ?_; rintro e w9 ⟨g67, rfl, hk67, hbf⟩; have hk60 := kidsAt_on hk60 hbf; have hk64 := kidsAt_on hk64 hbf) | (go_at_call 39; refine (same19_any (nestK n (ofK kd [a, b])) (ofK kd [nestK n a, nestK n b]) (some ⟨_, 0, none⟩) (some ⟨_, 0, none⟩) 1 2 wd rb md _ hw1 hw2 (Utf8Tabs_below HTr.out (kp11 (by assumption))) (fun e => (nomatch e)) (fun e => (nomatch e)) (Nat.le_refl _) (Nat.le_refl _) hk60' hr68 (nests_below HKD.out (by omega) (by omega) HSa.out HSb.out wd rb md)).mono ?_; rintro e w9 ⟨rfl, hbf⟩))
            rename_i hH
            have hq := kp11 hH
            have HQ := Lib.hid (HR.out.trans (hq.mono hsr))
            clear hH hq
            go_wp2_with fail
            go_roundw
            case rel => exact ⟨kd + 1, by omega, by omega, by first | rfl | simp [wk] | go_num, HQ.out⟩
            case measure => simp [intOf]; omega
          · have gd : decide (kd ≤ 6) = false := decide_eq_false hlt
            obtain rfl : kd = 7 := by omega
            go_upto_region 10 with (fail)
            go_region_held3 (fun w' : World => w'.cell? ⟨w.heap.size, 0, none⟩ = some (.int .i64 a.kind) ∧ w'.cell? ⟨w.heap.size, 1, none⟩ = some (.string a.text) ∧ w'.cell? ⟨w.heap.size, 2, none⟩ = some (.int .i64 a.n) ∧ w'.cell? ⟨w.heap.size, 3, none⟩ = some (.slice Aa a.kids.length ca) ∧ w'.cell? ⟨W1.heap.size, 0, none⟩ = some (.int .i64 b.kind) ∧ w'.cell? ⟨W1.heap.size, 1, none⟩ = some (.string b.text) ∧ w'.cell? ⟨W1.heap.size, 2, none⟩ = some (.int .i64 b.n) ∧ w'.cell? ⟨W1.heap.size, 3, none⟩ = some (.slice Ab b.kids.length cb) ∧ w'.cell? ⟨W3.heap.size, 0, none⟩ = some (.int .i64 wd) ∧ w'.cell? ⟨W3.heap.size, 1, none⟩ = some (.int .i64 rb) ∧ w'.cell? ⟨W3.heap.size, 2, none⟩ = some (.int .i64 md) ∧ Below wr.heap.size wr w')
              (first | (exact HSS.out _ (Below.refl _ _).drew) | (exact HSS.out _ (bl_call (kp11 (by assumption)) hbf)) | (exact HSS.out _ (bl_alloc (kp11 (by assumption)) _)) | (exact HSS.out _ (bl_alloc (Below.refl _ _).drew _)) | assumption)
              (first | (go_at_call 39; refine (same19_any (ofK 3 [strD s, nestK n a]) (ofK 3 [strD s, a]) (some ⟨_, 0, none⟩) (some ⟨_, 0, none⟩) 2 2 wd rb md _ hw5 hw6 (Utf8Tabs_below HTr.out (kp11 (by assumption))) (fun e => (nomatch e)) (fun e => (nomatch e)) (Nat.le_refl _) (Nat.le_refl _) hr94'' hr99 (nests_text (by omega) (by omega) HSa.out HSs.out wd rb md)).mono ?_; rintro e w9 ⟨rfl, hbf⟩) | (go_at_call 41; refine (nest19_any (m) a Aa ca _ HLa.out.nil HLa.out.cap (HLa.out.on (kp11 (by assumption))).kids).mono ?_; rintro e w9 ⟨g78, rfl, hk78, hbf⟩) | (go_at_call 41; refine (nest19_any n (nestK m a) (some ⟨_, 0, none⟩) 1 _ (fun e => (nomatch e)) (Nat.le_refl _) hk78).mono ?_; rintro e w9 ⟨g79, rfl, hk79, hbf⟩) | (go_at_call 41; refine (nest19_any (n + m) a Aa ca _ HLa.out.nil HLa.out.cap (HLa.out.on (kp11 (by assumption))).kids).mono ?_; rintro e w9 ⟨g84, rfl, hk84, hbf⟩; have hk79 := kidsAt_on hk79 hbf) | (go_at_call 39; refine (same19_any (nestK n (nestK m a)) (nestK (n + m) a) (some ⟨_, 0, none⟩) (some ⟨_, 0, none⟩) 1 1 wd rb md _ hw3 hw4 (Utf8Tabs_below HTr.out (kp11 (by assumption))) (fun e => (nomatch e)) (fun e => (nomatch e)) (Nat.le_refl _) (Nat.le_refl _) hk79 hk84 (nests_add (by omega) (by omega) (by omega) (by omega) (by omega) (by omega) HSa.out wd rb md)).mono ?_; rintro e w9 ⟨rfl, hbf⟩) | (go_at_call 40; refine (str19_any s _).mono ?_; rintro e w9 ⟨rfl, hbf⟩; refine imp_of (kidsAt_on hr94 hbf) ?_; intro hr94'; have HW97 := Lib.hid (bl_call (kp11 (by assumption)) hbf)) | (go_at_call 40; refine (str19_any s _).mono ?_; rintro e w9 ⟨rfl, hbf⟩) | (go_at_call 41; refine (nest19_any (n) a Aa ca _ HLa.out.nil HLa.out.cap (HLa.out.on (kp11 (by assumption))).kids).mono ?_; rintro e w9 ⟨g93, rfl, hk93, hbf⟩) | (go_at_call 38; refine (of19_any _ _ _ _ _).mono ?_; rintro e w9 ⟨rfl, hbf⟩; refine imp_of (And.intro (row2 (lies_str _ s) (HLa.out.on HW97.out) hbf) (kidsAt_on (kids_al hr94' _) hbf)) ?_; rintro ⟨hr99, hr94''⟩) | (go_at_call 38; refine (of19_any _ _ _ _ _).mono ?_; rintro e w9 ⟨rfl, hbf⟩; refine imp_of (row2 (lies_str _ s) (lies_nest n hk93) hbf) ?_; intro hr94))
            all_goals (rename_i hH; have hq := kp11 hH; have HQ := Lib.hid (HVR.out.trans (hq.mono (by omega))); clear hH hq; go_wp2_with fail; go_ret; exact ⟨rfl, HB.out.trans (HQ.out.mono (Nat.le_of_lt hlw))⟩)
end Go.Proofs.YtnpaplfdmpjfgaaDoor
