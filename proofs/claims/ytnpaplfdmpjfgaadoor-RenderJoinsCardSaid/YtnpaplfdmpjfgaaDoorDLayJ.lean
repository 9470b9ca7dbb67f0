/- What is joined, what is nested: laid out alike: plain. -/
import Derived.Test.YtnpaplfdmpjfgaaDoorDLayT
import Derived.Test.YtnpaplfdmpjfgaaDoorDAwake19
namespace Go.Proofs.YtnpaplfdmpjfgaaDoor
open Go.RowKit

theorem cnt_num_aux (m : Nat) : (∀ d : Doc, d.wt ≤ m → ∀ n, n ≤ 2000 → d.cnt n ≤ 2000 → d.cnt n = n + d.num) ∧ (∀ ds : List Doc, wts ds ≤ m → ∀ n, n ≤ 3000 → cnts ds n ≤ 2000 → cnts ds n = n + nums ds) := by
  induction m with
  | zero =>
    refine ⟨fun d hd => by have := wt_pos d; omega, fun ds hds n hn _ => ?_⟩
    have : ds = [] := List.eq_nil_of_length_eq_zero (by have := len_le_wts ds; omega)
    subst this
    simp [cnts, nums]
  | succ m ih =>
    have hd : ∀ d : Doc, d.wt ≤ m + 1 → ∀ n, n ≤ 2000 → d.cnt n ≤ 2000 → d.cnt n = n + d.num := by
      intro d hd n hn
      rw [cnt_eq, num_eq]
      split
      · omega
      · rw [wt_eq] at hd
        intro h
        have := ih.2 d.kids (by omega) (n + 1) (by omega) h
        omega
    refine ⟨hd, fun ds => ?_⟩
    induction ds with
    | nil => intro _ n hn _; simp [cnts, nums]
    | cons a r ihr =>
      intro hw n hn
      simp only [wts] at hw
      simp only [cnts, nums]
      split
      · have h1 := cnt_mono a n (by omega)
        intro h
        have h3 := (cnt_mono_aux (wts r)).2 r (Nat.le_refl _) (a.cnt n) h1.2
        have h2 := ihr (by omega) (a.cnt n) h1.2 h
        have := hd a (by omega) n (by omega) (by omega)
        omega
      · omega
theorem cnt_num {d : Doc} (h : d.cnt 0 ≤ 100) : d.num ≤ 100 := by
  have := (cnt_num_aux d.wt).1 d (Nat.le_refl _) 0 (by omega) (by omega)
  omega
theorem render_alike {x y : Doc} (hx : checkN x = 0) (hy : checkN y = 0) (h : ∀ c, x.lay c pen0 0 true = y.lay c pen0 0 true) (wd rb md : Int) : renderV x wd rb md = renderV y wd rb md := by
  unfold renderV
  rw [hx, hy]
  simp only [h]
/-- What a document of the law is: what may be, and small. -/
structure Sm (d : Doc) (n : Nat) : Prop where
  num : d.num ≤ n
  may : d.may = true
theorem Sm.ok {d : Doc} {n : Nat} (h : Sm d n) (hn : n ≤ 65536) : checkN d = 0 := check_ok (by have := h.num; omega) h.may
theorem sm_of {d : Doc} (h : d.cnt 0 ≤ 100) (hc : checkN d = 0) : Sm d 100 := ⟨cnt_num h, (check_parts hc).2⟩
theorem sm_nest {d : Doc} {n : Nat} (h : Sm d n) {k : Int} (h0 : -1000 ≤ k) (h1 : k ≤ 1000) : Sm (nestK k d) (n + 1) := by
  refine ⟨?_, may_mk (by omega) (by omega) (.inl rfl) h0 h1 (.inl (by omega)) (.inr rfl) (fun x hx => by rw [List.mem_singleton.1 hx]; exact h.may)⟩
  have := h.num
  rw [num_eq]
  simp only [nestK, nums]
  omega
/-- Documents in one. -/
def ofK (k : Int) (ds : List Doc) : Doc := ⟨k, noB, 0, ds⟩
theorem sm_of2 {k : Int} (hk : 2 < k) (hk1 : k < 11) {x y : Doc} {n m : Nat} (hx : Sm x n) (hy : Sm y m) : Sm (ofK k [x, y]) (n + m + 1) := by
  refine ⟨?_, may_mk (by omega) hk1 (.inr rfl) (by omega) (by omega) (.inl (by omega)) (.inl (by omega)) (fun d hd => ?_)⟩
  · have := hx.num
    have := hy.num
    rw [num_eq]
    simp only [ofK, nums]
    omega
  · simp only [List.mem_cons, List.not_mem_nil, or_false] at hd
    rcases hd with rfl | rfl
    · exact hx.may
    · exact hy.may
theorem sm_of4 {k : Int} (hk : 2 < k) (hk1 : k < 11) {x y z : Doc} {n m l : Nat} (hx : Sm x n) (hy : Sm y m) (hz : Sm z l) : Sm (ofK k [x, emptyD, y, z]) (n + m + l + 2) := by
  refine ⟨?_, may_mk (by omega) hk1 (.inr rfl) (by omega) (by omega) (.inl (by omega)) (.inl (by omega)) (fun d hd => ?_)⟩
  · have := hx.num
    have := hy.num
    have := hz.num
    rw [num_eq]
    simp only [ofK, nums]
    rw [show emptyD.num = 1 from rfl]
    omega
  · simp only [List.mem_cons, List.not_mem_nil, or_false] at hd
    rcases hd with rfl | rfl | rfl | rfl
    · exact hx.may
    · exact may_empty
    · exact hy.may
    · exact hz.may
theorem sm_str {t : ByteArray} (hc : checkN (strD t) = 0) : Sm (strD t) 1 := ⟨Nat.le_refl _, (check_parts hc).2⟩

/-! Nests. -/
theorem lay_nest (k : Int) (x : Doc) (c : Cfg) (p : Pen) (base : Int) (fresh : Bool) : (nestK k x).lay c p base fresh = x.lay c p (if fresh then base + k else base) fresh := by
  rw [lay_eq]
  rfl
theorem void_nest (k : Int) (x : Doc) : (nestK k x).void = x.void := by
  rw [void_eq]
  simp [nestK, voids]
theorem lead_nest {k : Int} {x : Doc} (h : x.void = false) : (nestK k x).lead0 = k + x.lead0 := by
  rw [lead0_eq]
  simp [nestK, leads0, h]
theorem lay_of34 {k : Int} (hk : k = 3 ∨ k = 4) (ds : List Doc) (c : Cfg) (p : Pen) (base : Int) (fresh : Bool) : (ofK k ds).lay c p base fresh = besides c k ds true p base fresh := by
  rw [lay_eq]
  rcases hk with rfl | rfl <;> rfl
theorem lay_of56 {k : Int} (hk : k = 5 ∨ k = 6) (ds : List Doc) (c : Cfg) (p : Pen) (base : Int) (fresh : Bool) : (ofK k ds).lay c p base fresh = belows c (k == 5) ds true p base fresh := by
  rw [lay_eq, show sepT c (ofK k ds).kind p (ofK k ds).flat (ofK k ds).void (base + (ofK k ds).lead0) fresh = none by unfold sepT ofK; rcases hk with rfl | rfl <;> rfl]
  rcases hk with rfl | rfl <;> rfl
theorem belows_nest (c : Cfg) (ov : Bool) (k : Int) (ds : List Doc) : ∀ f p base, belows c ov (ds.map (nestK k)) f p base true = belows c ov ds f p (base + k) true := by
  induction ds with
  | nil => intro f p base; rfl
  | cons x r ih =>
    intro f p base
    rw [List.map_cons]
    cases hv : x.void with
    | true => rw [belows_void (by rw [void_nest]; exact hv), belows_void hv, ih]
    | false =>
      have hvn : (nestK k x).void = false := by rw [void_nest]; exact hv
      cases f with
      | true =>
        rw [belows_first hvn, belows_first hv, lay_nest]
        simp only [ih, if_true]
      | false =>
        rw [belows_next hvn, belows_next hv, lead_nest hv]
        have hs : shares c ov p base (k + x.lead0) = shares c ov p (base + k) x.lead0 := by
          unfold shares
          rw [← Int.add_assoc]
        rw [hs]
        simp only [lay_nest, ih, if_true]
theorem nests_below {k kind : Int} (hk : kind = 5 ∨ kind = 6) (h0 : -1000 ≤ k) (h1 : k ≤ 1000) {a b : Doc} (ha : Sm a 100) (hb : Sm b 100) (wd rb md : Int) : renderV (nestK k (ofK kind [a, b])) wd rb md = renderV (ofK kind [nestK k a, nestK k b]) wd rb md :=
  render_alike ((sm_nest (sm_of2 (by omega) (by omega) ha hb) h0 h1).ok (by omega)) ((sm_of2 (by omega) (by omega) (sm_nest ha h0 h1) (sm_nest hb h0 h1)).ok (by omega)) (fun c => by
    rw [lay_nest, lay_of56 hk, lay_of56 hk]
    exact (belows_nest c _ k [a, b] true pen0 0).symm) wd rb md
theorem nests_add {k j : Int} (h0 : -1000 ≤ k) (h1 : k ≤ 1000) (h2 : -1000 ≤ j) (h3 : j ≤ 1000) (h4 : -1000 ≤ k + j) (h5 : k + j ≤ 1000) {a : Doc} (ha : Sm a 100) (wd rb md : Int) : renderV (nestK k (nestK j a)) wd rb md = renderV (nestK (k + j) a) wd rb md :=
  render_alike ((sm_nest (sm_nest ha h2 h3) h0 h1).ok (by omega)) ((sm_nest ha h4 h5).ok (by omega)) (fun c => by
    rw [lay_nest, lay_nest, lay_nest]
    simp only [if_true]
    rw [Int.add_assoc]) wd rb md
theorem nests_text {k : Int} (h0 : -1000 ≤ k) (h1 : k ≤ 1000) {a : Doc} {t : ByteArray} (ha : Sm a 100) (ht : checkN (strD t) = 0) (wd rb md : Int) : renderV (ofK 3 [strD t, nestK k a]) wd rb md = renderV (ofK 3 [strD t, a]) wd rb md :=
  render_alike ((sm_of2 (by omega) (by omega) (sm_str ht) (sm_nest ha h0 h1)).ok (by omega)) ((sm_of2 (by omega) (by omega) (sm_str ht) ha).ok (by omega)) (fun c => by
    rw [lay_of34 (.inl rfl), lay_of34 (.inl rfl), besides_first (str_void rfl), besides_first (str_void rfl)]
    congr 1
    funext q
    cases hv : a.void with
    | true => rw [besides_void (by rw [void_nest]; exact hv), besides_void hv]
    | false =>
      rw [besides_next (by rw [void_nest]; exact hv), besides_next hv]
      simp only [lay_nest, Bool.false_eq_true, if_false]) wd rb md

/-! Joins. -/
theorem Alike.refl (x : Doc) : Alike x x := ⟨rfl, rfl, rfl, fun _ _ _ _ => rfl⟩
theorem joins_left {k : Int} (hk : 3 ≤ k) (hk1 : k ≤ 6) {a b c : Doc} (ha : Sm a 100) (hb : Sm b 100) (hc : Sm c 100) (wd rb md : Int) : renderV (ofK k [ofK k [a, b], c]) wd rb md = renderV (ofK k [a, ofK k [b, c]]) wd rb md :=
  render_alike ((sm_of2 (by omega) (by omega) (sm_of2 (by omega) (by omega) ha hb) hc).ok (by omega)) ((sm_of2 (by omega) (by omega) ha (sm_of2 (by omega) (by omega) hb hc)).ok (by omega)) (fun cf => by
    rcases (by omega : (k = 3 ∨ k = 4) ∨ (k = 5 ∨ k = 6)) with h | h
    · rw [lay_of34 h, lay_of34 h, besides_splice h (t := ofK k [a, b]) rfl]
      exact (besides_cons (Alike.refl a) (besides_splice h (t := ofK k [b, c]) rfl []) true pen0 0 true).symm
    · rw [lay_of56 h, lay_of56 h, belows_splice h (may_form (sm_of2 (by omega) (by omega) ha hb).may) rfl]
      exact (belows_cons (Alike.refl a) (belows_splice h (may_form (sm_of2 (by omega) (by omega) hb hc).may) rfl []) true pen0 0 true).symm) wd rb md
theorem joins_empty {k : Int} (hk : 3 ≤ k) (hk1 : k ≤ 6) {a b c : Doc} (ha : Sm a 100) (hb : Sm b 100) (hc : Sm c 100) (wd rb md : Int) : renderV (ofK k [ofK k [a, b], c]) wd rb md = renderV (ofK k [a, emptyD, b, c]) wd rb md :=
  render_alike ((sm_of2 (by omega) (by omega) (sm_of2 (by omega) (by omega) ha hb) hc).ok (by omega)) ((sm_of4 (by omega) (by omega) ha hb hc).ok (by omega)) (fun cf => by
    rcases (by omega : (k = 3 ∨ k = 4) ∨ (k = 5 ∨ k = 6)) with h | h
    · rw [lay_of34 h, lay_of34 h, besides_splice h (t := ofK k [a, b]) rfl]
      exact (besides_cons (Alike.refl a) (fun f p base fresh => besides_void (x := emptyD) rfl) true pen0 0 true).symm
    · rw [lay_of56 h, lay_of56 h, belows_splice h (may_form (sm_of2 (by omega) (by omega) ha hb).may) rfl]
      exact (belows_cons (Alike.refl a) (fun f p base fresh => belows_void (x := emptyD) rfl) true pen0 0 true).symm) wd rb md
end Go.Proofs.YtnpaplfdmpjfgaaDoor
