/- How documents are laid out: plain. -/
import Derived.Test.YtnpaplfdmpjfgaaDoorDTidyL
import Derived.Test.YtnpaplfdmpjfgaaDoorDCheck
import Derived.Lib.RuneCount
namespace Go.Proofs.YtnpaplfdmpjfgaaDoor
open Go.RowKit

/-- What was laid: bytes; the column; where the line's first text begins, whether it has one; blanks that are owed; lines that were ended. -/
structure Pen where
  out : List UInt8
  col : Int
  start : Int
  op : Bool
  owed : Int
  lines : Int
structure Cfg where
  width : Int
  ribbon : Int
  mode : Int
def cols (s : ByteArray) : Int := Lib.runeCount s
def blankB : ByteArray := ⟨#[32]⟩
def begins (c : Cfg) (p : Pen) (base : Int) (fresh : Bool) : Int := if fresh && c.mode == 0 then max 0 base else p.col
def firstC (c : Cfg) (p : Pen) (base : Int) (fresh : Bool) : Int := if p.op then p.start else begins c p base fresh
def fitsB (c : Cfg) (p : Pen) (s : ByteArray) (base : Int) (fresh : Bool) : Bool :=
  c.mode != 0 || (decide (begins c p base fresh + cols s ≤ c.width) && decide (begins c p base fresh + cols s - firstC c p base fresh ≤ c.ribbon))
def opened (c : Cfg) (p : Pen) (base : Int) (fresh : Bool) : Pen :=
  { p with owed := p.owed + begins c p base fresh - p.col, col := begins c p base fresh, op := true, start := firstC c p base fresh }
theorem data_len (s : ByteArray) : s.data.toList.length = s.size := Array.length_toList
/-- A text is laid; none: it is too long. -/
def put (c : Cfg) (p : Pen) (s : ByteArray) (base : Int) (fresh : Bool) : Option Pen :=
  if s.size = 0 then some (opened c p base fresh)
  else if 16777216 < p.out.length + (opened c p base fresh).owed.toNat + s.size then none
  else some { opened c p base fresh with out := p.out ++ List.replicate (opened c p base fresh).owed.toNat 32 ++ s.data.toList, owed := 0, col := begins c p base fresh + cols s }
/-- A line is ended. -/
def endl (c : Cfg) (p : Pen) : Option Pen :=
  if c.mode == 2 then put c p blankB 0 false
  else if 16777216 ≤ p.out.length then none
  else some { p with out := p.out ++ [10], col := 0, owed := 0, op := false, lines := p.lines + 1 }
def shares (c : Cfg) (ov : Bool) (p : Pen) (base lead : Int) : Bool := ov && c.mode == 0 && decide (p.col < base + lead)
def fblank (k : Int) : ByteArray := if k == 9 then blankB else noB
def fillT (c : Cfg) (k : Int) (one : Bool) (p : Pen) (f : Option ByteArray) : Option ByteArray :=
  if one then match f with
    | some s => if fitsB c p (fblank k ++ s) 0 false then some (fblank k ++ s) else none
    | none => none
  else none
def sepT (c : Cfg) (k : Int) (p : Pen) (f : Option ByteArray) (void : Bool) (at_ : Int) (fresh : Bool) : Option ByteArray :=
  if (k == 7 || k == 8) && !void then match f with
    | some s => if fitsB c p s at_ fresh then some s else none
    | none => none
  else none
mutual
/-- A document is laid. -/
def Doc.lay (c : Cfg) : Doc → Pen → Int → Bool → Option Pen
  | ⟨k, t, n, kids⟩, p, base, fresh =>
    if k == 1 then put c p t base fresh
    else if k == 2 then lay0 c kids p (if fresh then base + n else base) fresh
    else if k == 3 || k == 4 then besides c k kids true p base fresh
    else if k == 9 || k == 10 then fills c k kids true false p base fresh
    else match sepT c k p (Doc.flat ⟨k, t, n, kids⟩) (Doc.void ⟨k, t, n, kids⟩) (base + Doc.lead0 ⟨k, t, n, kids⟩) fresh with
      | some s => put c p s (base + Doc.lead0 ⟨k, t, n, kids⟩) fresh
      | none => belows c (k == 5) kids true p base fresh
def lay0 (c : Cfg) : List Doc → Pen → Int → Bool → Option Pen
  | [], p, _, _ => some p
  | x :: _, p, base, fresh => x.lay c p base fresh
def besides (c : Cfg) (k : Int) : List Doc → Bool → Pen → Int → Bool → Option Pen
  | [], _, p, _, _ => some p
  | x :: r, first, p, base, fresh =>
    if x.void then besides c k r first p base fresh
    else if first then (x.lay c p base fresh).bind fun q => besides c k r false q base fresh
    else (if k == 4 then put c p blankB 0 false else some p).bind fun p => (x.lay c p p.col false).bind fun q => besides c k r false q base fresh
def belows (c : Cfg) (ov : Bool) : List Doc → Bool → Pen → Int → Bool → Option Pen
  | [], _, p, _, _ => some p
  | x :: r, first, p, base, fresh =>
    if x.void then belows c ov r first p base fresh
    else if first then (x.lay c p base fresh).bind fun q => belows c ov r false q base fresh
    else (if shares c ov p base x.lead0 then some p else endl c p).bind fun p => (x.lay c p base true).bind fun q => belows c ov r false q base fresh
def fills (c : Cfg) (k : Int) : List Doc → Bool → Bool → Pen → Int → Bool → Option Pen
  | [], _, _, p, _, _ => some p
  | x :: r, first, one, p, base, fresh =>
    if x.void then fills c k r first one p base fresh
    else if first then (x.lay c p base fresh).bind fun q => fills c k r false (p.lines == q.lines) q base fresh
    else match fillT c k one p x.flat with
      | some s => (put c p s 0 false).bind fun q => fills c k r false (p.lines == q.lines) q base fresh
      | none => (endl c p).bind fun p1 => (x.lay c p1 base true).bind fun q => fills c k r false (p1.lines == q.lines) q base fresh
end
theorem lay_eq (c : Cfg) (d : Doc) (p : Pen) (base : Int) (fresh : Bool) : d.lay c p base fresh =
    if d.kind == 1 then put c p d.text base fresh
    else if d.kind == 2 then lay0 c d.kids p (if fresh then base + d.n else base) fresh
    else if d.kind == 3 || d.kind == 4 then besides c d.kind d.kids true p base fresh
    else if d.kind == 9 || d.kind == 10 then fills c d.kind d.kids true false p base fresh
    else match sepT c d.kind p d.flat d.void (base + d.lead0) fresh with
      | some s => put c p s (base + d.lead0) fresh
      | none => belows c (d.kind == 5) d.kids true p base fresh := by cases d; simp only [Doc.lay]

theorem besides_void {c : Cfg} {k : Int} {x : Doc} {r : List Doc} {f : Bool} {p : Pen} {base : Int} {fresh : Bool} (h : x.void = true) : besides c k (x :: r) f p base fresh = besides c k r f p base fresh := by simp [besides, h]
theorem besides_first {c : Cfg} {k : Int} {x : Doc} {r : List Doc} {p : Pen} {base : Int} {fresh : Bool} (h : x.void = false) : besides c k (x :: r) true p base fresh = (x.lay c p base fresh).bind fun q => besides c k r false q base fresh := by simp [besides, h]
theorem besides_next {c : Cfg} {k : Int} {x : Doc} {r : List Doc} {p : Pen} {base : Int} {fresh : Bool} (h : x.void = false) : besides c k (x :: r) false p base fresh = (if k == 4 then put c p blankB 0 false else some p).bind fun p => (x.lay c p p.col false).bind fun q => besides c k r false q base fresh := by simp [besides, h]
theorem belows_void {c : Cfg} {ov : Bool} {x : Doc} {r : List Doc} {f : Bool} {p : Pen} {base : Int} {fresh : Bool} (h : x.void = true) : belows c ov (x :: r) f p base fresh = belows c ov r f p base fresh := by simp [belows, h]
theorem belows_first {c : Cfg} {ov : Bool} {x : Doc} {r : List Doc} {p : Pen} {base : Int} {fresh : Bool} (h : x.void = false) : belows c ov (x :: r) true p base fresh = (x.lay c p base fresh).bind fun q => belows c ov r false q base fresh := by simp [belows, h]
theorem belows_next {c : Cfg} {ov : Bool} {x : Doc} {r : List Doc} {p : Pen} {base : Int} {fresh : Bool} (h : x.void = false) : belows c ov (x :: r) false p base fresh = (if shares c ov p base x.lead0 then some p else endl c p).bind fun p => (x.lay c p base true).bind fun q => belows c ov r false q base fresh := by simp [belows, h]
theorem fills_void {c : Cfg} {k : Int} {x : Doc} {r : List Doc} {f one : Bool} {p : Pen} {base : Int} {fresh : Bool} (h : x.void = true) : fills c k (x :: r) f one p base fresh = fills c k r f one p base fresh := by simp [fills, h]
theorem fills_first {c : Cfg} {k : Int} {x : Doc} {r : List Doc} {one : Bool} {p : Pen} {base : Int} {fresh : Bool} (h : x.void = false) : fills c k (x :: r) true one p base fresh = (x.lay c p base fresh).bind fun q => fills c k r false (p.lines == q.lines) q base fresh := by simp [fills, h]
theorem fills_some {c : Cfg} {k : Int} {x : Doc} {r : List Doc} {one : Bool} {p : Pen} {base : Int} {fresh : Bool} {s : ByteArray} (h : x.void = false) (hs : fillT c k one p x.flat = some s) : fills c k (x :: r) false one p base fresh = (put c p s 0 false).bind fun q => fills c k r false (p.lines == q.lines) q base fresh := by simp [fills, h, hs]
theorem fills_none {c : Cfg} {k : Int} {x : Doc} {r : List Doc} {one : Bool} {p : Pen} {base : Int} {fresh : Bool} (h : x.void = false) (hs : fillT c k one p x.flat = none) : fills c k (x :: r) false one p base fresh = (endl c p).bind fun p1 => (x.lay c p1 base true).bind fun q => fills c k r false (p1.lines == q.lines) q base fresh := by simp [fills, h, hs]

/-! Void kids are passed by. -/
theorem filter_cons_void {x : Doc} {r : List Doc} (h : x.void = true) : (x :: r).filter Doc.there = r.filter Doc.there := List.filter_cons_of_neg (by simp [Doc.there, h])
theorem filter_cons_there {x : Doc} {r : List Doc} (h : x.void = false) : (x :: r).filter Doc.there = x :: r.filter Doc.there := List.filter_cons_of_pos (by simp [Doc.there, h])
theorem besides_there (c : Cfg) (k : Int) (ds : List Doc) : ∀ f p base fresh, besides c k (ds.filter Doc.there) f p base fresh = besides c k ds f p base fresh := by
  induction ds with
  | nil => intro f p base fresh; rfl
  | cons x r ih =>
    intro f p base fresh
    cases hv : x.void with
    | true => rw [filter_cons_void hv, besides_void hv, ih]
    | false =>
      rw [filter_cons_there hv]
      cases f with
      | true => rw [besides_first hv, besides_first hv]; simp only [ih]
      | false => rw [besides_next hv, besides_next hv]; simp only [ih]
theorem belows_there (c : Cfg) (ov : Bool) (ds : List Doc) : ∀ f p base fresh, belows c ov (ds.filter Doc.there) f p base fresh = belows c ov ds f p base fresh := by
  induction ds with
  | nil => intro f p base fresh; rfl
  | cons x r ih =>
    intro f p base fresh
    cases hv : x.void with
    | true => rw [filter_cons_void hv, belows_void hv, ih]
    | false =>
      rw [filter_cons_there hv]
      cases f with
      | true => rw [belows_first hv, belows_first hv]; simp only [ih]
      | false => rw [belows_next hv, belows_next hv]; simp only [ih]
theorem fills_there (c : Cfg) (k : Int) (ds : List Doc) : ∀ f one p base fresh, fills c k (ds.filter Doc.there) f one p base fresh = fills c k ds f one p base fresh := by
  induction ds with
  | nil => intro f one p base fresh; rfl
  | cons x r ih =>
    intro f one p base fresh
    cases hv : x.void with
    | true => rw [filter_cons_void hv, fills_void hv, ih]
    | false =>
      rw [filter_cons_there hv]
      cases f with
      | true => rw [fills_first hv, fills_first hv]; simp only [ih]
      | false =>
        cases hs : fillT c k one p x.flat with
        | some s => rw [fills_some hv hs, fills_some hv hs]; simp only [ih]
        | none => rw [fills_none hv hs, fills_none hv hs]; simp only [ih]

/-! What a document's first text is nested by stays small. -/
theorem lead0_small_aux (m : Nat) : ∀ d : Doc, d.wt ≤ m → d.form = true → -(1000 * (d.wt : Int)) ≤ d.lead0 ∧ d.lead0 ≤ 1000 * (d.wt : Int) := by
  induction m with
  | zero => intro d h; have := wt_pos d; omega
  | succ m ih =>
    intro d hm hf
    obtain ⟨_, _, _, _, hn0, hn1, _, _, hk⟩ := form_at.1 hf
    rw [lead0_eq]
    split
    · omega
    · cases hv : voids d.kids with
      | true =>
        have : leads0 d.n d.kids = 0 := by
          have h : ∀ ds : List Doc, voids ds = true → leads0 d.n ds = 0 := by
            intro ds
            induction ds with
            | nil => intro _; rfl
            | cons x r ihr =>
              intro h
              simp only [voids, Bool.and_eq_true] at h
              simp only [leads0, h.1, if_true]
              exact ihr h.2
          exact h _ hv
        omega
      | false =>
        rw [leads0_there d.n d.kids hv]
        cases hfl : d.kids.filter Doc.there with
        | nil => simp only [hd0]; have := wt_pos d; omega
        | cons x r =>
          simp only [hd0]
          have hx : x ∈ d.kids := (List.mem_filter.1 (by rw [hfl]; exact List.mem_cons_self : x ∈ d.kids.filter Doc.there)).1
          have hlt := kid_lt hx
          have := ih x (by omega) (hk x hx)
          omega
theorem lead0_small {d : Doc} (hf : d.form = true) : -(1000 * (d.wt : Int)) ≤ d.lead0 ∧ d.lead0 ≤ 1000 * (d.wt : Int) := lead0_small_aux d.wt d (Nat.le_refl _) hf
theorem lead_plain {d : Doc} (hf : d.form = true) (hw : d.wt ≤ 16777216) : d.lead = d.lead0 := by
  rw [lead_wrap]
  have := lead0_small hf
  rw [wrap_mod]
  omega

/-! What holds of a pen all the time. -/
structure Inv (M : Int) (p : Pen) : Prop where
  owed : 0 ≤ p.owed
  col : p.owed ≤ p.col
  colM : p.col ≤ M
  start : 0 ≤ p.start
  startM : p.start ≤ M
  lines : 0 ≤ p.lines
  linesM : p.lines ≤ M
  out : p.out.length ≤ 16777216
theorem Inv.mono {M M' : Int} {p : Pen} (h : Inv M p) (hM : M ≤ M') : Inv M' p :=
  ⟨h.owed, h.col, by have := h.colM; omega, h.start, by have := h.startM; omega, h.lines, by have := h.linesM; omega, h.out⟩
/-- A text that may begin anew does not begin ahead of the pen's place. -/
def FOk (c : Cfg) (p : Pen) (base : Int) (fresh : Bool) : Prop := fresh = true → c.mode = 0 → p.col ≤ max 0 base
theorem fok_not (c : Cfg) (p : Pen) (base : Int) : FOk c p base false := fun h => by cases h
theorem begins_not (c : Cfg) (p : Pen) (base : Int) : begins c p base false = p.col := rfl
theorem begins_le {c : Cfg} {p : Pen} {base : Int} {fresh : Bool} (h : FOk c p base fresh) : p.col ≤ begins c p base fresh := by
  unfold begins
  split
  · rename_i hh
    rw [Bool.and_eq_true, beq_iff_eq] at hh
    exact h hh.1 hh.2
  · exact Int.le_refl _
theorem begins_M {c : Cfg} {p : Pen} {base M : Int} {fresh : Bool} (h : Inv M p) (hb : base ≤ M) : begins c p base fresh ≤ M := by
  have h1 := h.owed; have h2 := h.col; have h3 := h.colM
  unfold begins
  split <;> omega
theorem cols_nn (s : ByteArray) : 0 ≤ cols s := by unfold cols; omega
theorem cols_le (s : ByteArray) : cols s ≤ s.size := by unfold cols; have := Lib.runeCount_le s; omega
theorem opened_inv {c : Cfg} {p : Pen} {base M : Int} {fresh : Bool} (h : Inv M p) (hf : FOk c p base fresh) (hb : base ≤ M) : Inv M (opened c p base fresh) := by
  have h1 := begins_le hf
  have h2 := begins_M (c := c) (fresh := fresh) h hb
  obtain ⟨a1, a2, a3, a4, a5, a6, a7, a8⟩ := h
  refine ⟨?_, ?_, ?_, ?_, ?_, a6, a7, a8⟩ <;> simp only [opened, firstC]
  · omega
  · omega
  · omega
  · split <;> omega
  · split <;> omega
theorem put_inv {c : Cfg} {p q : Pen} {s : ByteArray} {base M : Int} {fresh : Bool} (h : Inv M p) (hf : FOk c p base fresh) (hb : base ≤ M) (hq : put c p s base fresh = some q) : Inv (M + s.size) q := by
  have ho := opened_inv h hf hb
  have h1 := begins_le hf
  have h2 := begins_M (c := c) (fresh := fresh) h hb
  have hc := cols_nn s
  have hc' := cols_le s
  unfold put at hq
  split at hq
  · cases hq
    exact ho.mono (by omega)
  · split at hq
    · cases hq
    · cases hq
      obtain ⟨a1, a2, a3, a4, a5, a6, a7, a8⟩ := ho
      obtain ⟨b1, b2, b3, b4, b5, b6, b7, b8⟩ := h
      simp only [opened] at a1 a2 a3 a4 a5
      refine ⟨by simp, ?_, ?_, a4, ?_, b6, ?_, ?_⟩ <;> simp only [opened] at *
      · omega
      · omega
      · omega
      · omega
      · rename_i hle
        rw [List.length_append, List.length_append, List.length_replicate, data_len]
        omega
theorem endl_inv {c : Cfg} {p q : Pen} {M : Int} (h : Inv M p) (hq : endl c p = some q) : Inv (M + 1) q := by
  unfold endl at hq
  split at hq
  · have h0 : (0 : Int) ≤ M := by have := h.start; have := h.startM; omega
    have := put_inv h (fok_not _ _ _) h0 hq
    exact this
  · split at hq
    · cases hq
    · cases hq
      obtain ⟨b1, b2, b3, b4, b5, b6, b7, b8⟩ := h
      refine ⟨by simp, by simp, ?_, b4, ?_, ?_, ?_, ?_⟩ <;> simp only []
      · omega
      · omega
      · omega
      · omega
      · simp only [List.length_append, List.length_cons, List.length_nil]; omega
theorem endl_col {c : Cfg} {p q : Pen} (hm : c.mode = 0) (hq : endl c p = some q) : q.col = 0 := by
  unfold endl at hq
  rw [hm] at hq
  simp only [show ((0 : Int) == 2) = false from rfl, Bool.false_eq_true, if_false] at hq
  split at hq
  · cases hq
  · cases hq; rfl
end Go.Proofs.YtnpaplfdmpjfgaaDoor
