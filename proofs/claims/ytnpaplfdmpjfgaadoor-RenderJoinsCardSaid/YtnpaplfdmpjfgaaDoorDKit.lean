/- Laws on rows that the call itself makes: appended to, kept, read. -/
import Derived.Test.YtnpaplfdmpjfgaaDoorDBase
import Derived.RangeFuncBox
import Derived.Deep.DeepCutAuto
import Derived.RegionTactic
import Derived.Deep.LoopGhost
import Derived.Deep.DrawnRows
import Derived.Deep.AppendLies
namespace Go.Proofs.YtnpaplfdmpjfgaaDoor
open Go.RowKit
section
variable {P : Program}
/-- append of one element that the statement itself has just built, onto a row of the call's own: the element's cells lie in the newest block. -/
theorem wp_app1 {o : Oper} {a : Act} {W : World} {K : Act → World → Prop} {Q : Exit → Act → World → Prop} (s x : Operand) (t : TypeId)
    (ho : o.op = .call { callee := .builtin .append, args := #[s, x], argTypes := #[t, t] })
    (e : TypeId) (z : Value) (size bytes : Nat) (ht : P.underlying t = some (.slice e)) (hinfo : (P.info? e).map (fun i => (i.zero, i.size, i.bytes)) = some (some z, size, bytes)) (hzs : z.cells.size = size) (hsz : 0 < size)
    (wr : World) (news : List Value) (hW : W = wr.alloc (.cells news.toArray e)) (G : Nat) (hG : G = wr.heap.size) (B : Nat) (out : Value) (n : Nat) (xs : List Value) (hs : a.eval s = out) (hown : wr.ownsRow B e size out n xs) (hx : a.eval x = .slice (some ⟨G, 0, none⟩) 1 1)
    (hl : news.length = size) (h1 : ∀ u ∈ news, u.oneCell' = true) (h63 : n + 1 ≤ maxLen) (hbytes : (n + 1) * bytes ≤ 140737488355328) (hB : B ≤ wr.heap.size)
    (h : ∀ g c w', w'.ownsRow B e size (.slice (some ⟨g, 0, none⟩) (n + 1) c) (n + 1) (xs ++ news) → Below B wr w' → wr.grownBy w' out.ownBlock → (∀ k, some k ≠ out.ownBlock → k < wr.heap.size → k ≠ g) → K (a.put o.dst (.slice (some ⟨g, 0, none⟩) (n + 1) c)) w') :
    o.wp P a W K Q := by
  subst hW
  subst hG
  obtain ⟨i0, hi, hz0, hz1, hz2⟩ := info_parts hinfo
  obtain ⟨v', w', hr, hown', hgrow, _, hat⟩ := run_append_own_at (P := P) (wr.alloc (.cells news.toArray e)) B t o.type e i0 z size bytes ht hi hz0 hz1 hz2 hzs hsz out n xs (hown.alloc _) ⟨wr.heap.size, 0, none⟩ 1 1 news (by omega) (fun j u hu => by
    have hadd : (⟨wr.heap.size, 0, none⟩ : Addr).add j = ⟨wr.heap.size, j, none⟩ := by unfold Addr.add; split <;> simp_all
    rw [hadd, World.cell?_alloc_new]
    simpa using hu) h1 h63 hbytes (by simp; omega)
  obtain ⟨g', cap', rfl⟩ := ownsRow_succ hown'
  have hg2 : wr.grownBy w' out.ownBlock := ⟨hgrow.os, hgrow.tape, hgrow.output, Nat.le_trans (by simp) hgrow.size, fun k hk hne => (hgrow.block k (by simp; omega) hne).trans (Below.heap_alloc _ _ _ hk)⟩
  unfold Oper.wp execOp
  simp only [ho, resolve, invoke, builtin, Sem.run_bind, Sem.run_pure, Result.andThen_ok, List.map_toArray, List.map_cons, List.map_nil, hs, hx, hr]
  refine h g' cap' w' hown' ((Below.refl B wr).grown hg2 hB (fun k hk => (hown.lt k hk).1)) hg2 (fun k hk hlt he => ?_)
  subst he
  rcases hat with hat | hat
  · exact hk (by rw [← hat]; rfl)
  · simp [Value.ownBlock] at hat
    omega

theorem wpList_app1 {ops : Array Oper} {rest : List Oper} {o : Oper} {a : Act} {W : World} {Q : Exit → Act → World → Prop} (hgd : o.guard = none) (s x : Operand) (t : TypeId)
    (ho : o.op = .call { callee := .builtin .append, args := #[s, x], argTypes := #[t, t] })
    (e : TypeId) (z : Value) (size bytes : Nat) (ht : P.underlying t = some (.slice e)) (hinfo : (P.info? e).map (fun i => (i.zero, i.size, i.bytes)) = some (some z, size, bytes)) (hzs : z.cells.size = size) (hsz : 0 < size)
    (wr : World) (news : List Value) (hW : W = wr.alloc (.cells news.toArray e)) (G : Nat) (hG : G = wr.heap.size) (B : Nat) (out : Value) (n : Nat) (xs : List Value) (hs : a.eval s = out) (hown : wr.ownsRow B e size out n xs) (hx : a.eval x = .slice (some ⟨G, 0, none⟩) 1 1)
    (hl : news.length = size) (h1 : ∀ u ∈ news, u.oneCell' = true) (h63 : n + 1 ≤ maxLen) (hbytes : (n + 1) * bytes ≤ 140737488355328) (hB : B ≤ wr.heap.size)
    (h : ∀ g c w', w'.ownsRow B e size (.slice (some ⟨g, 0, none⟩) (n + 1) c) (n + 1) (xs ++ news) → Below B wr w' → wr.grownBy w' out.ownBlock → (∀ k, some k ≠ out.ownBlock → k < wr.heap.size → k ≠ g) → wpList P ops Q rest (a.put o.dst (.slice (some ⟨g, 0, none⟩) (n + 1) c)) w') :
    wpList P ops Q (o :: rest) a W :=
  wpList_plain hgd fun _ hK => wp_app1 s x t ho e z size bytes ht hinfo hzs hsz wr news hW G hG B out n xs hs hown hx hl h1 h63 hbytes hB fun g c w' h2 h3 h4 h5 => hK _ _ (h g c w' h2 h3 h4 h5)
end

/-- A row of the call's own lies in a block that is there: a newer block is another one. -/
theorem own_ne {w : World} {B e size n : Nat} {v : Value} {xs : List Value} (h : w.ownsRow B e size v n xs) {k : Nat} (hk : w.heap.size ≤ k) : some k ≠ v.ownBlock := by
  intro he
  have := (h.lt k he.symm).2
  omega
theorem own_drewN {w : World} {B e size n : Nat} {v : Value} {xs : List Value} (h : w.ownsRow B e size v n xs) (k : Nat) : (w.drewN k).ownsRow B e size v n xs := h
/-- A row lies on where all that was there lies on. -/
theorem own_below {w w' : World} {B e size n : Nat} {v : Value} {xs : List Value} (h : w.ownsRow B e size v n xs) (hb : Below w.heap.size w w') : w'.ownsRow B e size v n xs := by
  refine ⟨h.1, ?_⟩
  rcases h.2 with hn | ⟨g, cap, cur, rfl, hbb, hgg, rest⟩
  · exact .inl hn
  · exact .inr ⟨g, cap, cur, rfl, hbb, (hb.block g (Array.getElem?_eq_some_iff.1 hgg).1).trans hgg, rest⟩
section
variable {P : Program}
/-- append of a slice onto a row of the call's own: the source may be nil. -/
theorem wpList_appm {ops : Array Oper} {rest : List Oper} {o : Oper} {a : Act} {w : World} {Q : Exit → Act → World → Prop} (hgd : o.guard = none) (s x : Operand) (t : TypeId)
    (ho : o.op = .call { callee := .builtin .append, args := #[s, x], argTypes := #[t, t] })
    (e : TypeId) (z : Value) (size bytes : Nat) (ht : P.underlying t = some (.slice e)) (hinfo : (P.info? e).map (fun i => (i.zero, i.size, i.bytes)) = some (some z, size, bytes)) (hzs : z.cells.size = size) (hsz : 0 < size)
    (B : Nat) (v : Value) (n : Nat) (xs : List Value) (hs : a.eval s = v) (hown : w.ownsRow B e size v n xs) (ao : Option Addr) (m c : Nat) (news : List Value) (hx : a.eval x = .slice ao m c)
    (hl : news.length = m * size) (hnone : ao = none → m = 0 ∧ c = 0) (hc : ∀ ad, ao = some ad → ∀ j u, news[j]? = some u → w.cell? (ad.add j) = some u) (h1 : ∀ u ∈ news, u.oneCell' = true)
    (h63 : n + m ≤ maxLen) (hbytes : (n + m) * bytes ≤ 140737488355328) (hB : B ≤ w.heap.size)
    (h : ∀ v' w', w'.ownsRow B e size v' (n + m) (xs ++ news) → Below B w w' → wpList P ops Q rest (a.put o.dst v') w') : wpList P ops Q (o :: rest) a w := by
  obtain ⟨i0, hi, hz0, hz1, hz2⟩ := info_parts hinfo
  cases ao with
  | none =>
    obtain ⟨rfl, rfl⟩ := hnone rfl
    have hnews : news = [] := List.eq_nil_of_length_eq_zero (by simpa using hl)
    subst hnews
    exact wpList_append_own_none hgd s x t ho B e i0 size ht hi v n xs hs hown hx (h _ _ (by simpa using hown) (Below.refl _ _))
  | some ad =>
    exact wpList_append_own w hgd s x t ho B e i0 z size bytes ht hi hz0 hz1 hz2 hzs hsz v n xs hs hown ad m c news hx hl (hc ad rfl) h1 h63 hbytes hB
      (fun v' w' h2 h3 _ => h v' w' h2 ((Below.refl B w).grown h3 hB (fun k hk => (hown.lt k hk).1)))
end

theorem own_form {w : World} {B e size n : Nat} {v : Value} {xs : List Value} (h : w.ownsRow B e size v n xs) : ∃ A c, v = .slice A n c := by
  rcases h.2 with ⟨rfl, rfl⟩ | ⟨g, cap, cur, rfl, _⟩
  · exact ⟨_, _, rfl⟩
  · exact ⟨_, _, rfl⟩

theorem own_mono {w : World} {base base' : Nat} {e : TypeId} {size : Nat} {v : Value} {n : Nat} {xs : List Value} (h : w.ownsRow base e size v n xs) (hb : base' ≤ base) : w.ownsRow base' e size v n xs := by
  refine ⟨h.1, ?_⟩
  rcases h.2 with hn | ⟨g, cap, cur, rfl, hbb, rest⟩
  · exact .inl hn
  · exact .inr ⟨g, cap, cur, rfl, Nat.le_trans hb hbb, rest⟩

/-! What a region's cells hold behind a callee that has turned nothing of what was there. -/
theorem held1 {w0 wx w1 : World} {a0 : Addr} {u0 : Value} (h : wx.cell? a0 = some u0 ∧ Below w0.heap.size w0 wx) (hb : Below wx.heap.size wx w1) (l0 : a0.block < w0.heap.size) : w1.cell? a0 = some u0 ∧ Below w0.heap.size w0 w1 := by
  obtain ⟨h0, q⟩ := h
  exact ⟨(hb.cell (Nat.lt_of_lt_of_le l0 q.size)).trans h0, q.trans (hb.mono q.size)⟩
theorem held2 {w0 wx w1 : World} {a0 a1 : Addr} {u0 u1 : Value} (h : wx.cell? a0 = some u0 ∧ wx.cell? a1 = some u1 ∧ Below w0.heap.size w0 wx) (hb : Below wx.heap.size wx w1) (l0 : a0.block < w0.heap.size) (l1 : a1.block < w0.heap.size) : w1.cell? a0 = some u0 ∧ w1.cell? a1 = some u1 ∧ Below w0.heap.size w0 w1 := by
  obtain ⟨h0, h1, q⟩ := h
  exact ⟨(hb.cell (Nat.lt_of_lt_of_le l0 q.size)).trans h0, (hb.cell (Nat.lt_of_lt_of_le l1 q.size)).trans h1, q.trans (hb.mono q.size)⟩
theorem held3 {w0 wx w1 : World} {a0 a1 a2 : Addr} {u0 u1 u2 : Value} (h : wx.cell? a0 = some u0 ∧ wx.cell? a1 = some u1 ∧ wx.cell? a2 = some u2 ∧ Below w0.heap.size w0 wx) (hb : Below wx.heap.size wx w1) (l0 : a0.block < w0.heap.size) (l1 : a1.block < w0.heap.size) (l2 : a2.block < w0.heap.size) : w1.cell? a0 = some u0 ∧ w1.cell? a1 = some u1 ∧ w1.cell? a2 = some u2 ∧ Below w0.heap.size w0 w1 := by
  obtain ⟨h0, h1, h2, q⟩ := h
  exact ⟨(hb.cell (Nat.lt_of_lt_of_le l0 q.size)).trans h0, (hb.cell (Nat.lt_of_lt_of_le l1 q.size)).trans h1, (hb.cell (Nat.lt_of_lt_of_le l2 q.size)).trans h2, q.trans (hb.mono q.size)⟩
theorem held4 {w0 wx w1 : World} {a0 a1 a2 a3 : Addr} {u0 u1 u2 u3 : Value} (h : wx.cell? a0 = some u0 ∧ wx.cell? a1 = some u1 ∧ wx.cell? a2 = some u2 ∧ wx.cell? a3 = some u3 ∧ Below w0.heap.size w0 wx) (hb : Below wx.heap.size wx w1) (l0 : a0.block < w0.heap.size) (l1 : a1.block < w0.heap.size) (l2 : a2.block < w0.heap.size) (l3 : a3.block < w0.heap.size) : w1.cell? a0 = some u0 ∧ w1.cell? a1 = some u1 ∧ w1.cell? a2 = some u2 ∧ w1.cell? a3 = some u3 ∧ Below w0.heap.size w0 w1 := by
  obtain ⟨h0, h1, h2, h3, q⟩ := h
  exact ⟨(hb.cell (Nat.lt_of_lt_of_le l0 q.size)).trans h0, (hb.cell (Nat.lt_of_lt_of_le l1 q.size)).trans h1, (hb.cell (Nat.lt_of_lt_of_le l2 q.size)).trans h2, (hb.cell (Nat.lt_of_lt_of_le l3 q.size)).trans h3, q.trans (hb.mono q.size)⟩
theorem held5 {w0 wx w1 : World} {a0 a1 a2 a3 a4 : Addr} {u0 u1 u2 u3 u4 : Value} (h : wx.cell? a0 = some u0 ∧ wx.cell? a1 = some u1 ∧ wx.cell? a2 = some u2 ∧ wx.cell? a3 = some u3 ∧ wx.cell? a4 = some u4 ∧ Below w0.heap.size w0 wx) (hb : Below wx.heap.size wx w1) (l0 : a0.block < w0.heap.size) (l1 : a1.block < w0.heap.size) (l2 : a2.block < w0.heap.size) (l3 : a3.block < w0.heap.size) (l4 : a4.block < w0.heap.size) : w1.cell? a0 = some u0 ∧ w1.cell? a1 = some u1 ∧ w1.cell? a2 = some u2 ∧ w1.cell? a3 = some u3 ∧ w1.cell? a4 = some u4 ∧ Below w0.heap.size w0 w1 := by
  obtain ⟨h0, h1, h2, h3, h4, q⟩ := h
  exact ⟨(hb.cell (Nat.lt_of_lt_of_le l0 q.size)).trans h0, (hb.cell (Nat.lt_of_lt_of_le l1 q.size)).trans h1, (hb.cell (Nat.lt_of_lt_of_le l2 q.size)).trans h2, (hb.cell (Nat.lt_of_lt_of_le l3 q.size)).trans h3, (hb.cell (Nat.lt_of_lt_of_le l4 q.size)).trans h4, q.trans (hb.mono q.size)⟩
theorem held6 {w0 wx w1 : World} {a0 a1 a2 a3 a4 a5 : Addr} {u0 u1 u2 u3 u4 u5 : Value} (h : wx.cell? a0 = some u0 ∧ wx.cell? a1 = some u1 ∧ wx.cell? a2 = some u2 ∧ wx.cell? a3 = some u3 ∧ wx.cell? a4 = some u4 ∧ wx.cell? a5 = some u5 ∧ Below w0.heap.size w0 wx) (hb : Below wx.heap.size wx w1) (l0 : a0.block < w0.heap.size) (l1 : a1.block < w0.heap.size) (l2 : a2.block < w0.heap.size) (l3 : a3.block < w0.heap.size) (l4 : a4.block < w0.heap.size) (l5 : a5.block < w0.heap.size) : w1.cell? a0 = some u0 ∧ w1.cell? a1 = some u1 ∧ w1.cell? a2 = some u2 ∧ w1.cell? a3 = some u3 ∧ w1.cell? a4 = some u4 ∧ w1.cell? a5 = some u5 ∧ Below w0.heap.size w0 w1 := by
  obtain ⟨h0, h1, h2, h3, h4, h5, q⟩ := h
  exact ⟨(hb.cell (Nat.lt_of_lt_of_le l0 q.size)).trans h0, (hb.cell (Nat.lt_of_lt_of_le l1 q.size)).trans h1, (hb.cell (Nat.lt_of_lt_of_le l2 q.size)).trans h2, (hb.cell (Nat.lt_of_lt_of_le l3 q.size)).trans h3, (hb.cell (Nat.lt_of_lt_of_le l4 q.size)).trans h4, (hb.cell (Nat.lt_of_lt_of_le l5 q.size)).trans h5, q.trans (hb.mono q.size)⟩
theorem held7 {w0 wx w1 : World} {a0 a1 a2 a3 a4 a5 a6 : Addr} {u0 u1 u2 u3 u4 u5 u6 : Value} (h : wx.cell? a0 = some u0 ∧ wx.cell? a1 = some u1 ∧ wx.cell? a2 = some u2 ∧ wx.cell? a3 = some u3 ∧ wx.cell? a4 = some u4 ∧ wx.cell? a5 = some u5 ∧ wx.cell? a6 = some u6 ∧ Below w0.heap.size w0 wx) (hb : Below wx.heap.size wx w1) (l0 : a0.block < w0.heap.size) (l1 : a1.block < w0.heap.size) (l2 : a2.block < w0.heap.size) (l3 : a3.block < w0.heap.size) (l4 : a4.block < w0.heap.size) (l5 : a5.block < w0.heap.size) (l6 : a6.block < w0.heap.size) : w1.cell? a0 = some u0 ∧ w1.cell? a1 = some u1 ∧ w1.cell? a2 = some u2 ∧ w1.cell? a3 = some u3 ∧ w1.cell? a4 = some u4 ∧ w1.cell? a5 = some u5 ∧ w1.cell? a6 = some u6 ∧ Below w0.heap.size w0 w1 := by
  obtain ⟨h0, h1, h2, h3, h4, h5, h6, q⟩ := h
  exact ⟨(hb.cell (Nat.lt_of_lt_of_le l0 q.size)).trans h0, (hb.cell (Nat.lt_of_lt_of_le l1 q.size)).trans h1, (hb.cell (Nat.lt_of_lt_of_le l2 q.size)).trans h2, (hb.cell (Nat.lt_of_lt_of_le l3 q.size)).trans h3, (hb.cell (Nat.lt_of_lt_of_le l4 q.size)).trans h4, (hb.cell (Nat.lt_of_lt_of_le l5 q.size)).trans h5, (hb.cell (Nat.lt_of_lt_of_le l6 q.size)).trans h6, q.trans (hb.mono q.size)⟩
theorem held8 {w0 wx w1 : World} {a0 a1 a2 a3 a4 a5 a6 a7 : Addr} {u0 u1 u2 u3 u4 u5 u6 u7 : Value} (h : wx.cell? a0 = some u0 ∧ wx.cell? a1 = some u1 ∧ wx.cell? a2 = some u2 ∧ wx.cell? a3 = some u3 ∧ wx.cell? a4 = some u4 ∧ wx.cell? a5 = some u5 ∧ wx.cell? a6 = some u6 ∧ wx.cell? a7 = some u7 ∧ Below w0.heap.size w0 wx) (hb : Below wx.heap.size wx w1) (l0 : a0.block < w0.heap.size) (l1 : a1.block < w0.heap.size) (l2 : a2.block < w0.heap.size) (l3 : a3.block < w0.heap.size) (l4 : a4.block < w0.heap.size) (l5 : a5.block < w0.heap.size) (l6 : a6.block < w0.heap.size) (l7 : a7.block < w0.heap.size) : w1.cell? a0 = some u0 ∧ w1.cell? a1 = some u1 ∧ w1.cell? a2 = some u2 ∧ w1.cell? a3 = some u3 ∧ w1.cell? a4 = some u4 ∧ w1.cell? a5 = some u5 ∧ w1.cell? a6 = some u6 ∧ w1.cell? a7 = some u7 ∧ Below w0.heap.size w0 w1 := by
  obtain ⟨h0, h1, h2, h3, h4, h5, h6, h7, q⟩ := h
  exact ⟨(hb.cell (Nat.lt_of_lt_of_le l0 q.size)).trans h0, (hb.cell (Nat.lt_of_lt_of_le l1 q.size)).trans h1, (hb.cell (Nat.lt_of_lt_of_le l2 q.size)).trans h2, (hb.cell (Nat.lt_of_lt_of_le l3 q.size)).trans h3, (hb.cell (Nat.lt_of_lt_of_le l4 q.size)).trans h4, (hb.cell (Nat.lt_of_lt_of_le l5 q.size)).trans h5, (hb.cell (Nat.lt_of_lt_of_le l6 q.size)).trans h6, (hb.cell (Nat.lt_of_lt_of_le l7 q.size)).trans h7, q.trans (hb.mono q.size)⟩

end Go.Proofs.YtnpaplfdmpjfgaaDoor
