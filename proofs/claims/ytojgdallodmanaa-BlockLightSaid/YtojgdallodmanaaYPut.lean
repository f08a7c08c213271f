/- Words for memory: what a statement leaves that writes one old block alone; a copy with one element more. No program is named here. -/
import Derived.Deep.AppendLies
import Derived.Test.YtojgdallodmanaaZ244535
namespace Go.Proofs.Ytojgdallodmanaa
open Go.RowKit

/-- Of the blocks that were there only g may be other than it was. -/
structure OnlyAt (W wx : World) (g : Nat) : Prop where
  os : wx.os = W.os
  tape : wx.tape = W.tape
  output : wx.output = W.output
  size : W.heap.size ≤ wx.heap.size
  block : ∀ k, k < W.heap.size → k ≠ g → wx.heap[k]? = W.heap[k]?
section
variable {a W wx : World} {g : Nat}
theorem OnlyAt.of_below (h : Below W.heap.size W wx) (g : Nat) : OnlyAt W wx g := ⟨h.os, h.tape, h.output, h.size, fun k hk _ => h.block k hk⟩
theorem OnlyAt.of_set (h : Below W.heap.size W wx) (g k : Nat) (u : Value) : OnlyAt W (wx.setCell ⟨g, k, none⟩ u) g :=
  ⟨h.os, h.tape, h.output, by simp only [World.size_setCell]; exact h.size, fun i hi hne => (Below.heap_setCell wx ⟨g, k, none⟩ u i hne).trans (h.block i hi)⟩
theorem OnlyAt.drew (h : OnlyAt W wx g) : OnlyAt W wx.drew g := ⟨h.os, h.tape, h.output, h.size, h.block⟩
theorem OnlyAt.set (h : OnlyAt W wx g) (k : Nat) (u : Value) : OnlyAt W (wx.setCell ⟨g, k, none⟩ u) g :=
  ⟨h.os, h.tape, h.output, by simp only [World.size_setCell]; exact h.size, fun i hi hne => (Below.heap_setCell wx ⟨g, k, none⟩ u i hne).trans (h.block i hi hne)⟩
theorem OnlyAt.cell (h : OnlyAt W wx g) {b o : Nat} {v : Value} (hc : W.cell? ⟨b, o, none⟩ = some v) (hne : b ≠ g) : wx.cell? ⟨b, o, none⟩ = some v :=
  (World.cell?_of_block (w := W) (a := ⟨b, o, none⟩) (h.block b (lt_of_cell hc) hne)).trans hc
theorem OnlyAt.frozen (h : OnlyAt W wx g) {b : Nat} (o : Nat) (hlt : b < W.heap.size) (hne : b ≠ g) : wx.frozen? ⟨b, o, none⟩ = W.frozen? ⟨b, o, none⟩ :=
  World.frozen?_of_block (w := W) (a := ⟨b, o, none⟩) (h.block b hlt hne)
theorem OnlyAt.below (h : OnlyAt W wx g) (hb : Below a.heap.size a W) (hg : a.heap.size ≤ g) : Below a.heap.size a wx :=
  ⟨h.os.trans hb.os, h.tape.trans hb.tape, h.output.trans hb.output, Nat.le_trans hb.size h.size, fun k hk => (h.block k (Nat.lt_of_lt_of_le hk hb.size) (by omega)).trans (hb.block k hk)⟩
theorem OnlyAt.rd1 {α : Type} {enc : α → Value} {B : Nat} {A : Option Addr} {xs : List α} (h : OnlyAt W wx g) (hR : Rd1 enc W B A xs) (hg : B ≤ g) : Rd1 enc wx B A xs := by
  intro i x hx
  obtain ⟨b, off, e, hb, hc⟩ := hR i x hx
  exact ⟨b, off, e, hb, h.cell hc (by omega)⟩
theorem OnlyAt.rdN {α : Type} {k : Nat} {enc : α → List Value} {B : Nat} {A : Option Addr} {xs : List α} (h : OnlyAt W wx g) (hR : RdN k enc W B A xs) (hg : B ≤ g) : RdN k enc wx B A xs := by
  intro i x hx
  obtain ⟨b, off, e, hb, hc⟩ := hR i x hx
  exact ⟨b, off, e, hb, fun j u hu => h.cell (hc j u hu) (by omega)⟩
theorem OnlyAt.own {base : Nat} {e : TypeId} {size n : Nat} {v : Value} {xs : List Value} (h : OnlyAt W wx g) (ho : W.ownsRow base e size v n xs) (hg : v.ownBlock ≠ some g) : wx.ownsRow base e size v n xs := by
  obtain ⟨h1, h2⟩ := ho
  refine ⟨h1, h2.imp id ?_⟩
  rintro ⟨g', cap, cur, hv, hb, hh, r⟩
  subst hv
  have hlt : g' < W.heap.size := by
    rcases Nat.lt_or_ge g' W.heap.size with hlt | hge
    · exact hlt
    · rw [Array.getElem?_eq_none hge] at hh; cases hh
  exact ⟨g', cap, cur, rfl, hb, (h.block g' hlt (fun e => hg (by rw [e]; rfl))).trans hh, r⟩
end

theorem belowDq {B : Nat} {a w : World} (h : Below B a w) : Below B a w.drew := ⟨h.os, h.tape, h.output, h.size, h.block⟩
theorem keepSet {w : World} {b o g k : Nat} {v u : Value} (h : w.cell? ⟨b, o, none⟩ = some v) (hne : b ≠ g) : (w.setCell ⟨g, k, none⟩ u).cell? ⟨b, o, none⟩ = some v :=
  (World.cell?_of_block (w := w) (a := ⟨b, o, none⟩) (Below.heap_setCell w ⟨g, k, none⟩ u b hne)).trans h
/-- A guard for an arm: the step stands at this very world. -/
theorem step_at {P : Program} {ops : Array Oper} {o : Oper} {a : Act} {K : Act → World → Prop} {Q : Exit → Act → World → Prop} {E : Prop} (w : World) (h : if Region.wanted o (yielded ops a.tmps) = true then Oper.wp P o a w K Q else E) : if Region.wanted o (yielded ops a.tmps) = true then Oper.wp P o a w K Q else E := h
theorem own_rdP {α : Type} {enc : α → Value} {w : World} {base : Nat} {e : TypeId} {A : Option Addr} {n cap : Nat} {xs : List α} (h : w.ownsRow base e 1 (.slice A n cap) n (xs.map enc)) (hn : xs.length = n) : Rd1 enc w w.heap.size A xs := by
  subst hn
  obtain ⟨A', cap', e1, h2, _⟩ := own_rd1 h
  injection e1 with e1 _ _
  subst e1
  exact h2
/-! A copy with one element more: the empty literal, and the element's own block, in either order. -/
theorem lit0 (W : World) (t : TypeId) (k : Nat) : (W.alloc (.cells #[] t)).ownsRow W.heap.size t k (.slice (some ⟨W.heap.size, 0, none⟩) 0 0) 0 [] := World.ownsRow_lit W #[] 0 (Nat.le_refl _) (Nat.zero_le _) (by simp)
theorem lit0b (W : World) (ob : Obj) (t : TypeId) (k : Nat) : ((W.alloc ob).alloc (.cells #[] t)).ownsRow W.heap.size t k (.slice (some ⟨W.heap.size + 1, 0, none⟩) 0 0) 0 [] := by
  have h := World.ownsRow_lit (base := W.heap.size) (e := t) (size := k) (W.alloc ob) #[] 0 (by simp) (Nat.zero_le _) (by simp)
  simpa using h
theorem add_bk (b : Nat) (j : Nat) : ((⟨b, 0, none⟩ : Addr).add j) = ⟨b, j, none⟩ := by
  unfold Addr.add
  rcases Nat.eq_zero_or_pos j with rfl | hj
  · rfl
  · rw [if_neg (by omega)]; simp
theorem add_off (b o : Nat) (j : Nat) : ((⟨b, o, none⟩ : Addr).add j) = ⟨b, o + j, none⟩ := by
  unfold Addr.add
  rcases Nat.eq_zero_or_pos j with rfl | hj
  · rfl
  · rw [if_neg (by omega)]
theorem news_b (W : World) (E0 : Obj) (l : List Value) (t : TypeId) : ∀ j u, l[j]? = some u → ((W.alloc E0).alloc (.cells l.toArray t)).cell? ((⟨W.heap.size + 1, 0, none⟩ : Addr).add j) = some u := by
  intro j u hu
  have h := cells_new (W.alloc E0) l t j u hu
  simpa using h
theorem news_c (W : World) (E0 : Obj) (l : List Value) (t : TypeId) : ∀ j u, l[j]? = some u → ((W.alloc (.cells l.toArray t)).alloc E0).cell? ((⟨W.heap.size, 0, none⟩ : Addr).add j) = some u := by
  intro j u hu
  have h := cells_new W l t j u hu
  rw [add_bk] at h ⊢
  exact keepA h _
theorem news_far {X w5 : World} {row : Option Nat} {blk : Nat} {l : List Value} (hX : ∀ j u, l[j]? = some u → X.cell? ((⟨blk, 0, none⟩ : Addr).add j) = some u) (hg : X.grownBy w5 row) (hlt : blk < X.heap.size) (hne : some blk ≠ row) : ∀ j u, l[j]? = some u → w5.cell? ((⟨blk, 0, none⟩ : Addr).add j) = some u := by
  intro j u hu
  have h := hX j u hu
  rw [add_bk] at h ⊢
  exact (hg.cell_far ⟨blk, j, none⟩ hlt hne).trans h
theorem news_far_sl {X w5 : World} {b n c blk : Nat} {l : List Value} (hg : X.grownBy w5 (Value.slice (some ⟨b, 0, none⟩) n c).ownBlock) (hX : ∀ j u, l[j]? = some u → X.cell? ((⟨blk, 0, none⟩ : Addr).add j) = some u) (hlt : blk < X.heap.size) (hne : blk ≠ b) : ∀ j u, l[j]? = some u → w5.cell? ((⟨blk, 0, none⟩ : Addr).add j) = some u :=
  news_far hX hg hlt (fun e => hne (by injection e))
end Go.Proofs.Ytojgdallodmanaa
