/- Words for memory: what a statement leaves that writes one old block alone; a copy with one element more. No program is named here. append at a step of a region that draws: whatever the source is, nothing too. No program is named here. Rows of a call's own, several at once, no two in one block: what an allocation and an append do to them. No program is named here. -/
import Derived.Deep.AppendLies
import Derived.Test.YtojgdallodmanaaZ244535
namespace Go.Proofs.Ytojgdallodmanaa
open Go.RowKit

/-- Of the blocks that were there only g may be other than it was. -/
structure OnlyAt (W wx : World) (g : Nat) : Prop where
  os : wx.os = W.os
  tape : wx.tape = W.tape
  output : wx.output = W.output
  size : W.heap.size ≤ wx.heap.size
  block : ∀ k, k < W.heap.size → k ≠ g → wx.heap[k]? = W.heap[k]?
section
variable {a W wx : World} {g : Nat}
theorem OnlyAt.of_below (h : Below W.heap.size W wx) (g : Nat) : OnlyAt W wx g := ⟨h.os, h.tape, h.output, h.size, fun k hk _ => h.block k hk⟩
theorem OnlyAt.of_set (h : Below W.heap.size W wx) (g k : Nat) (u : Value) : OnlyAt W (wx.setCell ⟨g, k, none⟩ u) g :=
  ⟨h.os, h.tape, h.output, by simp only [World.size_setCell]; exact h.size, fun i hi hne => (Below.heap_setCell wx ⟨g, k, none⟩ u i hne).trans (h.block i hi)⟩
theorem OnlyAt.drew (h : OnlyAt W wx g) : OnlyAt W wx.drew g := ⟨h.os, h.tape, h.output, h.size, h.block⟩
theorem OnlyAt.set (h : OnlyAt W wx g) (k : Nat) (u : Value) : OnlyAt W (wx.setCell ⟨g, k, none⟩ u) g :=
  ⟨h.os, h.tape, h.output, by simp only [World.size_setCell]; exact h.size, fun i hi hne => (Below.heap_setCell wx ⟨g, k, none⟩ u i hne).trans (h.block i hi hne)⟩
theorem OnlyAt.cell (h : OnlyAt W wx g) {b o : Nat} {v : Value} (hc : W.cell? ⟨b, o, none⟩ = some v) (hne : b ≠ g) : wx.cell? ⟨b, o, none⟩ = some v :=
  (World.cell?_of_block (w := W) (a := ⟨b, o, none⟩) (h.block b (lt_of_cell hc) hne)).trans hc
theorem OnlyAt.frozen (h : OnlyAt W wx g) {b : Nat} (o : Nat) (hlt : b < W.heap.size) (hne : b ≠ g) : wx.frozen? ⟨b, o, none⟩ = W.frozen? ⟨b, o, none⟩ :=
  World.frozen?_of_block (w := W) (a := ⟨b, o, none⟩) (h.block b hlt hne)
theorem OnlyAt.below (h : OnlyAt W wx g) (hb : Below a.heap.size a W) (hg : a.heap.size ≤ g) : Below a.heap.size a wx :=
  ⟨h.os.trans hb.os, h.tape.trans hb.tape, h.output.trans hb.output, Nat.le_trans hb.size h.size, fun k hk => (h.block k (Nat.lt_of_lt_of_le hk hb.size) (by omega)).trans (hb.block k hk)⟩
theorem OnlyAt.rd1 {α : Type} {enc : α → Value} {B : Nat} {A : Option Addr} {xs : List α} (h : OnlyAt W wx g) (hR : Rd1 enc W B A xs) (hg : B ≤ g) : Rd1 enc wx B A xs := by
  intro i x hx
  obtain ⟨b, off, e, hb, hc⟩ := hR i x hx
  exact ⟨b, off, e, hb, h.cell hc (by omega)⟩
theorem OnlyAt.rdN {α : Type} {k : Nat} {enc : α → List Value} {B : Nat} {A : Option Addr} {xs : List α} (h : OnlyAt W wx g) (hR : RdN k enc W B A xs) (hg : B ≤ g) : RdN k enc wx B A xs := by
  intro i x hx
  obtain ⟨b, off, e, hb, hc⟩ := hR i x hx
  exact ⟨b, off, e, hb, fun j u hu => h.cell (hc j u hu) (by omega)⟩
theorem OnlyAt.own {base : Nat} {e : TypeId} {size n : Nat} {v : Value} {xs : List Value} (h : OnlyAt W wx g) (ho : W.ownsRow base e size v n xs) (hg : v.ownBlock ≠ some g) : wx.ownsRow base e size v n xs := by
  obtain ⟨h1, h2⟩ := ho
  refine ⟨h1, h2.imp id ?_⟩
  rintro ⟨g', cap, cur, hv, hb, hh, r⟩
  subst hv
  have hlt : g' < W.heap.size := by
    rcases Nat.lt_or_ge g' W.heap.size with hlt | hge
    · exact hlt
    · rw [Array.getElem?_eq_none hge] at hh; cases hh
  exact ⟨g', cap, cur, rfl, hb, (h.block g' hlt (fun e => hg (by rw [e]; rfl))).trans hh, r⟩
end

theorem belowDq {B : Nat} {a w : World} (h : Below B a w) : Below B a w.drew := ⟨h.os, h.tape, h.output, h.size, h.block⟩
theorem keepSet {w : World} {b o g k : Nat} {v u : Value} (h : w.cell? ⟨b, o, none⟩ = some v) (hne : b ≠ g) : (w.setCell ⟨g, k, none⟩ u).cell? ⟨b, o, none⟩ = some v :=
  (World.cell?_of_block (w := w) (a := ⟨b, o, none⟩) (Below.heap_setCell w ⟨g, k, none⟩ u b hne)).trans h
/-- A guard for an arm: the step stands at this very world. -/
theorem step_at {P : Program} {ops : Array Oper} {o : Oper} {a : Act} {K : Act → World → Prop} {Q : Exit → Act → World → Prop} {E : Prop} (w : World) (h : if Region.wanted o (yielded ops a.tmps) = true then Oper.wp P o a w K Q else E) : if Region.wanted o (yielded ops a.tmps) = true then Oper.wp P o a w K Q else E := h
theorem own_rdP {α : Type} {enc : α → Value} {w : World} {base : Nat} {e : TypeId} {A : Option Addr} {n cap : Nat} {xs : List α} (h : w.ownsRow base e 1 (.slice A n cap) n (xs.map enc)) (hn : xs.length = n) : Rd1 enc w w.heap.size A xs := by
  subst hn
  obtain ⟨A', cap', e1, h2, _⟩ := own_rd1 h
  injection e1 with e1 _ _
  subst e1
  exact h2
/-! A copy with one element more: the empty literal, and the element's own block, in either order. -/
theorem lit0 (W : World) (t : TypeId) (k : Nat) : (W.alloc (.cells #[] t)).ownsRow W.heap.size t k (.slice (some ⟨W.heap.size, 0, none⟩) 0 0) 0 [] := World.ownsRow_lit W #[] 0 (Nat.le_refl _) (Nat.zero_le _) (by simp)
theorem lit0b (W : World) (ob : Obj) (t : TypeId) (k : Nat) : ((W.alloc ob).alloc (.cells #[] t)).ownsRow W.heap.size t k (.slice (some ⟨W.heap.size + 1, 0, none⟩) 0 0) 0 [] := by
  have h := World.ownsRow_lit (base := W.heap.size) (e := t) (size := k) (W.alloc ob) #[] 0 (by simp) (Nat.zero_le _) (by simp)
  simpa using h
theorem add_bk (b : Nat) (j : Nat) : ((⟨b, 0, none⟩ : Addr).add j) = ⟨b, j, none⟩ := by
  unfold Addr.add
  rcases Nat.eq_zero_or_pos j with rfl | hj
  · rfl
  · rw [if_neg (by omega)]; simp
theorem add_off (b o : Nat) (j : Nat) : ((⟨b, o, none⟩ : Addr).add j) = ⟨b, o + j, none⟩ := by
  unfold Addr.add
  rcases Nat.eq_zero_or_pos j with rfl | hj
  · rfl
  · rw [if_neg (by omega)]
theorem news_b (W : World) (E0 : Obj) (l : List Value) (t : TypeId) : ∀ j u, l[j]? = some u → ((W.alloc E0).alloc (.cells l.toArray t)).cell? ((⟨W.heap.size + 1, 0, none⟩ : Addr).add j) = some u := by
  intro j u hu
  have h := cells_new (W.alloc E0) l t j u hu
  simpa using h
theorem news_c (W : World) (E0 : Obj) (l : List Value) (t : TypeId) : ∀ j u, l[j]? = some u → ((W.alloc (.cells l.toArray t)).alloc E0).cell? ((⟨W.heap.size, 0, none⟩ : Addr).add j) = some u := by
  intro j u hu
  have h := cells_new W l t j u hu
  rw [add_bk] at h ⊢
  exact keepA h _
theorem news_far {X w5 : World} {row : Option Nat} {blk : Nat} {l : List Value} (hX : ∀ j u, l[j]? = some u → X.cell? ((⟨blk, 0, none⟩ : Addr).add j) = some u) (hg : X.grownBy w5 row) (hlt : blk < X.heap.size) (hne : some blk ≠ row) : ∀ j u, l[j]? = some u → w5.cell? ((⟨blk, 0, none⟩ : Addr).add j) = some u := by
  intro j u hu
  have h := hX j u hu
  rw [add_bk] at h ⊢
  exact (hg.cell_far ⟨blk, j, none⟩ hlt hne).trans h
theorem news_far_sl {X w5 : World} {b n c blk : Nat} {l : List Value} (hg : X.grownBy w5 (Value.slice (some ⟨b, 0, none⟩) n c).ownBlock) (hX : ∀ j u, l[j]? = some u → X.cell? ((⟨blk, 0, none⟩ : Addr).add j) = some u) (hlt : blk < X.heap.size) (hne : blk ≠ b) : ∀ j u, l[j]? = some u → w5.cell? ((⟨blk, 0, none⟩ : Addr).add j) = some u :=
  news_far hX hg hlt (fun e => hne (by injection e))
end Go.Proofs.Ytojgdallodmanaa

namespace Go.Proofs.Ytojgdallodmanaa
open Go.RowKit

/-- What is appended: nothing at all, or the cells at an address. -/
def Srcs (w : World) (size : Nat) (src : Value) (m : Nat) (news : List Value) : Prop :=
  (src = .slice none 0 0 ∧ m = 0 ∧ news = []) ∨ ∃ (ad : Addr) (c : Nat), src = .slice (some ad) m c ∧ news.length = m * size ∧ (∀ j u, news[j]? = some u → w.cell? (ad.add j) = some u) ∧ ∀ u ∈ news, u.oneCell' = true
theorem grownBy_refl (w : World) (r : Option Nat) : w.grownBy w r := ⟨rfl, rfl, rfl, Nat.le_refl _, fun _ _ _ => rfl⟩

theorem step_append_any {P : Program} {w : World} {ops : Array Oper} {o : Oper} {a : Act} {K : Act → World → Prop} {Q : Exit → Act → World → Prop} {E : Prop} (hgd : o.guard = none) (s x : Operand) (t : TypeId)
    (ho : o.op = .call { callee := .builtin .append, args := #[s, x], argTypes := #[t, t] })
    (base : Nat) (e : TypeId) (i : TypeInfo) (z : Value) (size bytes : Nat) (ht : P.underlying t = some (.slice e)) (hi : P.info? e = some i) (hz : i.zero = some z)
    (hsize : i.size = size) (hby : i.bytes = bytes) (hzs : z.cells.size = size) (hsz : 0 < size)
    (v : Value) (n : Nat) (xs : List Value) (hs : a.eval s = v) (hown : w.ownsRow base e size v n xs)
    (src : Value) (m : Nat) (news : List Value) (hx : a.eval x = src) (hsrc : Srcs w size src m news)
    (h63 : n + m ≤ maxLen) (hbytes : (n + m) * bytes ≤ 140737488355328) (hbase : base ≤ w.heap.size)
    (h : ∀ v' w', w'.ownsRow base e size v' (n + m) (xs ++ news) → w.grownBy w' v.ownBlock → K (a.put o.dst v') w') :
    if Region.wanted o (yielded ops a.tmps) = true then Oper.wp P o a w K Q else E := by
  have hw : Region.wanted o (yielded ops a.tmps) = true := by simp [Region.wanted, hgd]
  rw [if_pos hw]
  rcases hsrc with ⟨rfl, rfl, rfl⟩ | ⟨ad, c, rfl, hl, hnews, h1⟩
  · have hr := run_append_owned_none (P := P) w base t o.type e i size ht hi v n xs hown
    unfold Oper.wp execOp
    simp only [ho, resolve, invoke, builtin, Sem.run_bind, Sem.run_pure, Result.andThen_ok, List.map_toArray, List.map_cons, List.map_nil, hs, hx, hr]
    exact h v w (by simpa using hown) (grownBy_refl _ _)
  · obtain ⟨v', w', hr, h2, h3, _, _⟩ := run_append_own_at (P := P) w base t o.type e i z size bytes ht hi hz hsize hby hzs hsz v n xs hown ad m c news hl hnews h1 h63 hbytes hbase
    unfold Oper.wp execOp
    simp only [ho, resolve, invoke, builtin, Sem.run_bind, Sem.run_pure, Result.andThen_ok, List.map_toArray, List.map_cons, List.map_nil, hs, hx, hr]
    exact h v' w' h2 h3
end Go.Proofs.Ytojgdallodmanaa

namespace Go.Proofs.Ytojgdallodmanaa
open Go.RowKit

theorem keepCa {W w1 : World} (hb : Below W.heap.size W w1) {a : Addr} {v : Value} (h : W.cell? a = some v) : w1.cell? a = some v :=
  (World.cell?_of_block (w := W) (a := a) (hb.block a.block (World.block_lt_of_cell? W a h))).trans h

structure RowO where
  v : Value
  e : TypeId
  size : Nat
  n : Nat
  xs : List Value

/-- Places of rows: each that is there owns its block, and no two share one. -/
def Live (w : World) (base : Nat) (L : List (Option RowO)) : Prop :=
  base ≤ w.heap.size ∧ ∀ (i : Nat) (o : RowO), L[i]? = some (some o) → w.ownsRow base o.e o.size o.v o.n o.xs ∧ ∃ g, o.v.ownBlock = some g ∧ ∀ (j : Nat) (o' : RowO), i ≠ j → L[j]? = some (some o') → o'.v.ownBlock ≠ some g
section
variable {w w' : World} {base : Nat} {L : List (Option RowO)}
theorem live_nil (h : base ≤ w.heap.size) : Live w base [none, none, none, none] := ⟨h, fun i o hi => by
  match i with
  | 0 | 1 | 2 | 3 => cases hi
  | i + 4 => simp at hi⟩
theorem live_drew (h : Live w base L) : Live w.drew base L := h
theorem live_drop (h : Live w base L) (k : Nat) : Live w base (L.set k none) := ⟨h.1, fun i o hi => by
  by_cases hk : k = i
  · subst hk
    rw [List.getElem?_set] at hi
    simp at hi
  · rw [List.getElem?_set_ne hk] at hi
    obtain ⟨h1, g, h2, h3⟩ := h.2 i o hi
    refine ⟨h1, g, h2, fun j o' hij hj => ?_⟩
    by_cases hk' : k = j
    · subst hk'
      rw [List.getElem?_set] at hj
      simp at hj
    · rw [List.getElem?_set_ne hk'] at hj
      exact h3 j o' hij hj⟩
theorem live_own (h : Live w base L) {i : Nat} {o : RowO} (hi : L[i]? = some (some o)) : w.ownsRow base o.e o.size o.v o.n o.xs := (h.2 i o hi).1
/-- A row is put in the place k: its block is none of the others'. -/
theorem live_set (k : Nat) (o : RowO) (hb : base ≤ w'.heap.size) (ho : w'.ownsRow base o.e o.size o.v o.n o.xs) {g : Nat} (hg : o.v.ownBlock = some g)
    (h : ∀ (i : Nat) (o' : RowO), i ≠ k → L[i]? = some (some o') → w'.ownsRow base o'.e o'.size o'.v o'.n o'.xs ∧ o'.v.ownBlock ≠ some g ∧ ∃ g', o'.v.ownBlock = some g' ∧ ∀ (j : Nat) (o'' : RowO), j ≠ k → i ≠ j → L[j]? = some (some o'') → o''.v.ownBlock ≠ some g') : Live w' base (L.set k (some o)) := ⟨hb, fun i o' hi => by
  by_cases hk : k = i
  · subst hk
    rw [List.getElem?_set] at hi
    simp only [if_true] at hi
    split at hi
    · simp only [Option.some.injEq] at hi
      subst hi
      refine ⟨ho, g, hg, fun j o' hij hj => ?_⟩
      rw [List.getElem?_set_ne hij] at hj
      exact (h j o' (fun e => hij e.symm) hj).2.1
    · cases hi
  · rw [List.getElem?_set_ne hk] at hi
    obtain ⟨h1, h2, g', h3, h4⟩ := h i o' (fun e => hk e.symm) hi
    refine ⟨h1, g', h3, fun j o'' hij hj => ?_⟩
    by_cases hk' : k = j
    · subst hk'
      rw [List.getElem?_set] at hj
      simp only [if_true] at hj
      split at hj
      · simp only [Option.some.injEq] at hj
        subst hj
        rw [hg]
        intro e
        exact h2 (h3.trans e.symm)
      · cases hj
    · rw [List.getElem?_set_ne hk'] at hj
      exact h4 j o'' (fun e => hk' e.symm) hij hj⟩
theorem live_lit (h : Live w base L) (k : Nat) (cs : Array Value) (e : TypeId) (size n : Nat) (hm : n ≤ maxLen) (hs : cs.size = n * size) : Live (w.alloc (.cells cs e)) base (L.set k (some ⟨.slice (some ⟨w.heap.size, 0, none⟩) n n, e, size, n, cs.toList⟩)) := by
  refine live_set k _ (by simp; have := h.1; omega) (World.ownsRow_lit w cs n h.1 hm hs) (g := w.heap.size) rfl fun i o' _ hi => ?_
  obtain ⟨h1, g', h2, h3⟩ := h.2 i o' hi
  refine ⟨h1.alloc _, fun e => ?_, g', h2, fun j o'' _ hij hj => h3 j o'' hij hj⟩
  have := (h1.lt _ e).2
  omega
theorem live_grow (h : Live w base L) {k : Nat} {o : RowO} (hk : L[k]? = some (some o)) {v' : Value} {n' : Nat} {xs' : List Value} (hg : w.grownBy w' o.v.ownBlock) (ho : w'.ownsRow base o.e o.size v' n' xs') (hv : v'.ownBlock = o.v.ownBlock ∨ v'.ownBlock = some w.heap.size) : Live w' base (L.set k (some ⟨v', o.e, o.size, n', xs'⟩)) := by
  obtain ⟨h1, g, h2, h3⟩ := h.2 k o hk
  obtain ⟨g', hg'⟩ : ∃ g', v'.ownBlock = some g' := by
    rcases hv with hv | hv
    · exact ⟨g, hv.trans h2⟩
    · exact ⟨_, hv⟩
  refine live_set k _ (Nat.le_trans h.1 hg.size) ho hg' fun i o' hik hi => ?_
  obtain ⟨k1, gi, k2, k3⟩ := h.2 i o' hi
  have hne : o'.v.ownBlock ≠ o.v.ownBlock := by rw [h2]; exact h3 i o' (fun e => hik e.symm) hi
  refine ⟨k1.kept hg (.inr hne), fun e => ?_, gi, k2, fun j o'' _ hij hj => k3 j o'' hij hj⟩
  rcases hv with hv | hv
  · rw [hg'] at hv
    exact hne (e.trans hv)
  · rw [hg'] at hv
    injection hv with hv
    subst hv
    have := (k1.lt _ e).2
    omega
theorem live_src (h : Live w base L) {k : Nat} {o : RowO} (hk : L[k]? = some (some o)) (h1 : ∀ u ∈ o.xs, u.oneCell' = true) : Srcs w o.size o.v o.n o.xs := by
  obtain ⟨ho, g, hg, _⟩ := h.2 k o hk
  have hc := ho.cells hg
  obtain ⟨hl, hr⟩ := ho
  rcases hr with ⟨hv, _⟩ | ⟨g', cap, cur, hv, _, _, _, _, _, _⟩
  · rw [hv] at hg; cases hg
  · refine .inr ⟨⟨g', 0, none⟩, cap, hv, hl, fun j u hu => ?_, h1⟩
    rw [hv] at hg
    injection hg with hg
    subst hg
    exact hc j u hu
theorem live_rd {α : Type} {enc : α → Value} {k : Nat} {v : Value} {e : TypeId} {n : Nat} {xs : List α} (h : Live w base L) (hk : L[k]? = some (some ⟨v, e, 1, n, xs.map enc⟩)) (hn : xs.length = n) : ∃ A cap, v = .slice A n cap ∧ Rd1 enc w w.heap.size A xs ∧ n ≤ cap ∧ cap ≤ maxLen := by
  subst hn
  have ho : w.ownsRow base e 1 v xs.length (xs.map enc) := live_own h hk
  obtain ⟨A, cap, hv, hR, _⟩ := own_rd1 ho
  refine ⟨A, cap, hv, hR, ?_⟩
  rcases ho.2 with ⟨hv', hn⟩ | ⟨g', cap', cur, hv', _, _, h1, h2, _, _⟩
  · rw [hv] at hv'
    injection hv' with _ _ hc
    subst hc
    rw [hn]
    exact ⟨Nat.zero_le _, Nat.zero_le _⟩
  · rw [hv] at hv'
    injection hv' with _ _ hc
    subst hc
    exact ⟨h1, h2⟩
end

/-- The world as it stands within a region: nothing old has changed; rows of its own. -/
def LiveB (V w : World) (L : List (Option RowO)) : Prop := Below V.heap.size V w ∧ Live w V.heap.size L
section
variable {V w w' : World} {L : List (Option RowO)}
theorem liveB_start : LiveB V V.drew [none, none, none, none] := ⟨belowDq (belowR V), live_drew (live_nil (Nat.le_refl _))⟩
theorem liveB_lit (h : LiveB V w L) (k : Nat) (cs : Array Value) (e : TypeId) (size n : Nat) (hm : n ≤ maxLen) (hs : cs.size = n * size) : LiveB V (w.alloc (.cells cs e)) (L.set k (some ⟨.slice (some ⟨w.heap.size, 0, none⟩) n n, e, size, n, cs.toList⟩)) := ⟨belowA h.1 _, live_lit h.2 k cs e size n hm hs⟩
theorem liveB_drop (h : LiveB V w L) (k : Nat) : LiveB V w (L.set k none) := ⟨h.1, live_drop h.2 k⟩
theorem liveB_grow (h : LiveB V w L) {k : Nat} {o : RowO} (hk : L[k]? = some (some o)) {v' : Value} {n' : Nat} {xs' : List Value} (hg : w.grownBy w' o.v.ownBlock) (ho : w'.ownsRow V.heap.size o.e o.size v' n' xs') (hv : v'.ownBlock = o.v.ownBlock ∨ v'.ownBlock = some w.heap.size) : LiveB V w' (L.set k (some ⟨v', o.e, o.size, n', xs'⟩)) :=
  ⟨grownB (live_own h.2 hk) hg (Nat.le_refl _) h.1, live_grow h.2 hk hg ho hv⟩
theorem srcs_keep (h : LiveB V w L) {size : Nat} {src : Value} {m : Nat} {news : List Value} (hs : Srcs V size src m news) : Srcs w size src m news := by
  rcases hs with h' | ⟨ad, c, h1, h2, h3, h4⟩
  · exact .inl h'
  · exact .inr ⟨ad, c, h1, h2, fun j u hu => keepCa h.1 (h3 j u hu), h4⟩
end

theorem step_append_live {P : Program} {V w : World} {L : List (Option RowO)} {ops : Array Oper} {o : Oper} {a : Act} {K : Act → World → Prop} {Q : Exit → Act → World → Prop} {E : Prop} (hgd : o.guard = none) (s x : Operand) (t : TypeId)
    (ho : o.op = .call { callee := .builtin .append, args := #[s, x], argTypes := #[t, t] })
    (hL : LiveB V w L) (k : Nat) (r : RowO) (hk : L[k]? = some (some r))
    (i : TypeInfo) (z : Value) (bytes : Nat) (ht : P.underlying t = some (.slice r.e)) (hi : P.info? r.e = some i) (hz : i.zero = some z)
    (hsize : i.size = r.size) (hby : i.bytes = bytes) (hzs : z.cells.size = r.size) (hsz : 0 < r.size)
    (hs : a.eval s = r.v)
    (src : Value) (m : Nat) (news : List Value) (hx : a.eval x = src) (hsrc : Srcs w r.size src m news)
    (h63 : r.n + m ≤ maxLen) (hbytes : (r.n + m) * bytes ≤ 140737488355328)
    (h : ∀ v' w', LiveB V w' (L.set k (some ⟨v', r.e, r.size, r.n + m, r.xs ++ news⟩)) → K (a.put o.dst v') w') :
    if Region.wanted o (yielded ops a.tmps) = true then Oper.wp P o a w K Q else E := by
  have hw : Region.wanted o (yielded ops a.tmps) = true := by simp [Region.wanted, hgd]
  rw [if_pos hw]
  have hown := live_own hL.2 hk
  have hbase := hL.2.1
  rcases hsrc with ⟨rfl, rfl, rfl⟩ | ⟨ad, c, rfl, hl, hnews, h1⟩
  · have hr := run_append_owned_none (P := P) w V.heap.size t o.type r.e i r.size ht hi r.v r.n r.xs hown
    unfold Oper.wp execOp
    simp only [ho, resolve, invoke, builtin, Sem.run_bind, Sem.run_pure, Result.andThen_ok, List.map_toArray, List.map_cons, List.map_nil, hs, hx, hr]
    refine h r.v w (liveB_grow hL hk (grownBy_refl _ _) (by simpa using hown) (.inl rfl))
  · obtain ⟨v', w', hr, h2, h3, _, h5⟩ := run_append_own_at (P := P) w V.heap.size t o.type r.e i z r.size bytes ht hi hz hsize hby hzs hsz r.v r.n r.xs hown ad m c news hl hnews h1 h63 hbytes hbase
    unfold Oper.wp execOp
    simp only [ho, resolve, invoke, builtin, Sem.run_bind, Sem.run_pure, Result.andThen_ok, List.map_toArray, List.map_cons, List.map_nil, hs, hx, hr]
    exact h v' w' (liveB_grow hL hk h3 h2 h5)
end Go.Proofs.Ytojgdallodmanaa
