/- tree: its nodes as they are sorted, and what is given to them. tree: what is first behind a node; how the tree reads. tree F105. block.open: the plain words. -/
import Derived.OneCell
import Derived.Test.YtojgdallodmanaaZ0f1ffd
import Derived.Test.YtojgdallodmanaaYB16
import Derived.Test.YtojgdallodmanaaYSrt
namespace Go.Proofs.Ytojgdallodmanaa
open Go.RowKit Go.Sort

def ptrAt (bs : List Nat) (j : Nat) : Value := ptr (bs[j]?.getD 0)
def ndOf (x : Wgh) : Nd := ⟨x.lo, x.hi, x.set.toNat, x.set.toNat, []⟩

/-- The nodes in their order, what is in them so far: no two things in one block. -/
structure TreeAt (base : Nat) (w : World) (v : Value) (N : List Nd) (bs : List Nat) (ks : Nat → Value) : Prop where
  row : w.ownsRow base 102 1 v bs.length (bs.map ptr)
  len : N.length = bs.length
  c0 : ∀ (i b : Nat) (nd : Nd), bs[i]? = some b → N[i]? = some nd → w.cell? ⟨b, 0, none⟩ = some (iv nd.lo)
  c1 : ∀ (i b : Nat) (nd : Nd), bs[i]? = some b → N[i]? = some nd → w.cell? ⟨b, 1, none⟩ = some (iv nd.hi)
  c2 : ∀ (i b : Nat) (nd : Nd), bs[i]? = some b → N[i]? = some nd → w.cell? ⟨b, 2, none⟩ = some (iv (nd.set : Int))
  c3 : ∀ (i b : Nat) (nd : Nd), bs[i]? = some b → N[i]? = some nd → w.cell? ⟨b, 3, none⟩ = some (iv (nd.own : Int))
  c4 : ∀ (i b : Nat) (nd : Nd), bs[i]? = some b → N[i]? = some nd → w.cell? ⟨b, 4, none⟩ = some (ks i)
  fz : ∀ b ∈ bs, ∀ o, w.frozen? ⟨b, o, none⟩ = false
  ap : ∀ b ∈ bs, base ≤ b ∧ b < w.heap.size ∧ v.ownBlock ≠ some b
  kid : ∀ (i : Nat) (nd : Nd), N[i]? = some nd → w.ownsRow base 102 1 (ks i) nd.kids.length (nd.kids.map (ptrAt bs))
  ka : ∀ i, i < bs.length → ∀ g, (ks i).ownBlock = some g → v.ownBlock ≠ some g ∧ (∀ b ∈ bs, b ≠ g) ∧ ∀ j, j < bs.length → j ≠ i → (ks j).ownBlock ≠ some g
  nodup : bs.Nodup

theorem ownKeep {w w' : World} {base : Nat} {e : TypeId} {size : Nat} {v : Value} {n : Nat} {xs : List Value} (h : w.ownsRow base e size v n xs) (hk : ∀ k, v.ownBlock = some k → w'.heap[k]? = w.heap[k]?) : w'.ownsRow base e size v n xs := by
  obtain ⟨h1, h2⟩ := h
  refine ⟨h1, ?_⟩
  rcases h2 with h2 | ⟨g, cap, cur, hv, hg, hh, r⟩
  · exact Or.inl h2
  · subst hv
    exact Or.inr ⟨g, cap, cur, rfl, hg, by rw [hk g rfl]; exact hh, r⟩

/-- A world that keeps all blocks keeps the tree. -/
theorem TreeAt.keep {base : Nat} {w w' : World} {v : Value} {N : List Nd} {bs : List Nat} {ks : Nat → Value} (h : TreeAt base w v N bs ks) (hb : Below w.heap.size w w') : TreeAt base w' v N bs ks := by
  have hr : ∀ {v : Value} {n : Nat} {xs : List Value}, w.ownsRow base 102 1 v n xs → w'.ownsRow base 102 1 v n xs := fun hv => ownKeep hv fun k hk => hb.block k (hv.lt k hk).2
  refine ⟨hr h.row, h.len, fun i b nd h1 h2 => keepC hb (h.c0 i b nd h1 h2), fun i b nd h1 h2 => keepC hb (h.c1 i b nd h1 h2), fun i b nd h1 h2 => keepC hb (h.c2 i b nd h1 h2), fun i b nd h1 h2 => keepC hb (h.c3 i b nd h1 h2), fun i b nd h1 h2 => keepC hb (h.c4 i b nd h1 h2), fun b hbm o => ?_, fun b hbm => ?_, fun i nd hi => hr (h.kid i nd hi), h.ka, h.nodup⟩
  · rw [World.frozen?_of_block (a := ⟨b, o, none⟩) (hb.block b (h.ap b hbm).2.1)]; exact h.fz b hbm o
  · obtain ⟨a1, a2, a3⟩ := h.ap b hbm
    exact ⟨a1, Nat.lt_of_lt_of_le a2 hb.size, a3⟩

theorem getElem_inj {l : List Nat} (h : l.Nodup) {i j b : Nat} (hi : l[i]? = some b) (hj : l[j]? = some b) : i = j := by
  obtain ⟨h1, e1⟩ := List.getElem?_eq_some_iff.1 hi
  obtain ⟨h2, e2⟩ := List.getElem?_eq_some_iff.1 hj
  exact (List.getElem_inj h).1 (e1.trans e2.symm)

/-- The node m gets i. -/
theorem TreeAt.give {base : Nat} {w w2 : World} {v : Value} {N : List Nd} {bs : List Nat} {ks : Nat → Value} {kv : Value} (h : TreeAt base w v N bs ks) {i m bm : Nat} {nd : Nd} (hbm : bs[m]? = some bm) (hm : N[m]? = some nd)
    (hg : w.grownBy w2 (ks m).ownBlock) (ho : w2.ownsRow base 102 1 kv (nd.kids.length + 1) (nd.kids.map (ptrAt bs) ++ [ptrAt bs i]))
    (hv : kv.ownBlock = (ks m).ownBlock ∨ ∃ k, kv.ownBlock = some k ∧ w.heap.size ≤ k) :
    TreeAt base ((w2.setCell ⟨bm, 4, none⟩ kv).setCell ⟨bm, 3, none⟩ (iv ((nd.own &&& (255 - setAt N i) : Nat) : Int))) v (giveTo N i m) bs (fun j => if j = m then kv else ks j) := by
  have hml : m < bs.length := (List.getElem?_eq_some_iff.1 hbm).1
  have hmem : bm ∈ bs := List.mem_of_getElem? hbm
  have hz := hg.size
  have hfresh : ∀ k, kv.ownBlock = some k → (∀ b ∈ bs, b ≠ k) ∧ v.ownBlock ≠ some k ∧ ∀ j, j < bs.length → j ≠ m → (ks j).ownBlock ≠ some k := fun k hk => by
    rcases hv with hv | ⟨k', hv, hlt⟩
    · rw [hv] at hk
      obtain ⟨a1, a2, a3⟩ := h.ka m hml k hk
      exact ⟨a2, a1, a3⟩
    · rw [hv] at hk
      injection hk with hk
      subst hk
      refine ⟨fun b hb e => by have := (h.ap b hb).2.1; omega, fun e => by have := (h.row.lt _ e).2; omega, fun j hj _ e => ?_⟩
      have := ((h.kid j (N[j]'(by rw [h.len]; exact hj)) (List.getElem?_eq_getElem _)).lt _ e).2
      omega
  have hcell : ∀ {b o u}, b ∈ bs → w.cell? ⟨b, o, none⟩ = some u → w2.cell? ⟨b, o, none⟩ = some u := fun {b o u} hb hc => hg.cell hc (fun e => (h.ka m hml b e.symm).2.1 b hb rfl)
  have hset : ∀ {W : World} {b o : Nat} {u : Value} (p : Nat) (x : Value), b ≠ bm ∨ o ≠ p → W.cell? ⟨b, o, none⟩ = some u → (W.setCell ⟨bm, p, none⟩ x).cell? ⟨b, o, none⟩ = some u := fun {W b o u} p x hne hc => by
    rw [← hc]
    refine World.cell?_setCell_other _ _ _ _ fun e => ?_
    injection e with e1 e2
    rcases hne with hne | hne
    · exact hne e1.symm
    · exact hne e2.symm
  have hfin : ∀ {b o u}, b ∈ bs → (b ≠ bm ∨ (o ≠ 4 ∧ o ≠ 3)) → w.cell? ⟨b, o, none⟩ = some u → ((w2.setCell ⟨bm, 4, none⟩ kv).setCell ⟨bm, 3, none⟩ (iv ((nd.own &&& (255 - setAt N i) : Nat) : Int))).cell? ⟨b, o, none⟩ = some u := fun {b o u} hb hne hc =>
    hset 3 _ (hne.imp id (·.2)) (hset 4 _ (hne.imp id (·.1)) (hcell hb hc))
  have hrow : ∀ {v0 : Value} {n : Nat} {xs : List Value}, w2.ownsRow base 102 1 v0 n xs → v0.ownBlock ≠ some bm → ((w2.setCell ⟨bm, 4, none⟩ kv).setCell ⟨bm, 3, none⟩ (iv ((nd.own &&& (255 - setAt N i) : Nat) : Int))).ownsRow base 102 1 v0 n xs := fun h0 hne => ownsRow_setCell_other (ownsRow_setCell_other h0 hne _) hne _
  have hold : ∀ {v0 : Value} {n : Nat} {xs : List Value}, w.ownsRow base 102 1 v0 n xs → (∀ k, v0.ownBlock = some k → (ks m).ownBlock ≠ some k) → w2.ownsRow base 102 1 v0 n xs := fun h0 hne => ownKeep h0 fun k hk => hg.block k (h0.lt k hk).2 (fun e => hne k hk e.symm)
  refine ⟨hrow (hold h.row fun k hk e => (h.ka m hml k e).1 hk) (h.ap bm hmem).2.2, (giveTo_len _ _ _).trans h.len, fun j b nd1 h1 h2 => ?_, fun j b nd1 h1 h2 => ?_, fun j b nd1 h1 h2 => ?_, fun j b nd1 h1 h2 => ?_, fun j b nd1 h1 h2 => ?_, fun b hb o => ?_, fun b hb => ?_, fun j nd1 h1 => ?_, fun j hj g hgk => ?_, h.nodup⟩
  · obtain ⟨nd0, e1, e2, _, _, _⟩ := giveTo_get _ _ _ _ _ h2
    rw [e2]; exact hfin (List.mem_of_getElem? h1) (.inr ⟨by decide, by decide⟩) (h.c0 j b nd0 h1 e1)
  · obtain ⟨nd0, e1, _, e2, _, _⟩ := giveTo_get _ _ _ _ _ h2
    rw [e2]; exact hfin (List.mem_of_getElem? h1) (.inr ⟨by decide, by decide⟩) (h.c1 j b nd0 h1 e1)
  · obtain ⟨nd0, e1, _, _, e2, _⟩ := giveTo_get _ _ _ _ _ h2
    rw [e2]; exact hfin (List.mem_of_getElem? h1) (.inr ⟨by decide, by decide⟩) (h.c2 j b nd0 h1 e1)
  · obtain ⟨nd0, e1, _, _, _, e2⟩ := giveTo_get _ _ _ _ _ h2
    rcases e2 with ⟨hj, rfl⟩ | ⟨rfl, e3, _⟩
    · exact hfin (List.mem_of_getElem? h1) (.inl fun e => hj (getElem_inj h.nodup h1 (e ▸ hbm))) (h.c3 j b nd1 h1 e1)
    · rw [hbm] at h1
      injection h1 with h1
      subst h1
      rw [hm] at e1
      injection e1 with e1
      subst e1
      rw [e3]
      exact World.cell?_setCell_same _ _ _ (hset 4 _ (.inr (by decide)) (hcell hmem (h.c3 j bm nd hbm hm)))
  · obtain ⟨nd0, e1, _, _, _, e2⟩ := giveTo_get _ _ _ _ _ h2
    by_cases hj : j = m
    · subst hj
      rw [hbm] at h1
      injection h1 with h1
      subst h1
      rw [if_pos rfl]
      exact hset 3 _ (.inr (by decide)) (World.cell?_setCell_same _ _ _ (hcell hmem (h.c4 j bm nd hbm hm)))
    · rw [if_neg hj]
      exact hfin (List.mem_of_getElem? h1) (.inl fun e => hj (getElem_inj h.nodup h1 (e ▸ hbm))) (h.c4 j b nd0 h1 e1)
  · rw [World.frozen?_setCell, World.frozen?_setCell, World.frozen?_of_block (a := ⟨b, o, none⟩) (hg.block b (h.ap b hb).2.1 (fun e => (h.ka m hml b e.symm).2.1 b hb rfl))]
    exact h.fz b hb o
  · obtain ⟨a1, a2, a3⟩ := h.ap b hb
    exact ⟨a1, by simp; omega, a3⟩
  · obtain ⟨nd0, e1, _, _, _, e2⟩ := giveTo_get _ _ _ _ _ h1
    rcases e2 with ⟨hj, rfl⟩ | ⟨rfl, _, e3⟩
    · rw [if_neg hj]
      have hjl : j < bs.length := by rw [← h.len]; exact (List.getElem?_eq_some_iff.1 e1).1
      exact hrow (hold (h.kid j nd1 e1) fun k hk e => (h.ka m hml k e).2.2 j hjl hj hk) fun e => (h.ka j hjl bm e).2.1 bm hmem rfl
    · rw [if_pos rfl]
      rw [hm] at e1
      injection e1 with e1
      subst e1
      rw [e3, List.map_append, List.length_append]
      exact hrow ho fun e => (hfresh bm e).1 bm hmem rfl
  · by_cases hjm : j = m
    · subst hjm
      rw [if_pos rfl] at hgk
      obtain ⟨f1, f2, f3⟩ := hfresh g hgk
      refine ⟨f2, f1, fun j' hj' hne => ?_⟩
      rw [if_neg hne]
      exact f3 j' hj' hne
    · rw [if_neg hjm] at hgk
      obtain ⟨f1, f2, f3⟩ := h.ka j hj g hgk
      refine ⟨f1, f2, fun j' hj' hne => ?_⟩
      by_cases hj2 : j' = m
      · subst hj2
        rw [if_pos rfl]
        intro e
        exact (hfresh g e).2.2 j hj hjm hgk
      · rw [if_neg hj2]
        exact f3 j' hj' hne

/-- What lies beside what, in another order. -/
theorem perm_zip {α β : Type} {bs bs' : List α} (hp : bs.Perm bs') : ∀ X : List β, X.length = bs.length → ∃ X' : List β, (bs.zip X).Perm (bs'.zip X') ∧ X'.length = bs'.length ∧ X.Perm X' := by
  induction hp with
  | nil => intro X h; exact ⟨X, by simp, h, .refl _⟩
  | cons x _ ih =>
    intro X h
    cases X with
    | nil => simp at h
    | cons y X =>
      obtain ⟨X', h1, h2, h3⟩ := ih X (by simpa using h)
      exact ⟨y :: X', by rw [List.zip_cons_cons, List.zip_cons_cons]; exact h1.cons _, by simp [h2], h3.cons _⟩
  | swap x y l =>
    intro X h
    match X, h with
    | a :: b :: X, h => exact ⟨b :: a :: X, by simp only [List.zip_cons_cons]; exact List.Perm.swap _ _ _, by simpa using h, List.Perm.swap _ _ _⟩
    | [_], h => simp at h
    | [], h => simp at h
  | trans _ _ ih1 ih2 =>
    intro X h
    obtain ⟨X1, a1, a2, a3⟩ := ih1 X h
    obtain ⟨X2, b1, b2, b3⟩ := ih2 X1 a2
    exact ⟨X2, a1.trans b1, b2, a3.trans b3⟩

theorem belowPut {a w : World} (h : Below a.heap.size a w) {g : Nat} (hg : a.heap.size ≤ g) (off : Nat) (d : Array Nat) : Below a.heap.size a (putRow ptr w g off d) :=
  h.trans ⟨rfl, rfl, rfl, by simp [putRow, mapBlock], fun k hk => by
    simp only [putRow, mapBlock, Array.getElem?_modify]
    rw [if_neg (by omega)]⟩
theorem own_put {w : World} {base g cap : Nat} {bs ts : List Nat} (hl : ts.length = bs.length) (h : w.ownsRow base 102 1 (.slice (some ⟨g, 0, none⟩) bs.length cap) bs.length (bs.map ptr)) : (putRow ptr w g 0 ts.toArray).ownsRow base 102 1 (.slice (some ⟨g, 0, none⟩) ts.length cap) ts.length (ts.map ptr) := by
  obtain ⟨_, h2⟩ := h
  rcases h2 with ⟨h0, _⟩ | ⟨g', cap', cur, hv, hg, hh, h3, h4, h5, _⟩
  · cases h0
  · injection hv with hv1 hv2 hv3
    injection hv1 with hv1
    injection hv1 with hv1
    subst hv1 hv3
    refine ⟨by simp, .inr ⟨g, cap, putCells ptr 0 ts.toArray cur, rfl, hg, ?_, by omega, h4, by simp [putCells, h5], ?_⟩⟩
    · simp [putRow, mapBlock, Array.getElem?_modify, hh, onCells]
    · rw [Nat.mul_one]
      apply List.ext_getElem?
      intro j
      by_cases hj : j < ts.length
      · rw [List.getElem?_take_of_lt hj, Array.getElem?_toList]
        simp [putCells, hj, show j < cur.size by omega]
      · rw [List.getElem?_take_eq_none (by omega), List.getElem?_eq_none (by simp; omega)]
theorem own_holdsP {w : World} {base : Nat} {e : TypeId} {g cap : Nat} {xs : List Nat} (h : w.ownsRow base e 1 (.slice (some ⟨g, 0, none⟩) xs.length cap) xs.length (xs.map ptr)) :
    Go.Sort.Holds ptr w g 0 xs.toArray := by
  intro j hj
  have hj' : j < xs.length := by simpa using hj
  refine ⟨?_, by rw [Nat.zero_add]; exact h.frozenAt j⟩
  rw [Nat.zero_add, h.cellAt j (by omega), List.getElem?_map, List.getElem?_eq_getElem hj']
  simp [hj']

/-- How many parts the node at a block has. -/
def keyOf (w : World) (b : Nat) : Int := match w.cell? ⟨b, 2, none⟩ with
  | some (.int _ s) => (onesN s.toNat : Int)
  | _ => 0

/-- Behind the sort. -/
theorem sortedTree {w0 w : World} {X : List Wgh} {bs d' : List Nat} {g cap n : Nat} (h : Laid w0 w X (.slice (some ⟨g, 0, none⟩) bs.length cap) bs) (hX : X.length = bs.length) (hs : ∀ x ∈ X, ∃ s : Nat, s < 256 ∧ x.set = (s : Int)) (hp : bs.Perm d') (ho : d'.Pairwise (KO (keyOf w))) :
    ∃ X' : List Wgh, X.Perm X' ∧ X'.Pairwise (fun a b => onesN a.set.toNat ≤ onesN b.set.toNat) ∧ TreeAt w0.heap.size ((putRow ptr w g 0 d'.toArray).drewN n) (.slice (some ⟨g, 0, none⟩) bs.length cap) (X'.map ndOf) d' (fun _ => .slice none 0 0) := by
  obtain ⟨X', h1, h2, h3⟩ := perm_zip hp X hX
  have hnode : ∀ (i b : Nat) (x : Wgh), d'[i]? = some b → X'[i]? = some x → NodeAt w b x ∧ ∃ s : Nat, s < 256 ∧ x.set = (s : Int) := fun i b x hi hx => by
    have hm : (b, x) ∈ d'.zip X' := by
      have : (d'.zip X')[i]? = some (b, x) := by rw [List.getElem?_zip_eq_some]; exact ⟨hi, hx⟩
      exact List.mem_of_getElem? this
    have hm2 := h1.mem_iff.2 hm
    obtain ⟨j, hj⟩ := List.getElem?_of_mem hm2
    rw [List.getElem?_zip_eq_some] at hj
    exact ⟨h.node j b x hj.1 hj.2, hs x (List.mem_of_getElem? hj.2)⟩
  have hlen : d'.length = bs.length := hp.length_eq.symm
  have hkey : ∀ (i b : Nat) (x : Wgh), d'[i]? = some b → X'[i]? = some x → keyOf w b = (onesN x.set.toNat : Int) := fun i b x hi hx => by
    have := (hnode i b x hi hx).1.c2
    simp [keyOf, this]
  have hmem : ∀ b ∈ d', b ∈ bs := fun b hb => hp.mem_iff.2 hb
  have hrow : (putRow ptr w g 0 d'.toArray).ownsRow w0.heap.size 102 1 (.slice (some ⟨g, 0, none⟩) d'.length cap) d'.length (d'.map ptr) := own_put hlen h.own
  have hc : ∀ {b o : Nat} {u : Value}, b ∈ d' → w.cell? ⟨b, o, none⟩ = some u → ((putRow ptr w g 0 d'.toArray).drewN n).cell? ⟨b, o, none⟩ = some u := fun {b o u} hb hc => by
    have := (h.apart b (hmem b hb)).2.2
    exact (cell?_putRow_other ptr w g 0 d'.toArray ⟨b, o, none⟩ (.inl fun e => this (by subst e; rfl))).trans hc
  have hget : ∀ (i b : Nat) (nd : Nd), d'[i]? = some b → (X'.map ndOf)[i]? = some nd → ∃ x, X'[i]? = some x ∧ nd = ndOf x := fun i b nd _ h2 => by
    rw [List.getElem?_map] at h2
    cases hx : X'[i]? with
    | none => rw [hx] at h2; simp at h2
    | some x => rw [hx] at h2; simp at h2; exact ⟨x, rfl, h2.symm⟩
  refine ⟨X', h3, ?_, ?_⟩
  · rw [List.pairwise_iff_getElem] at ho ⊢
    intro i j hi hj hij
    have k := ho i j (by omega) (by omega) hij
    have k1 := hkey i _ _ (List.getElem?_eq_getElem (by omega)) (List.getElem?_eq_getElem hi)
    have k2 := hkey j _ _ (List.getElem?_eq_getElem (by omega)) (List.getElem?_eq_getElem hj)
    unfold KO at k
    rw [k1, k2] at k
    omega
  · refine ⟨by rw [← hlen]; exact hrow, by simp [h2], fun i b nd h1 h2 => ?_, fun i b nd h1 h2 => ?_, fun i b nd h1 h2 => ?_, fun i b nd h1 h2 => ?_, fun i b nd h1 h2 => ?_, fun b hb o => ?_, fun b hb => ?_, fun i nd hi => ?_, fun i hi g' hg' => by simp [Value.ownBlock] at hg', (hp.nodup_iff).1 h.nodup⟩
    · obtain ⟨x, hx, rfl⟩ := hget i b nd h1 h2
      exact hc (List.mem_of_getElem? h1) (hnode i b x h1 hx).1.c0
    · obtain ⟨x, hx, rfl⟩ := hget i b nd h1 h2
      exact hc (List.mem_of_getElem? h1) (hnode i b x h1 hx).1.c1
    · obtain ⟨x, hx, rfl⟩ := hget i b nd h1 h2
      obtain ⟨hn, s, _, hs2⟩ := hnode i b x h1 hx
      have := hn.c2
      rw [hs2] at this
      simpa [ndOf, hs2] using hc (List.mem_of_getElem? h1) this
    · obtain ⟨x, hx, rfl⟩ := hget i b nd h1 h2
      obtain ⟨hn, s, _, hs2⟩ := hnode i b x h1 hx
      have := hn.c3
      rw [hs2] at this
      simpa [ndOf, hs2] using hc (List.mem_of_getElem? h1) this
    · obtain ⟨x, hx, rfl⟩ := hget i b nd h1 h2
      exact hc (List.mem_of_getElem? h1) (hnode i b x h1 hx).1.c4
    · obtain ⟨i, hi⟩ := List.getElem?_of_mem hb
      have hil := (List.getElem?_eq_some_iff.1 hi).1
      have := (hnode i b _ hi (List.getElem?_eq_getElem (by omega))).1.fz o
      exact (frozen?_putRow ptr w g 0 d'.toArray ⟨b, o, none⟩).trans this
    · obtain ⟨a1, a2, a3⟩ := h.apart b (hmem b hb)
      refine ⟨a1, ?_, a3⟩
      show b < (putRow ptr w g 0 d'.toArray).heap.size
      simpa [putRow, mapBlock] using a2
    · rw [List.getElem?_map] at hi
      cases hx : X'[i]? with
      | none => rw [hx] at hi; simp at hi
      | some x =>
        rw [hx] at hi
        simp at hi
        subst hi
        exact ⟨by simp [ndOf], .inl ⟨rfl, rfl⟩⟩
end Go.Proofs.Ytojgdallodmanaa

namespace Go.Proofs.Ytojgdallodmanaa
open Go.RowKit

theorem findUp_at {N : List Nd} {i m : Nat} (h1 : i < m) (h2 : m < N.length) (h3 : subN (setAt N i) (setAt N m) = true) (h4 : ∀ k, i < k → k < m → subN (setAt N i) (setAt N k) = false) : findUp N i = some m := by
  unfold findUp
  rw [List.find?_range_eq_some]
  refine ⟨by simp [h1, h3], by simp [h2], fun k hk => ?_⟩
  by_cases hik : i < k
  · simp [hik, h4 k hik hk]
  · simp [hik]
theorem findUp_no {N : List Nd} {i : Nat} (h4 : ∀ k, i < k → k < N.length → subN (setAt N i) (setAt N k) = false) : findUp N i = none := by
  unfold findUp
  rw [List.find?_range_eq_none]
  intro k hk
  by_cases hik : i < k
  · simp [hik, h4 k hik hk]
  · simp [hik]
theorem tree_go {N0 : List Nd} {i m : Nat} (h : findUp (treeTo N0 i) i = some m) : treeTo N0 (i + 1) = giveTo (treeTo N0 i) i m := by rw [treeTo, h]
theorem tree_no {N0 : List Nd} {i : Nat} (h : findUp (treeTo N0 i) i = none) : treeTo N0 (i + 1) = treeTo N0 i := by rw [treeTo, h]
theorem setAt_some {N : List Nd} {i : Nat} {nd : Nd} (h : N[i]? = some nd) : setAt N i = nd.set := by unfold setAt; rw [h]

theorem TreeAt.tab {base : Nat} {w : World} {v : Value} {N : List Nd} {bs : List Nat} {ks : Nat → Value} (h : TreeAt base w v N bs ks) (hk : ∀ (i : Nat) (nd : Nd), N[i]? = some nd → ∀ j ∈ nd.kids, j < i) : TabAt w w.heap.size N bs := by
  intro i nd hi
  have hil : i < bs.length := by rw [← h.len]; exact (List.getElem?_eq_some_iff.1 hi).1
  have hb := List.getElem?_eq_getElem hil
  have hbm := h.ap _ (List.mem_of_getElem? hb)
  obtain ⟨A, cap, hv, hR, _⟩ := own_rd1 (h.kid i nd hi)
  refine ⟨bs[i], hb, hbm.2.1, h.c0 i _ nd hb hi, h.c1 i _ nd hb hi, h.c2 i _ nd hb hi, h.c3 i _ nd hb hi, A, cap, by rw [h.c4 i _ nd hb hi, hv], fun k j hkj => ?_⟩
  obtain ⟨b, off, e, hlt, hc⟩ := hR k j hkj
  have hj := hk i nd hi j (List.mem_of_getElem? hkj)
  refine ⟨b, off, bs[j]'(by omega), e, hlt, List.getElem?_eq_getElem (by omega), ?_⟩
  rw [hc, ptrAt, List.getElem?_eq_getElem (by omega)]
  rfl
theorem TreeAt.tabOff {base : Nat} {w : World} {v : Value} {N : List Nd} {bs : List Nat} {ks : Nat → Value} (h : TreeAt base w v N bs ks) {km : Nat} (hkm : km < base) : TabOff w km N bs := by
  intro i nd hi b hb
  refine ⟨fun e => by have := (h.ap b (List.mem_of_getElem? hb)).1; omega, fun ad n cap hc => ?_⟩
  rw [h.c4 i b nd hb hi] at hc
  injection hc with hc
  have := ((h.kid i nd hi).lt ad.block (by rw [hc]; rfl)).1
  omega
/-- What the cells of two nodes hold. -/
theorem TreeAt.at {base : Nat} {w : World} {v : Value} {N : List Nd} {bs : List Nat} {ks : Nat → Value} (h : TreeAt base w v N bs ks) {i : Nat} (hi : i < bs.length) : ∃ b nd, bs[i]? = some b ∧ N[i]? = some nd ∧ setAt N i = nd.set ∧ w.cell? ⟨b, 2, none⟩ = some (iv (nd.set : Int)) ∧ w.cell? ⟨b, 3, none⟩ = some (iv (nd.own : Int)) ∧ w.cell? ⟨b, 4, none⟩ = some (ks i) ∧ (∀ o, w.frozen? ⟨b, o, none⟩ = false) ∧ base ≤ b ∧ b < w.heap.size := by
  have hb := List.getElem?_eq_getElem hi
  have hn := List.getElem?_eq_getElem (show i < N.length by rw [h.len]; exact hi)
  obtain ⟨a1, a2, _⟩ := h.ap _ (List.mem_of_getElem? hb)
  exact ⟨bs[i], N[i]'(by rw [h.len]; exact hi), hb, hn, setAt_some hn, h.c2 i _ _ hb hn, h.c3 i _ _ hb hn, h.c4 i _ _ hb hn, h.fz _ (List.mem_of_getElem? hb), a1, a2⟩
theorem TreeAt.cells {base : Nat} {w : World} {v : Value} {N : List Nd} {bs : List Nat} {ks : Nat → Value} (h : TreeAt base w v N bs ks) {i b : Nat} {nd : Nd} (hb : bs[i]? = some b) (hn : N[i]? = some nd) : w.cell? ⟨b, 2, none⟩ = some (iv (nd.set : Int)) ∧ w.cell? ⟨b, 3, none⟩ = some (iv (nd.own : Int)) ∧ w.cell? ⟨b, 4, none⟩ = some (ks i) ∧ w.frozen? ⟨b, 3, none⟩ = false ∧ w.frozen? ⟨b, 4, none⟩ = false ∧ b < w.heap.size := 
  ⟨h.c2 i _ _ hb hn, h.c3 i _ _ hb hn, h.c4 i _ _ hb hn, h.fz _ (List.mem_of_getElem? hb) 3, h.fz _ (List.mem_of_getElem? hb) 4, (h.ap _ (List.mem_of_getElem? hb)).2.1⟩
theorem laid_keys {w0 w : World} {X : List Wgh} {bs : List Nat} {g cap m : Nat} (h : Laid w0 w X (.slice (some ⟨g, 0, none⟩) m cap) bs) (hX : X.length = bs.length) (hs : ∀ x ∈ X, ∃ s : Nat, s < 256 ∧ x.set = (s : Int)) : allP (KeyAt w g (keyOf w)) bs.toArray := by
  intro j hj
  have hj' : j < bs.length := by simpa using hj
  have e : bs.toArray[j]! = bs[j] := by simp [hj']
  rw [e]
  obtain ⟨_, _, a3⟩ := h.apart bs[j] (List.getElem_mem hj')
  have hx := List.getElem?_eq_getElem (show j < X.length by omega)
  obtain ⟨s, hs1, hs2⟩ := hs _ (List.mem_of_getElem? hx)
  have hc := (h.node j _ _ (List.getElem?_eq_getElem hj') hx).c2
  rw [hs2] at hc
  exact ⟨fun e => a3 (by rw [e]; rfl), s, hs1, hc, by simp [keyOf, hc]⟩
theorem laid_sorted {w0 w : World} {X : List Wgh} {bs : List Nat} {g cap : Nat} (h : Laid w0 w X (.slice (some ⟨g, 0, none⟩) bs.length cap) bs) (hX : X.length = bs.length) (hs : ∀ x ∈ X, ∃ s : Nat, s < 256 ∧ x.set = (s : Int)) (hup : bs.Pairwise (· < ·)) (hg : w0.heap.size ≤ g) (n : Nat) :
    ∃ X' d' : List _, X.Perm X' ∧ X'.Pairwise (fun a b => onesN a.set.toNat ≤ onesN b.set.toNat) ∧ d'.length = bs.length ∧ TreeAt w0.heap.size ((Go.Sort.putRow ptr w g 0 (Go.Sort.insertionSort (ltK (keyOf w)) bs.toArray 0 bs.toArray.size)).drewN n) (.slice (some ⟨g, 0, none⟩) bs.length cap) (X'.map ndOf) d' (fun _ => .slice none 0 0) ∧ Below w0.heap.size w0 ((Go.Sort.putRow ptr w g 0 (Go.Sort.insertionSort (ltK (keyOf w)) bs.toArray 0 bs.toArray.size)).drewN n) := by
  obtain ⟨o, e, h1, h2, h3⟩ := insertionSort_list (keyOf w) bs.toArray (by simpa using hup)
  have ha : Go.Sort.insertionSort (ltK (keyOf w)) bs.toArray 0 bs.toArray.size = o.toArray := by
    rw [← e, Array.toArray_toList]; rfl
  rw [ha]
  have hn : o.Nodup := h1.imp fun {a b} k e => by subst e; exact KO_irrefl _ _ k
  have hp : bs.Perm o := (List.perm_ext_iff_of_nodup h.nodup hn).2 fun x => by rw [h2 x]
  obtain ⟨X', k1, k2, k3⟩ := sortedTree (n := n) h hX hs hp h1
  exact ⟨X', o, k1, k2, hp.length_eq.symm, k3, belowD (belowPut h.below hg 0 _) n⟩
end Go.Proofs.Ytojgdallodmanaa

namespace Go.Proofs.Ytojgdallodmanaa
open Go.RowKit

/-- All weighings, and that of all parts. -/
def allW (l : List Wgh) (n : Nat) : List Wgh := l ++ [⟨((2 ^ n - 1 : Nat) : Int), 0, (n : Int) * 100000⟩]
theorem allW_len (l : List Wgh) (n : Nat) : (allW l n).length = l.length + 1 := by simp [allW]

/-- What tree answers: its nodes are those of all weighings, from the smallest sets on. -/
def TreePost (l : List Wgh) (n : Nat) (w : World) (e : Ending) (w' : World) : Prop :=
  ∃ (br : Nat) (N : List Nd) (bs : List Nat) (X : List Wgh), e = .returned (ptr br) ∧ Below w.heap.size w w' ∧ (allW l n).Perm X ∧ X.Pairwise (fun a b => onesN a.set.toNat ≤ onesN b.set.toNat) ∧ N = treeTo (X.map ndOf) (l.length + 1) ∧ TabAt w' w'.heap.size N bs ∧ bs[N.length - 1]? = some br ∧ ∀ km, km < w.heap.size → TabOff w' km N bs

set_option maxRecDepth 100000 in
set_option maxHeartbeats 8000000 in
theorem tree_any (A : Option Addr) (l : List Wgh) (n B cap : Nat) (w : World) (hn0 : 0 < n) (hn : n ≤ 8) (hl : l.length ≤ 6) (hR : RdN 3 encWgh w B A l) (hB : B ≤ w.heap.size)
    (hs : ∀ x ∈ l, ∃ s : Nat, s < 256 ∧ x.set = (s : Int)) :
    Calls Try.prog 105 #[.slice A l.length cap, .int .i64 n] w (TreePost l n w) := by
  have hc := cloneWgh_any A l B cap (w.alloc (.cells #[] 102)) hl (hR.alloc hB _)
  have hlit := World.ownsRow_lit (e := 102) (size := 1) (base := w.heap.size) w #[] 0 (Nat.le_refl _) (by decide) (by simp)
  have HL := Lib.hid hlit
  clear hlit
  have hsh := shl1 n (by omega)
  obtain ⟨i1, hi1, hz10, hz11, hz12⟩ := info_parts Try.info82
  obtain ⟨i2, hi2, hz20, hz21, hz22⟩ := info_parts Try.info153
  have hp1 : 1 ≤ 2 ^ n := Nat.one_le_two_pow
  have hp2 : 2 ^ n ≤ 256 := by
    have := Nat.pow_le_pow_right (show 0 < 2 by decide) hn
    omega
  have hcast : ((2 ^ n - 1 : Nat) : Int) = ((2 ^ n : Nat) : Int) - 1 := by omega
  have hsX : ∀ x ∈ allW l n, ∃ s : Nat, s < 256 ∧ x.set = (s : Int) := fun x hx => by
    rcases List.mem_append.1 hx with hx | hx
    · exact hs x hx
    · rw [List.mem_singleton.1 hx]
      exact ⟨2 ^ n - 1, by omega, rfl⟩
  have HGOAL : Hid (∀ e w', (∃ (br : Nat) (N : List Nd) (bs : List Nat) (X' : List Wgh), e = .returned (ptr br) ∧ Below w.heap.size w w' ∧ (allW l n).Perm X' ∧ X'.Pairwise (fun a b => onesN a.set.toNat ≤ onesN b.set.toNat) ∧ N = treeTo (X'.map ndOf) (l.length + 1) ∧ TabAt w' w'.heap.size N bs ∧ bs[N.length - 1]? = some br ∧ ∀ km, km < w.heap.size → TabOff w' km N bs) → TreePost l n w e w') := Lib.hid fun _ _ h => h
  obtain ⟨POST, hPOST⟩ : ∃ P, TreePost l n w = P := ⟨_, rfl⟩
  rw [hPOST] at HGOAL ⊢
  clear hPOST
  obtain ⟨X, hX⟩ : ∃ X, allW l n = X := ⟨_, rfl⟩
  have hXl : X.length = l.length + 1 := by rw [← hX]; exact allW_len _ _
  have hXf : X.flatMap encWgh = l.flatMap encWgh ++ [iv (((2 ^ n : Nat) : Int) - 1), iv 0, iv ((n : Int) * 100000)] := by
    rw [← hX, ← hcast]; simp [allW, encWgh]
  rw [hX] at hsX HGOAL
  have HSX := Lib.hid hsX
  obtain ⟨P, hP⟩ : ∃ P, (2 ^ n : Nat) = P := ⟨_, rfl⟩
  rw [hP] at hsh hp1 hp2 hXf
  have HC := Lib.hid hc
  have HXF := Lib.hid hXf
  clear hc hX hXf hcast hP hsX hs
  go_enter Try.func105, Try.ntmps105
  go_wp2_with fail
  refine HC.out.mono ?_
  rintro e w1 ⟨v1, rfl, own1, hb1⟩
  have hb1' : Below w.heap.size w w1 := belowT (belowA (belowR w) _) hb1
  have OWN1 := Lib.hid own1
  have HB1 := Lib.hid hb1
  have HB1' := Lib.hid hb1'
  have hz1 := hb1'.size
  have hz1' := hb1.size
  clear own1 hb1 hb1' HC
  go_wp2_with (at_builtin; refine wpList_append_own _ rfl _ _ 28 rfl (w.alloc (.cells #[] 102)).heap.size 82 i1 (.agg #[.int .i64 0, .int .i64 0, .int .i64 0]) 3 24 Try.underlying28 hi1 hz10 hz11 hz12 rfl (by decide) _ _ _ rfl (OWN1.out.alloc _) ⟨w1.heap.size, 0, none⟩ 1 1 [iv ((P : Int) - 1), iv 0, iv ((n : Int) * 100000)] rfl rfl ?d1 ?d2 ?d3 ?d4 ?d5 ?_)
  case d1 => exact cells3_new _ _ _ _ _
  case d2 => simp [Value.oneCell']
  case d3 => unfold maxLen; omega
  case d4 => omega
  case d5 => simp; omega
  intro v2 w2 hown2 hg2 _
  have hb2 : Below w.heap.size w w2 := grownB (OWN1.out.alloc _) hg2 (by simp) (belowA HB1'.out _)
  have hrow : w2.ownsRow w.heap.size 102 1 (.slice (some ⟨w.heap.size, 0, none⟩) 0 0) 0 [] := ((HL.out.kept (row := none) ⟨HB1.out.os, HB1.out.tape, HB1.out.output, HB1.out.size, fun k hk _ => HB1.out.block k hk⟩ (.inr (by simp [Value.ownBlock]))).alloc _).kept hg2 (.inr (fun e => by
    have := (OWN1.out.lt _ e.symm).1
    simp at this; omega))
  have hz2 := hg2.size
  simp only [World.size_alloc] at hz2
  rw [← HXF.out] at hown2
  rw [← hXl] at hown2
  obtain ⟨A2, cap2, rfl, hR2, hA2, _, _⟩ := own_rdN encWgh_len hown2
  have hstart : Laid w w2 X (.slice (some ⟨w.heap.size, 0, none⟩) 0 0) [] := ⟨hrow, fun i b x hi => by simp at hi, fun b hb => (by simp at hb), List.nodup_nil, hb2⟩
  have HST := Lib.hid hstart
  have HR2 := Lib.hid hR2
  have HNE : Hid (∀ b off, A2 = some ⟨b, off, none⟩ → (Value.slice (some ⟨w.heap.size, 0, none⟩) 0 0).ownBlock ≠ some b) := Lib.hid fun b off e e2 => by
    have h1 := (hA2 b off e).1
    have e3 : some w.heap.size = some b := e2
    injection e3 with e3
    have h2 : (w.alloc (.cells #[] 102)).heap.size = w.heap.size + 1 := by simp
    omega
  have HA2 : Hid (∀ b off, A2 = some ⟨b, off, none⟩ → off = 0) := Lib.hid fun b off e => (hA2 b off e).2
  clear hstart hR2 hrow hown2 hg2 hb2 HB1 HB1' OWN1 HL hA2
  rw [hXl]
  go_wp2_with fail
  go_loopw [6, 27] (fun vn vi wr => ∃ (k : Nat) (bs : List Nat) (vo : Value), k ≤ l.length + 1 ∧ vi = .int .i64 k ∧ vo = vn ∧ bs.length = k ∧ Hid (Laid w wr X vo bs) ∧ Hid (RdN 3 encWgh wr w2.heap.size A2 X) ∧ Hid (∀ b off, A2 = some ⟨b, off, none⟩ → vo.ownBlock ≠ some b) ∧ Hid (bs.Pairwise (· < ·)) ∧ w2.heap.size ≤ wr.heap.size) (fun _ vi _ => l.length + 1 - (intOf vi).toNat)
  case atStart => exact ⟨0, [], _, Nat.zero_le _, rfl, rfl, rfl, HST, HR2, HNE, Lib.hid List.Pairwise.nil, Nat.le_refl _⟩
  case round =>
    clear HST HR2 HNE
    obtain ⟨k, bs, vo, hk, rfl, rfl, hbs, HI, HR, HNE, HUP, hz2r⟩ := hrel
    by_cases hlt : k < l.length + 1
    · obtain ⟨x, hx⟩ : ∃ x, X[k]? = some x := ⟨_, List.getElem?_eq_getElem (by omega)⟩
      obtain ⟨b, off, rfl, hbB, e0, e1, e2⟩ := wghAt HR.out hx
      obtain rfl := HA2.out _ _ rfl
      rw [Nat.zero_add] at e0 e1 e2
      have HX := Lib.hid hx
      have OWN : Hid (wr.ownsRow w.heap.size 102 1 vo k (bs.map ptr)) := Lib.hid (by have := HI.out.own; rwa [hbs] at this)
      clear hx
      have HAL : Hid (((((wr.alloc (.cells #[iv x.set, iv x.lo, iv x.hi] 82)).alloc (.cells #[iv x.lo, iv x.hi, iv x.set, iv x.set, .slice none 0 0] 155)).alloc (.cells #[ptr (wr.heap.size + 1)] 102))).ownsRow w.heap.size 102 1 vo k (bs.map ptr)) := Lib.hid (((OWN.out.alloc _).alloc _).alloc _)
      go_wp2_with (at_builtin; refine wpList_append_own_at _ rfl _ _ 153 rfl w.heap.size 102 i2 (.pointer none) 1 8 Try.underlying153 hi2 hz20 hz21 hz22 rfl (by decide) _ _ _ rfl HAL.out ⟨wr.heap.size + 1 + 1, 0, none⟩ 1 1 [ptr (wr.heap.size + 1)] rfl rfl ?d1 ?d2 ?d3 ?d4 ?d5 ?_)
      case d1 =>
        rw [show wr.heap.size + 1 + 1 = ((wr.alloc (.cells #[iv x.set, iv x.lo, iv x.hi] 82)).alloc (.cells #[iv x.lo, iv x.hi, iv x.set, iv x.set, .slice none 0 0] 155)).heap.size from by simp]
        exact cell_one_new _ _ _
      case d2 => simp [Value.oneCell']
      case d3 => unfold maxLen; omega
      case d4 => omega
      case d5 => have := HI.out.below.size; simp; omega
      intro v3 w3 hown3 hg3 _ hv3
      have hx := HX.out
      rw [← hbs] at hx hown3
      have hI3 := HI.out.more hx hg3 hown3 (by simpa using hv3)
      have hR3 : RdN 3 encWgh w3 w2.heap.size (some ⟨b, 0, none⟩) X := fun i y hy => by
        obtain ⟨b', off', e', hb', hc'⟩ := HR.out i y hy
        injection e' with e'
        injection e' with e'1 e'2
        subst e'1 e'2
        exact ⟨b, 0, rfl, hb', fun j u hu => hg3.cell (keepA (keepA (keepA (hc' j u hu) _) _) _) (fun e2 => HNE.out b 0 rfl e2.symm)⟩
      have hne3 : ∀ b1 off, (some (⟨b, 0, none⟩ : Addr)) = some ⟨b1, off, none⟩ → v3.ownBlock ≠ some b1 := fun b1 off e e2 => by
        injection e with e
        injection e with e'
        subst e'
        rcases hv3 with hv3 | hv3
        · exact HNE.out b 0 rfl (hv3 ▸ e2)
        · rw [hv3] at e2; injection e2 with e2; (try simp at e2); omega
      have hup3 : (bs ++ [wr.heap.size + 1]).Pairwise (· < ·) := by
        rw [List.pairwise_append]
        refine ⟨HUP.out, by simp, fun a ha b hb => ?_⟩
        have := (HI.out.apart a ha).2.1
        rw [List.mem_singleton.1 hb]; omega
      have hsz3 := hg3.size
      simp only [World.size_alloc] at hsz3
      have HI3 := Lib.hid hI3
      have HR3 := Lib.hid hR3
      have HNE3 := Lib.hid hne3
      have HUP3 := Lib.hid hup3
      clear hI3 hR3 hown3 hg3 hv3 hx HAL OWN HI HR HX e0 e1 e2 hne3 hup3
      go_wp2
      go_roundw
      case rel => exact ⟨k + 1, bs ++ [wr.heap.size + 1], v3, by omega, by go_num, rfl, by simp [hbs], HI3, HR3, HNE3, HUP3, by omega⟩
      case measure => simp [intOf]; omega
    · obtain rfl : k = l.length + 1 := by omega
      obtain ⟨g, cap3, rfl, hgB, hgS, hgc⟩ := own_form HI.out.own (by omega)
      have hso := sortNd_any (keyOf wr) g 0 cap3 bs.toArray wr (own_holdsP HI.out.own) (laid_keys HI.out (by omega) HSX.out) (by simp; omega)
      have hsorted := laid_sorted HI.out (by omega) HSX.out HUP.out hgB
      have hsa : bs.toArray.size = l.length + 1 := by simp [hbs]
      rw [hsa] at hso hsorted
      rw [hbs] at hsorted ⊢
      have HSO := Lib.hid hso
      have HSD := Lib.hid hsorted
      clear hso hsorted HI HR HNE HUP HA2
      go_wp2_with fail
      refine HSO.out.mono ?_
      rintro e w4 ⟨rfl, nd, hw4⟩
      obtain ⟨X', bs2, hXp, hXs, hb2l, htree, hbel⟩ := HSD.out nd
      rw [← hw4] at htree hbel
      have HT := Lib.hid htree
      have HBL := Lib.hid hbel
      have HXP := Lib.hid hXp
      have HXS := Lib.hid hXs
      have hXpl : X'.length = l.length + 1 := by rw [← hXp.length_eq]; exact hXl
      obtain ⟨N0, hN0⟩ : ∃ N0, X'.map ndOf = N0 := ⟨_, rfl⟩
      have hN0l : N0.length = l.length + 1 := by rw [← hN0]; simpa using hXpl
      have h0 : ∀ nd ∈ N0, nd.kids = [] := fun nd h => by
        rw [← hN0] at h
        obtain ⟨x, _, rfl⟩ := List.mem_map.1 h
        rfl
      have h2s : ∀ nd ∈ N0, nd.set < 256 ∧ nd.own < 256 := fun nd h => by
        rw [← hN0] at h
        obtain ⟨x, hx, rfl⟩ := List.mem_map.1 h
        obtain ⟨s, hs1, hs2⟩ := HSX.out x (hXp.mem_iff.2 hx)
        simp only [ndOf, hs2]
        exact ⟨by omega, by omega⟩
      rw [hN0] at htree
      have HN0 := Lib.hid hN0
      have HH0 := Lib.hid h0
      have HS0 : Hid (∀ (i j : Nat) (nd : Nd), (treeTo N0 i)[j]? = some nd → nd.set < 256 ∧ nd.own < 256) := Lib.hid fun i j nd h => by
        obtain ⟨nd0, e1, _, _, e4, e5⟩ := (shaped_tree h0 i).same j nd h
        obtain ⟨q1, q2⟩ := h2s nd0 (List.mem_of_getElem? e1)
        omega
      have HT : Hid (TreeAt w.heap.size w4 (.slice (some ⟨g, 0, none⟩) (l.length + 1) cap3) (treeTo N0 0) bs2 (fun _ => .slice none 0 0)) := Lib.hid htree
      have HBL := Lib.hid hbel
      have HXP := Lib.hid hXp
      have HXS := Lib.hid hXs
      have hb2 : bs2.length = l.length + 1 := by omega
      have hcap3 : l.length + 1 ≤ cap3 := by omega
      clear hgc
      clear htree hbel hXp hXs hw4 HSO HSD hsa hbs hb2l h0 h2s hN0 hXpl HSX HXF
      clear bs
      go_wp2_with fail
      go_loopw [47] (fun vi wr => ∃ (i : Nat) (ks : Nat → Value), i ≤ l.length + 1 ∧ vi = .int .i64 i ∧ Hid (TreeAt w.heap.size wr (.slice (some ⟨g, 0, none⟩) (l.length + 1) cap3) (treeTo N0 i) bs2 ks) ∧ Hid (Below w.heap.size w wr)) (fun vi _ => l.length + 1 - (intOf vi).toNat)
      case atStart => exact ⟨0, _, Nat.zero_le _, rfl, HT, HBL⟩
      case round =>
        clear HT HBL
        obtain ⟨i, ks, hi, rfl, HT, HB⟩ := hrel
        by_cases hlt : i < l.length + 1
        · obtain ⟨bi, ndi, hbi, hni, hsi, ci2, ci3, ci4, cif, hbi0, hbiS⟩ := HT.out.at (i := i) (by omega)
          have hrow := HT.out.row
          rw [hb2] at hrow
          have crow := hrow.cellAt i (by omega)
          rw [List.getElem?_map, hbi] at crow
          have hci := HS0.out i i ndi hni
          by_cases hil : i < l.length
          · clear hrow
            go_wp2_with fail
            clear crow ci2 ci3 ci4 cif
            go_loopw [57] (fun vj wr2 => ∃ j : Nat, i + 1 + j ≤ l.length + 1 ∧ vj = .int .i64 j ∧ Hid (TreeAt w.heap.size wr2 (.slice (some ⟨g, 0, none⟩) (l.length + 1) cap3) (treeTo N0 i) bs2 ks) ∧ Hid (Below w.heap.size w wr2) ∧ Hid (∀ m, i < m → m < i + 1 + j → subN (setAt (treeTo N0 i) i) (setAt (treeTo N0 i) m) = false)) (fun vj _ => l.length + 1 - (intOf vj).toNat)
            case atStart => exact ⟨0, by omega, rfl, HT, HB, Lib.hid (fun m a b => by omega)⟩
            case round =>
              clear HT HB
              obtain ⟨j, hj, rfl, HT, HB, HNO⟩ := hrel
              by_cases hjl : i + 1 + j < l.length + 1
              · obtain ⟨bm, ndm, hbm, hnm, hsm, cm2, cm3, cm4, cmf, hbm0, hbmS⟩ := HT.out.at (i := i + 1 + j) (by omega)
                obtain ⟨ci2, ci3, ci4, fi3, fi4, hbiS⟩ := HT.out.cells hbi hni
                have fm3 := cmf 3
                have fm4 := cmf 4
                clear cmf
                have hcm := HS0.out i (i + 1 + j) ndm hnm
                have hrow := HT.out.row
                rw [hb2] at hrow
                have crow := hrow.cellAt (i + 1 + j) (by omega)
                rw [List.getElem?_map, hbm] at crow
                clear hrow
                have han := andNot64 hci.1 hcm.1
                have hsub : subN (setAt (treeTo N0 i) i) (setAt (treeTo N0 i) (i + 1 + j)) = (((ndi.set &&& (255 - ndm.set) : Nat) : Int) == 0) := by
                  rw [hsi, hsm]; unfold subN; rw [Bool.eq_iff_iff]; simp
                obtain ⟨b, hb⟩ : ∃ b, (((ndi.set &&& (255 - ndm.set) : Nat) : Int) == 0) = b := ⟨_, rfl⟩
                rw [hb] at hsub
                cases b
                · go_wp2_with fail
                  go_quiet (fail)
                  go_wp2
                  go_roundw
                  case rel =>
                    refine ⟨j + 1, by omega, by go_num, Lib.hid (HT.out.keep (belowN (belowR _) _)), Lib.hid (belowN HB.out _), Lib.hid fun m a b => ?_⟩
                    rcases Nat.lt_or_ge m (i + 1 + j) with hlt | hge
                    · exact HNO.out m a hlt
                    · obtain rfl : m = i + 1 + j := by omega
                      exact hsub
                  case measure => simp [intOf]; omega
                · have hup := findUp_at (N := treeTo N0 i) (i := i) (m := i + 1 + j) (by omega) (by rw [treeTo_len]; omega) hsub HNO.out
                  have HUP := Lib.hid hup
                  clear hup hsub
                  go_wp2_with fail
                  go_quiet (fail)
                  obtain ⟨wq, hwq⟩ : ∃ wq, wr.drewN nq = wq := ⟨_, rfl⟩
                  have hbq : Below w.heap.size w wq := by rw [← hwq]; exact belowN HB.out _
                  have htq := HT.out.keep (w' := wq) (by rw [← hwq]; exact belowN (belowR _) _)
                  have hkid := htq.kid (i + 1 + j) ndm hnm
                  obtain ⟨ci2, ci3, ci4, fi3, fi4, hbiS⟩ := htq.cells hbi hni
                  obtain ⟨cm2, cm3, cm4, fm3, fm4, hbmS⟩ := htq.cells hbm hnm
                  have hkb : ∀ b', bs2[i]? = some b' ∨ bs2[i + 1 + j]? = some b' → (ks (i + 1 + j)).ownBlock ≠ some b' := fun b' hb' e => (htq.ka (i + 1 + j) (by omega) b' e).2.1 b' (hb'.elim List.mem_of_getElem? List.mem_of_getElem?) rfl
                  have hkl : ndm.kids.length ≤ 7 := by
                    have := kids_len HH0.out i (i + 1 + j) ndm hnm
                    omega
                  rw [hwq]
                  have HTQ := Lib.hid htq
                  have HBQ := Lib.hid hbq
                  have HAL : Hid ((wq.alloc (.cells #[ptr bi] 102)).ownsRow w.heap.size 102 1 (ks (i + 1 + j)) ndm.kids.length (ndm.kids.map (ptrAt bs2))) := Lib.hid (hkid.alloc _)
                  have hzq := hbq.size
                  clear hkid htq hbq hwq HT HB nq
                  obtain ⟨kv, hkv⟩ : ∃ kv, ks (i + 1 + j) = kv := ⟨_, rfl⟩
                  rw [hkv] at HAL cm4 hkb
                  have HKV := Lib.hid hkv
                  clear hkv
                  go_wp2_with (at_builtin; refine wpList_append_own_at _ rfl _ _ 153 rfl w.heap.size 102 i2 (.pointer none) 1 8 Try.underlying153 hi2 hz20 hz21 hz22 rfl (by decide) _ _ _ rfl HAL.out ⟨wq.heap.size, 0, none⟩ 1 1 [ptr bi] rfl rfl ?d1 ?d2 ?d3 ?d4 ?d5 ?_)
                  case d1 => exact cell_one_new _ _ _
                  case d2 => simp [Value.oneCell']
                  case d3 => unfold maxLen; omega
                  case d4 => omega
                  case d5 => simp; omega
                  intro v3 w3 hown3 hg3 _ hv3
                  obtain ⟨g3, cap4, rfl, _, _, _⟩ := own_form hown3 (by omega)
                  obtain ⟨v3, hv3d⟩ : ∃ v3, Value.slice (some ⟨g3, 0, none⟩) (ndm.kids.length + 1) cap4 = v3 := ⟨_, rfl⟩
                  have hg3 : (wq.alloc (.cells #[ptr bi] 102)).grownBy w3 kv.ownBlock := hg3
                  have hv3 : v3.ownBlock = kv.ownBlock ∨ v3.ownBlock = some (wq.heap.size + 1) := by rw [← hv3d]; simpa using hv3
                  rw [hv3d] at hown3
                  have hnb : ∀ b', bs2[i]? = some b' ∨ bs2[i + 1 + j]? = some b' → some b' ≠ kv.ownBlock := fun b' hb' e => hkb b' hb' e.symm
                  have cm3' := hg3.cell (keepA cm3 _) (hnb bm (.inr hbm))
                  have cm4' := hg3.cell (keepA cm4 _) (hnb bm (.inr hbm))
                  have ci2' := hg3.cell (keepA ci2 _) (hnb bi (.inl hbi))
                  have fm3' : w3.frozen? ⟨bm, 3, none⟩ = false := by
                    rw [World.frozen?_of_block (a := ⟨bm, 3, none⟩) (hg3.block bm (by simp; omega) (hnb bm (.inr hbm))), keepAF hbmS]; exact fm3
                  have fm4' : w3.frozen? ⟨bm, 4, none⟩ = false := by
                    rw [World.frozen?_of_block (a := ⟨bm, 4, none⟩) (hg3.block bm (by simp; omega) (hnb bm (.inr hbm))), keepAF hbmS]; exact fm4
                  have hbne : bi ≠ bm := fun e => by
                    have := getElem_inj (HTQ.out.nodup) hbi (e ▸ hbm)
                    omega
                  have hpi : ptrAt bs2 i = ptr bi := by unfold ptrAt; rw [hbi]; rfl
                  rw [← hpi] at hown3
                  have hgive := fun hh => (HTQ.out.keep (belowA (belowR wq) (.cells #[ptr bi] 102))).give (i := i) hbm hnm (by rw [HKV.out]; exact hg3) hown3 hh
                  have hgive2 := hgive (by rw [HKV.out]; rcases hv3 with h | h; exact .inl h; exact .inr ⟨_, h, by simp⟩)
                  rw [← hv3d] at hgive2
                  rw [hsi] at hgive2
                  have hb3 : Below w.heap.size w w3 := grownB HAL.out hg3 (Nat.le_refl _) (belowA HBQ.out _)
                  have HG := Lib.hid hgive2
                  have HB3 := Lib.hid hb3
                  have hz3 := hb3.size
                  have han2 := andNot64 hcm.2 hci.1
                  clear hgive hgive2 hb3 hown3 hg3 hv3 hv3d hnb cm2 cm3 cm4 ci2 ci3 ci4 fi3 fi4 fm3 fm4 hkb HTQ HBQ HAL HKV crow han
                  go_wp2_with fail
                  obtain ⟨wx, hwx⟩ : ∃ wx, w3.setCell ⟨bm, 4, none⟩ (.slice (some ⟨g3, 0, none⟩) (ndm.kids.length + 1) cap4) = wx := ⟨_, rfl⟩
                  have cm3 : wx.cell? ⟨bm, 3, none⟩ = some (iv (ndm.own : Int)) := by
                    rw [← hwx, World.cell?_setCell_other _ _ _ _ (fun e => by injection e with _ e; exact absurd e (by decide))]; exact cm3'
                  have ci2 : wx.cell? ⟨bi, 2, none⟩ = some (iv (ndi.set : Int)) := by rw [← hwx]; exact keepSet ci2' hbne
                  have fm3 : wx.frozen? ⟨bm, 3, none⟩ = false := by rw [← hwx, World.frozen?_setCell]; exact fm3'
                  have hbx : Below w.heap.size w wx := by rw [← hwx]; exact belowS HB3.out hbm0 _
                  have HG := HG.out
                  rw [hwx] at HG ⊢
                  have HG := Lib.hid HG
                  have HBX := Lib.hid hbx
                  clear hbx hwx cm3' cm4' ci2' fm3' fm4' HB3 hv3 hpi
                  go_region
                  all_goals go_wp2_with fail
                  exact ⟨⟨i + 1, _, by omega, by go_num, Lib.hid (by rw [tree_go HUP.out]; exact HG.out.keep (belowDr (belowR _))), Lib.hid (belowDr (belowS HBX.out hbm0 _))⟩, by simp [intOf]; omega⟩
              · obtain rfl : j = l.length - i := by omega
                have hno := findUp_no (N := treeTo N0 i) (i := i) (fun k a b => HNO.out k a (by rw [treeTo_len] at b; omega))
                have HNU := Lib.hid hno
                clear hno HNO
                go_wp2_with fail
                exact ⟨⟨i + 1, ks, by omega, by go_num, Lib.hid (by rw [tree_no HNU.out]; exact HT.out), HB⟩, by simp [intOf]; omega⟩
          · obtain rfl : i = l.length := by omega
            have hno := findUp_no (N := treeTo N0 l.length) (i := l.length) (fun k a b => by rw [treeTo_len] at b; omega)
            have HNU := Lib.hid hno
            clear hno hrow
            by_cases hc : cap3 = l.length + 1
            · subst hc
              go_wp2_with fail
              refine wp_loop_rounds 1 ?_
              rw [rounds_succ]
              go_wp2_with fail
              exact ⟨⟨l.length + 1, ks, Nat.le_refl _, by go_num, Lib.hid (by rw [tree_no HNU.out]; exact HT.out), HB⟩, by simp [intOf]⟩
            · go_wp2_with fail
              refine wp_loop_rounds 1 ?_
              rw [rounds_succ]
              go_wp2_with fail
              exact ⟨⟨l.length + 1, ks, Nat.le_refl _, by go_num, Lib.hid (by rw [tree_no HNU.out]; exact HT.out), HB⟩, by simp [intOf]⟩
        · obtain rfl : i = l.length + 1 := by omega
          have hrow := HT.out.row
          rw [hb2] at hrow
          have crow := hrow.cellAt l.length (by omega)
          obtain ⟨br, hbr⟩ : ∃ br, bs2[l.length]? = some br := ⟨_, List.getElem?_eq_getElem (by omega)⟩
          rw [List.getElem?_map, hbr] at crow
          clear hrow
          go_wp2_with fail
          have hkid := (shaped_tree HH0.out (l.length + 1)).kid
          have hlen : (treeTo N0 (l.length + 1)).length = l.length + 1 := by rw [treeTo_len]; exact hN0l
          exact HGOAL.out _ _ ⟨br, treeTo N0 (l.length + 1), bs2, X', rfl, HB.out, HXP.out, HXS.out, by rw [HN0.out], HT.out.tab hkid, by rw [hlen]; exact hbr, fun km hkm => HT.out.tabOff hkm⟩
end Go.Proofs.Ytojgdallodmanaa

namespace Go.Proofs.Ytojgdallodmanaa
open Go.RowKit Go.Maps

/-- Two sets that have parts in common, of which none has all of the other. -/
def crossN (a b : Nat) : Bool := (a &&& b) != 0 && (a &&& b) != a && (a &&& b) != b
def crossB (l : List Wgh) (s : Nat) : Bool := l.any fun y => crossN s y.set.toNat
/-- The error of the i-th weighing. -/
def weighedE (n : Nat) (js : List (Int × Int)) (l : List Wgh) (i : Nat) : Int := match l[i]? with
  | some x => if blockE n js x.set = 0 then (if crossB (l.take i) x.set.toNat then 6 else rangeE 0 1000000 x.lo x.hi) else blockE n js x.set
  | none => 0
def weighedsE (h : Hul) (l : List Wgh) : Int := match firstBad (weighedE h.ps.length h.js l) l.length with
  | some p => p.2
  | none => 0
def openPre (h : Hul) (l : List Wgh) : Int := if (checkE h).2.2 = 0 then (if l.length ≤ 6 then weighedsE h l else 3) else (checkE h).2.2
/-- A tree of weighings and of all parts. -/
def IsTree (h : Hul) (l : List Wgh) (N : List Nd) : Prop := ∃ X : List Wgh, (allW l h.ps.length).Perm X ∧ X.Pairwise (fun a b => onesN a.set.toNat ≤ onesN b.set.toNat) ∧ N = treeTo (X.map ndOf) (l.length + 1)

theorem firstBad_none {f : Nat → Int} {n : Nat} (h : firstBad f n = none) : ∀ i, i < n → f i = 0 := by
  intro i hi
  unfold firstBad at h
  rw [List.findSome?_eq_none_iff] at h
  have := h i (by simpa using hi)
  by_cases h0 : f i = 0
  · exact h0
  · rw [if_neg h0] at this; cases this
theorem firstBad_some {f : Nat → Int} {n i : Nat} {e : Int} (h : firstBad f n = some (i, e)) : i < n ∧ e = f i ∧ e ≠ 0 := by
  unfold firstBad at h
  obtain ⟨k, hk, hs⟩ := List.exists_of_findSome?_eq_some h
  simp at hk
  by_cases h0 : f k = 0
  · rw [if_pos h0] at hs; cases hs
  · rw [if_neg h0] at hs
    injection hs with hs
    injection hs with h1 h2
    subst h1
    exact ⟨hk, h2.symm, by rw [← h2]; exact h0⟩
theorem rangeE_zero {L H lo hi : Int} (h : rangeE L H lo hi = 0) : L ≤ lo ∧ lo ≤ hi ∧ hi ≤ H := by
  unfold rangeE at h
  split at h
  · rename_i hb
    rw [Bool.and_eq_true] at hb
    have h1 := inB_t hb.1
    have h2 := inB_t hb.2
    split at h
    · omega
    · omega
  · omega
theorem blockE_zero {n : Nat} {js : List (Int × Int)} {set : Int} (hn : n ≤ 8) (h : blockE n js set = 0) : ∃ s : Nat, s < 256 ∧ 0 < s ∧ s < 2 ^ n ∧ set = (s : Int) ∧ hangsB js s = true := by
  unfold blockE at h
  split at h
  · rename_i hb
    have h1 := inB_t hb
    have h2 : 2 ^ n ≤ 256 := by
      have := Nat.pow_le_pow_right (show 0 < 2 by decide) hn
      omega
    have h3 : ((2 : Int) ^ n) = ((2 ^ n : Nat) : Int) := by rw [Int.natCast_pow]; rfl
    rw [h3] at h1
    refine ⟨set.toNat, by omega, by omega, by omega, by omega, ?_⟩
    split at h
    · assumption
    · omega
  · omega

/-- What a hull without an error is. -/
structure HulOk (h : Hul) : Prop where
  n1 : 1 ≤ h.ps.length
  n8 : h.ps.length ≤ 8
  j12 : h.js.length ≤ 12
  s1 : 1 ≤ h.slo
  s2 : h.slo ≤ h.shi
  s3 : h.shi ≤ 2000
  w1 : 1 ≤ h.winch
  w2 : h.winch ≤ 10000000
  ps : PsOk h.ps
  js : JsOk h.ps.length h.js
theorem hulOk {h : Hul} (hc : (checkE h).2.2 = 0) : HulOk h := by
  unfold checkE at hc
  split at hc
  case isFalse => simp at hc
  rename_i h1
  rw [Bool.and_eq_true] at h1
  have a1 := inB_t h1.1
  have a2 : h.js.length ≤ 12 := by simpa using h1.2
  split at hc
  case isFalse => simp at hc
  rename_i h2
  rw [Bool.and_eq_true, Bool.and_eq_true] at h2
  have b1 := inB_t h2.1.1
  have b2 := inB_t h2.1.2
  have b3 := inB_t h2.2
  split at hc
  case isTrue => simp at hc
  unfold listsE at hc
  split at hc
  case h_1 i e hf =>
    have := (firstBad_some hf).2.2
    exact absurd hc this
  case h_2 hp =>
    split at hc
    case h_1 i e hf =>
      have := (firstBad_some hf).2.2
      exact absurd hc this
    case h_2 hj =>
      refine ⟨by omega, by omega, a2, by omega, by omega, by omega, by omega, by omega, fun p hp1 => ?_, fun j hj1 => ?_⟩
      · obtain ⟨i, hi⟩ := List.getElem?_of_mem hp1
        have hz := firstBad_none hp i (List.getElem?_eq_some_iff.1 hi).1
        unfold partE at hz
        rw [hi] at hz
        simp only at hz
        split at hz
        · obtain ⟨c1, c2, c3⟩ := rangeE_zero hz
          exact ⟨c1, c2, c3⟩
        · exact absurd hz (by assumption)
      · obtain ⟨i, hi⟩ := List.getElem?_of_mem hj1
        have hz := firstBad_none hj i (List.getElem?_eq_some_iff.1 hi).1
        unfold jointE at hz
        rw [hi] at hz
        simp only at hz
        split at hz
        · rename_i hb
          rw [Bool.and_eq_true] at hb
          have c1 := inB_t hb.1
          have c2 := inB_t hb.2
          split at hz
          · omega
          · omega
        · omega
theorem openPre_zero {h : Hul} {l : List Wgh} (hp : openPre h l = 0) : (checkE h).2.2 = 0 ∧ l.length ≤ 6 ∧ ∀ i, i < l.length → weighedE h.ps.length h.js l i = 0 := by
  unfold openPre at hp
  split at hp
  · rename_i h1
    split at hp
    · rename_i h2
      refine ⟨h1, h2, ?_⟩
      unfold weighedsE at hp
      split at hp
      · rename_i p hf
        obtain ⟨i, e⟩ := p
        have := (firstBad_some hf).2.2
        exact absurd hp this
      · rename_i hf
        exact firstBad_none hf
    · omega
  · exact absurd hp (by assumption)
/-- What a weighing without an error is. -/
theorem wghs_ok {h : Hul} {l : List Wgh} (hp : openPre h l = 0) : ∀ x ∈ l, ∃ s : Nat, s < 256 ∧ 0 < s ∧ s < 2 ^ h.ps.length ∧ x.set = (s : Int) ∧ hangsB h.js s = true ∧ 0 ≤ x.lo ∧ x.lo ≤ x.hi ∧ x.hi ≤ 1000000 := by
  obtain ⟨h1, _, h3⟩ := openPre_zero hp
  have hk := hulOk h1
  intro x hx
  obtain ⟨i, hi⟩ := List.getElem?_of_mem hx
  have hz := h3 i (List.getElem?_eq_some_iff.1 hi).1
  unfold weighedE at hz
  rw [hi] at hz
  simp only at hz
  split at hz
  · rename_i hb
    obtain ⟨s, a1, a2, a3, a4, a5⟩ := blockE_zero hk.n8 hb
    split at hz
    · omega
    · obtain ⟨c1, c2, c3⟩ := rangeE_zero hz
      exact ⟨s, a1, a2, a3, a4, a5, c1, c2, c3⟩
  · exact absurd hz (by assumption)
theorem treeOk_isTree {h : Hul} {l : List Wgh} {N : List Nd} (hp : openPre h l = 0) (hN : IsTree h l N) : TreeOk h.ps N := by
  obtain ⟨h1, h2, _⟩ := openPre_zero hp
  have hk := hulOk h1
  obtain ⟨X, p1, _, rfl⟩ := hN
  have hl : (X.map ndOf).length = l.length + 1 := by rw [List.length_map, ← p1.length_eq, allW_len]
  have ho := treeOk_of (ps := h.ps) (N0 := X.map ndOf) hk.ps hk.n8 (fun nd hnd => by obtain ⟨x, _, rfl⟩ := List.mem_map.1 hnd; rfl) (fun nd hnd => by
    obtain ⟨x, hx, rfl⟩ := List.mem_map.1 hnd
    have hn8 := hk.n8
    rcases List.mem_append.1 (p1.mem_iff.2 hx) with hx | hx
    · obtain ⟨s, a1, a2, a3, a4, _, a5, a6, a7⟩ := wghs_ok hp x hx
      simp only [ndOf, a4]
      omega
    · rw [List.mem_singleton.1 hx]
      have : 2 ^ h.ps.length ≤ 256 := by
        have := Nat.pow_le_pow_right (show 0 < 2 by decide) hk.n8
        omega
      simp only [ndOf]
      omega) (by omega) (by omega)
  rwa [hl] at ho
end Go.Proofs.Ytojgdallodmanaa
