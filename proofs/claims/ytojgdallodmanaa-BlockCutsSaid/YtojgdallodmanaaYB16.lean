/- tree: its first loop. -/
import Derived.Test.YtojgdallodmanaaZ2caf35
import Derived.Test.YtojgdallodmanaaYB15
namespace Go.Proofs.Ytojgdallodmanaa
open Go.RowKit

/-- A node as it is laid: nothing is in it yet. -/
structure NodeAt (w : World) (b : Nat) (x : Wgh) : Prop where
  c0 : w.cell? ⟨b, 0, none⟩ = some (iv x.lo)
  c1 : w.cell? ⟨b, 1, none⟩ = some (iv x.hi)
  c2 : w.cell? ⟨b, 2, none⟩ = some (iv x.set)
  c3 : w.cell? ⟨b, 3, none⟩ = some (iv x.set)
  c4 : w.cell? ⟨b, 4, none⟩ = some (.slice none 0 0)
  fz : ∀ o, w.frozen? ⟨b, o, none⟩ = false

/-- The nodes so far: each in a block of its own, none in the row's. -/
structure Laid (w0 : World) (w : World) (X : List Wgh) (v : Value) (bs : List Nat) : Prop where
  own : w.ownsRow w0.heap.size 102 1 v bs.length (bs.map ptr)
  node : ∀ (i b : Nat) (x : Wgh), bs[i]? = some b → X[i]? = some x → NodeAt w b x
  apart : ∀ b ∈ bs, w0.heap.size ≤ b ∧ b < w.heap.size ∧ v.ownBlock ≠ some b
  nodup : bs.Nodup
  below : Below w0.heap.size w0 w

theorem cellNew (w : World) (l : List Value) (t : TypeId) (o : Nat) : (w.alloc (.cells l.toArray t)).cell? ⟨w.heap.size, o, none⟩ = l[o]? := by
  have hh : (w.alloc (.cells l.toArray t)).heap[w.heap.size]? = some (.cells l.toArray t) := by rw [← World.alloc_eq]; simp
  simp only [World.cell?, hh]
  simp
theorem frozenNew (w : World) (cs : Array Value) (t : TypeId) (o : Nat) : (w.alloc (.cells cs t)).frozen? ⟨w.heap.size, o, none⟩ = false := by
  go_simp
/-- Behind a round of the loop: a copy of the weighing, a node, a row of one, and the append. -/
theorem Laid.more {w0 w w3 : World} {X : List Wgh} {v v' : Value} {bs : List Nat} {x : Wgh} {o1 o3 : Obj} (h : Laid w0 w X v bs) (hx : X[bs.length]? = some x)
    (hg : (((w.alloc o1).alloc (.cells #[iv x.lo, iv x.hi, iv x.set, iv x.set, .slice none 0 0] 155)).alloc o3).grownBy w3 v.ownBlock)
    (ho : w3.ownsRow w0.heap.size 102 1 v' (bs.length + 1) (bs.map ptr ++ [ptr (w.heap.size + 1)]))
    (hv : v'.ownBlock = v.ownBlock ∨ v'.ownBlock = some (w.heap.size + 3)) : Laid w0 w3 X v' (bs ++ [w.heap.size + 1]) := by
  have hb3 := belowA (belowA (belowA h.below o1) (.cells #[iv x.lo, iv x.hi, iv x.set, iv x.set, .slice none 0 0] 155)) o3
  have hsz := hg.size
  simp only [World.size_alloc] at hsz
  have hz0 := h.below.size
  have hvb : ∀ b, v.ownBlock = some b → w0.heap.size ≤ b ∧ b < w.heap.size := fun b hb => h.own.lt b hb
  have hvn : ∀ b, w.heap.size ≤ b → v.ownBlock ≠ some b := fun b hb e => by have := (hvb b e).2; omega
  refine ⟨by simpa using ho, fun i b y hi hy => ?_, fun b hb => ?_, ?_, ?_⟩
  · rcases Nat.lt_or_ge i bs.length with hlt | hge
    · rw [List.getElem?_append_left hlt] at hi
      have hn := h.node i b y hi hy
      obtain ⟨a1, a2, a3⟩ := h.apart b (List.mem_of_getElem? hi)
      have k : ∀ {o u}, w.cell? ⟨b, o, none⟩ = some u → w3.cell? ⟨b, o, none⟩ = some u := fun hc => hg.cell (keepA (keepA (keepA hc _) _) _) (fun e => a3 e.symm)
      refine ⟨k hn.c0, k hn.c1, k hn.c2, k hn.c3, k hn.c4, fun o => ?_⟩
      rw [World.frozen?_of_block (a := ⟨b, o, none⟩) (hg.block b (by simp; omega) (fun e => a3 e.symm)), keepAF (by simp; omega), keepAF (by simp; omega), keepAF a2]
      exact hn.fz o
    · have hil : i < (bs ++ [w.heap.size + 1]).length := (List.getElem?_eq_some_iff.1 hi).1
      rw [List.length_append, List.length_singleton] at hil
      obtain rfl : i = bs.length := by omega
      rw [List.getElem?_append_right (Nat.le_refl _)] at hi
      simp at hi
      subst hi
      rw [hx] at hy
      injection hy with hy
      subst hy
      obtain ⟨W1, hW1⟩ : ∃ W1, w.alloc o1 = W1 := ⟨_, rfl⟩
      have e : W1.heap.size = w.heap.size + 1 := by rw [← hW1]; simp
      rw [hW1] at hg
      rw [← e]
      have hne : v.ownBlock ≠ some W1.heap.size := hvn _ (by omega)
      have k : ∀ {o u}, [iv x.lo, iv x.hi, iv x.set, iv x.set, Value.slice none 0 0][o]? = some u → w3.cell? ⟨W1.heap.size, o, none⟩ = some u := fun {o u} hu => hg.cell (keepA ((cellNew W1 [iv x.lo, iv x.hi, iv x.set, iv x.set, .slice none 0 0] 155 o).trans hu) _) (fun e2 => hne e2.symm)
      refine ⟨k rfl, k rfl, k rfl, k rfl, k rfl, fun o => ?_⟩
      rw [World.frozen?_of_block (a := ⟨W1.heap.size, o, none⟩) (hg.block _ (by simp; omega) (fun e2 => hne e2.symm)), keepAF (by simp), frozenNew]
  · rcases List.mem_append.1 hb with hb | hb
    · obtain ⟨a1, a2, a3⟩ := h.apart b hb
      refine ⟨a1, by omega, fun e => ?_⟩
      rcases hv with hv | hv
      · exact a3 (hv ▸ e)
      · rw [hv] at e; injection e with e; omega
    · have hbe : b = w.heap.size + 1 := by simpa using hb
      subst hbe
      refine ⟨by omega, by omega, fun e => ?_⟩
      rcases hv with hv | hv
      · exact hvn _ (by omega) (hv ▸ e)
      · rw [hv] at e; injection e with e; omega
  · rw [List.nodup_append]
    refine ⟨h.nodup, by simp, fun a ha b hb => ?_⟩
    have hbe : b = w.heap.size + 1 := by simpa using hb
    have := (h.apart a ha).2.1
    omega
  · exact hb3.grown hg hb3.size (fun k hk => (hvb k hk).1)
end Go.Proofs.Ytojgdallodmanaa
