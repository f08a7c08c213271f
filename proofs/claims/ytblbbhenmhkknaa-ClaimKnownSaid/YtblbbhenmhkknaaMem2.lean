/- Words for memory, continued: a cell behind a call. -/
import Derived.Test.YtblbbhenmhkknaaMem
namespace Go.Proofs.Ytblbbhenmhkknaa
open Go.RowKit
theorem lt_of_cell {w : World} {b o : Nat} {v : Value} (h : w.cell? ⟨b, o, none⟩ = some v) : b < w.heap.size := by
  rcases Nat.lt_or_ge b w.heap.size with hlt | hge
  · exact hlt
  · simp [World.cell?, Array.getElem?_eq_none hge] at h
theorem keepC {W w1 : World} (hb : Below W.heap.size W w1) {b o : Nat} {v : Value} (h : W.cell? ⟨b, o, none⟩ = some v) : w1.cell? ⟨b, o, none⟩ = some v :=
  (hb.cell (p := ⟨b, o, none⟩) (lt_of_cell h)).trans h
theorem keepF {W w1 : World} (hb : Below W.heap.size W w1) {b o : Nat} {v : Value} (h : W.cell? ⟨b, o, none⟩ = some v) : w1.frozen? ⟨b, o, none⟩ = W.frozen? ⟨b, o, none⟩ :=
  hb.frozen (p := ⟨b, o, none⟩) (lt_of_cell h)
theorem keepA {w : World} {b o : Nat} {v : Value} (h : w.cell? ⟨b, o, none⟩ = some v) (ob : Obj) : (w.alloc ob).cell? ⟨b, o, none⟩ = some v :=
  (World.cell?_alloc_lt w ob ⟨b, o, none⟩ (lt_of_cell h)).trans h
end Go.Proofs.Ytblbbhenmhkknaa
