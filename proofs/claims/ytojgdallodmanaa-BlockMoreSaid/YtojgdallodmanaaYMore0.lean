/- BlockMore: how long a list of weighings can be. -/
import Derived.SizedLaws
import Derived.Test.YtojgdallodmanaaZ0771ae
namespace Go.Proofs.Ytojgdallodmanaa
open Go.RowKit Go.ChangeShapes Go.WideShapes Go.Deep
theorem bytes82 : Try.prog.bytesOf 82 = 24 := by kernel_rfl
theorem wghs_read {H : Type} {enc : TypeId × Value → H} {W : World} {base : Nat} {spare : Nat → Bool} {held : Bool} {A : Option Addr} {n cap : Nat} {d : DataW H} {p : List MemPlace} (h : DataW.Trod enc Try.prog W base spare held 28 (.slice A n cap) d p) : n = 0 ∨ ∃ e s, d = .slice e s ∧ e.length = n := by
  obtain ⟨fuel, hf⟩ := h
  rcases DataW.trod_slice Try.underlying28 hf with ⟨e, _⟩ | ⟨a, len, c, es, rs, m, _, e, ex, _, _, _, hl, _⟩
  · have e' : Value.slice A n cap = .slice none 0 0 := List.head_eq_of_cons_eq e
    injection e' with _ e2
    exact .inl e2
  · have e' : Value.slice A n cap = .slice (some a) len c := List.head_eq_of_cons_eq e
    injection e' with _ e2
    simp only [Prod.mk.injEq] at ex
    exact .inr ⟨_, _, ex.1, by rw [List.length_map, hl, e2]⟩
end Go.Proofs.Ytojgdallodmanaa
