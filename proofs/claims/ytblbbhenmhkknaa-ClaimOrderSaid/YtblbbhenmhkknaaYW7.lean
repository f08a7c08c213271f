/- The stable sort of the papers' indices by their days: the comparison. -/
import Derived.Test.YtblbbhenmhkknaaZea0523
import Derived.Test.YtblbbhenmhkknaaZ307368
namespace Go.Proofs.Ytblbbhenmhkknaa
open Go.RowKit

def dayOf (ps : List Pap) (i : Nat) : Int := match ps[i]? with | some p => p.day | none => 0

set_option maxRecDepth 100000 in
theorem cmp_any (A : Option Addr) (ps : List Pap) (B cap : Nat) (g x y : Nat) (W : World) (hR : RdN 3 encPap W B A ps) (hg : W.cell? ⟨g, 1, none⟩ = some (.slice A ps.length cap))
    (hd : ∀ p ∈ ps, 0 ≤ p.day ∧ p.day ≤ 40000) (hx : x < ps.length) (hy : y < ps.length) :
    Calls Try.prog 94 #[.int .i64 x, .int .i64 y, .pointer (some ⟨g, 0, none⟩)] W fun e w' => e = .returned (iv (dayOf ps x - dayOf ps y)) ∧ ∃ q, w' = W.drewN q := by
  obtain ⟨p, hp⟩ : ∃ p, ps[x]? = some p := ⟨_, List.getElem?_eq_getElem hx⟩
  obtain ⟨q, hq⟩ : ∃ q, ps[y]? = some q := ⟨_, List.getElem?_eq_getElem hy⟩
  obtain ⟨b, off, rfl, _, c0, _, _⟩ := papAt hR hp
  obtain ⟨b', off', e, _, d0, _, _⟩ := papAt hR hq
  obtain ⟨p1, p2⟩ := hd p (List.mem_of_getElem? hp)
  obtain ⟨q1, q2⟩ := hd q (List.mem_of_getElem? hq)
  have hr : dayOf ps x - dayOf ps y = p.day - q.day := by simp [dayOf, hp, hq]
  injection e with e
  injection e with e1 e2
  subst e1 e2
  obtain ⟨dp, _, _⟩ := p
  obtain ⟨dq, _, _⟩ := q
  simp only at c0 d0 p1 p2 q1 q2 hr
  have HR := Lib.hid hr
  clear hr hd hp hq
  have h1 : (x : Int) < (ps.length : Int) := by omega
  have h2 : (y : Int) < (ps.length : Int) := by omega
  go_enter Try.func94, Try.ntmps94
  go_wp2
  go_quiet (fail)
  go_wp2
  go_ret
  exact ⟨by rw [HR.out]; rfl, _, rfl⟩
end Go.Proofs.Ytblbbhenmhkknaa
