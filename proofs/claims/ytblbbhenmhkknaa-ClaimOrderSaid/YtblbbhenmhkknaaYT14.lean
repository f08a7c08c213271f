/- ClaimOrder: the halves of a list that is parted, and the region that makes the other estate and truth. -/
import Derived.Test.YtblbbhenmhkknaaYT10
import Derived.Test.YtblbbhenmhkknaaYT11
import Derived.Test.YtblbbhenmhkknaaYT12
namespace Go.Proofs.Ytblbbhenmhkknaa
open Go.RowKit

theorem sl10_4 (A : Option Addr) (n cap k : Nat) (hk : (k : Int) ≤ (cap : Int)) (a : Act) (w : World) (h1' : a.eval (.tmp 52) = .slice A n cap) (h2' : a.eval (.tmp 53) = .int .i64 k) : (execOp a.eval (opN ops11_10 4)).run Try.prog w = .ok (.value (.slice A k cap)) w := by
  obtain ⟨o, e⟩ : ∃ o, o = opN ops11_10 4 := ⟨_, rfl⟩
  rw [← e]
  conv at e => rhs; whnf
  subst e
  have h0 : (0 : Int) ≤ (k : Int) := by omega
  have h1 : a.tmps[52]?.getD undef = .slice A n cap := by simpa [Act.eval] using h1'
  have h2 : a.tmps[53]?.getD undef = .int .i64 k := by simpa [Act.eval] using h2'
  clear h1' h2'
  go_simp
theorem sl10_16 (A : Option Addr) (n cap k : Nat) (hk : (k : Int) ≤ (n : Int)) (a : Act) (w : World) (h1' : a.eval (.tmp 64) = .slice A n cap) (h2' : a.eval (.tmp 65) = .int .i64 k) : (execOp a.eval (opN ops11_10 16)).run Try.prog w = .ok (.value (.slice (if cap = k then A else A.map fun x => x.add (k * 4)) (n - k) (cap - k))) w := by
  obtain ⟨o, e⟩ : ∃ o, o = opN ops11_10 16 := ⟨_, rfl⟩
  rw [← e]
  conv at e => rhs; whnf
  subst e
  have h0 : (0 : Int) ≤ (k : Int) := by omega
  have h1 : a.tmps[64]?.getD undef = .slice A n cap := by simpa [Act.eval] using h1'
  have h2 : a.tmps[65]?.getD undef = .int .i64 k := by simpa [Act.eval] using h2'
  clear h1' h2'
  go_simp
theorem sl11_4 (A : Option Addr) (n cap k : Nat) (hk : (k : Int) ≤ (cap : Int)) (a : Act) (w : World) (h1' : a.eval (.tmp 71) = .slice A n cap) (h2' : a.eval (.tmp 72) = .int .i64 k) : (execOp a.eval (opN ops11_11 4)).run Try.prog w = .ok (.value (.slice A k cap)) w := by
  obtain ⟨o, e⟩ : ∃ o, o = opN ops11_11 4 := ⟨_, rfl⟩
  rw [← e]
  conv at e => rhs; whnf
  subst e
  have h0 : (0 : Int) ≤ (k : Int) := by omega
  have h1 : a.tmps[71]?.getD undef = .slice A n cap := by simpa [Act.eval] using h1'
  have h2 : a.tmps[72]?.getD undef = .int .i64 k := by simpa [Act.eval] using h2'
  clear h1' h2'
  go_simp
theorem sl11_16 (A : Option Addr) (n cap k : Nat) (hk : (k : Int) ≤ (n : Int)) (a : Act) (w : World) (h1' : a.eval (.tmp 83) = .slice A n cap) (h2' : a.eval (.tmp 84) = .int .i64 k) : (execOp a.eval (opN ops11_11 16)).run Try.prog w = .ok (.value (.slice (if cap = k then A else A.map fun x => x.add (k * 1)) (n - k) (cap - k))) w := by
  obtain ⟨o, e⟩ : ∃ o, o = opN ops11_11 16 := ⟨_, rfl⟩
  rw [← e]
  conv at e => rhs; whnf
  subst e
  have h0 : (0 : Int) ≤ (k : Int) := by omega
  have h1 : a.tmps[83]?.getD undef = .slice A n cap := by simpa [Act.eval] using h1'
  have h2 : a.tmps[84]?.getD undef = .int .i64 k := by simpa [Act.eval] using h2'
  clear h1' h2'
  go_simp
theorem sl12_3 (A : Option Addr) (n cap k : Nat) (hk : (k : Int) ≤ (cap : Int)) (a : Act) (w : World) (h1' : a.eval (.tmp 89) = .slice A n cap) (h2' : a.eval (.tmp 90) = .int .i64 k) : (execOp a.eval (opN ops11_12 3)).run Try.prog w = .ok (.value (.slice A k cap)) w := by
  obtain ⟨o, e⟩ : ∃ o, o = opN ops11_12 3 := ⟨_, rfl⟩
  rw [← e]
  conv at e => rhs; whnf
  subst e
  have h0 : (0 : Int) ≤ (k : Int) := by omega
  have h1 : a.tmps[89]?.getD undef = .slice A n cap := by simpa [Act.eval] using h1'
  have h2 : a.tmps[90]?.getD undef = .int .i64 k := by simpa [Act.eval] using h2'
  clear h1' h2'
  go_simp
theorem sl12_10 (A : Option Addr) (n cap k : Nat) (hk : (k : Int) ≤ (n : Int)) (a : Act) (w : World) (h1' : a.eval (.tmp 96) = .slice A n cap) (h2' : a.eval (.tmp 97) = .int .i64 k) : (execOp a.eval (opN ops11_12 10)).run Try.prog w = .ok (.value (.slice (if cap = k then A else A.map fun x => x.add (k * 1)) (n - k) (cap - k))) w := by
  obtain ⟨o, e⟩ : ∃ o, o = opN ops11_12 10 := ⟨_, rfl⟩
  rw [← e]
  conv at e => rhs; whnf
  subst e
  have h0 : (0 : Int) ≤ (k : Int) := by omega
  have h1 : a.tmps[96]?.getD undef = .slice A n cap := by simpa [Act.eval] using h1'
  have h2 : a.tmps[97]?.getD undef = .int .i64 k := by simpa [Act.eval] using h2'
  clear h1' h2'
  go_simp
end Go.Proofs.Ytblbbhenmhkknaa
