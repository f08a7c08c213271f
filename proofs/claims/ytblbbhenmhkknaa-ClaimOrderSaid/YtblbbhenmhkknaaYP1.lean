/- Plain laws of what claims get. No program is walked here. -/
import Derived.Test.YtblbbhenmhkknaaZ98006c
import Derived.Test.YtblbbhenmhkknaaYR2
namespace Go.Proofs.Ytblbbhenmhkknaa
open Go.RowKit

theorem anyD_at {cs : List Clm} {us : List Int} {n i : Nat} {c : Clm} (hi : i < n) (h : cs[i]? = some c) : (anyD cs us n)[i]? = some (amongI c.lo c.hi (turnI us (i + 1))) := by
  unfold anyD
  rw [List.getElem?_map, List.getElem?_range hi]
  simp [h]
theorem centsOk_all {cs : List Cl3} {ds : List Int} {k : Nat} (h : ∀ (i : Nat) (c : Cl3) (d : Int), cs[i]? = some c → ds[i]? = some d → c.lo ≤ d ∧ d ≤ c.hi) : centsOk cs ds k = true := by
  unfold centsOk
  rw [List.all_eq_true]
  intro i _
  split
  · rename_i c d hc hd
    have := h i c d hc hd
    exact inB_mk this.1 this.2
  · rfl
theorem any_truth {lo hi : Int} {cs : List Clm} {us : List Int} (hE : estErr lo hi cs = 0) : truthE lo hi cs (anyP lo hi us) (anyD cs us cs.length) = 0 := by
  have hest := est_ok hE
  have h1 := amongI_bd (n := turnI us 0) hest.span.2.1
  unfold truthE
  rw [if_pos hE, if_pos (anyD_len _ _ _), show inB lo hi (anyP lo hi us) = true from inB_mk h1.1 h1.2]
  rw [centsOk_all]
  · rfl
  · intro i c d hc hd
    rw [List.getElem?_map] at hc
    cases hx : cs[i]? with
    | none => rw [hx] at hc; simp at hc
    | some x =>
      rw [hx] at hc
      simp only [Option.map_some, Option.some.injEq] at hc
      subst hc
      have hil := (List.getElem?_eq_some_iff.1 hx).1
      rw [anyD_at hil hx] at hd
      injection hd with hd
      subst hd
      exact amongI_bd (hest.each x (List.mem_of_getElem? hx)).2.2.2.2.1

theorem pays_len (l : List Cl3) (P : Int) : (pays l P).length = l.length := by simp [pays]
theorem pays_get {l : List Cl3} {P : Int} {i : Nat} {c : Cl3} (h : l[i]? = some c) : (pays l P)[i]? = some (payAt l P c) := by simp [pays, h]

/-- Shares of one rank, rounded down. -/
theorem share_lt {L S a b : Int} (hS : 0 < S) (ha : 0 < a) : L * a / S * b - L * b / S * a < a ∨ b < 0 := by
  by_cases hb : b < 0
  · exact .inr hb
  left
  have h1 : L * a / S * S ≤ L * a := Int.ediv_mul_le _ (by omega)
  have h2 : L * b < (L * b / S + 1) * S := Int.lt_ediv_add_one_mul_self _ hS
  obtain ⟨x, hx⟩ : ∃ x, L * a / S = x := ⟨_, rfl⟩
  obtain ⟨y, hy⟩ : ∃ y, L * b / S = y := ⟨_, rfl⟩
  rw [hx] at h1 ⊢
  rw [hy] at h2 ⊢
  have h3 : x * S * b ≤ L * a * b := Int.mul_le_mul_of_nonneg_right h1 (by omega)
  have h4 : L * b * a < (y + 1) * S * a := Int.mul_lt_mul_of_pos_right h2 ha
  have h5 : (x * b - y * a) * S < a * S := by
    have e1 : (x * b - y * a) * S = x * S * b - y * S * a := by
      rw [Int.sub_mul, Int.mul_right_comm x b S, Int.mul_right_comm y a S]
    have e2 : (y + 1) * S * a = y * S * a + a * S := by rw [Int.add_mul, Int.add_mul, Int.one_mul, Int.mul_comm S a]
    have e3 : L * a * b = L * b * a := Int.mul_right_comm L a b
    rw [e1]
    rw [e2] at h4
    rw [e3] at h3
    omega
  exact Int.lt_of_mul_lt_mul_right h5 (by omega)
theorem shares_law {l : List Cl3} {P : Int} {c d : Cl3} (hok : C3Ok l) (hc : c ∈ l) (hr : c.rank = d.rank) (ha : 0 < c.lo) (hb : 0 < d.lo) :
    payAt l P c * d.lo - payAt l P d * c.lo < c.lo := by
  have hge := sumR_ge l (fun x hx => (hok x hx).2.2.1) c hc
  unfold payAt
  rw [← hr]
  obtain ⟨U, hU⟩ : ∃ U, upToR l c.rank.toNat = U := ⟨_, rfl⟩
  obtain ⟨S, hS⟩ : ∃ S, sumR Cl3.lo l c.rank = S := ⟨_, rfl⟩
  rw [hS] at hge
  rw [hU, hS]
  by_cases h1 : U + S ≤ P
  · rw [if_pos h1, if_pos h1, Int.mul_comm d.lo c.lo]; omega
  · rw [if_neg h1, if_neg h1]
    by_cases h2 : U ≤ P
    · rw [if_pos h2, if_pos h2]
      rcases share_lt (L := P - U) (S := S) (a := c.lo) (b := d.lo) (by omega) ha with h | h
      · exact h
      · omega
    · rw [if_neg h2, if_neg h2]; omega
theorem payAt_zero {l : List Cl3} {P : Int} {c : Cl3} (hok : C3Ok l) (hc : c ∈ l) (h : c.lo = 0) : payAt l P c = 0 := by
  have := payAt_bound (P := P) hok hc
  omega
end Go.Proofs.Ytblbbhenmhkknaa
