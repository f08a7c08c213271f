/- BlockMore: the plain law. No program is named here. -/
import Derived.Test.YtojgdallodmanaaZ49bf15
import Derived.Test.YtojgdallodmanaaYK9
namespace Go.Proofs.Ytojgdallodmanaa
open Go.RowKit

section
variable {h : Hul} {l m : List Wgh} {s : Nat}
/-- More weighings: each truth of them is a truth of the fewer. -/
theorem more_pre (hp : openPre h m = 0) (hs : ∀ x ∈ l, x ∈ m) (hl : l.length ≤ 6) : openPre h l = 0 := pre_same hp hs hl
theorem more_truth (hs : ∀ x ∈ l, x ∈ m) {w : Nat → Int} (hw : TruthP h m w) : TruthP h l w := ⟨hw.1, fun x hx => hw.2 x (hs x hx)⟩
theorem more_feas (hs : ∀ x ∈ l, x ∈ m) (hf : Feas h m) : Feas h l := by
  obtain ⟨w, hw⟩ := hf
  exact ⟨w, more_truth hs hw⟩
theorem mostRef_is (hp : openPre h l = 0) (hf : Feas h l) (hs : s < 2 ^ h.ps.length) : IsMost h l s (mostRef h l s) := by
  obtain ⟨a, b, c⟩ := lwOk hp
  exact (a.most_is b c hf hs).2
theorem leastRef_is (hp : openPre h l = 0) (hf : Feas h l) (hs : s < 2 ^ h.ps.length) : IsLeast h l s (leastRef h l s) := by
  obtain ⟨a, b, c⟩ := lwOk hp
  exact a.leastRef_is b c hf hs
theorem more_ends (hp : openPre h l = 0) (hq : openPre h m = 0) (hs : ∀ x ∈ l, x ∈ m) (hf : Feas h m) (hlt : s < 2 ^ h.ps.length) : mostRef h m s ≤ mostRef h l s ∧ leastRef h l s ≤ leastRef h m s ∧ 0 ≤ leastRef h l s ∧ 0 ≤ mostRef h m s ∧ mostRef h l s ≤ 800000 ∧ leastRef h m s ≤ 800000 := by
  have hfl := more_feas hs hf
  have a := mostRef_is hp hfl hlt
  have b := mostRef_is hq hf hlt
  have c := leastRef_is hp hfl hlt
  have d := leastRef_is hq hf hlt
  have hk := hulOk (openPre_zero hp).1
  have hn8 := hk.n8
  obtain ⟨w1, t1, e1⟩ := a.2
  obtain ⟨w2, t2, e2⟩ := b.2
  obtain ⟨w3, t3, e3⟩ := c.2
  obtain ⟨w4, t4, e4⟩ := d.2
  have h1 := a.1 w2 (more_truth hs t2)
  have h2 := c.1 w4 (more_truth hs t4)
  have b1 := truth_bd hk t1 hlt
  have b2 := truth_bd hk (more_truth hs t2) hlt
  have b3 := truth_bd hk t3 hlt
  have b4 := truth_bd hk (more_truth hs t4) hlt
  omega
/-- What Pull answers. -/
theorem pullAns (hp : openPre h l = 0) (hf : Feas h l) (h0 : 0 < s) (hs : s < 2 ^ h.ps.length) (hh : hangsB h.js s = true) {V : World} {e : Ending} {w' : World} (hpost : PullPost h l (s : Int) V e w') :
    Below V.heap.size V w' ∧ e = .returned (.tuple #[.agg #[iv (pullV h (leastRef h l s) (mostRef h l s)).1, iv (pullV h (leastRef h l s) (mostRef h l s)).2], iv 0]) := by
  obtain ⟨hb, hc⟩ := hpost
  have hen : enterE h l (s : Int) = 0 := by unfold enterE; rw [if_pos (openE_zero hp hf)]; exact blockE_ok h0 hs hh
  rcases hc with ⟨hne, _⟩ | ⟨_, _, _, _, N, hN, rfl⟩
  · exact absurd hen hne
  · rw [Int.toNat_natCast, mostV_ref hp hN hf hs, leastV_ref hp hN hf hs]
    exact ⟨hb, rfl⟩
theorem more_pull (hr : HulRight h) {a b c d : Int} (hba : b ≤ a) (hcd : c ≤ d) (h0 : 0 ≤ c) (h1 : 0 ≤ b) : (pullV h c a).1 ≤ (pullV h d b).1 ∧ (pullV h d b).2 ≤ (pullV h c a).2 := by
  have hs1 := hr.s1
  have hs2 := hr.s2
  unfold pullV
  simp only
  constructor
  · have e : c * h.slo ≤ d * h.slo := Int.mul_le_mul_of_nonneg_right hcd (by omega)
    have e0 : 0 ≤ c * h.slo := Int.mul_nonneg h0 (by omega)
    rw [Int.tdiv_eq_ediv_of_nonneg e0, Int.tdiv_eq_ediv_of_nonneg (by omega)]
    omega
  · have e : b * h.shi ≤ a * h.shi := Int.mul_le_mul_of_nonneg_right hba (by omega)
    have e0 : 0 ≤ b * h.shi := Int.mul_nonneg h1 (by omega)
    unfold upD
    rw [Int.tdiv_eq_ediv_of_nonneg (by omega), Int.tdiv_eq_ediv_of_nonneg (by omega)]
    omega
theorem spansRef_at {i : Nat} (hi : i < h.ps.length) : (spansRef h l h.ps.length)[i]? = some (leastRef h l (2 ^ i), mostRef h l (2 ^ i)) := by
  unfold spansRef
  rw [List.getElem?_map, List.getElem?_range hi]
  rfl
theorem more_few (hp : openPre h l = 0) (hq : openPre h m = 0) (hs : ∀ x ∈ l, x ∈ m) (hf : Feas h m) {q1 q2 : List Nat} {E1 E2 : Int} (H1 : FewFact h l q1 E1) (H2 : FewFact h m q2 E2) : E1 = 0 → E2 = 0 ∧ manyTo q2 q2.length ≤ manyTo q1 q1.length := by
  intro e
  obtain ⟨N1, t1, c1⟩ := H1
  obtain ⟨N2, t2, c2⟩ := H2
  have hl : (fewOf h N1).1 ≤ h.ps.length := by omega
  have := few_easier hp hq (more_feas hs hf) hf t1 t2 rfl rfl (fun w hw => ⟨w, more_truth hs hw, fun _ _ => Int.le_refl _⟩) (Int.le_refl _) (Int.le_refl _) hl
  omega
end
end Go.Proofs.Ytojgdallodmanaa
