/- What two lists with the same weighings answer: contracts for BlockOrder. -/
import Derived.Test.YtojgdallodmanaaYK8
import Derived.Test.YtojgdallodmanaaYHeavy
namespace Go.Proofs.Ytojgdallodmanaa
open Go.RowKit

theorem row_nats {W : World} {base n cap : Nat} {A : Option Addr} {L : List Nat} (hl : L.length = n) (h : W.ownsRow base 3 1 (.slice A n cap) n (L.map nv)) : Rd1 nv W W.heap.size A L := by
  subst hl
  obtain ⟨A9, c9, hv9, hR9, _⟩ := own_rd1 h
  injection hv9 with h2
  rw [h2]
  exact hR9
theorem nats_ints {W : World} {B : Nat} {A : Option Addr} {L : List Nat} (h : Rd1 nv W B A L) : Rd1 iv W B A (L.map (fun x : Nat => (x : Int))) := by
  intro i x hx
  rw [List.getElem?_map] at hx
  cases e : L[i]? with
  | none => rw [e] at hx; cases hx
  | some y =>
    rw [e] at hx
    injection hx with hx
    subst hx
    exact h i y e
section
variable {h : Hul} {l m : List Wgh}
theorem few_len {N : List Nd} (hn8 : h.ps.length ≤ 8) (hf : (fewOf h N).1 ≤ h.ps.length) : ((fewOf h N).2.take h.ps.length).length = h.ps.length := by
  have := (cutsL_mem hn8 hn8 _ (few_some hf).1).1
  rw [List.length_take, this]
  omega
/-- The cut and the error that Fewest answers for every list with these weighings. -/
theorem fewAns (hp : openPre h l = 0) (hf : Feas h l) : ∃ (FL : List Nat) (FE : Int), FL.length ≤ 8 ∧ ∀ m, openPre h m = 0 → (∀ x, x ∈ m ↔ x ∈ l) → ∀ V e w', FewestPost h m V e w' → Below V.heap.size V w' ∧ ∃ A c, e = .returned (.tuple #[.slice A FL.length c, iv FE]) ∧ Rd1 nv w' w'.heap.size A FL := by
  have hk := hulOk (openPre_zero hp).1
  have hn8 := hk.n8
  have hnil : ∀ m V e w', openPre h m = 0 → (∀ x, x ∈ m ↔ x ∈ l) → FewestPost h m V e w' → ∃ N, IsTree h m N := by
    intro m V e w' hq hm ⟨_, hc⟩
    rcases hc with ⟨hne, _⟩ | ⟨_, _, _, N, hN, _⟩
    · exact absurd (openE_zero hq ((feas_same hm h).2 hf)) hne
    · exact ⟨N, hN⟩
  by_cases hex : ∃ m N, openPre h m = 0 ∧ (∀ x, x ∈ m ↔ x ∈ l) ∧ IsTree h m N
  · obtain ⟨m0, N0, hq0, hm0, hN0⟩ := hex
    have key2 : ∀ m, openPre h m = 0 → (∀ x, x ∈ m ↔ x ∈ l) → ∀ V e w', FewestPost h m V e w' → Below V.heap.size V w' ∧ ((h.ps.length < (fewOf h N0).1 ∧ e = .returned (.tuple #[.slice none 0 0, iv 9])) ∨ ((fewOf h N0).1 ≤ h.ps.length ∧ ∃ A cap, e = .returned (.tuple #[.slice A h.ps.length cap, iv 0]) ∧ w'.ownsRow V.heap.size 3 1 (.slice A h.ps.length cap) h.ps.length (((fewOf h N0).2.take h.ps.length).map nv))) := by
      intro m hq hm V e w' ⟨hb, hc⟩
      rcases hc with ⟨hne, _⟩ | ⟨_, _, _, N, hN, hc⟩
      · exact absurd (openE_zero hq ((feas_same hm h).2 hf)) hne
      · have hmm : ∀ x, x ∈ m ↔ x ∈ m0 := fun x => (hm x).trans (hm0 x).symm
        rw [few_ord hq0 hq hmm ((feas_same hm0 h).2 hf) hN0 hN] at hc
        exact ⟨hb, hc⟩
    by_cases hc0 : h.ps.length < (fewOf h N0).1
    · refine ⟨[], 9, by simp, fun m hq hm V e w' hpost => ?_⟩
      obtain ⟨hb, hc⟩ := key2 m hq hm V e w' hpost
      rcases hc with ⟨_, rfl⟩ | ⟨h2, _⟩
      · exact ⟨hb, none, 0, rfl, Rd1.nil⟩
      · omega
    · have hfl := few_len (h := h) (N := N0) hn8 (by omega)
      refine ⟨(fewOf h N0).2.take h.ps.length, 0, by rw [hfl]; exact hn8, fun m hq hm V e w' hpost => ?_⟩
      obtain ⟨hb, hc⟩ := key2 m hq hm V e w' hpost
      rcases hc with ⟨h2, _⟩ | ⟨_, A, c, rfl, hown⟩
      · exact absurd h2 hc0
      · exact ⟨hb, A, c, by rw [hfl], row_nats hfl hown⟩
  · exact ⟨[], 0, by simp, fun m hq hm V e w' hpost => absurd (hnil m V e w' hq hm hpost) fun ⟨N, hN⟩ => hex ⟨m, N, hq, hm, hN⟩⟩
/-- What Weights answers for every list with these weighings. -/
theorem weightsAns (hp : openPre h l = 0) (hf : Feas h l) (hq : openPre h m = 0) (hm : ∀ x, x ∈ m ↔ x ∈ l) {V : World} {e : Ending} {w' : World} (hpost : WeightsPost h m V e w') : Below V.heap.size V w' ∧ ∃ A c, e = .returned (.tuple #[.slice A (spansRef h l h.ps.length).length c, iv 0]) ∧ RdN 2 encSp w' w'.heap.size A (spansRef h l h.ps.length) := by
  obtain ⟨hb, hc⟩ := hpost
  have hfm := (feas_same hm h).2 hf
  have hl2 := spansRef_len h l h.ps.length
  rcases hc with ⟨hne, _⟩ | ⟨_, _, _, N, A, c, hN, rfl, hown⟩
  · exact absurd (openE_zero hq hfm) hne
  · rw [spans_ref hq hN hfm, spansRef_same hp hq hm hf] at hown
    exact ⟨hb, A, c, by rw [hl2], row_spans hl2 hown⟩
/-- What Heaviest answers for every list with these weighings. -/
theorem heavyAns (hp : openPre h l = 0) (hf : Feas h l) (hq : openPre h m = 0) (hm : ∀ x, x ∈ m ↔ x ∈ l) {s : Nat} (h0 : 0 < s) (hs : s < 2 ^ h.ps.length) (hh : hangsB h.js s = true) {V : World} {e : Ending} {w' : World} (hpost : HeaviestPost h m (s : Int) V e w') :
    Below V.heap.size V w' ∧ ∃ A c, e = .returned (.tuple #[.slice A (lowL h l s (mostRef h l s) h.ps.length).length c, iv 0]) ∧ Rd1 iv w' w'.heap.size A (lowL h l s (mostRef h l s) h.ps.length) := by
  obtain ⟨hb, hc⟩ := hpost
  have hfm := (feas_same hm h).2 hf
  have hl2 := lowL_len h l s (mostRef h l s) h.ps.length
  have hen : enterE h m (s : Int) = 0 := by unfold enterE; rw [if_pos (openE_zero hq hfm)]; exact blockE_ok h0 hs hh
  have hM : IsMost h m s (mostRef h m s) := by
    obtain ⟨a, b, c⟩ := lwOk hq
    exact (a.most_is b c hfm hs).2
  rcases hc with ⟨hne, _⟩ | ⟨_, _, _, _, N, A, c, hN, rfl, hown⟩
  · exact absurd hen hne
  · rw [Int.toNat_natCast, mostV_ref hq hN hfm hs, limL_low hq hN hs hM, mostRef_same hp hq hm hf hs, lowL_same hm] at hown
    exact ⟨hb, A, c, by rw [hl2], row_ints hl2 hown⟩
end
end Go.Proofs.Ytojgdallodmanaa
