/- BlockFewest: the plain law. No program is named here. -/
import Derived.Test.YtojgdallodmanaaZ9acd8a
import Derived.Test.YtojgdallodmanaaZ9dec06
import Derived.Test.YtojgdallodmanaaZ99a0ea
import Derived.Test.YtojgdallodmanaaYK11
namespace Go.Proofs.Ytojgdallodmanaa
open Go.RowKit

section
variable {h h' : Hul} {l : List Wgh} {N : List Nd} {q f : List Nat}
abbrev intsOf (q : List Nat) : List Int := q.map (fun x : Nat => (x : Int))
theorem cut8_nats (q : List Nat) : cut8 (intsOf q) = pad q := by
  unfold cut8 numsTo pad intsOf
  rw [List.take_length, List.map_map, List.length_map]
  congr 1
  have : (Int.toNat ∘ fun x : Nat => (x : Int)) = id := by funext x; simp
  rw [this, List.map_id]
theorem cutOk_nats (hg : grow 0 q = true) : ∀ k, k ≤ q.length → cutOkTo (intsOf q) k = true := by
  intro k
  induction k with
  | zero => intro _; rfl
  | succ k ih =>
    intro hk
    obtain ⟨x, hx⟩ : ∃ x, q[k]? = some x := ⟨_, List.getElem?_eq_getElem (by omega)⟩
    have hxm := (grow_drop q _ k x (grow_many hg k (by omega)) hx).1
    have hi : (intsOf q)[k]? = some (x : Int) := by rw [List.getElem?_map, hx]; rfl
    rw [cutOkTo, ih (by omega), hi, cut8_nats]
    simp only [Bool.true_and, decide_eq_true_eq]
    omega
/-- What Bad answered of a cut that is one. -/
def BadFact (h : Hul) (l : List Wgh) (q : List Nat) (v : Int) : Prop := ∃ N, IsTree h l N ∧ v = badAt h N (blkTo (pad q) h.ps.length) (manyTo (pad q) h.ps.length)
theorem badFact (ho : openE h l = 0) (hq : q.length = h.ps.length) (hg : grow 0 q = true) {V : World} {e : Ending} {w' : World} (hpost : BadPost h l (intsOf q) V e w') : Below V.heap.size V w' ∧ ∃ v, e = .returned (.tuple #[iv v, iv 0]) ∧ BadFact h l q v := by
  obtain ⟨hb, hc⟩ := hpost
  refine ⟨hb, ?_⟩
  have hl : (intsOf q).length = h.ps.length := by rw [List.length_map]; exact hq
  rcases hc with ⟨hne, _⟩ | ⟨_, _, _, hc⟩
  · exact absurd ho hne
  · rcases hc with ⟨h1, _⟩ | ⟨_, h1, _⟩ | ⟨_, _, N, hN, rfl⟩
    · exact absurd hl h1
    · rw [cutOk_nats hg _ (by rw [hl, hq]; exact Nat.le_refl _)] at h1
      cases h1
    · rw [cut8_nats]
      exact ⟨_, rfl, N, hN, rfl⟩
theorem badAt_iff {sets : List Nat} {many : Nat} : badAt h N sets many = -1 ↔ ∀ i, i < many → goodS h N (sets[i]?.getD 0) = true := by
  constructor
  · intro hv i hi
    unfold badAt at hv
    split at hv
    · omega
    · rename_i hn
      have := List.find?_range_eq_none.1 hn i hi
      simpa using this
  · exact badAt_none
theorem badAt_ge {sets : List Nat} {many : Nat} : -1 ≤ badAt h N sets many := by
  unfold badAt
  split <;> omega
theorem BadFact.ge {v : Int} (H : BadFact h l q v) : -1 ≤ v := by
  obtain ⟨N, _, rfl⟩ := H
  exact badAt_ge
/-- A cut whose blocks hang together, and can be pulled. -/
def GoodCut (h : Hul) (N : List Nd) (q : List Nat) : Prop := ∀ j, j < manyTo (pad q) h.ps.length → hangsB h.js (blkAt (pad q) h.ps.length j) = true ∧ mostV h N (blkAt (pad q) h.ps.length j) * h.shi ≤ 1000 * h.winch
theorem BadFact.good {v : Int} (H : BadFact h l q v) : ∃ N, IsTree h l N ∧ (v = -1 ↔ GoodCut h N q) := by
  obtain ⟨N, hN, rfl⟩ := H
  refine ⟨N, hN, ?_⟩
  rw [badAt_iff]
  unfold goodS GoodCut blkAt
  simp only [Bool.and_eq_true, decide_eq_true_eq]
theorem good_tree (hp : openPre h l = 0) (hf : Feas h l) {N N' : List Nd} (hN : IsTree h l N) (hN' : IsTree h l N') (hG : GoodCut h N q) : GoodCut h N' q := fun j hj => by
  obtain ⟨a, b⟩ := hG j hj
  have e : mostV h N' (blkAt (pad q) h.ps.length j) = mostV h N (blkAt (pad q) h.ps.length j) := IsMost.uniq (mostV_is hp hN' hf (blkAt_lt j)) (mostV_is hp hN hf (blkAt_lt j))
  exact ⟨a, by rw [e]; exact b⟩
theorem grow_lt (hg : grow 0 q = true) (hq : q.length = h.ps.length) : ∀ x ∈ q, x < h.ps.length := fun x hx => by
  obtain ⟨k, hk⟩ := List.getElem?_of_mem hx
  have hkl := (List.getElem?_eq_some_iff.1 hk).1
  have := (grow_drop q _ k x (grow_many hg k (by omega)) hk).1
  have := grow_le_k hg k (by omega)
  omega
/-- No good cut has fewer blocks than that of Fewest. -/
theorem fewest_least (ho : openE h l = 0) (hq : q.length = h.ps.length) (hg : grow 0 q = true) {best : List Nat} {E : Int} (H1 : FewFact h l best E) (H2 : BadFact h l q (-1)) : E = 0 ∧ manyTo best best.length ≤ manyTo q q.length := by
  obtain ⟨hp, hf⟩ := openE_zero_iff ho
  obtain ⟨N, hN, hc⟩ := H1
  obtain ⟨N', hN', hG⟩ := H2.good
  have hG := good_tree hp hf hN' hN (hG.1 rfl)
  have hC : pad q ∈ cutsL h.js h.ps.length h.ps.length := cutsL_iff.2 ⟨q, hq, hg, grow_lt hg hq, by
    unfold hangCut anyTo
    simp only [Bool.not_eq_true', List.any_eq_false, List.mem_range]
    intro j hj
    have := (hG j hj).1
    unfold blkAt at this
    rw [this]
    decide, rfl⟩
  have hle := few_le hC (lightCut_all.2 fun j hj => (hG j hj).2)
  have hm := grow_le_k hg q.length (Nat.le_refl _)
  have e := many_pad (q := q) q.length (Nat.le_refl _)
  rw [← hq] at hle hc
  omega
/-- A finer cut of a good one is good, just if its blocks hang together. -/
theorem finer_good (ho : openE h l = 0) (hq : q.length = h.ps.length) (hg : grow 0 q = true) (hfl : f.length = h.ps.length) (hgf : grow 0 f = true) (hfine : ∀ a b, a < h.ps.length → b < h.ps.length → f[a]? = f[b]? → q[a]? = q[b]?) (H : BadFact h l q (-1)) {v : Int} (K : BadFact h l f v) :
    v = -1 ↔ ∀ j, j < manyTo (pad f) h.ps.length → hangsB h.js (blkAt (pad f) h.ps.length j) = true := by
  obtain ⟨hp, hf⟩ := openE_zero_iff ho
  have hn8 := (pre_right hp).n8
  have hs1 := (pre_right hp).s1
  have hs2 := (pre_right hp).s2
  obtain ⟨N, hN, hG⟩ := H.good
  obtain ⟨N', hN', hK⟩ := K.good
  have hG := good_tree hp hf hN hN' (hG.1 rfl)
  rw [hK]
  refine ⟨fun hh j hj => (hh j hj).1, fun hh j hj => ⟨hh j hj, ?_⟩⟩
  have hmf := grow_le_k hgf f.length (Nat.le_refl _)
  rw [hfl] at hmf
  have hj2 : j < manyTo f h.ps.length := by rw [← hfl, ← many_pad _ (Nat.le_refl _), hfl]; exact hj
  obtain ⟨i, hi, hji⟩ := grow_has hgf h.ps.length (by omega) j hj2
  obtain ⟨c, hc⟩ : ∃ c, q[i]? = some c := ⟨_, List.getElem?_eq_getElem (by omega)⟩
  have hcl := grow_lt hg hq c (List.mem_of_getElem? hc)
  have hsub := fine_sub hq hfl hfine (by omega) hi hji (by omega) hc
  have hcm : c < manyTo (pad q) h.ps.length := by
    have key : ∀ m, i < m → c + 1 ≤ manyTo (pad q) m := by
      intro m
      induction m with
      | zero => intro h; omega
      | succ m ih =>
        intro hm2
        rw [manyTo]
        rcases Nat.lt_or_ge i m with h5 | h5
        · have := ih h5
          split <;> omega
        · obtain rfl : i = m := by omega
          rw [pad_at hc]
          simp only
          omega
    exact key _ hi
  have h1 := most_sub hp hf hN' (blkAt_lt (C := pad f) j) (blkAt_lt (C := pad q) c) hsub
  have h2 := (hG c hcm).2
  exact Int.le_trans (Int.mul_le_mul_of_nonneg_right h1 (by omega)) h2
/-- A hull with one more joint. -/
def moreJ (h : Hul) (j : Int × Int) : Hul := ⟨h.ps, h.js ++ [j], h.slo, h.shi, h.winch⟩
theorem moreJ_open (ho : openE h l = 0) {j : Int × Int} (hc : (checkE (moreJ h j)).2.2 = 0) : openE (moreJ h j) l = 0 := by
  obtain ⟨hp, hf⟩ := openE_zero_iff ho
  have hk := hulOk hc
  obtain ⟨h1, h2, h3, h4⟩ := openPre_iff.1 hp
  refine openE_zero (openPre_iff.2 ⟨hc, h2, fun x hx => ?_, h4⟩) (feas_ps (h := h) rfl hf)
  obtain ⟨a, b⟩ := h3 x hx
  refine ⟨?_, b⟩
  obtain ⟨s, e1, e2, e3, e4, e5⟩ := blockE_zero hk.n8 a
  rw [e4]
  exact blockE_ok e2 e3 (hangs_mono hk.js hk.n8 e1 (fun y hy => List.mem_append_left _ hy) e5)
theorem moreJ_good (ho : openE h l = 0) {j : Int × Int} (hc : (checkE (moreJ h j)).2.2 = 0) (H : BadFact h l q (-1)) {v : Int} (K : BadFact (moreJ h j) l q v) : v = -1 := by
  obtain ⟨hp, hf⟩ := openE_zero_iff ho
  obtain ⟨hp', hf'⟩ := openE_zero_iff (moreJ_open ho hc)
  have hk := hulOk hc
  obtain ⟨N, hN, hG⟩ := H.good
  obtain ⟨N', hN', hK⟩ := K.good
  have hG := hG.1 rfl
  refine hK.2 fun i hi => ?_
  obtain ⟨a, b⟩ := hG i hi
  have hlt := blkAt_lt (C := pad q) (n := h.ps.length) i
  refine ⟨hangs_mono hk.js hk.n8 (Nat.lt_of_lt_of_le hlt (show 2 ^ h.ps.length ≤ 2 ^ 8 from Nat.pow_le_pow_right (by decide) hk.n8)) (fun y hy => List.mem_append_left _ hy) a, ?_⟩
  have c := mostV_is hp hN hf hlt
  have d := mostV_is hp' hN' hf' (s := blkAt (pad q) h.ps.length i) hlt
  unfold IsMost at d
  rw [truth_ps (h := h) (h' := moreJ h j) rfl] at d
  have e : mostV (moreJ h j) N' (blkAt (pad q) h.ps.length i) = mostV h N (blkAt (pad q) h.ps.length i) := IsMost.uniq d c
  have e2 : mostV (moreJ h j) N' (blkAt (pad q) (moreJ h j).ps.length i) = mostV h N (blkAt (pad q) h.ps.length i) := e
  rw [e2]
  exact b
end
end Go.Proofs.Ytojgdallodmanaa
