/- BlockEasier: the plain law. No program is named here. BlockJust: the plain law. No program is named here. The number that Winch and Sand search for, without a tree; what they answer: the plain law. No program is named here. BlockJust: the walk (printed by mkJust.py). -/
import Derived.Deep.DeepCutAuto
import Derived.Test.YtojgdallodmanaaZ654d27
import Derived.Test.YtojgdallodmanaaZ9dec06
import Derived.Test.YtojgdallodmanaaZe83ec0
namespace Go.Proofs.Ytojgdallodmanaa
open Go.RowKit

/-- A part that is lighter by d. -/
def lightP (d : Nat) (p : Prt) : Prt := ⟨p.name, max 0 (p.lo - d), max 0 (p.hi - d)⟩
def strongH (h : Hul) (d : Nat) : Hul := ⟨h.ps, h.js, h.slo, h.shi, min 10000000 (h.winch + d)⟩
def dryH (h : Hul) (d : Nat) : Hul := ⟨h.ps, h.js, h.slo, max h.slo (h.shi - d), h.winch⟩
def lightH (h : Hul) (d : Nat) : Hul := ⟨h.ps.map (lightP d), h.js, h.slo, h.shi, h.winch⟩
section
variable {h : Hul} {l : List Wgh} {d : Nat}
theorem strong_pre (hp : openPre h l = 0) : openPre (strongH h d) l = 0 := by
  have hr := pre_right hp
  have := hr.w1
  have := hr.w2
  exact pre_with hp ⟨hr.n1, hr.n8, hr.s1, hr.s2, hr.s3, by simp only [strongH]; omega, by simp only [strongH]; omega, hr.fr, hr.ps, hr.js⟩ rfl rfl
theorem dry_pre (hp : openPre h l = 0) : openPre (dryH h d) l = 0 := by
  have hr := pre_right hp
  have := hr.s1
  have := hr.s2
  have := hr.s3
  exact pre_with hp ⟨hr.n1, hr.n8, hr.s1, by simp only [dryH]; omega, by simp only [dryH]; omega, hr.w1, hr.w2, hr.fr, hr.ps, hr.js⟩ rfl rfl
theorem light_names : (h.ps.map (lightP d)).map Prt.name = h.ps.map Prt.name := by
  rw [List.map_map]
  rfl
theorem light_psOk (hps : PsOk h.ps) : PsOk (h.ps.map (lightP d)) := by
  intro p hp
  obtain ⟨q, hq, rfl⟩ := List.mem_map.1 hp
  obtain ⟨a, b, c⟩ := hps q hq
  simp only [lightP]
  omega
theorem light_pre (hp : openPre h l = 0) : openPre (lightH h d) l = 0 := by
  have hr := pre_right hp
  have e : (h.ps.map (lightP d)).length = h.ps.length := List.length_map ..
  exact pre_with hp ⟨by simp only [lightH]; rw [e]; exact hr.n1, by simp only [lightH]; rw [e]; exact hr.n8, hr.s1, hr.s2, hr.s3, hr.w1, hr.w2, by simp only [lightH]; rw [light_names]; exact hr.fr, light_psOk hr.ps, by simp only [lightH]; rw [e]; exact hr.js⟩ e rfl
theorem light_noHeavier (hp : openPre h l = 0) : NoHeavier h [] (lightH h d) [] := by
  intro w hw
  have hps := (pre_right hp).ps
  refine ⟨fun i => (h.ps[i]?.map Prt.hi).getD 0, ⟨fun i p hi => ?_, fun x hx => by simp at hx⟩, fun s hs => sumTo_mono 8 fun i _ hb => ?_⟩
  · have := hps p (List.mem_of_getElem? hi)
    simp only [hi, Option.map_some, Option.getD_some]
    omega
  · have hi : i < h.ps.length := by
      rcases Nat.lt_or_ge i h.ps.length with h1 | h1
      · exact h1
      · exfalso
        rw [Nat.testBit_lt_two_pow (Nat.lt_of_lt_of_le hs (Nat.pow_le_pow_right (by decide) h1))] at hb
        cases hb
    have e1 := List.getElem?_eq_getElem hi
    have h1 := hw.1 i (lightP d h.ps[i]) (by simp only [lightH]; rw [List.getElem?_map, e1]; rfl)
    have h2 := hps h.ps[i] (List.getElem_mem hi)
    simp only [e1, Option.map_some, Option.getD_some]
    simp only [lightP] at h1
    omega
theorem feas_ps {h' : Hul} (e : h'.ps = h.ps) (hf : Feas h l) : Feas h' l := by unfold Feas at hf ⊢; rw [truth_ps e]; exact hf
theorem open_ok (hp : openPre h l = 0) (hf : Feas h l) : openE h l = 0 := openE_zero hp hf
/-- What the law says of the five answers. -/
theorem easier_law (ho : openE h l = 0) {d1 d2 d3 : Nat} {N N1 N2 N3 N4 : List Nd} (hN : IsTree h l N) (hN1 : IsTree (strongH h d1) l N1) (hN2 : IsTree (dryH h d2) l N2) (hN3 : IsTree h [] N3) (hN4 : IsTree (lightH h d3) [] N4) :
    ((fewOf h N).1 ≤ h.ps.length → (fewOf (strongH h d1) N1).1 ≤ (fewOf h N).1 ∧ (fewOf (dryH h d2) N2).1 ≤ (fewOf h N).1) ∧ ((fewOf h N3).1 ≤ h.ps.length → (fewOf (lightH h d3) N4).1 ≤ (fewOf h N3).1) := by
  obtain ⟨hp, hf⟩ := openE_zero_iff ho
  have hr := pre_right hp
  have hw1 := hr.w1
  have hw2 := hr.w2
  have hs1 := hr.s1
  have hs2 := hr.s2
  have hn := pre_nil hp
  have hl := light_pre (d := d3) hp
  refine ⟨fun hfew => ⟨?_, ?_⟩, fun hfew => ?_⟩
  · exact few_easier hp (strong_pre hp) hf (feas_ps (h := h) rfl hf) hN hN1 rfl rfl (NoHeavier.same rfl) (Int.le_refl _) (by simp only [strongH]; omega) hfew
  · exact few_easier hp (dry_pre hp) hf (feas_ps (h := h) rfl hf) hN hN2 rfl rfl (NoHeavier.same rfl) (by simp only [dryH]; omega) (Int.le_refl _) hfew
  · exact few_easier hn (pre_nil hl) (feas_nil hp) (feas_nil hl) hN3 hN4 (List.length_map ..) rfl (light_noHeavier hp) (Int.le_refl _) (Int.le_refl _) hfew
/-- What Fewest answered of a hull: a cut and its error. -/
def FewFact (h : Hul) (l : List Wgh) (q : List Nat) (E : Int) : Prop := ∃ N, IsTree h l N ∧ ((E = 9 ∧ h.ps.length < (fewOf h N).1 ∧ q = []) ∨ (E = 0 ∧ (fewOf h N).1 ≤ h.ps.length ∧ manyTo q q.length = (fewOf h N).1))
theorem fewFact (ho : openE h l = 0) {V : World} {e : Ending} {w' : World} (hpost : FewestPost h l V e w') : Below V.heap.size V w' ∧ ∃ (q : List Nat) (E : Int) (A : Option Addr) (c : Nat), e = .returned (.tuple #[.slice A q.length c, iv E]) ∧ Rd1 nv w' w'.heap.size A q ∧ q.length ≤ 8 ∧ (∀ x ∈ q, x < 8) ∧ FewFact h l q E := by
  obtain ⟨hb, N, q, E, A, c, hN, he, hr, h8, hx, hcase⟩ := fewCase ho hpost
  refine ⟨hb, q, E, A, c, he, hr, h8, hx, N, hN, ?_⟩
  rcases hcase with h1 | ⟨h1, h2, h3, _⟩
  · exact .inl h1
  · exact .inr ⟨h1, h2, h3⟩
theorem FewFact.err {q : List Nat} {E : Int} (H : FewFact h l q E) : E = 0 ∨ E = 9 := by
  obtain ⟨N, _, h1 | h1⟩ := H
  · exact .inr h1.1
  · exact .inl h1.1
theorem easier_facts (ho : openE h l = 0) {d1 d2 d3 : Nat} {q1 q2 q3 q4 q5 : List Nat} {E1 E2 E3 E4 E5 : Int} (H1 : FewFact h l q1 E1) (H2 : FewFact (strongH h d1) l q2 E2) (H3 : FewFact (dryH h d2) l q3 E3) (H4 : FewFact h [] q4 E4) (H5 : FewFact (lightH h d3) [] q5 E5) :
    (E1 = 0 → E2 = 0 ∧ E3 = 0 ∧ manyTo q2 q2.length ≤ manyTo q1 q1.length ∧ manyTo q3 q3.length ≤ manyTo q1 q1.length) ∧ (E4 = 0 → E5 = 0 ∧ manyTo q5 q5.length ≤ manyTo q4 q4.length) := by
  obtain ⟨N1, t1, c1⟩ := H1
  obtain ⟨N2, t2, c2⟩ := H2
  obtain ⟨N3, t3, c3⟩ := H3
  obtain ⟨N4, t4, c4⟩ := H4
  obtain ⟨N5, t5, c5⟩ := H5
  obtain ⟨a, b⟩ := easier_law ho t1 t2 t3 t4 t5
  have l2 : (strongH h d1).ps.length = h.ps.length := rfl
  have l3 : (dryH h d2).ps.length = h.ps.length := rfl
  have l5 : (lightH h d3).ps.length = h.ps.length := List.length_map ..
  rw [l2] at c2
  rw [l3] at c3
  rw [l5] at c5
  refine ⟨fun e => ?_, fun e => ?_⟩
  · have hl : (fewOf h N1).1 ≤ h.ps.length := by omega
    have := a hl
    omega
  · have hl : (fewOf h N4).1 ≤ h.ps.length := by omega
    have := b hl
    omega
end
end Go.Proofs.Ytojgdallodmanaa

namespace Go.Proofs.Ytojgdallodmanaa
open Go.RowKit

section
variable {h h' : Hul} {l : List Wgh} {N N' : List Nd} {b : Nat}
theorem canF_same (hp : openPre h l = 0) (hf : Feas h l) (hN : IsTree h l N) (hN' : IsTree h l N') (wt : Int) : canF h N' b wt = canF h N b wt := by
  have hm : ∀ s, s < 2 ^ h.ps.length → mostV h N' s = mostV h N s := fun s hs => IsMost.uniq (mostV_is hp hN' hf hs) (mostV_is hp hN hf hs)
  have e : canF h N' b wt = true ↔ canF h N b wt = true := by
    rw [canF_iff, canF_iff]
    exact ⟨fun ⟨C, a, c⟩ => ⟨C, a, fun j hj => by rw [← hm _ (blkAt_lt j)]; exact c j hj⟩, fun ⟨C, a, c⟩ => ⟨C, a, fun j hj => by rw [hm _ (blkAt_lt j)]; exact c j hj⟩⟩
  cases h1 : canF h N' b wt <;> cases h2 : canF h N b wt <;> simp_all
theorem lightW_same (hp : openPre h l = 0) (hf : Feas h l) (hN : IsTree h l N) (hN' : IsTree h l N') : lightW h N' b = lightW h N b := by
  unfold lightW
  simp only [canF_same hp hf hN hN']
/-- What Fewest answers of a hull with other sand or winch, counted. -/
theorem justFew (ho : openE h l = 0) (hN : IsTree h l N) (hps : h'.ps = h.ps) (hj : h'.js = h.js) (hr' : HulRight h') (hb : 1 ≤ b) {V : World} {e : Ending} {w' : World} (hpost : FewestPost h' l V e w') :
    Below V.heap.size V w' ∧ ∃ (q : List Nat) (E : Int) (A : Option Addr) (c : Nat), e = .returned (.tuple #[.slice A q.length c, iv E]) ∧ Rd1 nv w' w'.heap.size A q ∧ q.length ≤ 8 ∧ (∀ x ∈ q, x < 8) ∧ (E = 0 ∨ E = 9) ∧
      ((E = 0 ∧ manyTo q q.length ≤ b) ↔ (lightW h N b ≤ h.ps.length * 100000 ∧ (lightW h N b : Int) * h'.shi ≤ 1000 * h'.winch)) := by
  obtain ⟨hp, hf⟩ := openE_zero_iff ho
  have hq : openPre h' l = 0 := pre_with hp hr' (by rw [hps]) hj
  have hf' : Feas h' l := by unfold Feas at hf ⊢; rw [truth_ps hps]; exact hf
  obtain ⟨hb1, N', q, E, A, c, hN', he, hrd, hq8, hx8, hcase⟩ := fewCase (openE_zero hq hf') hpost
  refine ⟨hb1, q, E, A, c, he, hrd, hq8, hx8, hcase.elim (fun a => .inr a.1) (fun a => .inl a.1), ?_⟩
  rw [← few_iff hp hN hf hps hj hq hN' hb]
  rcases hcase with ⟨rfl, h2, _⟩ | ⟨rfl, h2, h3, _⟩
  · exact ⟨fun ⟨a, _⟩ => (by omega), fun ⟨a, _⟩ => (by omega)⟩
  · rw [h3]
    exact ⟨fun ⟨_, a⟩ => ⟨h2, a⟩, fun ⟨_, a⟩ => ⟨rfl, a⟩⟩
/-- Fewest of a hull that is not right. -/
theorem wrongFew (hc : (checkE h').2.2 ≠ 0) {V : World} {e : Ending} {w' : World} (hpost : FewestPost h' l V e w') :
    Below V.heap.size V w' ∧ ∃ E, e = .returned (.tuple #[.slice none 0 0, iv E]) := by
  obtain ⟨hb, hcase⟩ := hpost
  refine ⟨hb, ?_⟩
  rcases hcase with ⟨_, rfl⟩ | ⟨_, hp, _⟩
  · exact ⟨_, rfl⟩
  · exact absurd (openPre_iff.1 hp).1 hc
def winchV (L : Nat) (shi : Int) : Int := max 1 (upD (L * shi) 1000)
theorem upD_le {n : Int} (h0 : 0 ≤ n) : n ≤ 1000 * upD n 1000 := by
  unfold upD
  rw [Int.tdiv_eq_ediv_of_nonneg (by omega)]
  omega
theorem upD_lt {n : Int} (h0 : 0 ≤ n) : 1000 * (upD n 1000 - 1) < n := by
  unfold upD
  rw [Int.tdiv_eq_ediv_of_nonneg (by omega)]
  omega
end
end Go.Proofs.Ytojgdallodmanaa

namespace Go.Proofs.Ytojgdallodmanaa
open Go.RowKit

open Classical in
/-- How heavy the heaviest block has to be. -/
noncomputable def lightL (h : Hul) (l : List Wgh) (b : Nat) : Nat := if hx : ∃ N, IsTree h l N then lightW h (Classical.choose hx) b else 0
section
variable {h h' : Hul} {l : List Wgh} {N : List Nd} {b : Nat}
theorem lightL_is (hp : openPre h l = 0) (hf : Feas h l) (hN : IsTree h l N) : lightW h N b = lightL h l b := by
  have hx : ∃ N, IsTree h l N := ⟨N, hN⟩
  unfold lightL
  rw [dif_pos hx]
  exact lightW_same hp hf (Classical.choose_spec hx) hN
theorem lightL_le (h : Hul) (l : List Wgh) (b : Nat) : lightL h l b ≤ h.ps.length * 100000 + 1 := by
  unfold lightL
  split
  · exact lightW_le _ _ _
  · omega
/-- What a question about how heavy the heaviest block is answers. -/
theorem countCase {F : Nat → Int × Int} (ho : openE h l = 0) (h1 : 1 ≤ b) (h8 : b ≤ 8) {V : World} {e : Ending} {w' : World} (hpost : CountOne F h l b V e w') :
    Below V.heap.size V w' ∧ (∃ N, IsTree h l N) ∧ ((h.ps.length * 100000 < lightL h l b ∧ e = .returned (.tuple #[iv 0, iv 9])) ∨ (lightL h l b ≤ h.ps.length * 100000 ∧ e = .returned (.tuple #[iv (F (lightL h l b)).1, iv (F (lightL h l b)).2]))) := by
  obtain ⟨hb, hc⟩ := hpost
  refine ⟨hb, ?_⟩
  rcases hc with ⟨hne, _⟩ | ⟨_, hne, _⟩ | ⟨_, hp, hf, _, _, N, hN, hc⟩
  · exact absurd ho hne
  · exact absurd (by omega) hne
  · rw [Int.toNat_natCast, lightL_is hp hf hN] at hc
    exact ⟨⟨N, hN⟩, hc⟩
/-- Fewest of a hull with other sand or winch: as many blocks do, just if the heaviest one can be pulled. -/
theorem justFew2 (ho : openE h l = 0) (hN : ∃ N, IsTree h l N) (hps : h'.ps = h.ps) (hj : h'.js = h.js) (hr' : HulRight h') (hb : 1 ≤ b) {V : World} {e : Ending} {w' : World} (hpost : FewestPost h' l V e w') :
    Below V.heap.size V w' ∧ ∃ (q : List Nat) (E : Int) (A : Option Addr) (c : Nat), e = .returned (.tuple #[.slice A q.length c, iv E]) ∧ Rd1 nv w' w'.heap.size A q ∧ q.length ≤ 8 ∧ (∀ x ∈ q, x < 8) ∧ (E = 0 ∨ E = 9) ∧
      ((E = 0 ∧ manyTo q q.length ≤ b) ↔ (lightL h l b ≤ h.ps.length * 100000 ∧ (lightL h l b : Int) * h'.shi ≤ 1000 * h'.winch)) := by
  obtain ⟨N, hN⟩ := hN
  obtain ⟨hp, hf⟩ := openE_zero_iff ho
  rw [← lightL_is hp hf hN]
  exact justFew ho hN hps hj hr' hb hpost
theorem winch_law (hr : HulRight h) {L : Nat} (hL : L ≤ h.ps.length * 100000) : 1 ≤ (winchOf h L).1 ∧ (winchOf h L).1 ≤ 10000000 ∧ (winchOf h L).2 = 0 ∧ (L : Int) * h.shi ≤ 1000 * (winchOf h L).1 ∧ (1 < (winchOf h L).1 → 1000 * ((winchOf h L).1 - 1) < (L : Int) * h.shi) := by
  have hs1 := hr.s1
  have hs2 := hr.s2
  have hs3 := hr.s3
  have hn8 := hr.n8
  have h0 : 0 ≤ (L : Int) * h.shi := Int.mul_nonneg (by omega) (by omega)
  have h1 : (L : Int) * h.shi ≤ 800000 * 2000 := Int.mul_le_mul (by omega) hs3 (by omega) (by omega)
  have e1 := upD_le h0
  have e2 := upD_lt h0
  obtain ⟨U, hU⟩ : ∃ U, upD (L * h.shi) 1000 = U := ⟨_, rfl⟩
  rw [hU] at e1 e2
  have e : winchOf h L = (max 1 U, 0) := by unfold winchOf; rw [hU]
  rw [e]
  exact ⟨by simp only; omega, by simp only; omega, rfl, by simp only; omega, fun h => by simp only at h ⊢; omega⟩
/-- What Sand answers where it answers. -/
theorem sand_law (hr : HulRight h) {L : Nat} (hL : L ≤ h.ps.length * 100000) :
    (1000 * h.winch < (L : Int) ∧ (sandOf h L).1 = 0 ∧ (sandOf h L).2 = 9) ∨
    ((L : Int) ≤ 1000 * h.winch ∧ (sandOf h L).2 = 0 ∧ 1 ≤ (sandOf h L).1 ∧ (sandOf h L).1 ≤ 2000 ∧ (L : Int) * (sandOf h L).1 ≤ 1000 * h.winch ∧ ((sandOf h L).1 < 2000 → 1000 * h.winch < (L : Int) * ((sandOf h L).1 + 1))) := by
  have hw1 := hr.w1
  unfold sandOf
  split
  · rename_i hlt
    exact .inl ⟨hlt, rfl, rfl⟩
  · rename_i hge
    refine .inr ⟨by omega, ?_⟩
    split
    · rename_i hz
      subst hz
      exact ⟨rfl, by simp only; omega, by simp only; omega, by simp only; omega, fun h => by simp only at h; omega⟩
    · rename_i hz
      have hL0 : (0 : Int) < (L : Int) := by omega
      rw [Int.tdiv_eq_ediv_of_nonneg (by omega)]
      obtain ⟨Q, hQ⟩ : ∃ Q, 1000 * h.winch / (L : Int) = Q := ⟨_, rfl⟩
      have hQ1 : 1 ≤ Q := by rw [← hQ]; exact Int.le_ediv_of_mul_le hL0 (by omega)
      have hQ2 : Q * (L : Int) ≤ 1000 * h.winch := by rw [← hQ]; exact Int.ediv_mul_le _ (by omega)
      have hQ3 : 1000 * h.winch < (Q + 1) * (L : Int) := by rw [← hQ]; exact Int.lt_ediv_add_one_mul_self _ hL0
      rw [hQ]
      simp only
      refine ⟨trivial, by omega, by omega, ?_, ?_⟩
      · have h1 : min 2000 Q ≤ Q := by omega
        have h2 : (L : Int) * min 2000 Q ≤ (L : Int) * Q := Int.mul_le_mul_of_nonneg_left h1 (by omega)
        rw [Int.mul_comm (L : Int) Q] at h2
        omega
      · intro h1
        have h2 : min 2000 Q = Q := by omega
        rw [h2, Int.mul_comm (L : Int)]
        exact hQ3
end
end Go.Proofs.Ytojgdallodmanaa

namespace Go.Proofs.Ytojgdallodmanaa
open Go.RowKit

set_option maxRecDepth 100000 in
set_option maxHeartbeats 8000000 in
theorem justLaw_any (h : Hul) (A J : Option Addr) (cap capJ : Nat) (AL : Option Addr) (l : List Wgh) (capL x B : Nat) (w : World)
    (hH : HulRd w B h A cap J capJ) (hL : RdN 3 encWgh w B AL l) (hlc : l.length ≤ capL) (hcm : capL ≤ maxLen) (hx : x ≤ 255) (hB : B ≤ w.heap.size) :
    Calls Try.prog 15 #[hv h A cap J capJ, .slice AL l.length capL, .int .u8 x] w fun e w' => e = .returned (.bool true) ∧ Below w.heap.size w w' := by
  obtain ⟨W2, hW2, hb0, hzz, p0, p1, p2, p3, p4⟩ := hulBox w h A cap J capJ
  have HKB : Hid (∀ W, Below W2.heap.size W2 W → W.cell? ⟨w.heap.size, 0, none⟩ = some (.slice A h.ps.length cap) ∧ W.cell? ⟨w.heap.size, 1, none⟩ = some (.slice J h.js.length capJ) ∧ W.cell? ⟨w.heap.size, 2, none⟩ = some (.int .i64 h.slo) ∧ W.cell? ⟨w.heap.size, 3, none⟩ = some (.int .i64 h.shi) ∧ W.cell? ⟨w.heap.size, 4, none⟩ = some (.int .i64 h.winch)) := Lib.hid fun W hb => ⟨keepC hb p0, keepC hb p1, keepC hb p2, keepC hb p3, keepC hb p4⟩
  have hBz : B ≤ W2.heap.size := Nat.le_trans hB hb0.size
  have HH := Lib.hid (hH.below hb0 hB)
  have HL := Lib.hid (hL.below hb0 hB)
  have HB0 := Lib.hid hb0
  have hlm : l.length ≤ maxLen := Nat.le_trans hlc hcm
  have HLC := Lib.hid hlc
  have HAW := Lib.hid awake_any
  have hwc := weighings_any h A J B cap capJ AL l capL W2 HH.out HL.out hlm hBz
  have HWC := Lib.hid hwc
  have hws : w.heap.size < W2.heap.size := lt_of_cell p0
  have hwi := fun (V : World) (b : Int) (hb : Below W2.heap.size W2 V) => winch_any h A J B cap capJ AL l capL b V (HH.out.below hb hBz) (HL.out.below hb hBz) HLC.out (Nat.le_trans hBz hb.size)
  have hsa := fun (V : World) (b : Int) (hb : Below W2.heap.size W2 V) => sand_any h A J B cap capJ AL l capL b V (HH.out.below hb hBz) (HL.out.below hb hBz) HLC.out (Nat.le_trans hBz hb.size)
  clear hb0 hH hL hlc hcm hzz hwc
  by_cases hop : openE h l = 0
  case neg =>
    have hwi1 : ∀ V, Below W2.heap.size W2 V → Calls Try.prog 32 #[.agg #[.slice A h.ps.length cap, .slice J h.js.length capJ, .int .i64 h.slo, .int .i64 h.shi, .int .i64 h.winch], .slice AL l.length capL, .int .i64 1] V fun e w' => e = .returned (.tuple #[iv 0, iv (openE h l)]) ∧ Below V.heap.size V w' := fun V hb => (hwi V 1 hb).mono fun e w' hp => by
      obtain ⟨hb2, hc⟩ := hp
      rcases hc with ⟨_, rfl⟩ | ⟨h0, _⟩ | ⟨h0, _⟩
      · exact ⟨rfl, hb2⟩
      · exact absurd h0 hop
      · exact absurd h0 hop
    obtain ⟨E, hE⟩ : ∃ E, openE h l = E := ⟨_, rfl⟩
    rw [hE] at hop HWC hwi1
    have hcb : (E != 0) = true := by simpa using hop
    have hce : (E == E) = true := by simp
    have HWI := Lib.hid hwi1
    clear hE hop hwi hsa hwi1
    go_enter Try.func15, Try.ntmps15
    go_wp2_with fail
    refine HWC.out.mono ?_
    rintro e w1 ⟨rfl, hb3⟩
    have HB3 := Lib.hid hb3
    clear hb3 hW2 p0 p1 p2 p3 p4
    obtain ⟨p0, p1, p2, p3, p4⟩ := HKB.out _ HB3.out
    go_wp2_with fail
    refine (HWI.out _ HB3.out).mono ?_
    rintro e w2 ⟨rfl, hb4⟩
    have HB4 := Lib.hid (belowT HB3.out hb4)
    clear hb4 p0 p1 p2 p3 p4
    go_wp2_with fail
    refine (HAW.out _).mono ?_
    rintro e w5 ⟨rfl, hb5⟩
    have HB5 := Lib.hid (belowT HB4.out hb5)
    clear hb5
    go_wp2_with fail
    go_ret
    exact ⟨rfl, belowT HB0.out HB5.out⟩
  obtain ⟨b, hbx⟩ : ∃ b, 1 + x % 8 = b := ⟨_, rfl⟩
  have hb1 : 1 ≤ b := by omega
  have hb8 : b ≤ 8 := by omega
  have hmod : 1 + (x : Int) % 8 = (b : Int) := by omega
  have hr := pre_right (openE_zero_iff hop).1
  have hs1 := hr.s1
  have hs2 := hr.s2
  have hs3 := hr.s3
  have hw1 := hr.w1
  have hw2 := hr.w2
  have hLl := lightL_le h l b
  have hwi2 : ∀ V, Below W2.heap.size W2 V → Calls Try.prog 32 #[.agg #[.slice A h.ps.length cap, .slice J h.js.length capJ, .int .i64 h.slo, .int .i64 h.shi, .int .i64 h.winch], .slice AL l.length capL, .int .i64 b] V fun e w' => Below V.heap.size V w' ∧ (∃ N, IsTree h l N) ∧ ((h.ps.length * 100000 < lightL h l b ∧ e = .returned (.tuple #[iv 0, iv 9])) ∨ (lightL h l b ≤ h.ps.length * 100000 ∧ e = .returned (.tuple #[iv (winchOf h (lightL h l b)).1, iv (winchOf h (lightL h l b)).2]))) := fun V hb => (hwi V b hb).mono fun e w' hp => countCase hop hb1 hb8 hp
  have hsa2 : ∀ V, Below W2.heap.size W2 V → Calls Try.prog 34 #[.agg #[.slice A h.ps.length cap, .slice J h.js.length capJ, .int .i64 h.slo, .int .i64 h.shi, .int .i64 h.winch], .slice AL l.length capL, .int .i64 b] V fun e w' => Below V.heap.size V w' ∧ (∃ N, IsTree h l N) ∧ ((h.ps.length * 100000 < lightL h l b ∧ e = .returned (.tuple #[iv 0, iv 9])) ∨ (lightL h l b ≤ h.ps.length * 100000 ∧ e = .returned (.tuple #[iv (sandOf h (lightL h l b)).1, iv (sandOf h (lightL h l b)).2]))) := fun V hb => (hsa V b hb).mono fun e w' hp => countCase hop hb1 hb8 hp
  have hfe : (∃ N, IsTree h l N) → ∀ (V0 V : World) (lo hi wi : Int) (g : Nat) (cs : Array Value), Below W2.heap.size W2 V0 → Below V0.heap.size V0 V → Blk V g 27 cs → 1 ≤ lo → lo ≤ hi → hi ≤ 2000 → 1 ≤ wi → wi ≤ 10000000 → Calls Try.prog 30 #[.agg #[.slice A h.ps.length cap, .slice J h.js.length capJ, .int .i64 lo, .int .i64 hi, .int .i64 wi], .slice AL l.length capL] V fun e w' => Below V0.heap.size V0 w' ∧ Blk w' g 27 cs ∧ ∃ (q : List Nat) (E : Int) (A : Option Addr) (c : Nat), e = .returned (.tuple #[.slice A q.length c, iv E]) ∧ Rd1 nv w' w'.heap.size A q ∧ q.length ≤ 8 ∧ (∀ x ∈ q, x < 8) ∧ (E = 0 ∨ E = 9) ∧ ((E = 0 ∧ manyTo q q.length ≤ b) ↔ (lightL h l b ≤ h.ps.length * 100000 ∧ (lightL h l b : Int) * hi ≤ 1000 * wi)) :=
    fun hN V0 V lo hi wi g cs hb0 hb1' hkk a1 a2 a3 a4 a5 => have hb := belowT hb0 hb1'; (fewest_any ⟨h.ps, h.js, lo, hi, wi⟩ A J B cap capJ AL l capL V ⟨(HH.out.below hb hBz).ps, (HH.out.below hb hBz).js, HH.out.pl, HH.out.pm, HH.out.jl, HH.out.jm, HH.out.nm⟩ (HL.out.below hb hBz) HLC.out (Nat.le_trans hBz hb.size)).mono fun e w' hp => have hj := justFew2 (h' := ⟨h.ps, h.js, lo, hi, wi⟩) hop hN rfl rfl ⟨hr.n1, hr.n8, a1, a2, a3, a4, a5, hr.fr, hr.ps, hr.js⟩ hb1 hp; ⟨belowT hb1' hj.1, hkk.same (hj.1.block _ hkk.lt), hj.2⟩
  have hfz : ∀ (V0 V : World) (lo hi : Int) (g : Nat) (cs : Array Value), Below W2.heap.size W2 V0 → Below V0.heap.size V0 V → Blk V g 27 cs → Calls Try.prog 30 #[.agg #[.slice A h.ps.length cap, .slice J h.js.length capJ, .int .i64 lo, .int .i64 hi, .int .i64 0], .slice AL l.length capL] V fun e w' => Below V0.heap.size V0 w' ∧ Blk w' g 27 cs ∧ ∃ E, e = .returned (.tuple #[.slice none 0 0, iv E]) :=
    fun V0 V lo hi g cs hb0 hb1' hkk => have hb := belowT hb0 hb1'; (fewest_any ⟨h.ps, h.js, lo, hi, 0⟩ A J B cap capJ AL l capL V ⟨(HH.out.below hb hBz).ps, (HH.out.below hb hBz).js, HH.out.pl, HH.out.pm, HH.out.jl, HH.out.jm, HH.out.nm⟩ (HL.out.below hb hBz) HLC.out (Nat.le_trans hBz hb.size)).mono fun e w' hp => have hj := wrongFew (h' := ⟨h.ps, h.js, lo, hi, 0⟩) (fun hc => by have := (check_iff.1 hc).w1; simp only at this; omega) hp; ⟨belowT hb1' hj.1, hkk.same (hj.1.block _ hkk.lt), hj.2⟩
  have hsp : ∀ (V0 V : World) (a b : Int) (g : Nat) (cs : Array Value), Below V0.heap.size V0 V → Blk V g 27 cs → Calls Try.prog 38 #[.int .i64 a, .int .i64 b] V fun e w' => e = .returned (.agg #[.int .i64 a, .int .i64 b]) ∧ Below V0.heap.size V0 w' ∧ Blk w' g 27 cs := fun V0 V a b g cs h1 h2 => (span_any a b V).mono fun e w' hh => ⟨hh.1, belowT h1 hh.2, h2.same (hh.2.block _ h2.lt)⟩
  have HSP := Lib.hid hsp
  clear hsp
  rw [hop] at HWC
  have hwl := fun hl => winch_law hr (L := lightL h l b) hl
  have hsl := fun hl => sand_law hr (L := lightL h l b) hl
  obtain ⟨L, hL⟩ : ∃ L, lightL h l b = L := ⟨_, rfl⟩
  rw [hL] at hwi2 hsa2 hfe hwl hsl hLl
  obtain ⟨M0, hM0⟩ : ∃ M, h.ps.length * 100000 = M := ⟨_, rfl⟩
  rw [hM0] at hwi2 hsa2 hfe hwl hsl hLl
  have HWI := Lib.hid hwi2
  have HSA := Lib.hid hsa2
  have HFE := Lib.hid hfe
  have HFZ := Lib.hid hfz
  have HWL := Lib.hid hwl
  have HSL := Lib.hid hsl
  have HMOD := Lib.hid hmod
  have hLi : (L : Int) ≤ 800001 := by have := hr.n8; omega
  clear hwi hsa hwi2 hsa2 hfe hfz hwl hsl hbx hr hop hL hM0 hLl hmod
  go_enter Try.func15, Try.ntmps15
  go_wp2_with fail
  refine HWC.out.mono ?_
  rintro e w1 ⟨rfl, hb3⟩
  have HB3 := Lib.hid hb3
  have HK1 : Hid (∀ W, Below w1.heap.size w1 W → W.cell? ⟨w.heap.size, 0, none⟩ = some (.slice A h.ps.length cap) ∧ W.cell? ⟨w.heap.size, 1, none⟩ = some (.slice J h.js.length capJ) ∧ W.cell? ⟨w.heap.size, 2, none⟩ = some (.int .i64 h.slo) ∧ W.cell? ⟨w.heap.size, 3, none⟩ = some (.int .i64 h.shi) ∧ W.cell? ⟨w.heap.size, 4, none⟩ = some (.int .i64 h.winch)) := Lib.hid fun W hb => HKB.out W (belowT HB3.out hb)
  have hz1 := hb3.size
  clear hb3 hW2 p0 p1 p2 p3 p4 HWC
  obtain ⟨p0, p1, p2, p3, p4⟩ := HK1.out _ (belowR _)
  have hmw : (x : Int) % 8 < 8 := by omega
  go_wp2_with fail
  rw [HMOD.out]
  refine (HWI.out _ (belowT HB3.out (belowR _))).mono ?_
  rintro e v1 ⟨hb, hN, hc1⟩
  have B1 := Lib.hid hb
  have HN := Lib.hid hN
  clear hb hN p0 p1 p2 p3 p4 hmw
  obtain ⟨p0, p1, p2, p3, p4⟩ := HK1.out _ B1.out
  rcases hc1 with ⟨hlt, rfl⟩ | ⟨hle, rfl⟩
  · have hs9 : ∀ V, Below W2.heap.size W2 V → Calls Try.prog 34 #[.agg #[.slice A h.ps.length cap, .slice J h.js.length capJ, .int .i64 h.slo, .int .i64 h.shi, .int .i64 h.winch], .slice AL l.length capL, .int .i64 b] V fun e w' => Below V.heap.size V w' ∧ e = .returned (.tuple #[iv 0, iv 9]) := fun V hb => (HSA.out V hb).mono fun e w' hp => ⟨hp.1, by rcases hp.2.2 with ⟨_, h2⟩ | ⟨h2, _⟩; exact h2; omega⟩
    have HS9 := Lib.hid hs9
    clear hs9
    go_wp2_with fail
    refine (HS9.out _ (belowT HB3.out B1.out)).mono ?_
    rintro e v2 ⟨hb, rfl⟩
    have B2 := Lib.hid (belowT B1.out hb)
    clear hb p0 p1 p2 p3 p4
    go_wp2_with fail
    refine (HAW.out _).mono ?_
    rintro e y9 ⟨rfl, hb⟩
    have Y9 := Lib.hid (belowT B2.out hb)
    clear hb
    go_wp2_with fail
    go_ret
    exact ⟨rfl, belowT HB0.out (belowT HB3.out Y9.out)⟩
  have hs9 : ∀ V, Below W2.heap.size W2 V → Calls Try.prog 34 #[.agg #[.slice A h.ps.length cap, .slice J h.js.length capJ, .int .i64 h.slo, .int .i64 h.shi, .int .i64 h.winch], .slice AL l.length capL, .int .i64 b] V fun e w' => Below V.heap.size V w' ∧ e = .returned (.tuple #[iv (sandOf h L).1, iv (sandOf h L).2]) := fun V hb => (HSA.out V hb).mono fun e w' hp => ⟨hp.1, by rcases hp.2.2 with ⟨h2, _⟩ | ⟨_, h2⟩; omega; exact h2⟩
  have HS9 := Lib.hid hs9
  have hwl := HWL.out hle
  have hsl := HSL.out hle
  obtain ⟨U, hU⟩ : ∃ U, (winchOf h L).1 = U := ⟨_, rfl⟩
  obtain ⟨UE, hUE⟩ : ∃ U, (winchOf h L).2 = U := ⟨_, rfl⟩
  obtain ⟨S, hS⟩ : ∃ U, (sandOf h L).1 = U := ⟨_, rfl⟩
  obtain ⟨SE, hSE⟩ : ∃ U, (sandOf h L).2 = U := ⟨_, rfl⟩
  rw [hU, hUE] at hwl
  rw [hU, hUE]
  rw [hS, hSE] at hsl HS9
  obtain ⟨hu1, hu2, rfl, hu3, hu4⟩ := hwl
  have HU3 := Lib.hid hu3
  have HU4 := Lib.hid hu4
  clear hs9 hU hUE hS hSE HWL HSL HSA HWI hu3 hu4
  go_wp2_with fail
  refine (HS9.out _ (belowT HB3.out B1.out)).mono ?_
  rintro e v2 ⟨hb, rfl⟩
  have B2 := Lib.hid (belowT B1.out hb)
  clear hb p0 p1 p2 p3 p4
  have hse : SE = 0 ∨ SE = 9 := by rcases hsl with ⟨_, _, h9⟩ | ⟨_, h9, _⟩; exact .inr h9; exact .inl h9
  have HSS := Lib.hid hsl
  clear hsl
  have hud1 : decide (U < 1) = false := decide_eq_false (by omega)
  have hud2 : decide (10000000 < U) = false := decide_eq_false (by omega)
  have hz2 := B2.out.size
  obtain ⟨wq, hwq⟩ : ∃ wq : World, wq = v2 := ⟨_, rfl⟩
  have HBQ : Hid (Below v2.heap.size v2 wq) := Lib.hid (by rw [hwq]; exact belowR _)
  have hwm : IntKind.i64.wrap (U - 1) = U - 1 := by rw [IntKind.wrap_i64]; omega
  have hwm0 : IntKind.i64.wrap (U - 0) = U := by rw [IntKind.wrap_i64]; omega
  rcases hse with rfl | rfl
  · skip
    rw [← hwq]
    clear hwq
    go_wp2_with fail
    go_loopw [15] (fun vi wr => ∃ k : Nat, k ≤ 2 ∧ vi = .int .i64 k ∧ Hid (Below v2.heap.size v2 wr)) (fun vi _ => 2 - (intOf vi).toNat)
    case atStart => exact ⟨0, by omega, rfl, HBQ⟩
    case round =>
      obtain ⟨k, hk, rfl, HBR⟩ := hrel
      have HBR1 := Lib.hid (belowT B2.out HBR.out)
      have hzr := HBR.out.size
      obtain ⟨p0, p1, p2, p3, p4⟩ := HK1.out _ HBR1.out
      have hws2 : w.heap.size < wr.heap.size := by omega
      rcases (show k = 0 ∨ k = 1 ∨ k = 2 by omega) with rfl | rfl | hk2
      · have hup : decide ((0 : Int) < U) = true := decide_eq_true (by omega)
        go_wp2_with fail
        refine (HFE.out HN.out wr _ _ _ _ wr.heap.size ((#[Value.slice A h.ps.length cap, Value.slice J h.js.length capJ, Value.int IntKind.i64 (h.slo), Value.int IntKind.i64 (h.shi), Value.int IntKind.i64 (U)] : Array Value)) (belowT HB3.out HBR1.out) ?bb1 ?kk1 hs1 hs2 hs3 hu1 hu2).mono ?_
        case bb1 => repeat (first | exact belowR _ | refine belowA ?_ _ | refine belowS ?_ (Nat.le_refl _) _)
        case kk1 => exact Blk.new wr 27 _
        rintro e x1 ⟨hb, hkk, q, E, Q, r, rfl, hrd, hq8, hx8, herr, hiff⟩
        have X1 := Lib.hid hb
        have hm : ∀ V, Below x1.heap.size x1 V → Calls Try.prog 52 #[.slice Q q.length r] V fun e w' => e = .returned (iv (manyTo q q.length : Nat)) ∧ Below V.heap.size V w' := fun V hb => blocks52_any x1.heap.size Q q r V (by omega) (fun x hx => by have := hx8 x hx; omega) (hrd.below hb (Nat.le_refl _)) hb.size
        obtain ⟨M, hM⟩ : ∃ M, manyTo q q.length = M := ⟨_, rfl⟩
        rw [hM] at hm hiff
        have HM := Lib.hid hm
        clear hm hM hrd hq8 hx8 hb
        obtain ⟨rfl, hMb⟩ := hiff.2 ⟨hle, HU3.out⟩
        have xc : x1.cell? ⟨wr.heap.size, 4, none⟩ = some (.int .i64 U) := hkk.cell 4
        have hd : decide ((M : Int) ≤ (b : Int)) = true := decide_eq_true (by omega)
        have hMb2 : (M : Int) ≤ (b : Int) := by omega
        clear hiff hkk herr
        go_wp2_with fail
        refine (HM.out _ (belowR _)).mono ?_
        rintro e x2 ⟨rfl, hb⟩
        have X2 := Lib.hid (belowT X1.out hb)
        clear hb HM
        go_wp2_with fail
        go_roundw
        case rel => exact ⟨1, by omega, by go_num, Lib.hid (belowT HBR.out X2.out)⟩
        case measure => simp [intOf]
      · rcases (show U = 1 ∨ 1 < U by omega) with rfl | hU1
        · go_wp2_with fail
          refine (HFZ.out wr _ _ _ wr.heap.size ((#[Value.slice A h.ps.length cap, Value.slice J h.js.length capJ, Value.int IntKind.i64 (h.slo), Value.int IntKind.i64 (h.shi), Value.int IntKind.i64 (0)] : Array Value)) (belowT HB3.out HBR1.out) ?bb2 ?kk2).mono ?_
          case bb2 => repeat (first | exact belowR _ | refine belowA ?_ _ | refine belowS ?_ (Nat.le_refl _) _)
          case kk2 => exact Blk.new wr 27 _
          rintro e x1 ⟨hb, hkk, E, rfl⟩
          have X1 := Lib.hid hb
          have xc : x1.cell? ⟨wr.heap.size, 4, none⟩ = some (.int .i64 0) := hkk.cell 4
          clear hkk
          go_wp2_with fail
          go_roundw
          case rel => exact ⟨2, by omega, by go_num, Lib.hid (belowT HBR.out X1.out)⟩
          case measure => simp [intOf]
        · have hup : decide ((0 : Int) < U - 1) = true := decide_eq_true (by omega)
          go_wp2_with fail
          refine (HFE.out HN.out wr _ _ _ _ wr.heap.size ((#[Value.slice A h.ps.length cap, Value.slice J h.js.length capJ, Value.int IntKind.i64 (h.slo), Value.int IntKind.i64 (h.shi), Value.int IntKind.i64 (U - 1)] : Array Value)) (belowT HB3.out HBR1.out) ?bb3 ?kk3 hs1 hs2 hs3 (by omega) (by omega)).mono ?_
          case bb3 => repeat (first | exact belowR _ | refine belowA ?_ _ | refine belowS ?_ (Nat.le_refl _) _)
          case kk3 => exact Blk.new wr 27 _
          rintro e x1 ⟨hb, hkk, q, E, Q, r, rfl, hrd, hq8, hx8, herr, hiff⟩
          have X1 := Lib.hid hb
          have hm : ∀ V, Below x1.heap.size x1 V → Calls Try.prog 52 #[.slice Q q.length r] V fun e w' => e = .returned (iv (manyTo q q.length : Nat)) ∧ Below V.heap.size V w' := fun V hb => blocks52_any x1.heap.size Q q r V (by omega) (fun x hx => by have := hx8 x hx; omega) (hrd.below hb (Nat.le_refl _)) hb.size
          obtain ⟨M, hM⟩ : ∃ M, manyTo q q.length = M := ⟨_, rfl⟩
          rw [hM] at hm hiff
          have HM := Lib.hid hm
          clear hm hM hrd hq8 hx8 hb
          have hno : ¬ (E = 0 ∧ M ≤ b) := fun h9 => by have := (hiff.1 h9).2; have := HU4.out hU1; omega
          have xc : x1.cell? ⟨wr.heap.size, 4, none⟩ = some (.int .i64 (U - 1)) := hkk.cell 4
          clear hiff hkk
          rcases herr with rfl | rfl
          · have hMb : ¬ M ≤ b := fun h9 => hno ⟨rfl, h9⟩
            have hd : decide ((M : Int) ≤ (b : Int)) = false := decide_eq_false (by omega)
            have hMb2 : ¬ (M : Int) ≤ (b : Int) := by omega
            clear hno hMb
            go_wp2_with fail
            refine (HM.out _ (belowR _)).mono ?_
            rintro e x2 ⟨rfl, hb⟩
            have X2 := Lib.hid (belowT X1.out hb)
            clear hb HM
            go_wp2_with fail
            go_roundw
            case rel => exact ⟨2, by omega, by go_num, Lib.hid (belowT HBR.out X2.out)⟩
            case measure => simp [intOf]
          · clear hno
            go_wp2_with fail
            go_roundw
            case rel => exact ⟨2, by omega, by go_num, Lib.hid (belowT HBR.out X1.out)⟩
            case measure => simp [intOf]
      · rw [show (k : Int) = 2 by omega]
        obtain ⟨hs4, hs5, hs6, hs7, hs8⟩ : (L : Int) ≤ 1000 * h.winch ∧ 1 ≤ S ∧ S ≤ 2000 ∧ (L : Int) * S ≤ 1000 * h.winch ∧ (S < 2000 → 1000 * h.winch < (L : Int) * (S + 1)) := by rcases HSS.out with ⟨_, _, h9⟩ | ⟨a, _, b, c, d, e⟩; omega; exact ⟨a, b, c, d, e⟩
        have HS7 := Lib.hid hs7
        have HS8 := Lib.hid hs8
        have hwS0 : IntKind.i64.wrap (S + 0) = S := by rw [IntKind.wrap_i64]; omega
        have hwS1 : IntKind.i64.wrap (S + 1) = S + 1 := by rw [IntKind.wrap_i64]; omega
        have hdS : decide (2000 < S) = false := decide_eq_false (by omega)
        clear hs4 hs7 hs8 p0 p1 p2 p3 p4
        obtain ⟨wz, hwz⟩ : ∃ wz : World, wz = wr := ⟨_, rfl⟩
        have HBZ : Hid (Below w1.heap.size w1 wz) := Lib.hid (by rw [hwz]; exact HBR1.out)
        rw [← hwz]
        clear hwz
        go_wp2_with fail
        go_loopw [22] (fun vi wr => ∃ k : Nat, k ≤ 2 ∧ vi = .int .i64 k ∧ Hid (Below w1.heap.size w1 wr)) (fun vi _ => 2 - (intOf vi).toNat)
        case atStart => exact ⟨0, by omega, rfl, HBZ⟩
        case round =>
          obtain ⟨k, hk, rfl, HBR2⟩ := hrel
          have HBR3 := HBR2
          have hzr2 := HBR2.out.size
          obtain ⟨p0, p1, p2, p3, p4⟩ := HK1.out _ HBR3.out
          have hws3 : w.heap.size < wr.heap.size := by omega
          rcases (show k = 0 ∨ k = 1 ∨ k = 2 by omega) with rfl | rfl | hk2
          · go_wp2_with fail
            refine (HSP.out wr _ _ _ wr.heap.size ((#[Value.slice A h.ps.length cap, Value.slice J h.js.length capJ, Value.int IntKind.i64 (h.slo), Value.int IntKind.i64 (h.shi), Value.int IntKind.i64 (h.winch)] : Array Value)) ?bb4 ?kk4).mono ?_
            case bb4 => repeat (first | exact belowR _ | refine belowA ?_ _ | refine belowS ?_ (Nat.le_refl _) _)
            case kk4 => exact Blk.new wr 27 _
            rintro e y1 ⟨rfl, hb, hkk⟩
            have z2 : y1.cell? ⟨wr.heap.size, 2, none⟩ = some (.int .i64 h.slo) := hkk.cell 2
            have z3 : y1.cell? ⟨wr.heap.size, 3, none⟩ = some (.int .i64 h.shi) := hkk.cell 3
            have z0 : y1.cell? ⟨wr.heap.size, 0, none⟩ = some (.slice A h.ps.length cap) := hkk.cell 0
            have z1 : y1.cell? ⟨wr.heap.size, 1, none⟩ = some (.slice J h.js.length capJ) := hkk.cell 1
            have z4 : y1.cell? ⟨wr.heap.size, 4, none⟩ = some (.int .i64 h.winch) := hkk.cell 4
            have g2 := hkk.frozen 2
            have g3 := hkk.frozen 3
            have Y1 := Lib.hid hb
            have KK := Lib.hid hkk
            clear hb hkk
            go_wp2_with fail
            refine (HFE.out HN.out wr _ _ _ _ wr.heap.size ((#[Value.slice A h.ps.length cap, Value.slice J h.js.length capJ, Value.int IntKind.i64 (1), Value.int IntKind.i64 (S), Value.int IntKind.i64 (h.winch)] : Array Value)) (belowT HB3.out HBR3.out) ?bb5 ?kk5 (by omega) hs5 hs6 hw1 hw2).mono ?_
            case bb5 => exact belowS (belowS Y1.out (Nat.le_refl _) _) (Nat.le_refl _) _
            case kk5 => exact (KK.out.set_ 2 _).set_ 3 _
            rintro e x1 ⟨hb, hkk, q, E, Q, r, rfl, hrd, hq8, hx8, herr, hiff⟩
            have X1 := Lib.hid hb
            have hm : ∀ V, Below x1.heap.size x1 V → Calls Try.prog 52 #[.slice Q q.length r] V fun e w' => e = .returned (iv (manyTo q q.length : Nat)) ∧ Below V.heap.size V w' := fun V hb => blocks52_any x1.heap.size Q q r V (by omega) (fun x hx => by have := hx8 x hx; omega) (hrd.below hb (Nat.le_refl _)) hb.size
            obtain ⟨M, hM⟩ : ∃ M, manyTo q q.length = M := ⟨_, rfl⟩
            rw [hM] at hm hiff
            have HM := Lib.hid hm
            clear hm hM hrd hq8 hx8 hb
            obtain ⟨rfl, hMb⟩ := hiff.2 ⟨hle, HS7.out⟩
            have hd : decide ((M : Int) ≤ (b : Int)) = true := decide_eq_true (by omega)
            have hMb2 : (M : Int) ≤ (b : Int) := by omega
            clear hiff hkk herr
            go_wp2_with fail
            refine (HM.out _ (belowR _)).mono ?_
            rintro e x2 ⟨rfl, hb⟩
            have X2 := Lib.hid (belowT X1.out hb)
            clear hb HM
            go_wp2_with fail
            go_roundw
            case rel => exact ⟨1, by omega, by go_num, Lib.hid (belowT HBR2.out X2.out)⟩
            case measure => simp [intOf]
          · rcases (show S = 2000 ∨ S < 2000 by omega) with rfl | hS1
            · go_wp2_with fail
              refine (HSP.out wr _ _ _ wr.heap.size ((#[Value.slice A h.ps.length cap, Value.slice J h.js.length capJ, Value.int IntKind.i64 (h.slo), Value.int IntKind.i64 (h.shi), Value.int IntKind.i64 (h.winch)] : Array Value)) ?bb6 ?kk6).mono ?_
              case bb6 => repeat (first | exact belowR _ | refine belowA ?_ _ | refine belowS ?_ (Nat.le_refl _) _)
              case kk6 => exact Blk.new wr 27 _
              rintro e y1 ⟨rfl, hb, hkk⟩
              have z2 : y1.cell? ⟨wr.heap.size, 2, none⟩ = some (.int .i64 h.slo) := hkk.cell 2
              have z3 : y1.cell? ⟨wr.heap.size, 3, none⟩ = some (.int .i64 h.shi) := hkk.cell 3
              have z0 : y1.cell? ⟨wr.heap.size, 0, none⟩ = some (.slice A h.ps.length cap) := hkk.cell 0
              have z1 : y1.cell? ⟨wr.heap.size, 1, none⟩ = some (.slice J h.js.length capJ) := hkk.cell 1
              have z4 : y1.cell? ⟨wr.heap.size, 4, none⟩ = some (.int .i64 h.winch) := hkk.cell 4
              have g2 := hkk.frozen 2
              have g3 := hkk.frozen 3
              have Y1 := Lib.hid hb
              have KK := Lib.hid hkk
              clear hb hkk
              go_wp2_with fail
              refine (HAW.out _).mono ?_
              rintro e y9 ⟨rfl, hb⟩
              have Y9 := Lib.hid (belowT (belowT HBR3.out (belowS (belowS Y1.out (Nat.le_refl _) _) (Nat.le_refl _) _)) hb)
              clear hb
              go_wp2_with fail
              go_ret
              exact ⟨rfl, belowT HB0.out (belowT HB3.out Y9.out)⟩
            · have hdS1 : decide (2000 < S + 1) = false := decide_eq_false (by omega)
              go_wp2_with fail
              refine (HSP.out wr _ _ _ wr.heap.size ((#[Value.slice A h.ps.length cap, Value.slice J h.js.length capJ, Value.int IntKind.i64 (h.slo), Value.int IntKind.i64 (h.shi), Value.int IntKind.i64 (h.winch)] : Array Value)) ?bb7 ?kk7).mono ?_
              case bb7 => repeat (first | exact belowR _ | refine belowA ?_ _ | refine belowS ?_ (Nat.le_refl _) _)
              case kk7 => exact Blk.new wr 27 _
              rintro e y1 ⟨rfl, hb, hkk⟩
              have z2 : y1.cell? ⟨wr.heap.size, 2, none⟩ = some (.int .i64 h.slo) := hkk.cell 2
              have z3 : y1.cell? ⟨wr.heap.size, 3, none⟩ = some (.int .i64 h.shi) := hkk.cell 3
              have z0 : y1.cell? ⟨wr.heap.size, 0, none⟩ = some (.slice A h.ps.length cap) := hkk.cell 0
              have z1 : y1.cell? ⟨wr.heap.size, 1, none⟩ = some (.slice J h.js.length capJ) := hkk.cell 1
              have z4 : y1.cell? ⟨wr.heap.size, 4, none⟩ = some (.int .i64 h.winch) := hkk.cell 4
              have g2 := hkk.frozen 2
              have g3 := hkk.frozen 3
              have Y1 := Lib.hid hb
              have KK := Lib.hid hkk
              clear hb hkk
              go_wp2_with fail
              refine (HFE.out HN.out wr _ _ _ _ wr.heap.size ((#[Value.slice A h.ps.length cap, Value.slice J h.js.length capJ, Value.int IntKind.i64 (1), Value.int IntKind.i64 (S + 1), Value.int IntKind.i64 (h.winch)] : Array Value)) (belowT HB3.out HBR3.out) ?bb8 ?kk8 (by omega) (by omega) (by omega) hw1 hw2).mono ?_
              case bb8 => exact belowS (belowS Y1.out (Nat.le_refl _) _) (Nat.le_refl _) _
              case kk8 => exact (KK.out.set_ 2 _).set_ 3 _
              rintro e x1 ⟨hb, hkk, q, E, Q, r, rfl, hrd, hq8, hx8, herr, hiff⟩
              have X1 := Lib.hid hb
              have hm : ∀ V, Below x1.heap.size x1 V → Calls Try.prog 52 #[.slice Q q.length r] V fun e w' => e = .returned (iv (manyTo q q.length : Nat)) ∧ Below V.heap.size V w' := fun V hb => blocks52_any x1.heap.size Q q r V (by omega) (fun x hx => by have := hx8 x hx; omega) (hrd.below hb (Nat.le_refl _)) hb.size
              obtain ⟨M, hM⟩ : ∃ M, manyTo q q.length = M := ⟨_, rfl⟩
              rw [hM] at hm hiff
              have HM := Lib.hid hm
              clear hm hM hrd hq8 hx8 hb
              have hno : ¬ (E = 0 ∧ M ≤ b) := fun h9 => by have := (hiff.1 h9).2; have := HS8.out hS1; omega
              clear hiff hkk
              rcases herr with rfl | rfl
              · have hMb : ¬ M ≤ b := fun h9 => hno ⟨rfl, h9⟩
                have hd : decide ((M : Int) ≤ (b : Int)) = false := decide_eq_false (by omega)
                have hMb2 : ¬ (M : Int) ≤ (b : Int) := by omega
                clear hno hMb
                go_wp2_with fail
                refine (HM.out _ (belowR _)).mono ?_
                rintro e x2 ⟨rfl, hb⟩
                have X2 := Lib.hid (belowT X1.out hb)
                clear hb HM
                go_wp2_with fail
                go_roundw
                case rel => exact ⟨2, by omega, by go_num, Lib.hid (belowT HBR2.out X2.out)⟩
                case measure => simp [intOf]
              · clear hno
                go_wp2_with fail
                go_roundw
                case rel => exact ⟨2, by omega, by go_num, Lib.hid (belowT HBR2.out X1.out)⟩
                case measure => simp [intOf]
          · rw [show (k : Int) = 2 by omega]
            go_wp2_with fail
            refine (HAW.out _).mono ?_
            rintro e y9 ⟨rfl, hb⟩
            have Y9 := Lib.hid (belowT HBR3.out hb)
            clear hb
            go_wp2_with fail
            go_ret
            exact ⟨rfl, belowT HB0.out (belowT HB3.out Y9.out)⟩
  · skip
    rw [← hwq]
    clear hwq
    go_wp2_with fail
    go_loopw [15] (fun vi wr => ∃ k : Nat, k ≤ 2 ∧ vi = .int .i64 k ∧ Hid (Below v2.heap.size v2 wr)) (fun vi _ => 2 - (intOf vi).toNat)
    case atStart => exact ⟨0, by omega, rfl, HBQ⟩
    case round =>
      obtain ⟨k, hk, rfl, HBR⟩ := hrel
      have HBR1 := Lib.hid (belowT B2.out HBR.out)
      have hzr := HBR.out.size
      obtain ⟨p0, p1, p2, p3, p4⟩ := HK1.out _ HBR1.out
      have hws2 : w.heap.size < wr.heap.size := by omega
      rcases (show k = 0 ∨ k = 1 ∨ k = 2 by omega) with rfl | rfl | hk2
      · have hup : decide ((0 : Int) < U) = true := decide_eq_true (by omega)
        go_wp2_with fail
        refine (HFE.out HN.out wr _ _ _ _ wr.heap.size ((#[Value.slice A h.ps.length cap, Value.slice J h.js.length capJ, Value.int IntKind.i64 (h.slo), Value.int IntKind.i64 (h.shi), Value.int IntKind.i64 (U)] : Array Value)) (belowT HB3.out HBR1.out) ?bb9 ?kk9 hs1 hs2 hs3 hu1 hu2).mono ?_
        case bb9 => repeat (first | exact belowR _ | refine belowA ?_ _ | refine belowS ?_ (Nat.le_refl _) _)
        case kk9 => exact Blk.new wr 27 _
        rintro e x1 ⟨hb, hkk, q, E, Q, r, rfl, hrd, hq8, hx8, herr, hiff⟩
        have X1 := Lib.hid hb
        have hm : ∀ V, Below x1.heap.size x1 V → Calls Try.prog 52 #[.slice Q q.length r] V fun e w' => e = .returned (iv (manyTo q q.length : Nat)) ∧ Below V.heap.size V w' := fun V hb => blocks52_any x1.heap.size Q q r V (by omega) (fun x hx => by have := hx8 x hx; omega) (hrd.below hb (Nat.le_refl _)) hb.size
        obtain ⟨M, hM⟩ : ∃ M, manyTo q q.length = M := ⟨_, rfl⟩
        rw [hM] at hm hiff
        have HM := Lib.hid hm
        clear hm hM hrd hq8 hx8 hb
        obtain ⟨rfl, hMb⟩ := hiff.2 ⟨hle, HU3.out⟩
        have xc : x1.cell? ⟨wr.heap.size, 4, none⟩ = some (.int .i64 U) := hkk.cell 4
        have hd : decide ((M : Int) ≤ (b : Int)) = true := decide_eq_true (by omega)
        have hMb2 : (M : Int) ≤ (b : Int) := by omega
        clear hiff hkk herr
        go_wp2_with fail
        refine (HM.out _ (belowR _)).mono ?_
        rintro e x2 ⟨rfl, hb⟩
        have X2 := Lib.hid (belowT X1.out hb)
        clear hb HM
        go_wp2_with fail
        go_roundw
        case rel => exact ⟨1, by omega, by go_num, Lib.hid (belowT HBR.out X2.out)⟩
        case measure => simp [intOf]
      · rcases (show U = 1 ∨ 1 < U by omega) with rfl | hU1
        · go_wp2_with fail
          refine (HFZ.out wr _ _ _ wr.heap.size ((#[Value.slice A h.ps.length cap, Value.slice J h.js.length capJ, Value.int IntKind.i64 (h.slo), Value.int IntKind.i64 (h.shi), Value.int IntKind.i64 (0)] : Array Value)) (belowT HB3.out HBR1.out) ?bb10 ?kk10).mono ?_
          case bb10 => repeat (first | exact belowR _ | refine belowA ?_ _ | refine belowS ?_ (Nat.le_refl _) _)
          case kk10 => exact Blk.new wr 27 _
          rintro e x1 ⟨hb, hkk, E, rfl⟩
          have X1 := Lib.hid hb
          have xc : x1.cell? ⟨wr.heap.size, 4, none⟩ = some (.int .i64 0) := hkk.cell 4
          clear hkk
          go_wp2_with fail
          go_roundw
          case rel => exact ⟨2, by omega, by go_num, Lib.hid (belowT HBR.out X1.out)⟩
          case measure => simp [intOf]
        · have hup : decide ((0 : Int) < U - 1) = true := decide_eq_true (by omega)
          go_wp2_with fail
          refine (HFE.out HN.out wr _ _ _ _ wr.heap.size ((#[Value.slice A h.ps.length cap, Value.slice J h.js.length capJ, Value.int IntKind.i64 (h.slo), Value.int IntKind.i64 (h.shi), Value.int IntKind.i64 (U - 1)] : Array Value)) (belowT HB3.out HBR1.out) ?bb11 ?kk11 hs1 hs2 hs3 (by omega) (by omega)).mono ?_
          case bb11 => repeat (first | exact belowR _ | refine belowA ?_ _ | refine belowS ?_ (Nat.le_refl _) _)
          case kk11 => exact Blk.new wr 27 _
          rintro e x1 ⟨hb, hkk, q, E, Q, r, rfl, hrd, hq8, hx8, herr, hiff⟩
          have X1 := Lib.hid hb
          have hm : ∀ V, Below x1.heap.size x1 V → Calls Try.prog 52 #[.slice Q q.length r] V fun e w' => e = .returned (iv (manyTo q q.length : Nat)) ∧ Below V.heap.size V w' := fun V hb => blocks52_any x1.heap.size Q q r V (by omega) (fun x hx => by have := hx8 x hx; omega) (hrd.below hb (Nat.le_refl _)) hb.size
          obtain ⟨M, hM⟩ : ∃ M, manyTo q q.length = M := ⟨_, rfl⟩
          rw [hM] at hm hiff
          have HM := Lib.hid hm
          clear hm hM hrd hq8 hx8 hb
          have hno : ¬ (E = 0 ∧ M ≤ b) := fun h9 => by have := (hiff.1 h9).2; have := HU4.out hU1; omega
          have xc : x1.cell? ⟨wr.heap.size, 4, none⟩ = some (.int .i64 (U - 1)) := hkk.cell 4
          clear hiff hkk
          rcases herr with rfl | rfl
          · have hMb : ¬ M ≤ b := fun h9 => hno ⟨rfl, h9⟩
            have hd : decide ((M : Int) ≤ (b : Int)) = false := decide_eq_false (by omega)
            have hMb2 : ¬ (M : Int) ≤ (b : Int) := by omega
            clear hno hMb
            go_wp2_with fail
            refine (HM.out _ (belowR _)).mono ?_
            rintro e x2 ⟨rfl, hb⟩
            have X2 := Lib.hid (belowT X1.out hb)
            clear hb HM
            go_wp2_with fail
            go_roundw
            case rel => exact ⟨2, by omega, by go_num, Lib.hid (belowT HBR.out X2.out)⟩
            case measure => simp [intOf]
          · clear hno
            go_wp2_with fail
            go_roundw
            case rel => exact ⟨2, by omega, by go_num, Lib.hid (belowT HBR.out X1.out)⟩
            case measure => simp [intOf]
      · rw [show (k : Int) = 2 by omega]
        have hs9 : 1000 * h.winch < (L : Int) := by rcases HSS.out with ⟨h9, _⟩ | ⟨_, h9, _⟩; exact h9; omega
        go_wp2_with fail
        refine (HSP.out wr _ _ _ wr.heap.size ((#[Value.slice A h.ps.length cap, Value.slice J h.js.length capJ, Value.int IntKind.i64 (h.slo), Value.int IntKind.i64 (h.shi), Value.int IntKind.i64 (h.winch)] : Array Value)) ?bb12 ?kk12).mono ?_
        case bb12 => repeat (first | exact belowR _ | refine belowA ?_ _ | refine belowS ?_ (Nat.le_refl _) _)
        case kk12 => exact Blk.new wr 27 _
        rintro e y1 ⟨rfl, hb, hkk⟩
        have z2 : y1.cell? ⟨wr.heap.size, 2, none⟩ = some (.int .i64 h.slo) := hkk.cell 2
        have z3 : y1.cell? ⟨wr.heap.size, 3, none⟩ = some (.int .i64 h.shi) := hkk.cell 3
        have z0 : y1.cell? ⟨wr.heap.size, 0, none⟩ = some (.slice A h.ps.length cap) := hkk.cell 0
        have z1 : y1.cell? ⟨wr.heap.size, 1, none⟩ = some (.slice J h.js.length capJ) := hkk.cell 1
        have z4 : y1.cell? ⟨wr.heap.size, 4, none⟩ = some (.int .i64 h.winch) := hkk.cell 4
        have g2 := hkk.frozen 2
        have g3 := hkk.frozen 3
        have Y1 := Lib.hid hb
        have KK := Lib.hid hkk
        clear hb hkk
        go_wp2_with fail
        refine (HFE.out HN.out wr _ _ _ _ wr.heap.size ((#[Value.slice A h.ps.length cap, Value.slice J h.js.length capJ, Value.int IntKind.i64 (1), Value.int IntKind.i64 (1), Value.int IntKind.i64 (h.winch)] : Array Value)) (belowT HB3.out HBR1.out) ?bb13 ?kk13 (by omega) (by omega) (by omega) hw1 hw2).mono ?_
        case bb13 => exact belowS (belowS Y1.out (Nat.le_refl _) _) (Nat.le_refl _) _
        case kk13 => exact (KK.out.set_ 2 _).set_ 3 _
        rintro e x1 ⟨hb, hkk, q, E, Q, r, rfl, hrd, hq8, hx8, herr, hiff⟩
        have X1 := Lib.hid hb
        have hm : ∀ V, Below x1.heap.size x1 V → Calls Try.prog 52 #[.slice Q q.length r] V fun e w' => e = .returned (iv (manyTo q q.length : Nat)) ∧ Below V.heap.size V w' := fun V hb => blocks52_any x1.heap.size Q q r V (by omega) (fun x hx => by have := hx8 x hx; omega) (hrd.below hb (Nat.le_refl _)) hb.size
        obtain ⟨M, hM⟩ : ∃ M, manyTo q q.length = M := ⟨_, rfl⟩
        rw [hM] at hm hiff
        have HM := Lib.hid hm
        clear hm hM hrd hq8 hx8 hb
        have hno : ¬ (E = 0 ∧ M ≤ b) := fun h9 => by have := (hiff.1 h9).2; omega
        clear hiff hkk
        rcases herr with rfl | rfl
        · have hMb : ¬ M ≤ b := fun h9 => hno ⟨rfl, h9⟩
          have hd : decide ((b : Int) < (M : Int)) = true := decide_eq_true (by omega)
          have hMb2 : (b : Int) < (M : Int) := by omega
          clear hno hMb
          go_wp2_with fail
          refine (HM.out _ (belowR _)).mono ?_
          rintro e x2 ⟨rfl, hb⟩
          have X2 := Lib.hid (belowT X1.out hb)
          clear hb HM
          go_wp2_with fail
          refine (HAW.out _).mono ?_
          rintro e y9 ⟨rfl, hb⟩
          have Y9 := Lib.hid (belowT (belowT HBR1.out X2.out) hb)
          clear hb
          go_wp2_with fail
          go_ret
          exact ⟨rfl, belowT HB0.out (belowT HB3.out Y9.out)⟩
        · clear hno
          go_wp2_with fail
          refine (HAW.out _).mono ?_
          rintro e y9 ⟨rfl, hb⟩
          have Y9 := Lib.hid (belowT (belowT HBR1.out X1.out) hb)
          clear hb
          go_wp2_with fail
          go_ret
          exact ⟨rfl, belowT HB0.out (belowT HB3.out Y9.out)⟩
end Go.Proofs.Ytojgdallodmanaa
