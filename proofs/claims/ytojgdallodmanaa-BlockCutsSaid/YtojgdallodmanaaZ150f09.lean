/- BlockHeavy: the walk. What two lists with the same weighings answer: contracts for BlockOrder. -/
import Derived.Deep.DeepCutAuto
import Derived.Test.YtojgdallodmanaaZ654d27
import Derived.Test.YtojgdallodmanaaZ9dec06
namespace Go.Proofs.Ytojgdallodmanaa
open Go.RowKit

/-- What both answer: a row of whole numbers that can be read. -/
def RowAns (h : Hul) (l : List Wgh) (set : Int) (w : World) (L : List Int) (e : Ending) (w' : World) : Prop :=
  Below w.heap.size w w' ∧ ∃ A c, e = .returned (.tuple #[.slice A L.length c, iv (enterE h l set)]) ∧ Rd1 iv w' w'.heap.size A L
theorem row_ints {W : World} {base n cap : Nat} {A : Option Addr} {L : List Int} (hl : L.length = n) (h : W.ownsRow base 3 1 (.slice A n cap) n (L.map iv)) : Rd1 iv W W.heap.size A L := by
  subst hl
  obtain ⟨A9, c9, hv9, hR9, _⟩ := own_rd1 h
  injection hv9 with h2
  rw [h2]
  exact hR9

set_option maxRecDepth 100000 in
set_option maxHeartbeats 16000000 in
theorem heavyLaw_any (h : Hul) (A J : Option Addr) (cap capJ : Nat) (AL : Option Addr) (l : List Wgh) (capL : Nat) (set : Int) (B : Nat) (w : World)
    (hH : HulRd w B h A cap J capJ) (hL : RdN 3 encWgh w B AL l) (hlc : l.length ≤ capL) (hcm : capL ≤ maxLen) (hB : B ≤ w.heap.size) :
    Calls Try.prog 4 #[hv h A cap J capJ, .slice AL l.length capL, .int .i64 set] w fun e w' => e = .returned (.bool true) ∧ Below w.heap.size w w' := by
  obtain ⟨W1, hW1, hb0, hzz, p0, p1, p2, p3, p4⟩ := hulBox w h A cap J capJ
  have HKB : Hid (∀ W, Below W1.heap.size W1 W → W.cell? ⟨w.heap.size, 0, none⟩ = some (.slice A h.ps.length cap) ∧ W.cell? ⟨w.heap.size, 1, none⟩ = some (.slice J h.js.length capJ) ∧ W.cell? ⟨w.heap.size, 2, none⟩ = some (.int .i64 h.slo) ∧ W.cell? ⟨w.heap.size, 3, none⟩ = some (.int .i64 h.shi) ∧ W.cell? ⟨w.heap.size, 4, none⟩ = some (.int .i64 h.winch)) := Lib.hid fun W hb => ⟨keepC hb p0, keepC hb p1, keepC hb p2, keepC hb p3, keepC hb p4⟩
  have hBz : B ≤ W1.heap.size := Nat.le_trans hB hb0.size
  have HH := Lib.hid (hH.below hb0 hB)
  have HL := Lib.hid (hL.below hb0 hB)
  have HB0 := Lib.hid hb0
  have hlm : l.length ≤ maxLen := Nat.le_trans hlc hcm
  have HAW := Lib.hid awake_any
  have hcc : ∀ V, Below W1.heap.size W1 V → Calls Try.prog 25 #[hv h A cap J capJ, .slice AL l.length capL, iv set] V (HeaviestPost h l set V) := fun V hb => heaviest_any h A J B cap capJ AL l capL set V (HH.out.below hb hBz) (HL.out.below hb hBz) hlc (Nat.le_trans hBz hb.size)
  have hrc : ∀ V, Below W1.heap.size W1 V → Calls Try.prog 26 #[hv h A cap J capJ, .slice AL l.length capL, .int .i64 set] V (RefHeavyPost h l set V) := fun V hb => refHeavy_any h A J B cap capJ AL l capL set V (HH.out.below hb hBz) (HL.out.below hb hBz) hlm (Nat.le_trans hBz hb.size)
  obtain ⟨L, hLL, ha, hb⟩ : ∃ L : List Int, L.length ≤ 8 ∧ (∀ V e w', HeaviestPost h l set V e w' → RowAns h l set V L e w') ∧ (∀ V e w', RefHeavyPost h l set V e w' → RowAns h l set V L e w') := by
    by_cases h0 : enterE h l set = 0
    · obtain ⟨hp, hf, hbe⟩ := enterE_zero h0
      have hk := hulOk (openPre_zero hp).1
      obtain ⟨s, _, _, hs2, rfl, _⟩ := blockE_zero hk.n8 hbe
      have hM : IsMost h l s (mostRef h l s) := by
        obtain ⟨a, b, c⟩ := lwOk hp
        exact (a.most_is b c hf hs2).2
      have hl2 := lowL_len h l s (mostRef h l s) h.ps.length
      refine ⟨lowL h l s (mostRef h l s) h.ps.length, by rw [hl2]; exact hk.n8, fun V e w' hpost => ?_, fun V e w' hpost => ?_⟩
      · obtain ⟨hb2, hc2⟩ := hpost
        rcases hc2 with ⟨hne, _⟩ | ⟨_, _, _, _, N, A2, c2, hN, rfl, hown⟩
        · exact absurd h0 hne
        · rw [Int.toNat_natCast, mostV_ref hp hN hf hs2, limL_low hp hN hs2 hM] at hown
          exact ⟨hb2, A2, c2, by rw [hl2, h0], row_ints hl2 hown⟩
      · obtain ⟨hb2, hc2⟩ := hpost
        rcases hc2 with ⟨hne, _⟩ | ⟨_, A2, c2, rfl, hown⟩
        · exact absurd h0 hne
        · rw [Int.toNat_natCast] at hown
          exact ⟨hb2, A2, c2, by rw [hl2, h0], row_ints hl2 hown⟩
    · refine ⟨[], by simp, fun V e w' hpost => ?_, fun V e w' hpost => ?_⟩
      · obtain ⟨hb2, hc2⟩ := hpost
        rcases hc2 with ⟨_, rfl⟩ | ⟨h1, _⟩
        · exact ⟨hb2, none, 0, rfl, Rd1.nil⟩
        · exact absurd h1 h0
      · obtain ⟨hb2, hc2⟩ := hpost
        rcases hc2 with ⟨_, rfl⟩ | ⟨h1, _⟩
        · exact ⟨hb2, none, 0, rfl, Rd1.nil⟩
        · exact absurd h1 h0
  have HCC := Lib.hid hcc
  have HRC := Lib.hid hrc
  have HA := Lib.hid ha
  have HB := Lib.hid hb
  have HIC := Lib.hid fun (V W : World) A2 A3 c2 c3 (hb : Below V.heap.size V W) (h2 : Rd1 iv V V.heap.size A2 L) (h3 : Rd1 iv W W.heap.size A3 L) => ints_any A2 A3 L L W.heap.size c2 c3 W ((h2.below hb (Nat.le_refl _)).more hb.size) h3 (by omega) (by omega) (Nat.le_refl _)
  obtain ⟨EE, hEE⟩ : ∃ e, enterE h l set = e := ⟨_, rfl⟩
  have HEE := Lib.hid hEE
  clear hcc hrc hb0 hH hL hlc hcm hlm hzz ha hb hEE
  go_enter Try.func4, Try.ntmps4
  go_wp2_with fail
  refine (HCC.out _ (belowR _)).mono ?_
  intro e w2 hpost
  obtain ⟨hb2, A2, c2, rfl, hr2⟩ := HA.out _ _ _ hpost
  rw [HEE.out]
  have HB2 := Lib.hid hb2
  have HR2 := Lib.hid hr2
  clear hb2 hr2 hpost hW1 p0 p1 p2 p3 p4
  obtain ⟨p0, p1, p2, p3, p4⟩ := HKB.out _ HB2.out
  go_wp2_with fail
  refine (HRC.out _ HB2.out).mono ?_
  intro e w3 hpost
  obtain ⟨hb3, A3, c3, rfl, hr3⟩ := HB.out _ _ _ hpost
  rw [HEE.out]
  have hic := HIC.out w2 w3 A2 A3 c2 c3 hb3 HR2.out hr3
  simp only [decide_true] at hic
  have HI := Lib.hid hic
  have HB3 := Lib.hid (belowT HB2.out hb3)
  clear hb3 hr3 hic hpost p0 p1 p2 p3 p4
  go_wp2_with (first | (go_at_call 27; (with_reducible refine HI.out.mono ?_); rintro e w4 ⟨rfl, hb4⟩; have HB4 := Lib.hid (belowT HB3.out hb4); clear hb4) | (go_at_call 24; (with_reducible refine (HAW.out _).mono ?_); rintro e w11 ⟨rfl, hb11⟩; have HB11 := Lib.hid hb11; clear hb11))
  go_ret
  exact ⟨rfl, belowT HB0.out (belowT HB4.out HB11.out)⟩
end Go.Proofs.Ytojgdallodmanaa

namespace Go.Proofs.Ytojgdallodmanaa
open Go.RowKit

theorem row_nats {W : World} {base n cap : Nat} {A : Option Addr} {L : List Nat} (hl : L.length = n) (h : W.ownsRow base 3 1 (.slice A n cap) n (L.map nv)) : Rd1 nv W W.heap.size A L := by
  subst hl
  obtain ⟨A9, c9, hv9, hR9, _⟩ := own_rd1 h
  injection hv9 with h2
  rw [h2]
  exact hR9
theorem nats_ints {W : World} {B : Nat} {A : Option Addr} {L : List Nat} (h : Rd1 nv W B A L) : Rd1 iv W B A (L.map (fun x : Nat => (x : Int))) := by
  intro i x hx
  rw [List.getElem?_map] at hx
  cases e : L[i]? with
  | none => rw [e] at hx; cases hx
  | some y =>
    rw [e] at hx
    injection hx with hx
    subst hx
    exact h i y e
section
variable {h : Hul} {l m : List Wgh}
theorem few_len {N : List Nd} (hn8 : h.ps.length ≤ 8) (hf : (fewOf h N).1 ≤ h.ps.length) : ((fewOf h N).2.take h.ps.length).length = h.ps.length := by
  have := (cutsL_mem hn8 hn8 _ (few_some hf).1).1
  rw [List.length_take, this]
  omega
/-- The cut and the error that Fewest answers for every list with these weighings. -/
theorem fewAns (hp : openPre h l = 0) (hf : Feas h l) : ∃ (FL : List Nat) (FE : Int), FL.length ≤ 8 ∧ ∀ m, openPre h m = 0 → (∀ x, x ∈ m ↔ x ∈ l) → ∀ V e w', FewestPost h m V e w' → Below V.heap.size V w' ∧ ∃ A c, e = .returned (.tuple #[.slice A FL.length c, iv FE]) ∧ Rd1 nv w' w'.heap.size A FL := by
  have hk := hulOk (openPre_zero hp).1
  have hn8 := hk.n8
  have hnil : ∀ m V e w', openPre h m = 0 → (∀ x, x ∈ m ↔ x ∈ l) → FewestPost h m V e w' → ∃ N, IsTree h m N := by
    intro m V e w' hq hm ⟨_, hc⟩
    rcases hc with ⟨hne, _⟩ | ⟨_, _, _, N, hN, _⟩
    · exact absurd (openE_zero hq ((feas_same hm h).2 hf)) hne
    · exact ⟨N, hN⟩
  by_cases hex : ∃ m N, openPre h m = 0 ∧ (∀ x, x ∈ m ↔ x ∈ l) ∧ IsTree h m N
  · obtain ⟨m0, N0, hq0, hm0, hN0⟩ := hex
    have key2 : ∀ m, openPre h m = 0 → (∀ x, x ∈ m ↔ x ∈ l) → ∀ V e w', FewestPost h m V e w' → Below V.heap.size V w' ∧ ((h.ps.length < (fewOf h N0).1 ∧ e = .returned (.tuple #[.slice none 0 0, iv 9])) ∨ ((fewOf h N0).1 ≤ h.ps.length ∧ ∃ A cap, e = .returned (.tuple #[.slice A h.ps.length cap, iv 0]) ∧ w'.ownsRow V.heap.size 3 1 (.slice A h.ps.length cap) h.ps.length (((fewOf h N0).2.take h.ps.length).map nv))) := by
      intro m hq hm V e w' ⟨hb, hc⟩
      rcases hc with ⟨hne, _⟩ | ⟨_, _, _, N, hN, hc⟩
      · exact absurd (openE_zero hq ((feas_same hm h).2 hf)) hne
      · have hmm : ∀ x, x ∈ m ↔ x ∈ m0 := fun x => (hm x).trans (hm0 x).symm
        rw [few_ord hq0 hq hmm ((feas_same hm0 h).2 hf) hN0 hN] at hc
        exact ⟨hb, hc⟩
    by_cases hc0 : h.ps.length < (fewOf h N0).1
    · refine ⟨[], 9, by simp, fun m hq hm V e w' hpost => ?_⟩
      obtain ⟨hb, hc⟩ := key2 m hq hm V e w' hpost
      rcases hc with ⟨_, rfl⟩ | ⟨h2, _⟩
      · exact ⟨hb, none, 0, rfl, Rd1.nil⟩
      · omega
    · have hfl := few_len (h := h) (N := N0) hn8 (by omega)
      refine ⟨(fewOf h N0).2.take h.ps.length, 0, by rw [hfl]; exact hn8, fun m hq hm V e w' hpost => ?_⟩
      obtain ⟨hb, hc⟩ := key2 m hq hm V e w' hpost
      rcases hc with ⟨h2, _⟩ | ⟨_, A, c, rfl, hown⟩
      · exact absurd h2 hc0
      · exact ⟨hb, A, c, by rw [hfl], row_nats hfl hown⟩
  · exact ⟨[], 0, by simp, fun m hq hm V e w' hpost => absurd (hnil m V e w' hq hm hpost) fun ⟨N, hN⟩ => hex ⟨m, N, hq, hm, hN⟩⟩
/-- What Weights answers for every list with these weighings. -/
theorem weightsAns (hp : openPre h l = 0) (hf : Feas h l) (hq : openPre h m = 0) (hm : ∀ x, x ∈ m ↔ x ∈ l) {V : World} {e : Ending} {w' : World} (hpost : WeightsPost h m V e w') : Below V.heap.size V w' ∧ ∃ A c, e = .returned (.tuple #[.slice A (spansRef h l h.ps.length).length c, iv 0]) ∧ RdN 2 encSp w' w'.heap.size A (spansRef h l h.ps.length) := by
  obtain ⟨hb, hc⟩ := hpost
  have hfm := (feas_same hm h).2 hf
  have hl2 := spansRef_len h l h.ps.length
  rcases hc with ⟨hne, _⟩ | ⟨_, _, _, N, A, c, hN, rfl, hown⟩
  · exact absurd (openE_zero hq hfm) hne
  · rw [spans_ref hq hN hfm, spansRef_same hp hq hm hf] at hown
    exact ⟨hb, A, c, by rw [hl2], row_spans hl2 hown⟩
/-- What Heaviest answers for every list with these weighings. -/
theorem heavyAns (hp : openPre h l = 0) (hf : Feas h l) (hq : openPre h m = 0) (hm : ∀ x, x ∈ m ↔ x ∈ l) {s : Nat} (h0 : 0 < s) (hs : s < 2 ^ h.ps.length) (hh : hangsB h.js s = true) {V : World} {e : Ending} {w' : World} (hpost : HeaviestPost h m (s : Int) V e w') :
    Below V.heap.size V w' ∧ ∃ A c, e = .returned (.tuple #[.slice A (lowL h l s (mostRef h l s) h.ps.length).length c, iv 0]) ∧ Rd1 iv w' w'.heap.size A (lowL h l s (mostRef h l s) h.ps.length) := by
  obtain ⟨hb, hc⟩ := hpost
  have hfm := (feas_same hm h).2 hf
  have hl2 := lowL_len h l s (mostRef h l s) h.ps.length
  have hen : enterE h m (s : Int) = 0 := by unfold enterE; rw [if_pos (openE_zero hq hfm)]; exact blockE_ok h0 hs hh
  have hM : IsMost h m s (mostRef h m s) := by
    obtain ⟨a, b, c⟩ := lwOk hq
    exact (a.most_is b c hfm hs).2
  rcases hc with ⟨hne, _⟩ | ⟨_, _, _, _, N, A, c, hN, rfl, hown⟩
  · exact absurd hen hne
  · rw [Int.toNat_natCast, mostV_ref hq hN hfm hs, limL_low hq hN hs hM, mostRef_same hp hq hm hf hs, lowL_same hm] at hown
    exact ⟨hb, A, c, by rw [hl2], row_ints hl2 hown⟩
end
end Go.Proofs.Ytojgdallodmanaa
