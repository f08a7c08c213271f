/- BlockHeavy: the walk. What two lists with the same weighings answer: contracts for BlockOrder. BlockOrder: the walk (printed by mkOrder.py). -/
import Derived.Deep.DeepCutAuto
import Derived.Test.YtojgdallodmanaaZ654d27
import Derived.Test.YtojgdallodmanaaZ9dec06
namespace Go.Proofs.Ytojgdallodmanaa
open Go.RowKit

/-- What both answer: a row of whole numbers that can be read. -/
def RowAns (h : Hul) (l : List Wgh) (set : Int) (w : World) (L : List Int) (e : Ending) (w' : World) : Prop :=
  Below w.heap.size w w' ∧ ∃ A c, e = .returned (.tuple #[.slice A L.length c, iv (enterE h l set)]) ∧ Rd1 iv w' w'.heap.size A L
theorem row_ints {W : World} {base n cap : Nat} {A : Option Addr} {L : List Int} (hl : L.length = n) (h : W.ownsRow base 3 1 (.slice A n cap) n (L.map iv)) : Rd1 iv W W.heap.size A L := by
  subst hl
  obtain ⟨A9, c9, hv9, hR9, _⟩ := own_rd1 h
  injection hv9 with h2
  rw [h2]
  exact hR9

set_option maxRecDepth 100000 in
set_option maxHeartbeats 16000000 in
theorem heavyLaw_any (h : Hul) (A J : Option Addr) (cap capJ : Nat) (AL : Option Addr) (l : List Wgh) (capL : Nat) (set : Int) (B : Nat) (w : World)
    (hH : HulRd w B h A cap J capJ) (hL : RdN 3 encWgh w B AL l) (hlc : l.length ≤ capL) (hcm : capL ≤ maxLen) (hB : B ≤ w.heap.size) :
    Calls Try.prog 4 #[hv h A cap J capJ, .slice AL l.length capL, .int .i64 set] w fun e w' => e = .returned (.bool true) ∧ Below w.heap.size w w' := by
  obtain ⟨W1, hW1, hb0, hzz, p0, p1, p2, p3, p4⟩ := hulBox w h A cap J capJ
  have HKB : Hid (∀ W, Below W1.heap.size W1 W → W.cell? ⟨w.heap.size, 0, none⟩ = some (.slice A h.ps.length cap) ∧ W.cell? ⟨w.heap.size, 1, none⟩ = some (.slice J h.js.length capJ) ∧ W.cell? ⟨w.heap.size, 2, none⟩ = some (.int .i64 h.slo) ∧ W.cell? ⟨w.heap.size, 3, none⟩ = some (.int .i64 h.shi) ∧ W.cell? ⟨w.heap.size, 4, none⟩ = some (.int .i64 h.winch)) := Lib.hid fun W hb => ⟨keepC hb p0, keepC hb p1, keepC hb p2, keepC hb p3, keepC hb p4⟩
  have hBz : B ≤ W1.heap.size := Nat.le_trans hB hb0.size
  have HH := Lib.hid (hH.below hb0 hB)
  have HL := Lib.hid (hL.below hb0 hB)
  have HB0 := Lib.hid hb0
  have hlm : l.length ≤ maxLen := Nat.le_trans hlc hcm
  have HAW := Lib.hid awake_any
  have hcc : ∀ V, Below W1.heap.size W1 V → Calls Try.prog 25 #[hv h A cap J capJ, .slice AL l.length capL, iv set] V (HeaviestPost h l set V) := fun V hb => heaviest_any h A J B cap capJ AL l capL set V (HH.out.below hb hBz) (HL.out.below hb hBz) hlc (Nat.le_trans hBz hb.size)
  have hrc : ∀ V, Below W1.heap.size W1 V → Calls Try.prog 26 #[hv h A cap J capJ, .slice AL l.length capL, .int .i64 set] V (RefHeavyPost h l set V) := fun V hb => refHeavy_any h A J B cap capJ AL l capL set V (HH.out.below hb hBz) (HL.out.below hb hBz) hlm (Nat.le_trans hBz hb.size)
  obtain ⟨L, hLL, ha, hb⟩ : ∃ L : List Int, L.length ≤ 8 ∧ (∀ V e w', HeaviestPost h l set V e w' → RowAns h l set V L e w') ∧ (∀ V e w', RefHeavyPost h l set V e w' → RowAns h l set V L e w') := by
    by_cases h0 : enterE h l set = 0
    · obtain ⟨hp, hf, hbe⟩ := enterE_zero h0
      have hk := hulOk (openPre_zero hp).1
      obtain ⟨s, _, _, hs2, rfl, _⟩ := blockE_zero hk.n8 hbe
      have hM : IsMost h l s (mostRef h l s) := by
        obtain ⟨a, b, c⟩ := lwOk hp
        exact (a.most_is b c hf hs2).2
      have hl2 := lowL_len h l s (mostRef h l s) h.ps.length
      refine ⟨lowL h l s (mostRef h l s) h.ps.length, by rw [hl2]; exact hk.n8, fun V e w' hpost => ?_, fun V e w' hpost => ?_⟩
      · obtain ⟨hb2, hc2⟩ := hpost
        rcases hc2 with ⟨hne, _⟩ | ⟨_, _, _, _, N, A2, c2, hN, rfl, hown⟩
        · exact absurd h0 hne
        · rw [Int.toNat_natCast, mostV_ref hp hN hf hs2, limL_low hp hN hs2 hM] at hown
          exact ⟨hb2, A2, c2, by rw [hl2, h0], row_ints hl2 hown⟩
      · obtain ⟨hb2, hc2⟩ := hpost
        rcases hc2 with ⟨hne, _⟩ | ⟨_, A2, c2, rfl, hown⟩
        · exact absurd h0 hne
        · rw [Int.toNat_natCast] at hown
          exact ⟨hb2, A2, c2, by rw [hl2, h0], row_ints hl2 hown⟩
    · refine ⟨[], by simp, fun V e w' hpost => ?_, fun V e w' hpost => ?_⟩
      · obtain ⟨hb2, hc2⟩ := hpost
        rcases hc2 with ⟨_, rfl⟩ | ⟨h1, _⟩
        · exact ⟨hb2, none, 0, rfl, Rd1.nil⟩
        · exact absurd h1 h0
      · obtain ⟨hb2, hc2⟩ := hpost
        rcases hc2 with ⟨_, rfl⟩ | ⟨h1, _⟩
        · exact ⟨hb2, none, 0, rfl, Rd1.nil⟩
        · exact absurd h1 h0
  have HCC := Lib.hid hcc
  have HRC := Lib.hid hrc
  have HA := Lib.hid ha
  have HB := Lib.hid hb
  have HIC := Lib.hid fun (V W : World) A2 A3 c2 c3 (hb : Below V.heap.size V W) (h2 : Rd1 iv V V.heap.size A2 L) (h3 : Rd1 iv W W.heap.size A3 L) => ints_any A2 A3 L L W.heap.size c2 c3 W ((h2.below hb (Nat.le_refl _)).more hb.size) h3 (by omega) (by omega) (Nat.le_refl _)
  obtain ⟨EE, hEE⟩ : ∃ e, enterE h l set = e := ⟨_, rfl⟩
  have HEE := Lib.hid hEE
  clear hcc hrc hb0 hH hL hlc hcm hlm hzz ha hb hEE
  go_enter Try.func4, Try.ntmps4
  go_wp2_with fail
  refine (HCC.out _ (belowR _)).mono ?_
  intro e w2 hpost
  obtain ⟨hb2, A2, c2, rfl, hr2⟩ := HA.out _ _ _ hpost
  rw [HEE.out]
  have HB2 := Lib.hid hb2
  have HR2 := Lib.hid hr2
  clear hb2 hr2 hpost hW1 p0 p1 p2 p3 p4
  obtain ⟨p0, p1, p2, p3, p4⟩ := HKB.out _ HB2.out
  go_wp2_with fail
  refine (HRC.out _ HB2.out).mono ?_
  intro e w3 hpost
  obtain ⟨hb3, A3, c3, rfl, hr3⟩ := HB.out _ _ _ hpost
  rw [HEE.out]
  have hic := HIC.out w2 w3 A2 A3 c2 c3 hb3 HR2.out hr3
  simp only [decide_true] at hic
  have HI := Lib.hid hic
  have HB3 := Lib.hid (belowT HB2.out hb3)
  clear hb3 hr3 hic hpost p0 p1 p2 p3 p4
  go_wp2_with (first | (go_at_call 27; (with_reducible refine HI.out.mono ?_); rintro e w4 ⟨rfl, hb4⟩; have HB4 := Lib.hid (belowT HB3.out hb4); clear hb4) | (go_at_call 24; (with_reducible refine (HAW.out _).mono ?_); rintro e w11 ⟨rfl, hb11⟩; have HB11 := Lib.hid hb11; clear hb11))
  go_ret
  exact ⟨rfl, belowT HB0.out (belowT HB4.out HB11.out)⟩
end Go.Proofs.Ytojgdallodmanaa

namespace Go.Proofs.Ytojgdallodmanaa
open Go.RowKit

theorem row_nats {W : World} {base n cap : Nat} {A : Option Addr} {L : List Nat} (hl : L.length = n) (h : W.ownsRow base 3 1 (.slice A n cap) n (L.map nv)) : Rd1 nv W W.heap.size A L := by
  subst hl
  obtain ⟨A9, c9, hv9, hR9, _⟩ := own_rd1 h
  injection hv9 with h2
  rw [h2]
  exact hR9
theorem nats_ints {W : World} {B : Nat} {A : Option Addr} {L : List Nat} (h : Rd1 nv W B A L) : Rd1 iv W B A (L.map (fun x : Nat => (x : Int))) := by
  intro i x hx
  rw [List.getElem?_map] at hx
  cases e : L[i]? with
  | none => rw [e] at hx; cases hx
  | some y =>
    rw [e] at hx
    injection hx with hx
    subst hx
    exact h i y e
section
variable {h : Hul} {l m : List Wgh}
theorem few_len {N : List Nd} (hn8 : h.ps.length ≤ 8) (hf : (fewOf h N).1 ≤ h.ps.length) : ((fewOf h N).2.take h.ps.length).length = h.ps.length := by
  have := (cutsL_mem hn8 hn8 _ (few_some hf).1).1
  rw [List.length_take, this]
  omega
/-- The cut and the error that Fewest answers for every list with these weighings. -/
theorem fewAns (hp : openPre h l = 0) (hf : Feas h l) : ∃ (FL : List Nat) (FE : Int), FL.length ≤ 8 ∧ ∀ m, openPre h m = 0 → (∀ x, x ∈ m ↔ x ∈ l) → ∀ V e w', FewestPost h m V e w' → Below V.heap.size V w' ∧ ∃ A c, e = .returned (.tuple #[.slice A FL.length c, iv FE]) ∧ Rd1 nv w' w'.heap.size A FL := by
  have hk := hulOk (openPre_zero hp).1
  have hn8 := hk.n8
  have hnil : ∀ m V e w', openPre h m = 0 → (∀ x, x ∈ m ↔ x ∈ l) → FewestPost h m V e w' → ∃ N, IsTree h m N := by
    intro m V e w' hq hm ⟨_, hc⟩
    rcases hc with ⟨hne, _⟩ | ⟨_, _, _, N, hN, _⟩
    · exact absurd (openE_zero hq ((feas_same hm h).2 hf)) hne
    · exact ⟨N, hN⟩
  by_cases hex : ∃ m N, openPre h m = 0 ∧ (∀ x, x ∈ m ↔ x ∈ l) ∧ IsTree h m N
  · obtain ⟨m0, N0, hq0, hm0, hN0⟩ := hex
    have key2 : ∀ m, openPre h m = 0 → (∀ x, x ∈ m ↔ x ∈ l) → ∀ V e w', FewestPost h m V e w' → Below V.heap.size V w' ∧ ((h.ps.length < (fewOf h N0).1 ∧ e = .returned (.tuple #[.slice none 0 0, iv 9])) ∨ ((fewOf h N0).1 ≤ h.ps.length ∧ ∃ A cap, e = .returned (.tuple #[.slice A h.ps.length cap, iv 0]) ∧ w'.ownsRow V.heap.size 3 1 (.slice A h.ps.length cap) h.ps.length (((fewOf h N0).2.take h.ps.length).map nv))) := by
      intro m hq hm V e w' ⟨hb, hc⟩
      rcases hc with ⟨hne, _⟩ | ⟨_, _, _, N, hN, hc⟩
      · exact absurd (openE_zero hq ((feas_same hm h).2 hf)) hne
      · have hmm : ∀ x, x ∈ m ↔ x ∈ m0 := fun x => (hm x).trans (hm0 x).symm
        rw [few_ord hq0 hq hmm ((feas_same hm0 h).2 hf) hN0 hN] at hc
        exact ⟨hb, hc⟩
    by_cases hc0 : h.ps.length < (fewOf h N0).1
    · refine ⟨[], 9, by simp, fun m hq hm V e w' hpost => ?_⟩
      obtain ⟨hb, hc⟩ := key2 m hq hm V e w' hpost
      rcases hc with ⟨_, rfl⟩ | ⟨h2, _⟩
      · exact ⟨hb, none, 0, rfl, Rd1.nil⟩
      · omega
    · have hfl := few_len (h := h) (N := N0) hn8 (by omega)
      refine ⟨(fewOf h N0).2.take h.ps.length, 0, by rw [hfl]; exact hn8, fun m hq hm V e w' hpost => ?_⟩
      obtain ⟨hb, hc⟩ := key2 m hq hm V e w' hpost
      rcases hc with ⟨h2, _⟩ | ⟨_, A, c, rfl, hown⟩
      · exact absurd h2 hc0
      · exact ⟨hb, A, c, by rw [hfl], row_nats hfl hown⟩
  · exact ⟨[], 0, by simp, fun m hq hm V e w' hpost => absurd (hnil m V e w' hq hm hpost) fun ⟨N, hN⟩ => hex ⟨m, N, hq, hm, hN⟩⟩
/-- What Weights answers for every list with these weighings. -/
theorem weightsAns (hp : openPre h l = 0) (hf : Feas h l) (hq : openPre h m = 0) (hm : ∀ x, x ∈ m ↔ x ∈ l) {V : World} {e : Ending} {w' : World} (hpost : WeightsPost h m V e w') : Below V.heap.size V w' ∧ ∃ A c, e = .returned (.tuple #[.slice A (spansRef h l h.ps.length).length c, iv 0]) ∧ RdN 2 encSp w' w'.heap.size A (spansRef h l h.ps.length) := by
  obtain ⟨hb, hc⟩ := hpost
  have hfm := (feas_same hm h).2 hf
  have hl2 := spansRef_len h l h.ps.length
  rcases hc with ⟨hne, _⟩ | ⟨_, _, _, N, A, c, hN, rfl, hown⟩
  · exact absurd (openE_zero hq hfm) hne
  · rw [spans_ref hq hN hfm, spansRef_same hp hq hm hf] at hown
    exact ⟨hb, A, c, by rw [hl2], row_spans hl2 hown⟩
/-- What Heaviest answers for every list with these weighings. -/
theorem heavyAns (hp : openPre h l = 0) (hf : Feas h l) (hq : openPre h m = 0) (hm : ∀ x, x ∈ m ↔ x ∈ l) {s : Nat} (h0 : 0 < s) (hs : s < 2 ^ h.ps.length) (hh : hangsB h.js s = true) {V : World} {e : Ending} {w' : World} (hpost : HeaviestPost h m (s : Int) V e w') :
    Below V.heap.size V w' ∧ ∃ A c, e = .returned (.tuple #[.slice A (lowL h l s (mostRef h l s) h.ps.length).length c, iv 0]) ∧ Rd1 iv w' w'.heap.size A (lowL h l s (mostRef h l s) h.ps.length) := by
  obtain ⟨hb, hc⟩ := hpost
  have hfm := (feas_same hm h).2 hf
  have hl2 := lowL_len h l s (mostRef h l s) h.ps.length
  have hen : enterE h m (s : Int) = 0 := by unfold enterE; rw [if_pos (openE_zero hq hfm)]; exact blockE_ok h0 hs hh
  have hM : IsMost h m s (mostRef h m s) := by
    obtain ⟨a, b, c⟩ := lwOk hq
    exact (a.most_is b c hfm hs).2
  rcases hc with ⟨hne, _⟩ | ⟨_, _, _, _, N, A, c, hN, rfl, hown⟩
  · exact absurd hen hne
  · rw [Int.toNat_natCast, mostV_ref hq hN hfm hs, limL_low hq hN hs hM, mostRef_same hp hq hm hf hs, lowL_same hm] at hown
    exact ⟨hb, A, c, by rw [hl2], row_ints hl2 hown⟩
end
end Go.Proofs.Ytojgdallodmanaa

namespace Go.Proofs.Ytojgdallodmanaa
open Go.RowKit

theorem encWgh_len3 : ∀ x : Wgh, (encWgh x).length = 3 := fun _ => rfl
theorem step_rowC {α : Type} {enc : α → List Value} {k lo p i : Nat} {e : TypeId} {xs : List α} {x : α} {V W : World} {v' : Value} {X : List Value} (he : ∀ x, (enc x).length = k) (hX : X = enc x) (hxl : xs.length = i) (hp : p ≤ i) (hlo : lo ≤ V.heap.size)
    (hL : LiveB V W [some ⟨v', e, k, 0 + p + 1 + (i - p), [] ++ (xs.take p).flatMap enc ++ X ++ (xs.drop p).flatMap enc⟩, none, none, none]) : ∃ A cap, v' = .slice A (i + 1) cap ∧ RowR lo k enc W A cap (putP xs p x) ∧ W.ownsRow lo e k (.slice A (i + 1) cap) (i + 1) ((putP xs p x).flatMap enc) := by
  obtain ⟨A, cap, rfl, hr⟩ := step_rowB he hX hxl hp hlo hL
  refine ⟨A, cap, rfl, hr, ?_⟩
  subst hX
  have ho : W.ownsRow V.heap.size e k (.slice A (i + 1) cap) (0 + p + 1 + (i - p)) ([] ++ (xs.take p).flatMap enc ++ enc x ++ (xs.drop p).flatMap enc) := live_own hL.2 (i := 0) rfl
  have hn : 0 + p + 1 + (i - p) = i + 1 := by omega
  have hx : [] ++ (xs.take p).flatMap enc ++ enc x ++ (xs.drop p).flatMap enc = (putP xs p x).flatMap enc := by unfold putP; simp [List.flatMap_append]
  rw [hn, hx] at ho
  exact ownsRow_base3 ho hlo
theorem encWgh_one : ∀ (x : Wgh), ∀ u ∈ encWgh x, u.oneCell' = true := fun x u hu => by
  simp only [encWgh, List.mem_cons, List.not_mem_nil, or_false] at hu
  rcases hu with rfl | rfl | rfl <;> rfl

set_option maxRecDepth 100000 in
set_option maxHeartbeats 8000000 in
theorem orderLaw_any (h : Hul) (A J : Option Addr) (cap capJ : Nat) (AL : Option Addr) (l : List Wgh) (capL : Nat) (AX AR : Option Addr) (xs rs : List Int) (capX capR sand blk B : Nat) (w : World)
    (hH : HulRd w B h A cap J capJ) (hL : RdN 3 encWgh w B AL l) (hlc : l.length ≤ capL) (hcm : capL ≤ maxLen) (hP : PastRd w B AX xs AR rs sand blk) (hB : B ≤ w.heap.size) :
    Calls Try.prog 16 #[hv h A cap J capJ, .slice AL l.length capL, pastV AX xs capX AR rs capR sand blk] w fun e w' => e = .returned (.bool true) ∧ Below w.heap.size w w' := by
  obtain ⟨W1, hW1, hb1, hzz, p0, p1, p2, p3, p4⟩ := hulBox w h A cap J capJ
  obtain ⟨W2, hW2, hb2, q0, q1, q2, q3⟩ := pastBox W1 AX xs.length capX AR rs.length capR sand blk
  have hb0 := belowT hb1 hb2
  have HKB : Hid (∀ W, Below W2.heap.size W2 W → W.cell? ⟨w.heap.size, 0, none⟩ = some (.slice A h.ps.length cap) ∧ W.cell? ⟨w.heap.size, 1, none⟩ = some (.slice J h.js.length capJ) ∧ W.cell? ⟨w.heap.size, 2, none⟩ = some (.int .i64 h.slo) ∧ W.cell? ⟨w.heap.size, 3, none⟩ = some (.int .i64 h.shi) ∧ W.cell? ⟨w.heap.size, 4, none⟩ = some (.int .i64 h.winch)) := Lib.hid fun W hb => ⟨keepC hb (keepC hb2 p0), keepC hb (keepC hb2 p1), keepC hb (keepC hb2 p2), keepC hb (keepC hb2 p3), keepC hb (keepC hb2 p4)⟩
  have HKP : Hid (∀ W, Below W2.heap.size W2 W → W.cell? ⟨W1.heap.size, 0, none⟩ = some (.slice AX xs.length capX) ∧ W.cell? ⟨W1.heap.size, 1, none⟩ = some (.slice AR rs.length capR) ∧ W.cell? ⟨W1.heap.size, 2, none⟩ = some (.int .u32 sand) ∧ W.cell? ⟨W1.heap.size, 3, none⟩ = some (.int .u8 blk)) := Lib.hid fun W hb => ⟨keepC hb q0, keepC hb q1, keepC hb q2, keepC hb q3⟩
  have hBz : B ≤ W2.heap.size := Nat.le_trans hB hb0.size
  have HH := Lib.hid (hH.below hb0 hB)
  have HL := Lib.hid (hL.below hb0 hB)
  have HX := Lib.hid (hP.x.below hb0 hB)
  have HR := Lib.hid (hP.r.below hb0 hB)
  have HXU := Lib.hid hP.xu
  have HRU := Lib.hid hP.ru
  have HB0 := Lib.hid hb0
  have hss := hP.s
  have hbb := hP.b
  have hlm : l.length ≤ maxLen := Nat.le_trans hlc hcm
  have HLC := Lib.hid hlc
  have HAW := Lib.hid awake_any
  have HLM := Lib.hid hlm
  have hwc := weighings_any h A J B cap capJ AL l capL W2 HH.out HL.out hlm hBz
  have HWC := Lib.hid hwc
  clear hb0 hb1 hH hL hP hlc hcm hzz hwc
  obtain ⟨p0, p1, p2, p3, p4⟩ := HKB.out _ (belowR W2)
  obtain ⟨q0, q1, q2, q3⟩ := HKP.out _ (belowR W2)
  by_cases hop : openE h l = 0
  case neg =>
    obtain ⟨E, hE⟩ : ∃ E, openE h l = E := ⟨_, rfl⟩
    rw [hE] at hop HWC
    have hcb : (E != 0) = true := by simpa using hop
    clear hE hop
    go_enter Try.func16, Try.ntmps16
    go_wp2_with fail
    refine HWC.out.mono ?_
    rintro e w1 ⟨rfl, hb3⟩
    have HB3 := Lib.hid hb3
    clear hb3 hW1 hW2 p0 p1 p2 p3 p4 q0 q1 q2 q3 hb2
    go_wp2_with (go_at_call 24; refine (HAW.out _).mono ?_; rintro e w5 ⟨rfl, hb5⟩; have HB5 := Lib.hid (belowT HB3.out hb5); clear hb5)
    go_ret
    exact ⟨rfl, belowT HB0.out HB5.out⟩
  obtain ⟨hp, hf⟩ := openE_zero_iff hop
  have hk := hulOk (openPre_zero hp).1
  have hl6 : l.length ≤ 6 := (openPre_iff.1 hp).2.1
  have hn8 := hk.n8
  have hn1 := hk.n1
  rw [hop] at HWC
  have HK := Lib.hid hk
  have HPR := Lib.hid hp
  have HFE := Lib.hid hf
  have hm62 : xs.length ≤ maxLen := HXU.out.1
  have htn : ∀ V i, Below W2.heap.size W2 V → i ≤ 1000 → Calls Try.prog 53 #[.slice AX xs.length capX, .int .i64 (i : Nat)] V fun e w' => e = .returned (iv (turnI xs i)) ∧ V = w' := fun V i hb hi => turn_any AX xs B capX i V hm62 (HX.out.below hb hBz) HXU.out.2 hi
  have HTN := Lib.hid htn
  clear hp hk hf hop htn
  go_enter Try.func16, Try.ntmps16
  go_wp2_with fail
  refine HWC.out.mono ?_
  rintro e w1 ⟨rfl, hb3⟩
  have HB3 := Lib.hid hb3
  clear hb3 hW1 hW2 p0 p1 p2 p3 p4 q0 q1 q2 q3 hb2
  go_wp2_with fail
  obtain ⟨wq, hwq⟩ : ∃ wq : World, wq = w1 := ⟨_, rfl⟩
  have HBQ : Hid (Below w1.heap.size w1 wq) := Lib.hid (by rw [hwq]; exact belowR _)
  rw [← hwq]
  clear hwq
  go_loopw [7, 8] (fun vo vi wr => ∃ (i : Nat) (ys : List Wgh) (A9 : Option Addr) (c9 : Nat), i ≤ l.length ∧ vi = .int .i64 i ∧ vo = .slice A9 i c9 ∧ Hid (ys.length = i ∧ (∀ y, y ∈ ys ↔ y ∈ l.take i) ∧ RowR w1.heap.size 3 encWgh wr A9 c9 ys ∧ wr.ownsRow w1.heap.size 82 3 (.slice A9 i c9) i (ys.flatMap encWgh)) ∧ Hid (Below w1.heap.size w1 wr)) (fun _ vi _ => l.length - (intOf vi).toNat)
  case atStart => exact ⟨0, [], none, 0, Nat.zero_le _, rfl, rfl, Lib.hid ⟨rfl, by simp, RowR.nil, World.ownsRow_nil _ _ _ _⟩, HBQ⟩
  case round =>
    obtain ⟨i, ys, A9, c9, hi, rfl, rfl, HY, HBR⟩ := hrel
    have HBR2 := Lib.hid (belowT HB3.out HBR.out)
    by_cases hlt : i < l.length
    · obtain ⟨T, hT⟩ : ∃ T : Nat, turnI xs i = T := ⟨(turnI xs i).toNat, by have := (turnI_bd xs i HXU.out.2).1; omega⟩
      obtain ⟨k, hk⟩ : ∃ k, T % (i + 1) = k := ⟨_, rfl⟩
      have hki : k ≤ i := by have := Nat.mod_lt T (show i + 1 > 0 by omega); omega
      have hmod : (T : Int) % ((i : Int) + 1) = (k : Int) := by rw [← hk]; simp
      have hcall := HTN.out wr i HBR2.out (by omega)
      rw [hT] at hcall
      have HCALL := Lib.hid hcall
      have HMOD := Lib.hid hmod
      have hiz : (i : Int) < (l.length : Int) := by omega
      have hi0 : (0 : Int) ≤ (i : Int) := by omega
      obtain ⟨q0, q1, q2, q3⟩ := HKP.out _ HBR2.out
      clear hcall hT hk hmod
      go_wp2_with fail
      refine HCALL.out.mono ?_
      rintro e wq ⟨rfl, rfl⟩
      clear HCALL q0 q1 q2 q3
      obtain ⟨x, hx⟩ : ∃ x, l[i]? = some x := ⟨_, List.getElem?_eq_getElem hlt⟩
      obtain ⟨bc, oc, rfl, hbc, e0, e1, e2⟩ := wghAt (HL.out.below HBR2.out hBz) hx
      have hyl := HY.out.1
      have hc9 : i ≤ c9 := by have := HY.out.2.2.1.le; omega
      go_upto_region 8 with fail
      rw [HMOD.out]
      refine reg16_8 (k1 := k) (k2 := i - k) (by omega) (by omega) (HY.out.2.2.1.low encWgh_len3 encWgh_one (p := k) (by omega)) (HY.out.2.2.1.high (Nat.succ_pos 2) encWgh_len3 encWgh_one (n := i) (p := k) hyl.symm hki) hlt e0 e1 e2 (sl16_3 A9 i c9 k (by omega)) (sl16_13 A9 i c9 k (by omega)) ?_
      intro u41 u42 u43 u44 u45 u46 u47 u48 u49 u50 u51 u52 u53 u54 u55 v' W' hL'
      obtain ⟨A10, c10, rfl, hr10, hw10⟩ := step_rowC encWgh_len3 rfl hyl hki HBR.out.size hL'
      have hmem : ∀ y, y ∈ putP ys k x ↔ y ∈ l.take (i + 1) := fun y => by
        rw [putP_mem, HY.out.2.1 y]
        obtain ⟨h1, h2⟩ := List.getElem?_eq_some_iff.1 hx
        rw [List.take_succ_eq_append_getElem h1, h2, List.mem_append, List.mem_singleton]
      have HY2 := Lib.hid (And.intro (show (putP ys k x).length = i + 1 by rw [putP_len, hyl]) (And.intro hmem (And.intro hr10 hw10)))
      have HB2 := Lib.hid (belowT HBR.out hL'.1)
      clear hmem hr10 hw10 hL' e0 e1 e2 hx
      go_wp2_with fail
      go_roundw
      case rel => exact ⟨i + 1, _, A10, c10, by omega, by go_num, by go_num, HY2, HB2⟩
      case measure => simp [intOf]; omega
    · obtain rfl : i = l.length := by omega
      have HMEM : Hid (∀ y, y ∈ ys ↔ y ∈ l) := Lib.hid fun y => by rw [HY.out.2.1 y, List.take_length]
      rcases Nat.lt_or_ge 0 l.length with h0 | h0
      · rcases Nat.lt_or_ge l.length 6 with h6 | h6
        · obtain ⟨T, hT⟩ : ∃ T : Nat, turnI xs 1 = T := ⟨(turnI xs 1).toNat, by have := (turnI_bd xs 1 HXU.out.2).1; omega⟩
          obtain ⟨k, hk⟩ : ∃ k, T % l.length = k := ⟨_, rfl⟩
          have hkl : k < l.length := hk ▸ Nat.mod_lt T h0
          have hmod : (T : Int) % (l.length : Int) = (k : Int) := by rw [← hk]; simp
          have hcall : Calls Try.prog 53 #[.slice AX xs.length capX, .int .i64 1] wr fun e w' => e = .returned (iv (turnI xs 1)) ∧ wr = w' := HTN.out wr 1 HBR2.out (by omega)
          rw [hT] at hcall
          have HCALL := Lib.hid hcall
          obtain ⟨x, hx⟩ : ∃ x, l[k]? = some x := ⟨_, List.getElem?_eq_getElem hkl⟩
          obtain ⟨bc, oc, rfl, hbc, e0, e1, e2⟩ := wghAt (HL.out.below HBR2.out hBz) hx
          have hk0 : (0 : Int) ≤ (k : Int) := by omega
          have hkz : (k : Int) < (l.length : Int) := Int.ofNat_lt.2 hkl
          have hnz : ((l.length : Int) == 0) = false := beq_eq_false_iff_ne.2 (by omega)
          have hxm : x ∈ l := List.mem_of_getElem? hx
          have HM : Hid ((ys ++ [x]).length = l.length + 1 ∧ (∀ y, y ∈ ys ++ [x] ↔ y ∈ l) ∧ l.length + 1 ≤ 6) := Lib.hid ⟨by rw [List.length_append, HY.out.1]; rfl, fun y => by rw [List.mem_append, List.mem_singleton, HMEM.out y]; exact ⟨fun a => a.elim id (fun b => b ▸ hxm), .inl⟩, by omega⟩
          obtain ⟨q0, q1, q2, q3⟩ := HKP.out _ HBR2.out
          obtain ⟨i82, hi82, hz820, hz821, hz822⟩ := info_parts Try.info82
          have HAL := Lib.hid (HY.out.2.2.2.alloc (.cells #[iv x.set, iv x.lo, iv x.hi] 82))
          clear hi hlt hcall hT hk hx hxm
          go_wp2_with fail
          refine HCALL.out.mono ?_
          rintro e wq ⟨rfl, rfl⟩
          clear q0 q1 q2 q3
          go_wp2_with (at_builtin; refine wpList_append_own _ rfl _ _ 28 rfl w1.heap.size 82 i82 (.agg #[.int .i64 0, .int .i64 0, .int .i64 0]) 3 24 Try.underlying28 hi82 hz820 hz821 hz822 rfl (by decide) _ _ _ rfl HAL.out ⟨wr.heap.size, 0, none⟩ 1 1 (encWgh x) rfl rfl ?d1 ?d2 ?d3 ?d4 ?d5 ?_)
          case d1 => intro j u hu; rcases j with _ | _ | _ | j <;> simp [encWgh] at hu <;> subst hu <;> go_simp
          case d2 => exact encWgh_one x
          case d3 => unfold maxLen; omega
          case d4 => omega
          case d5 => have := HBR.out.size; simp only [World.size_alloc]; omega
          intro v10 w10 hown10 hg10 _
          have hb10 : Below w1.heap.size w1 w10 := grownB HAL.out hg10 (Nat.le_refl _) (belowA HBR.out _)
          obtain ⟨A10, c10, hv10, hr10⟩ := RowR.of_own (xs := ys ++ [x]) encWgh_len3 hown10 HM.out.1.symm (by simp) (by simp)
          rw [HM.out.1] at hv10
          subst hv10
          have HBV := Lib.hid hb10
          obtain ⟨h1, h2, h3⟩ := HM.out
          have HM : Hid ((ys ++ [x]).length = l.length + 1 ∧ (∀ y, y ∈ ys ++ [x] ↔ y ∈ l) ∧ RdN 3 encWgh w10 w10.heap.size A10 (ys ++ [x]) ∧ l.length + 1 ≤ c10 ∧ l.length + 1 ≤ 6) := Lib.hid ⟨h1, h2, hr10.rd, by have := hr10.le; omega, h3⟩
          obtain ⟨zs, hzs⟩ : ∃ zs, ys ++ [x] = zs := ⟨_, rfl⟩
          rw [hzs] at HM
          clear h1 h2 h3 hr10 hg10 hown10 hb10 hzs e0 e1 e2 HAL hmod hnz
          obtain ⟨hml, hmm, hmr, hmc, hm6⟩ := HM.out
          have hpm : openPre h zs = 0 := pre_same HPR.out (fun y hy => (hmm y).1 hy) (by rw [hml]; exact hm6)
          have HBV2 := Lib.hid (belowT HB3.out HBV.out)
          have HHV := Lib.hid ((HH.out.below HBV2.out hBz).more (Nat.le_trans hBz HBV2.out.size))
          have HLV := Lib.hid ((HL.out.below HBV2.out hBz).more (Nat.le_trans hBz HBV2.out.size))
          have hhc : ∀ V, Below w10.heap.size w10 V → Calls Try.prog 42 #[hv h A cap J capJ, .int .u8 blk] V fun e w' => Below V.heap.size V w' ∧ ∃ s : Nat, e = .returned (iv s) ∧ 0 < s ∧ s < 2 ^ h.ps.length ∧ hangsB h.js s = true := fun V hb => hung_any h A J w10.heap.size cap capJ blk V (HHV.out.below hb (Nat.le_refl _)) hn1 hn8 HK.out.js HK.out.j12 hbb hb.size
          have hw1 : ∀ V, Below w10.heap.size w10 V → Calls Try.prog 19 #[hv h A cap J capJ, .slice (some ⟨bc, oc, none⟩) l.length capL] V fun e w' => Below V.heap.size V w' ∧ ∃ A c, e = .returned (.tuple #[.slice A (spansRef h l h.ps.length).length c, iv 0]) ∧ RdN 2 encSp w' w'.heap.size A (spansRef h l h.ps.length) := fun V hb => (weights_any h A J w10.heap.size cap capJ (some ⟨bc, oc, none⟩) l capL V (HHV.out.below hb (Nat.le_refl _)) (HLV.out.below hb (Nat.le_refl _)) HLC.out hb.size).mono fun e w' hpost => weightsAns HPR.out HFE.out HPR.out (fun _ => Iff.rfl) hpost
          have hw2 : ∀ V, Below w10.heap.size w10 V → Calls Try.prog 19 #[hv h A cap J capJ, .slice A10 zs.length c10] V fun e w' => Below V.heap.size V w' ∧ ∃ A c, e = .returned (.tuple #[.slice A (spansRef h l h.ps.length).length c, iv 0]) ∧ RdN 2 encSp w' w'.heap.size A (spansRef h l h.ps.length) := fun V hb => (weights_any h A J w10.heap.size cap capJ A10 zs c10 V (HHV.out.below hb (Nat.le_refl _)) (hmr.below hb (Nat.le_refl _)) (by rw [hml]; exact hmc) hb.size).mono fun e w' hpost => weightsAns HPR.out HFE.out hpm hmm hpost
          obtain ⟨FL, FE, hFL, hfa⟩ := fewAns HPR.out HFE.out
          have hf1 : ∀ V, Below w10.heap.size w10 V → Calls Try.prog 30 #[hv h A cap J capJ, .slice (some ⟨bc, oc, none⟩) l.length capL] V fun e w' => Below V.heap.size V w' ∧ ∃ A c, e = .returned (.tuple #[.slice A FL.length c, iv FE]) ∧ Rd1 nv w' w'.heap.size A FL := fun V hb => (fewest_any h A J w10.heap.size cap capJ (some ⟨bc, oc, none⟩) l capL V (HHV.out.below hb (Nat.le_refl _)) (HLV.out.below hb (Nat.le_refl _)) HLC.out hb.size).mono fun e w' hpost => hfa l HPR.out (fun _ => Iff.rfl) V e w' hpost
          have hf2 : ∀ V, Below w10.heap.size w10 V → Calls Try.prog 30 #[hv h A cap J capJ, .slice A10 zs.length c10] V fun e w' => Below V.heap.size V w' ∧ ∃ A c, e = .returned (.tuple #[.slice A FL.length c, iv FE]) ∧ Rd1 nv w' w'.heap.size A FL := fun V hb => (fewest_any h A J w10.heap.size cap capJ A10 zs c10 V (HHV.out.below hb (Nat.le_refl _)) (hmr.below hb (Nat.le_refl _)) (by rw [hml]; exact hmc) hb.size).mono fun e w' hpost => hfa zs hpm hmm V e w' hpost
          have hv1 : ∀ V (s : Nat), Below w10.heap.size w10 V → 0 < s → s < 2 ^ h.ps.length → hangsB h.js s = true → Calls Try.prog 25 #[hv h A cap J capJ, .slice (some ⟨bc, oc, none⟩) l.length capL, iv (s : Int)] V fun e w' => Below V.heap.size V w' ∧ ∃ A c, e = .returned (.tuple #[.slice A (lowL h l s (mostRef h l s) h.ps.length).length c, iv 0]) ∧ Rd1 iv w' w'.heap.size A (lowL h l s (mostRef h l s) h.ps.length) := fun V s hb a b c => (heaviest_any h A J w10.heap.size cap capJ (some ⟨bc, oc, none⟩) l capL (s : Int) V (HHV.out.below hb (Nat.le_refl _)) (HLV.out.below hb (Nat.le_refl _)) HLC.out hb.size).mono fun e w' hpost => heavyAns HPR.out HFE.out HPR.out (fun _ => Iff.rfl) a b c hpost
          have hv2 : ∀ V (s : Nat), Below w10.heap.size w10 V → 0 < s → s < 2 ^ h.ps.length → hangsB h.js s = true → Calls Try.prog 25 #[hv h A cap J capJ, .slice A10 zs.length c10, iv (s : Int)] V fun e w' => Below V.heap.size V w' ∧ ∃ A c, e = .returned (.tuple #[.slice A (lowL h l s (mostRef h l s) h.ps.length).length c, iv 0]) ∧ Rd1 iv w' w'.heap.size A (lowL h l s (mostRef h l s) h.ps.length) := fun V s hb a b c => (heaviest_any h A J w10.heap.size cap capJ A10 zs c10 (s : Int) V (HHV.out.below hb (Nat.le_refl _)) (hmr.below hb (Nat.le_refl _)) (by rw [hml]; exact hmc) hb.size).mono fun e w' hpost => heavyAns HPR.out HFE.out hpm hmm a b c hpost
          have hsl := spansRef_len h l h.ps.length
          have hll : ∀ s, (lowL h l s (mostRef h l s) h.ps.length).length = h.ps.length := fun s => lowL_len _ _ _ _ _
          rw [hml] at hw2 hf2 hv2
          obtain ⟨SP, hSP⟩ : ∃ SP, spansRef h l h.ps.length = SP := ⟨_, rfl⟩
          rw [hSP] at hw1 hw2 hsl
          obtain ⟨LW, hLW⟩ : ∃ LW : Nat → List Int, (fun s => lowL h l s (mostRef h l s) h.ps.length) = LW := ⟨_, rfl⟩
          have hLW : ∀ s, lowL h l s (mostRef h l s) h.ps.length = LW s := fun s => by rw [← hLW]
          simp only [hLW] at hv1 hv2 hll
          have HHC := Lib.hid hhc
          have HW1 := Lib.hid hw1
          have HW2 := Lib.hid hw2
          have HF1 := Lib.hid hf1
          have HF2 := Lib.hid hf2
          have HV1 := Lib.hid hv1
          have HV2 := Lib.hid hv2
          have HSL := Lib.hid hsl
          have HLL := Lib.hid hll
          have HFL := Lib.hid hFL
          clear hhc hw1 hw2 hf1 hf2 hv1 hv2 hsl hll hFL hfa hpm hml hmm hmr hmc hm6 hSP hLW
          obtain ⟨p0, p1, p2, p3, p4⟩ := HKB.out _ HBV2.out
          obtain ⟨q0, q1, q2, q3⟩ := HKP.out _ HBV2.out
          go_wp2_with fail
          refine (HHC.out _ (belowR _)).mono ?_
          rintro e v1 ⟨hb, s, rfl, hs0, hs1, hs2⟩
          have B1 := Lib.hid hb
          have D1 := Lib.hid hb
          have S1 := Lib.hid (And.intro hs0 (And.intro hs1 hs2))
          clear hb hs0 hs1 hs2 p0 p1 p2 p3 p4 q0 q1 q2 q3
          obtain ⟨p0, p1, p2, p3, p4⟩ := HKB.out _ (belowT HBV2.out B1.out)
          go_wp2_with fail
          refine (HW1.out _ B1.out).mono ?_
          rintro e v2 ⟨hb, A2, c2, rfl, hr⟩
          have B2 := Lib.hid (belowT B1.out hb)
          have D2 := Lib.hid hb
          have R2 := Lib.hid hr
          clear hb hr p0 p1 p2 p3 p4
          obtain ⟨p0, p1, p2, p3, p4⟩ := HKB.out _ (belowT HBV2.out B2.out)
          go_wp2_with fail
          refine (HW2.out _ B2.out).mono ?_
          rintro e v3 ⟨hb, A3, c3, rfl, hr⟩
          have B3 := Lib.hid (belowT B2.out hb)
          have D3 := Lib.hid hb
          have R3 := Lib.hid hr
          clear hb hr p0 p1 p2 p3 p4
          obtain ⟨p0, p1, p2, p3, p4⟩ := HKB.out _ (belowT HBV2.out B3.out)
          go_wp2_with fail
          refine (HV1.out _ s B3.out S1.out.1 S1.out.2.1 S1.out.2.2).mono ?_
          rintro e v4 ⟨hb, A4, c4, rfl, hr⟩
          have B4 := Lib.hid (belowT B3.out hb)
          have D4 := Lib.hid hb
          have R4 := Lib.hid hr
          clear hb hr p0 p1 p2 p3 p4
          obtain ⟨p0, p1, p2, p3, p4⟩ := HKB.out _ (belowT HBV2.out B4.out)
          go_wp2_with fail
          refine (HV2.out _ s B4.out S1.out.1 S1.out.2.1 S1.out.2.2).mono ?_
          rintro e v5 ⟨hb, A5, c5, rfl, hr⟩
          have B5 := Lib.hid (belowT B4.out hb)
          have D5 := Lib.hid hb
          have R5 := Lib.hid hr
          clear hb hr p0 p1 p2 p3 p4
          obtain ⟨p0, p1, p2, p3, p4⟩ := HKB.out _ (belowT HBV2.out B5.out)
          go_wp2_with fail
          refine (HF1.out _ B5.out).mono ?_
          rintro e v6 ⟨hb, A6, c6, rfl, hr⟩
          have B6 := Lib.hid (belowT B5.out hb)
          have D6 := Lib.hid hb
          have R6 := Lib.hid hr
          clear hb hr p0 p1 p2 p3 p4
          obtain ⟨p0, p1, p2, p3, p4⟩ := HKB.out _ (belowT HBV2.out B6.out)
          go_wp2_with fail
          refine (HF2.out _ B6.out).mono ?_
          rintro e v7 ⟨hb, A7, c7, rfl, hr⟩
          have B7 := Lib.hid (belowT B6.out hb)
          have D7 := Lib.hid hb
          have R7 := Lib.hid hr
          clear hb hr p0 p1 p2 p3 p4
          have E6 := Lib.hid D7.out
          have E5 := Lib.hid (belowT D6.out E6.out)
          have E4 := Lib.hid (belowT D5.out E5.out)
          have E3 := Lib.hid (belowT D4.out E4.out)
          have E2 := Lib.hid (belowT D3.out E3.out)
          have t1 := spans_any A2 A3 SP SP v7.heap.size c2 c3 v7 ((R2.out.below E2.out (Nat.le_refl _)).more E2.out.size) ((R3.out.below E3.out (Nat.le_refl _)).more E3.out.size) (by rw [HSL.out]; omega) (by rw [HSL.out]; omega) (Nat.le_refl _)
          have t2 := fun V (hb : Below v7.heap.size v7 V) => ints_any A4 A5 (LW s) (LW s) v7.heap.size c4 c5 V (((R4.out.below E4.out (Nat.le_refl _)).more E4.out.size).below hb (Nat.le_refl _)) (((R5.out.below E5.out (Nat.le_refl _)).more E5.out.size).below hb (Nat.le_refl _)) (by rw [HLL.out]; omega) (by rw [HLL.out]; omega) hb.size
          have t3 := fun V (hb : Below v7.heap.size v7 V) => ints_any A6 A7 (FL.map (fun x : Nat => (x : Int))) (FL.map (fun x : Nat => (x : Int))) v7.heap.size c6 c7 V ((nats_ints ((R6.out.below E6.out (Nat.le_refl _)).more E6.out.size)).below hb (Nat.le_refl _)) ((nats_ints R7.out).below hb (Nat.le_refl _)) (by rw [List.length_map]; have := HFL.out; omega) (by rw [List.length_map]; have := HFL.out; omega) hb.size
          simp only [decide_true, List.length_map] at t1 t2 t3
          have T1 := Lib.hid t1
          have T2 := Lib.hid t2
          have T3 := Lib.hid t3
          clear t1 t2 t3
          go_wp2_with fail
          refine T1.out.mono ?_
          rintro e y1 ⟨rfl, hb1⟩
          have F1 := Lib.hid hb1
          clear hb1
          go_wp2_with fail
          refine (T2.out _ F1.out).mono ?_
          rintro e y2 ⟨rfl, hb2⟩
          have F2 := Lib.hid (belowT F1.out hb2)
          clear hb2
          go_wp2_with fail
          refine (T3.out _ F2.out).mono ?_
          rintro e y3 ⟨rfl, hb3⟩
          have F3 := Lib.hid (belowT F2.out hb3)
          clear hb3
          go_wp2_with fail
          refine (HAW.out _).mono ?_
          rintro e y4 ⟨rfl, hb4⟩
          have F4 := Lib.hid (belowT F3.out hb4)
          clear hb4
          go_wp2_with fail
          go_ret
          exact ⟨rfl, belowT HB0.out (belowT HBV2.out (belowT B7.out F4.out))⟩
        · clear hi hlt
          have HM : Hid (ys.length = l.length ∧ (∀ y, y ∈ ys ↔ y ∈ l) ∧ RdN 3 encWgh wr wr.heap.size A9 ys ∧ l.length ≤ c9 ∧ l.length ≤ 6) := Lib.hid ⟨HY.out.1, HMEM.out, HY.out.2.2.1.rd, by have := HY.out.2.2.1.le; have := HY.out.1; omega, by omega⟩
          obtain ⟨hml, hmm, hmr, hmc, hm6⟩ := HM.out
          have hpm : openPre h ys = 0 := pre_same HPR.out (fun y hy => (hmm y).1 hy) (by rw [hml]; exact hm6)
          have HBV2 := Lib.hid (belowT HB3.out HBR.out)
          have HHV := Lib.hid ((HH.out.below HBV2.out hBz).more (Nat.le_trans hBz HBV2.out.size))
          have HLV := Lib.hid ((HL.out.below HBV2.out hBz).more (Nat.le_trans hBz HBV2.out.size))
          have hhc : ∀ V, Below wr.heap.size wr V → Calls Try.prog 42 #[hv h A cap J capJ, .int .u8 blk] V fun e w' => Below V.heap.size V w' ∧ ∃ s : Nat, e = .returned (iv s) ∧ 0 < s ∧ s < 2 ^ h.ps.length ∧ hangsB h.js s = true := fun V hb => hung_any h A J wr.heap.size cap capJ blk V (HHV.out.below hb (Nat.le_refl _)) hn1 hn8 HK.out.js HK.out.j12 hbb hb.size
          have hw1 : ∀ V, Below wr.heap.size wr V → Calls Try.prog 19 #[hv h A cap J capJ, .slice AL l.length capL] V fun e w' => Below V.heap.size V w' ∧ ∃ A c, e = .returned (.tuple #[.slice A (spansRef h l h.ps.length).length c, iv 0]) ∧ RdN 2 encSp w' w'.heap.size A (spansRef h l h.ps.length) := fun V hb => (weights_any h A J wr.heap.size cap capJ AL l capL V (HHV.out.below hb (Nat.le_refl _)) (HLV.out.below hb (Nat.le_refl _)) HLC.out hb.size).mono fun e w' hpost => weightsAns HPR.out HFE.out HPR.out (fun _ => Iff.rfl) hpost
          have hw2 : ∀ V, Below wr.heap.size wr V → Calls Try.prog 19 #[hv h A cap J capJ, .slice A9 ys.length c9] V fun e w' => Below V.heap.size V w' ∧ ∃ A c, e = .returned (.tuple #[.slice A (spansRef h l h.ps.length).length c, iv 0]) ∧ RdN 2 encSp w' w'.heap.size A (spansRef h l h.ps.length) := fun V hb => (weights_any h A J wr.heap.size cap capJ A9 ys c9 V (HHV.out.below hb (Nat.le_refl _)) (hmr.below hb (Nat.le_refl _)) (by rw [hml]; exact hmc) hb.size).mono fun e w' hpost => weightsAns HPR.out HFE.out hpm hmm hpost
          obtain ⟨FL, FE, hFL, hfa⟩ := fewAns HPR.out HFE.out
          have hf1 : ∀ V, Below wr.heap.size wr V → Calls Try.prog 30 #[hv h A cap J capJ, .slice AL l.length capL] V fun e w' => Below V.heap.size V w' ∧ ∃ A c, e = .returned (.tuple #[.slice A FL.length c, iv FE]) ∧ Rd1 nv w' w'.heap.size A FL := fun V hb => (fewest_any h A J wr.heap.size cap capJ AL l capL V (HHV.out.below hb (Nat.le_refl _)) (HLV.out.below hb (Nat.le_refl _)) HLC.out hb.size).mono fun e w' hpost => hfa l HPR.out (fun _ => Iff.rfl) V e w' hpost
          have hf2 : ∀ V, Below wr.heap.size wr V → Calls Try.prog 30 #[hv h A cap J capJ, .slice A9 ys.length c9] V fun e w' => Below V.heap.size V w' ∧ ∃ A c, e = .returned (.tuple #[.slice A FL.length c, iv FE]) ∧ Rd1 nv w' w'.heap.size A FL := fun V hb => (fewest_any h A J wr.heap.size cap capJ A9 ys c9 V (HHV.out.below hb (Nat.le_refl _)) (hmr.below hb (Nat.le_refl _)) (by rw [hml]; exact hmc) hb.size).mono fun e w' hpost => hfa ys hpm hmm V e w' hpost
          have hv1 : ∀ V (s : Nat), Below wr.heap.size wr V → 0 < s → s < 2 ^ h.ps.length → hangsB h.js s = true → Calls Try.prog 25 #[hv h A cap J capJ, .slice AL l.length capL, iv (s : Int)] V fun e w' => Below V.heap.size V w' ∧ ∃ A c, e = .returned (.tuple #[.slice A (lowL h l s (mostRef h l s) h.ps.length).length c, iv 0]) ∧ Rd1 iv w' w'.heap.size A (lowL h l s (mostRef h l s) h.ps.length) := fun V s hb a b c => (heaviest_any h A J wr.heap.size cap capJ AL l capL (s : Int) V (HHV.out.below hb (Nat.le_refl _)) (HLV.out.below hb (Nat.le_refl _)) HLC.out hb.size).mono fun e w' hpost => heavyAns HPR.out HFE.out HPR.out (fun _ => Iff.rfl) a b c hpost
          have hv2 : ∀ V (s : Nat), Below wr.heap.size wr V → 0 < s → s < 2 ^ h.ps.length → hangsB h.js s = true → Calls Try.prog 25 #[hv h A cap J capJ, .slice A9 ys.length c9, iv (s : Int)] V fun e w' => Below V.heap.size V w' ∧ ∃ A c, e = .returned (.tuple #[.slice A (lowL h l s (mostRef h l s) h.ps.length).length c, iv 0]) ∧ Rd1 iv w' w'.heap.size A (lowL h l s (mostRef h l s) h.ps.length) := fun V s hb a b c => (heaviest_any h A J wr.heap.size cap capJ A9 ys c9 (s : Int) V (HHV.out.below hb (Nat.le_refl _)) (hmr.below hb (Nat.le_refl _)) (by rw [hml]; exact hmc) hb.size).mono fun e w' hpost => heavyAns HPR.out HFE.out hpm hmm a b c hpost
          have hsl := spansRef_len h l h.ps.length
          have hll : ∀ s, (lowL h l s (mostRef h l s) h.ps.length).length = h.ps.length := fun s => lowL_len _ _ _ _ _
          rw [hml] at hw2 hf2 hv2
          obtain ⟨SP, hSP⟩ : ∃ SP, spansRef h l h.ps.length = SP := ⟨_, rfl⟩
          rw [hSP] at hw1 hw2 hsl
          obtain ⟨LW, hLW⟩ : ∃ LW : Nat → List Int, (fun s => lowL h l s (mostRef h l s) h.ps.length) = LW := ⟨_, rfl⟩
          have hLW : ∀ s, lowL h l s (mostRef h l s) h.ps.length = LW s := fun s => by rw [← hLW]
          simp only [hLW] at hv1 hv2 hll
          have HHC := Lib.hid hhc
          have HW1 := Lib.hid hw1
          have HW2 := Lib.hid hw2
          have HF1 := Lib.hid hf1
          have HF2 := Lib.hid hf2
          have HV1 := Lib.hid hv1
          have HV2 := Lib.hid hv2
          have HSL := Lib.hid hsl
          have HLL := Lib.hid hll
          have HFL := Lib.hid hFL
          clear hhc hw1 hw2 hf1 hf2 hv1 hv2 hsl hll hFL hfa hpm hml hmm hmr hmc hm6 hSP hLW
          obtain ⟨p0, p1, p2, p3, p4⟩ := HKB.out _ HBV2.out
          obtain ⟨q0, q1, q2, q3⟩ := HKP.out _ HBV2.out
          go_wp2_with fail
          refine (HHC.out _ (belowR _)).mono ?_
          rintro e v1 ⟨hb, s, rfl, hs0, hs1, hs2⟩
          have B1 := Lib.hid hb
          have D1 := Lib.hid hb
          have S1 := Lib.hid (And.intro hs0 (And.intro hs1 hs2))
          clear hb hs0 hs1 hs2 p0 p1 p2 p3 p4 q0 q1 q2 q3
          obtain ⟨p0, p1, p2, p3, p4⟩ := HKB.out _ (belowT HBV2.out B1.out)
          go_wp2_with fail
          refine (HW1.out _ B1.out).mono ?_
          rintro e v2 ⟨hb, A2, c2, rfl, hr⟩
          have B2 := Lib.hid (belowT B1.out hb)
          have D2 := Lib.hid hb
          have R2 := Lib.hid hr
          clear hb hr p0 p1 p2 p3 p4
          obtain ⟨p0, p1, p2, p3, p4⟩ := HKB.out _ (belowT HBV2.out B2.out)
          go_wp2_with fail
          refine (HW2.out _ B2.out).mono ?_
          rintro e v3 ⟨hb, A3, c3, rfl, hr⟩
          have B3 := Lib.hid (belowT B2.out hb)
          have D3 := Lib.hid hb
          have R3 := Lib.hid hr
          clear hb hr p0 p1 p2 p3 p4
          obtain ⟨p0, p1, p2, p3, p4⟩ := HKB.out _ (belowT HBV2.out B3.out)
          go_wp2_with fail
          refine (HV1.out _ s B3.out S1.out.1 S1.out.2.1 S1.out.2.2).mono ?_
          rintro e v4 ⟨hb, A4, c4, rfl, hr⟩
          have B4 := Lib.hid (belowT B3.out hb)
          have D4 := Lib.hid hb
          have R4 := Lib.hid hr
          clear hb hr p0 p1 p2 p3 p4
          obtain ⟨p0, p1, p2, p3, p4⟩ := HKB.out _ (belowT HBV2.out B4.out)
          go_wp2_with fail
          refine (HV2.out _ s B4.out S1.out.1 S1.out.2.1 S1.out.2.2).mono ?_
          rintro e v5 ⟨hb, A5, c5, rfl, hr⟩
          have B5 := Lib.hid (belowT B4.out hb)
          have D5 := Lib.hid hb
          have R5 := Lib.hid hr
          clear hb hr p0 p1 p2 p3 p4
          obtain ⟨p0, p1, p2, p3, p4⟩ := HKB.out _ (belowT HBV2.out B5.out)
          go_wp2_with fail
          refine (HF1.out _ B5.out).mono ?_
          rintro e v6 ⟨hb, A6, c6, rfl, hr⟩
          have B6 := Lib.hid (belowT B5.out hb)
          have D6 := Lib.hid hb
          have R6 := Lib.hid hr
          clear hb hr p0 p1 p2 p3 p4
          obtain ⟨p0, p1, p2, p3, p4⟩ := HKB.out _ (belowT HBV2.out B6.out)
          go_wp2_with fail
          refine (HF2.out _ B6.out).mono ?_
          rintro e v7 ⟨hb, A7, c7, rfl, hr⟩
          have B7 := Lib.hid (belowT B6.out hb)
          have D7 := Lib.hid hb
          have R7 := Lib.hid hr
          clear hb hr p0 p1 p2 p3 p4
          have E6 := Lib.hid D7.out
          have E5 := Lib.hid (belowT D6.out E6.out)
          have E4 := Lib.hid (belowT D5.out E5.out)
          have E3 := Lib.hid (belowT D4.out E4.out)
          have E2 := Lib.hid (belowT D3.out E3.out)
          have t1 := spans_any A2 A3 SP SP v7.heap.size c2 c3 v7 ((R2.out.below E2.out (Nat.le_refl _)).more E2.out.size) ((R3.out.below E3.out (Nat.le_refl _)).more E3.out.size) (by rw [HSL.out]; omega) (by rw [HSL.out]; omega) (Nat.le_refl _)
          have t2 := fun V (hb : Below v7.heap.size v7 V) => ints_any A4 A5 (LW s) (LW s) v7.heap.size c4 c5 V (((R4.out.below E4.out (Nat.le_refl _)).more E4.out.size).below hb (Nat.le_refl _)) (((R5.out.below E5.out (Nat.le_refl _)).more E5.out.size).below hb (Nat.le_refl _)) (by rw [HLL.out]; omega) (by rw [HLL.out]; omega) hb.size
          have t3 := fun V (hb : Below v7.heap.size v7 V) => ints_any A6 A7 (FL.map (fun x : Nat => (x : Int))) (FL.map (fun x : Nat => (x : Int))) v7.heap.size c6 c7 V ((nats_ints ((R6.out.below E6.out (Nat.le_refl _)).more E6.out.size)).below hb (Nat.le_refl _)) ((nats_ints R7.out).below hb (Nat.le_refl _)) (by rw [List.length_map]; have := HFL.out; omega) (by rw [List.length_map]; have := HFL.out; omega) hb.size
          simp only [decide_true, List.length_map] at t1 t2 t3
          have T1 := Lib.hid t1
          have T2 := Lib.hid t2
          have T3 := Lib.hid t3
          clear t1 t2 t3
          go_wp2_with fail
          refine T1.out.mono ?_
          rintro e y1 ⟨rfl, hb1⟩
          have F1 := Lib.hid hb1
          clear hb1
          go_wp2_with fail
          refine (T2.out _ F1.out).mono ?_
          rintro e y2 ⟨rfl, hb2⟩
          have F2 := Lib.hid (belowT F1.out hb2)
          clear hb2
          go_wp2_with fail
          refine (T3.out _ F2.out).mono ?_
          rintro e y3 ⟨rfl, hb3⟩
          have F3 := Lib.hid (belowT F2.out hb3)
          clear hb3
          go_wp2_with fail
          refine (HAW.out _).mono ?_
          rintro e y4 ⟨rfl, hb4⟩
          have F4 := Lib.hid (belowT F3.out hb4)
          clear hb4
          go_wp2_with fail
          go_ret
          exact ⟨rfl, belowT HB0.out (belowT HBV2.out (belowT B7.out F4.out))⟩
      · clear hi hlt
        have HM : Hid (ys.length = l.length ∧ (∀ y, y ∈ ys ↔ y ∈ l) ∧ RdN 3 encWgh wr wr.heap.size A9 ys ∧ l.length ≤ c9 ∧ l.length ≤ 6) := Lib.hid ⟨HY.out.1, HMEM.out, HY.out.2.2.1.rd, by have := HY.out.2.2.1.le; have := HY.out.1; omega, by omega⟩
        obtain ⟨hml, hmm, hmr, hmc, hm6⟩ := HM.out
        have hpm : openPre h ys = 0 := pre_same HPR.out (fun y hy => (hmm y).1 hy) (by rw [hml]; exact hm6)
        have HBV2 := Lib.hid (belowT HB3.out HBR.out)
        have HHV := Lib.hid ((HH.out.below HBV2.out hBz).more (Nat.le_trans hBz HBV2.out.size))
        have HLV := Lib.hid ((HL.out.below HBV2.out hBz).more (Nat.le_trans hBz HBV2.out.size))
        have hhc : ∀ V, Below wr.heap.size wr V → Calls Try.prog 42 #[hv h A cap J capJ, .int .u8 blk] V fun e w' => Below V.heap.size V w' ∧ ∃ s : Nat, e = .returned (iv s) ∧ 0 < s ∧ s < 2 ^ h.ps.length ∧ hangsB h.js s = true := fun V hb => hung_any h A J wr.heap.size cap capJ blk V (HHV.out.below hb (Nat.le_refl _)) hn1 hn8 HK.out.js HK.out.j12 hbb hb.size
        have hw1 : ∀ V, Below wr.heap.size wr V → Calls Try.prog 19 #[hv h A cap J capJ, .slice AL l.length capL] V fun e w' => Below V.heap.size V w' ∧ ∃ A c, e = .returned (.tuple #[.slice A (spansRef h l h.ps.length).length c, iv 0]) ∧ RdN 2 encSp w' w'.heap.size A (spansRef h l h.ps.length) := fun V hb => (weights_any h A J wr.heap.size cap capJ AL l capL V (HHV.out.below hb (Nat.le_refl _)) (HLV.out.below hb (Nat.le_refl _)) HLC.out hb.size).mono fun e w' hpost => weightsAns HPR.out HFE.out HPR.out (fun _ => Iff.rfl) hpost
        have hw2 : ∀ V, Below wr.heap.size wr V → Calls Try.prog 19 #[hv h A cap J capJ, .slice A9 ys.length c9] V fun e w' => Below V.heap.size V w' ∧ ∃ A c, e = .returned (.tuple #[.slice A (spansRef h l h.ps.length).length c, iv 0]) ∧ RdN 2 encSp w' w'.heap.size A (spansRef h l h.ps.length) := fun V hb => (weights_any h A J wr.heap.size cap capJ A9 ys c9 V (HHV.out.below hb (Nat.le_refl _)) (hmr.below hb (Nat.le_refl _)) (by rw [hml]; exact hmc) hb.size).mono fun e w' hpost => weightsAns HPR.out HFE.out hpm hmm hpost
        obtain ⟨FL, FE, hFL, hfa⟩ := fewAns HPR.out HFE.out
        have hf1 : ∀ V, Below wr.heap.size wr V → Calls Try.prog 30 #[hv h A cap J capJ, .slice AL l.length capL] V fun e w' => Below V.heap.size V w' ∧ ∃ A c, e = .returned (.tuple #[.slice A FL.length c, iv FE]) ∧ Rd1 nv w' w'.heap.size A FL := fun V hb => (fewest_any h A J wr.heap.size cap capJ AL l capL V (HHV.out.below hb (Nat.le_refl _)) (HLV.out.below hb (Nat.le_refl _)) HLC.out hb.size).mono fun e w' hpost => hfa l HPR.out (fun _ => Iff.rfl) V e w' hpost
        have hf2 : ∀ V, Below wr.heap.size wr V → Calls Try.prog 30 #[hv h A cap J capJ, .slice A9 ys.length c9] V fun e w' => Below V.heap.size V w' ∧ ∃ A c, e = .returned (.tuple #[.slice A FL.length c, iv FE]) ∧ Rd1 nv w' w'.heap.size A FL := fun V hb => (fewest_any h A J wr.heap.size cap capJ A9 ys c9 V (HHV.out.below hb (Nat.le_refl _)) (hmr.below hb (Nat.le_refl _)) (by rw [hml]; exact hmc) hb.size).mono fun e w' hpost => hfa ys hpm hmm V e w' hpost
        have hv1 : ∀ V (s : Nat), Below wr.heap.size wr V → 0 < s → s < 2 ^ h.ps.length → hangsB h.js s = true → Calls Try.prog 25 #[hv h A cap J capJ, .slice AL l.length capL, iv (s : Int)] V fun e w' => Below V.heap.size V w' ∧ ∃ A c, e = .returned (.tuple #[.slice A (lowL h l s (mostRef h l s) h.ps.length).length c, iv 0]) ∧ Rd1 iv w' w'.heap.size A (lowL h l s (mostRef h l s) h.ps.length) := fun V s hb a b c => (heaviest_any h A J wr.heap.size cap capJ AL l capL (s : Int) V (HHV.out.below hb (Nat.le_refl _)) (HLV.out.below hb (Nat.le_refl _)) HLC.out hb.size).mono fun e w' hpost => heavyAns HPR.out HFE.out HPR.out (fun _ => Iff.rfl) a b c hpost
        have hv2 : ∀ V (s : Nat), Below wr.heap.size wr V → 0 < s → s < 2 ^ h.ps.length → hangsB h.js s = true → Calls Try.prog 25 #[hv h A cap J capJ, .slice A9 ys.length c9, iv (s : Int)] V fun e w' => Below V.heap.size V w' ∧ ∃ A c, e = .returned (.tuple #[.slice A (lowL h l s (mostRef h l s) h.ps.length).length c, iv 0]) ∧ Rd1 iv w' w'.heap.size A (lowL h l s (mostRef h l s) h.ps.length) := fun V s hb a b c => (heaviest_any h A J wr.heap.size cap capJ A9 ys c9 (s : Int) V (HHV.out.below hb (Nat.le_refl _)) (hmr.below hb (Nat.le_refl _)) (by rw [hml]; exact hmc) hb.size).mono fun e w' hpost => heavyAns HPR.out HFE.out hpm hmm a b c hpost
        have hsl := spansRef_len h l h.ps.length
        have hll : ∀ s, (lowL h l s (mostRef h l s) h.ps.length).length = h.ps.length := fun s => lowL_len _ _ _ _ _
        rw [hml] at hw2 hf2 hv2
        obtain ⟨SP, hSP⟩ : ∃ SP, spansRef h l h.ps.length = SP := ⟨_, rfl⟩
        rw [hSP] at hw1 hw2 hsl
        obtain ⟨LW, hLW⟩ : ∃ LW : Nat → List Int, (fun s => lowL h l s (mostRef h l s) h.ps.length) = LW := ⟨_, rfl⟩
        have hLW : ∀ s, lowL h l s (mostRef h l s) h.ps.length = LW s := fun s => by rw [← hLW]
        simp only [hLW] at hv1 hv2 hll
        have HHC := Lib.hid hhc
        have HW1 := Lib.hid hw1
        have HW2 := Lib.hid hw2
        have HF1 := Lib.hid hf1
        have HF2 := Lib.hid hf2
        have HV1 := Lib.hid hv1
        have HV2 := Lib.hid hv2
        have HSL := Lib.hid hsl
        have HLL := Lib.hid hll
        have HFL := Lib.hid hFL
        clear hhc hw1 hw2 hf1 hf2 hv1 hv2 hsl hll hFL hfa hpm hml hmm hmr hmc hm6 hSP hLW
        obtain ⟨p0, p1, p2, p3, p4⟩ := HKB.out _ HBV2.out
        obtain ⟨q0, q1, q2, q3⟩ := HKP.out _ HBV2.out
        go_wp2_with fail
        refine (HHC.out _ (belowR _)).mono ?_
        rintro e v1 ⟨hb, s, rfl, hs0, hs1, hs2⟩
        have B1 := Lib.hid hb
        have D1 := Lib.hid hb
        have S1 := Lib.hid (And.intro hs0 (And.intro hs1 hs2))
        clear hb hs0 hs1 hs2 p0 p1 p2 p3 p4 q0 q1 q2 q3
        obtain ⟨p0, p1, p2, p3, p4⟩ := HKB.out _ (belowT HBV2.out B1.out)
        go_wp2_with fail
        refine (HW1.out _ B1.out).mono ?_
        rintro e v2 ⟨hb, A2, c2, rfl, hr⟩
        have B2 := Lib.hid (belowT B1.out hb)
        have D2 := Lib.hid hb
        have R2 := Lib.hid hr
        clear hb hr p0 p1 p2 p3 p4
        obtain ⟨p0, p1, p2, p3, p4⟩ := HKB.out _ (belowT HBV2.out B2.out)
        go_wp2_with fail
        refine (HW2.out _ B2.out).mono ?_
        rintro e v3 ⟨hb, A3, c3, rfl, hr⟩
        have B3 := Lib.hid (belowT B2.out hb)
        have D3 := Lib.hid hb
        have R3 := Lib.hid hr
        clear hb hr p0 p1 p2 p3 p4
        obtain ⟨p0, p1, p2, p3, p4⟩ := HKB.out _ (belowT HBV2.out B3.out)
        go_wp2_with fail
        refine (HV1.out _ s B3.out S1.out.1 S1.out.2.1 S1.out.2.2).mono ?_
        rintro e v4 ⟨hb, A4, c4, rfl, hr⟩
        have B4 := Lib.hid (belowT B3.out hb)
        have D4 := Lib.hid hb
        have R4 := Lib.hid hr
        clear hb hr p0 p1 p2 p3 p4
        obtain ⟨p0, p1, p2, p3, p4⟩ := HKB.out _ (belowT HBV2.out B4.out)
        go_wp2_with fail
        refine (HV2.out _ s B4.out S1.out.1 S1.out.2.1 S1.out.2.2).mono ?_
        rintro e v5 ⟨hb, A5, c5, rfl, hr⟩
        have B5 := Lib.hid (belowT B4.out hb)
        have D5 := Lib.hid hb
        have R5 := Lib.hid hr
        clear hb hr p0 p1 p2 p3 p4
        obtain ⟨p0, p1, p2, p3, p4⟩ := HKB.out _ (belowT HBV2.out B5.out)
        go_wp2_with fail
        refine (HF1.out _ B5.out).mono ?_
        rintro e v6 ⟨hb, A6, c6, rfl, hr⟩
        have B6 := Lib.hid (belowT B5.out hb)
        have D6 := Lib.hid hb
        have R6 := Lib.hid hr
        clear hb hr p0 p1 p2 p3 p4
        obtain ⟨p0, p1, p2, p3, p4⟩ := HKB.out _ (belowT HBV2.out B6.out)
        go_wp2_with fail
        refine (HF2.out _ B6.out).mono ?_
        rintro e v7 ⟨hb, A7, c7, rfl, hr⟩
        have B7 := Lib.hid (belowT B6.out hb)
        have D7 := Lib.hid hb
        have R7 := Lib.hid hr
        clear hb hr p0 p1 p2 p3 p4
        have E6 := Lib.hid D7.out
        have E5 := Lib.hid (belowT D6.out E6.out)
        have E4 := Lib.hid (belowT D5.out E5.out)
        have E3 := Lib.hid (belowT D4.out E4.out)
        have E2 := Lib.hid (belowT D3.out E3.out)
        have t1 := spans_any A2 A3 SP SP v7.heap.size c2 c3 v7 ((R2.out.below E2.out (Nat.le_refl _)).more E2.out.size) ((R3.out.below E3.out (Nat.le_refl _)).more E3.out.size) (by rw [HSL.out]; omega) (by rw [HSL.out]; omega) (Nat.le_refl _)
        have t2 := fun V (hb : Below v7.heap.size v7 V) => ints_any A4 A5 (LW s) (LW s) v7.heap.size c4 c5 V (((R4.out.below E4.out (Nat.le_refl _)).more E4.out.size).below hb (Nat.le_refl _)) (((R5.out.below E5.out (Nat.le_refl _)).more E5.out.size).below hb (Nat.le_refl _)) (by rw [HLL.out]; omega) (by rw [HLL.out]; omega) hb.size
        have t3 := fun V (hb : Below v7.heap.size v7 V) => ints_any A6 A7 (FL.map (fun x : Nat => (x : Int))) (FL.map (fun x : Nat => (x : Int))) v7.heap.size c6 c7 V ((nats_ints ((R6.out.below E6.out (Nat.le_refl _)).more E6.out.size)).below hb (Nat.le_refl _)) ((nats_ints R7.out).below hb (Nat.le_refl _)) (by rw [List.length_map]; have := HFL.out; omega) (by rw [List.length_map]; have := HFL.out; omega) hb.size
        simp only [decide_true, List.length_map] at t1 t2 t3
        have T1 := Lib.hid t1
        have T2 := Lib.hid t2
        have T3 := Lib.hid t3
        clear t1 t2 t3
        go_wp2_with fail
        refine T1.out.mono ?_
        rintro e y1 ⟨rfl, hb1⟩
        have F1 := Lib.hid hb1
        clear hb1
        go_wp2_with fail
        refine (T2.out _ F1.out).mono ?_
        rintro e y2 ⟨rfl, hb2⟩
        have F2 := Lib.hid (belowT F1.out hb2)
        clear hb2
        go_wp2_with fail
        refine (T3.out _ F2.out).mono ?_
        rintro e y3 ⟨rfl, hb3⟩
        have F3 := Lib.hid (belowT F2.out hb3)
        clear hb3
        go_wp2_with fail
        refine (HAW.out _).mono ?_
        rintro e y4 ⟨rfl, hb4⟩
        have F4 := Lib.hid (belowT F3.out hb4)
        clear hb4
        go_wp2_with fail
        go_ret
        exact ⟨rfl, belowT HB0.out (belowT HBV2.out (belowT B7.out F4.out))⟩
end Go.Proofs.Ytojgdallodmanaa
