/- BlockLimits: the walk (printed by mkLimits.py). -/
import Derived.Test.YtojgdallodmanaaZ654d27
import Derived.Test.YtojgdallodmanaaZ4af5f3
namespace Go.Proofs.Ytojgdallodmanaa
open Go.RowKit

/-- The program and the reference answer the same. -/
theorem count_same (F : Nat → Int × Int) (h : Hul) (l : List Wgh) (v : Int) : ∃ a E : Int, (∀ (V : World) (e : Ending) (w' : World), CountOne F h l v V e w' → e = .returned (.tuple #[iv a, iv E]) ∧ Below V.heap.size V w') ∧ (∀ (V : World) (e : Ending) (w' : World), RefCount F h l v V e w' → e = .returned (.tuple #[iv a, iv E]) ∧ Below V.heap.size V w') := by
  by_cases ho : openE h l = 0
  case neg =>
    have hc : countE h l v = openE h l := by unfold countE; rw [if_neg ho]
    refine ⟨0, openE h l, fun V e w' ⟨hb, hx⟩ => ?_, fun V e w' ⟨hb, hx⟩ => ?_⟩
    · rcases hx with ⟨_, rfl⟩ | ⟨h0, _⟩ | ⟨h0, _⟩
      · exact ⟨rfl, hb⟩
      · exact absurd h0 ho
      · exact absurd h0 ho
    · rw [hc] at hx
      rcases hx with ⟨_, rfl⟩ | ⟨h0, _⟩
      · exact ⟨rfl, hb⟩
      · exact absurd h0 ho
  by_cases hv : 1 ≤ v ∧ v ≤ 8
  case neg =>
    have hc : countE h l v = 7 := by unfold countE; rw [if_pos ho, if_neg hv]
    refine ⟨0, 7, fun V e w' ⟨hb, hx⟩ => ?_, fun V e w' ⟨hb, hx⟩ => ?_⟩
    · rcases hx with ⟨h0, _⟩ | ⟨_, _, rfl⟩ | ⟨_, _, _, h1, h2, _⟩
      · exact absurd ho h0
      · exact ⟨rfl, hb⟩
      · exact absurd ⟨h1, h2⟩ hv
    · rw [hc] at hx
      rcases hx with ⟨_, rfl⟩ | ⟨h0, _⟩
      · exact ⟨rfl, hb⟩
      · omega
  have hc : countE h l v = 0 := by unfold countE; rw [if_pos ho, if_pos hv]
  have key : ∀ N, IsTree h l N → bestOf h l v.toNat = if lightW h N v.toNat ≤ h.ps.length * 100000 then (lightW h N v.toNat : Int) else -1 := fun N hN => by
    obtain ⟨hp, hf⟩ := openE_zero_iff ho
    exact best_light hp hf hN (by omega)
  by_cases hb0 : bestOf h l v.toNat < 0
  · refine ⟨0, 9, fun V e w' ⟨hb, hx⟩ => ?_, fun V e w' ⟨hb, hx⟩ => ?_⟩
    · rcases hx with ⟨h0, _⟩ | ⟨_, h0, _⟩ | ⟨_, _, _, _, _, N, hN, hx⟩
      · exact absurd ho h0
      · exact absurd hv h0
      · rcases hx with ⟨_, rfl⟩ | ⟨h1, _⟩
        · exact ⟨rfl, hb⟩
        · have := key N hN
          rw [if_pos h1] at this
          omega
    · rcases hx with ⟨h0, _⟩ | ⟨_, hx⟩
      · exact absurd hc h0
      · rcases hx with ⟨_, rfl⟩ | ⟨h1, _⟩
        · exact ⟨rfl, hb⟩
        · omega
  · refine ⟨(F (bestOf h l v.toNat).toNat).1, (F (bestOf h l v.toNat).toNat).2, fun V e w' ⟨hb, hx⟩ => ?_, fun V e w' ⟨hb, hx⟩ => ?_⟩
    · rcases hx with ⟨h0, _⟩ | ⟨_, h0, _⟩ | ⟨_, _, _, _, _, N, hN, hx⟩
      · exact absurd ho h0
      · exact absurd hv h0
      · have hk := key N hN
        rcases hx with ⟨h1, _⟩ | ⟨h1, rfl⟩
        · rw [if_neg (by omega)] at hk
          omega
        · rw [if_pos h1] at hk
          rw [hk, Int.toNat_natCast]
          exact ⟨rfl, hb⟩
    · rcases hx with ⟨h0, _⟩ | ⟨_, hx⟩
      · exact absurd hc h0
      · rcases hx with ⟨h1, _⟩ | ⟨_, rfl⟩
        · omega
        · exact ⟨rfl, hb⟩

set_option maxRecDepth 100000 in
set_option maxHeartbeats 8000000 in
theorem limitsLaw_any (h : Hul) (A J : Option Addr) (cap capJ : Nat) (AL : Option Addr) (l : List Wgh) (capL : Nat) (v : Int) (B : Nat) (w : World)
    (hH : HulRd w B h A cap J capJ) (hL : RdN 3 encWgh w B AL l) (hlc : l.length ≤ capL) (hcm : capL ≤ maxLen) (hB : B ≤ w.heap.size) :
    Calls Try.prog 6 #[hv h A cap J capJ, .slice AL l.length capL, .int .i64 v] w fun e w' => e = .returned (.bool true) ∧ Below w.heap.size w w' := by
  obtain ⟨W1, hW1, hb0, hzz, p0, p1, p2, p3, p4⟩ := hulBox w h A cap J capJ
  have HKB : Hid (∀ W, Below W1.heap.size W1 W → W.cell? ⟨w.heap.size, 0, none⟩ = some (.slice A h.ps.length cap) ∧ W.cell? ⟨w.heap.size, 1, none⟩ = some (.slice J h.js.length capJ) ∧ W.cell? ⟨w.heap.size, 2, none⟩ = some (.int .i64 h.slo) ∧ W.cell? ⟨w.heap.size, 3, none⟩ = some (.int .i64 h.shi) ∧ W.cell? ⟨w.heap.size, 4, none⟩ = some (.int .i64 h.winch)) := Lib.hid fun W hb => ⟨keepC hb p0, keepC hb p1, keepC hb p2, keepC hb p3, keepC hb p4⟩
  have hBz : B ≤ W1.heap.size := Nat.le_trans hB hb0.size
  have HH := Lib.hid (hH.below hb0 hB)
  have HL := Lib.hid (hL.below hb0 hB)
  have HB0 := Lib.hid hb0
  have hlm : l.length ≤ maxLen := Nat.le_trans hlc hcm
  have HAW := Lib.hid awake_any
  obtain ⟨a, E, ha, ha'⟩ := count_same (winchOf h) h l v
  obtain ⟨b, G, hb', hb''⟩ := count_same (sandOf h) h l v
  have h32 : ∀ V, Below W1.heap.size W1 V → Calls Try.prog 32 #[hv h A cap J capJ, .slice AL l.length capL, .int .i64 v] V fun e w' => e = .returned (.tuple #[iv a, iv E]) ∧ Below V.heap.size V w' := fun V hb => (winch_any h A J B cap capJ AL l capL v V (HH.out.below hb hBz) (HL.out.below hb hBz) hlc (Nat.le_trans hBz hb.size)).mono fun e w' hx => ha V e w' hx
  have h33 : ∀ V, Below W1.heap.size W1 V → Calls Try.prog 33 #[hv h A cap J capJ, .slice AL l.length capL, .int .i64 v] V fun e w' => e = .returned (.tuple #[iv a, iv E]) ∧ Below V.heap.size V w' := fun V hb => (winch33_any h A J B cap capJ AL l capL v V (HH.out.below hb hBz) (HL.out.below hb hBz) hlm (Nat.le_trans hBz hb.size)).mono fun e w' hx => ha' V e w' hx
  have h34 : ∀ V, Below W1.heap.size W1 V → Calls Try.prog 34 #[hv h A cap J capJ, .slice AL l.length capL, .int .i64 v] V fun e w' => e = .returned (.tuple #[iv b, iv G]) ∧ Below V.heap.size V w' := fun V hb => (sand_any h A J B cap capJ AL l capL v V (HH.out.below hb hBz) (HL.out.below hb hBz) hlc (Nat.le_trans hBz hb.size)).mono fun e w' hx => hb' V e w' hx
  have h35 : ∀ V, Below W1.heap.size W1 V → Calls Try.prog 35 #[hv h A cap J capJ, .slice AL l.length capL, .int .i64 v] V fun e w' => e = .returned (.tuple #[iv b, iv G]) ∧ Below V.heap.size V w' := fun V hb => (sand35_any h A J B cap capJ AL l capL v V (HH.out.below hb hBz) (HL.out.below hb hBz) hlm (Nat.le_trans hBz hb.size)).mono fun e w' hx => hb'' V e w' hx
  have H32 := Lib.hid h32
  have H33 := Lib.hid h33
  have H34 := Lib.hid h34
  have H35 := Lib.hid h35
  clear h32 h33 h34 h35 ha ha' hb' hb'' hb0 hH hL hlc hcm hlm hzz
  have n1 : (a != a) = false := by simp
  have n2 : (E != E) = false := by simp
  have n3 : (b == b) = true := by simp
  have n4 : (G == G) = true := by simp
  go_enter Try.func6, Try.ntmps6
  go_wp2_with fail
  refine (H32.out _ (belowR W1)).mono ?_
  rintro e w2 ⟨rfl, hb⟩
  have HB2 := Lib.hid (belowT (belowR W1) hb)
  clear hb hW1 p0 p1 p2 p3 p4
  obtain ⟨p0, p1, p2, p3, p4⟩ := HKB.out _ (HB2.out)
  go_wp2_with fail
  refine (H33.out _ (HB2.out)).mono ?_
  rintro e w3 ⟨rfl, hb⟩
  have HB3 := Lib.hid (belowT (HB2.out) hb)
  clear hb p0 p1 p2 p3 p4
  obtain ⟨p0, p1, p2, p3, p4⟩ := HKB.out _ (HB3.out)
  go_wp2_with fail
  refine (H34.out _ (HB3.out)).mono ?_
  rintro e w4 ⟨rfl, hb⟩
  have HB4 := Lib.hid (belowT (HB3.out) hb)
  clear hb p0 p1 p2 p3 p4
  obtain ⟨p0, p1, p2, p3, p4⟩ := HKB.out _ (HB4.out)
  go_wp2_with fail
  refine (H35.out _ (HB4.out)).mono ?_
  rintro e w5 ⟨rfl, hb⟩
  have HB5 := Lib.hid (belowT (HB4.out) hb)
  clear hb p0 p1 p2 p3 p4
  go_wp2_with fail
  refine (HAW.out _).mono ?_
  rintro e w6 ⟨rfl, hb⟩
  have HB6 := Lib.hid (belowT HB5.out hb)
  clear hb
  go_wp2_with fail
  go_ret
  exact ⟨rfl, belowT HB0.out HB6.out⟩
end Go.Proofs.Ytojgdallodmanaa
