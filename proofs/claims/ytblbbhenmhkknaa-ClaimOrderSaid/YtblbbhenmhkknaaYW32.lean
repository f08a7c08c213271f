/- claim.Ranges. -/
import Derived.Deep.RegionHeld3
import Derived.Deep.AppendLies
import Derived.Test.YtblbbhenmhkknaaYW29
import Derived.Test.YtblbbhenmhkknaaYW30
namespace Go.Proofs.Ytblbbhenmhkknaa
open Go.RowKit

theorem Try.info39 : (Try.prog.info? 39).map (fun i => (i.zero, i.size, i.bytes)) = some (some (.agg #[.int .i64 0, .int .i64 0]), 2, 16) := by kernel_rfl

/-- What each of the first k claims gets at least and at most. -/
def rangesL (lo hi : Int) (L : List Cl3) (k : Nat) : List (Int × Int) := (List.range k).map fun i => (shareV L (dLo L i) lo i, shareV L (dHi L i) hi i)
theorem rangesL_succ (lo hi : Int) (L : List Cl3) (k : Nat) : rangesL lo hi L (k + 1) = rangesL lo hi L k ++ [(shareV L (dLo L k) lo k, shareV L (dHi L k) hi k)] := by
  unfold rangesL; rw [List.range_succ, List.map_append]; rfl
theorem rangesL_len (lo hi : Int) (L : List Cl3) (k : Nat) : (rangesL lo hi L k).length = k := by simp [rangesL]
theorem encSp_len (p : Int × Int) : (encSp p).length = 2 := rfl

def RangesYes (lo hi : Int) (cs : List Clm) (w : World) (e : Ending) (w' : World) : Prop :=
  ∃ A cap, e = .returned (.tuple #[.slice A cs.length cap, iv 0]) ∧ w'.ownsRow w.heap.size 39 2 (.slice A cs.length cap) cs.length ((rangesL lo hi (cs.map c3) cs.length).flatMap encSp) ∧ Below w.heap.size w w'

set_option maxRecDepth 100000 in
set_option maxHeartbeats 1000000 in
theorem ranges_no (lo hi : Int) (A : Option Addr) (cs : List Clm) (B cap : Nat) (w : World) (hm : cs.length ≤ cap) (hcm : cap ≤ maxLen) (hok : ClmsOk cs) (hR : RdN 4 encClm w B A cs) (hB : B ≤ w.heap.size) (hE : estErr lo hi cs ≠ 0) :
    Calls Try.prog 32 #[.agg #[.int .i64 lo, .int .i64 hi, .slice A cs.length cap]] w (TruthNo (estErr lo hi cs) w) := by
  have hb0 : Below w.heap.size w _ := belowA (belowR w) (.cells #[.int .i64 lo, .int .i64 hi, .slice A cs.length cap] 42)
  have hop := enter_no lo hi A cs B cap (w.alloc (.cells #[.int .i64 lo, .int .i64 hi, .slice A cs.length cap] 42)) hm hcm hok (hR.below hb0 hB) (Nat.le_trans hB hb0.size) hE
  obtain ⟨E, hEE⟩ : ∃ E, estErr lo hi cs = E := ⟨_, rfl⟩
  rw [hEE] at hE hop ⊢
  have hne : (E != 0) = true := by simpa using hE
  have HOP := Lib.hid hop
  clear hop hEE hE
  go_enter Try.func32, Try.ntmps32
  go_wp2_with fail
  refine HOP.out.mono ?_
  rintro e w1 ⟨rfl, hb⟩
  have hB1 := belowT hb0 hb
  clear hb hb0
  go_wp2
  go_ret2
  exact ⟨rfl, belowA hB1 _⟩

set_option maxRecDepth 100000 in
set_option maxHeartbeats 4000000 in
theorem ranges_yes (lo hi : Int) (A : Option Addr) (cs : List Clm) (B cap : Nat) (w : World) (hm : cs.length ≤ cap) (hcm : cap ≤ maxLen) (hok : ClmsOk cs) (hR : RdN 4 encClm w B A cs) (hB : B ≤ w.heap.size) (hE : estErr lo hi cs = 0) :
    Calls Try.prog 32 #[.agg #[.int .i64 lo, .int .i64 hi, .slice A cs.length cap]] w (RangesYes lo hi cs w) := by
  obtain ⟨i0, hi0, hz0, hz1, hz2⟩ := info_parts Try.info39
  have hest := est_ok hE
  have hb0 : Below w.heap.size w _ := belowA (belowR w) (.cells #[.int .i64 lo, .int .i64 hi, .slice A cs.length cap] 42)
  have hop := enter_yes lo hi A cs B cap (w.alloc (.cells #[.int .i64 lo, .int .i64 hi, .slice A cs.length cap] 42)) hm hcm hest.len.2 hok (hR.below hb0 hB) (Nat.le_trans hB hb0.size) hE
  have hok3 := hest.ok3
  have hle8 := hest.len.2
  have hsp := hest.span
  have HOP := Lib.hid hop
  obtain ⟨L, hL⟩ : ∃ L, cs.map c3 = L := ⟨_, rfl⟩
  have hLl : L.length = cs.length := by rw [← hL]; simp
  rw [hL] at hok3
  have hlo := fun W A3 cap3 k B g (hk : k < L.length) (hR : RdN 3 encC3 W B A3 L) (hB : B ≤ W.heap.size) e0 e1 e2 e3 => share_lo lo hi A A3 cs.length cap cap3 L B k g lo W (by omega) hk hok3 hR hB (by omega) (by omega) e0 e1 e2 e3
  have hhi := fun W A3 cap3 k B g (hk : k < L.length) (hR : RdN 3 encC3 W B A3 L) (hB : B ≤ W.heap.size) e0 e1 e2 e3 => share_hi lo hi A A3 cs.length cap cap3 L B k g hi W (by omega) hk hok3 hR hB (by omega) (by omega) e0 e1 e2 e3
  rw [hLl] at hlo hhi
  have HLO := Lib.hid hlo
  have HHI := Lib.hid hhi
  have HL := Lib.hid hL
  have HLL := Lib.hid hLl
  have hfold : ∀ e w', (∃ A cap, e = .returned (.tuple #[.slice A cs.length cap, iv 0]) ∧ w'.ownsRow w.heap.size 39 2 (.slice A cs.length cap) cs.length ((rangesL lo hi L cs.length).flatMap encSp) ∧ Below w.heap.size w w') → RangesYes lo hi cs w e w' := fun e w' h => by unfold RangesYes; rw [hL]; exact h
  have HFOLD := Lib.hid hfold
  clear hop hE hlo hhi hL hLl hok3 hfold
  go_enter Try.func32, Try.ntmps32
  go_wp2_with fail
  refine HOP.out.mono ?_
  rintro e w1 ⟨A3, cap3, rfl, hrd, _, _, hb⟩
  rw [HL.out] at hrd
  have hB1 := belowT hb0 hb
  have HRD := Lib.hid hrd
  clear hb hb0 hrd
  go_wp2
  obtain ⟨W2, hW2⟩ : ∃ W, w1.alloc (.cells #[.int .i64 lo, .int .i64 hi, .slice A cs.length cap, .slice A3 cs.length cap3] 127) = W := ⟨_, rfl⟩
  have p0 : W2.cell? ⟨w1.heap.size, 0, none⟩ = some (.int .i64 lo) := by rw [← hW2]; clear hW2; go_simp
  have p1 : W2.cell? ⟨w1.heap.size, 1, none⟩ = some (.int .i64 hi) := by rw [← hW2]; clear hW2; go_simp
  have p2 : W2.cell? ⟨w1.heap.size, 2, none⟩ = some (.slice A cs.length cap) := by rw [← hW2]; clear hW2; go_simp
  have p3 : W2.cell? ⟨w1.heap.size, 3, none⟩ = some (.slice A3 cs.length cap3) := by rw [← hW2]; clear hW2; go_simp
  have hB2 : Below w.heap.size w W2 := by rw [← hW2]; exact belowA hB1 _
  have hz2' : w1.heap.size < W2.heap.size := lt_of_cell p0
  have hrd2 : RdN 3 encC3 W2 w1.heap.size A3 L := by rw [← hW2]; exact HRD.out.alloc (Nat.le_refl _) _
  rw [hW2]
  have HRD2 := Lib.hid hrd2
  have HB2 := Lib.hid hB2
  clear hW2 hrd2 HRD hB2 hB1 HOP hR
  go_loopw [19, 2] (fun vi vl wr => ∃ (k : Nat) (v : Value), k ≤ cs.length ∧ vi = .int .i64 k ∧ vl = v ∧ Hid (wr.ownsRow W2.heap.size 39 2 v k ((rangesL lo hi L k).flatMap encSp)) ∧ Below W2.heap.size W2 wr) (fun vi _ _ => cs.length - (intOf vi).toNat)
  case atStart => exact ⟨0, _, Nat.zero_le _, rfl, rfl, Lib.hid (World.ownsRow_nil _ _ _ _), belowR _⟩
  case round =>
    obtain ⟨k, v, hk, rfl, rfl, OWN, hbw⟩ := hrel
    have hzr := hbw.size
    have hz9 : w1.heap.size ≤ wr.heap.size := by omega
    have hk9 : k + 1 ≤ maxLen := by unfold maxLen; omega
    have hk16 : (k + 1) * 16 ≤ 140737488355328 := by omega
    by_cases hlt : k < cs.length
    · have c0 := keepC hbw p0
      have c1 := keepC hbw p1
      have c2 := keepC hbw p2
      have c3' := keepC hbw p3
      have hrdr := (HRD2.out).below hbw (by omega)
      have HC1 := Lib.hid (HLO.out wr.drew A3 cap3 k w1.heap.size w1.heap.size hlt (hrdr.keep (fun _ _ => rfl)) hz9 c0 c1 c2 c3')
      have HC2 := Lib.hid (fun (W : World) (hb : Below wr.drew.heap.size wr.drew W) => HHI.out W A3 cap3 k w1.heap.size w1.heap.size hlt (hrdr.below (undrew0 hb) hz9) (Nat.le_trans hz9 (undrew0 hb).size) (keepC (undrew0 hb) c0) (keepC (undrew0 hb) c1) (keepC (undrew0 hb) c2) (keepC (undrew0 hb) c3'))
      have hsn := rangesL_succ lo hi L k
      obtain ⟨x, hx⟩ : ∃ x, shareV L (dLo L k) lo k = x := ⟨_, rfl⟩
      obtain ⟨y, hy⟩ : ∃ y, shareV L (dHi L k) hi k = y := ⟨_, rfl⟩
      rw [hx, hy] at hsn
      rw [hx] at HC1
      rw [hy] at HC2
      have HS := Lib.hid hsn
      have HBW := Lib.hid hbw
      clear hsn hx hy hrdr hbw p0 p1 p2 p3
      go_wp2
      go_region_held3 (fun w' => w'.cell? ⟨w1.heap.size, 0, none⟩ = some (.int .i64 lo) ∧ w'.cell? ⟨w1.heap.size, 1, none⟩ = some (.int .i64 hi)) (first | exact ⟨c0, c1⟩ | exact ⟨grownC hownA hgrow hz2' (keepA (keepC hb4 (keepC hb3 c0)) _), grownC hownA hgrow hz2' (keepA (keepC hb4 (keepC hb3 c1)) _)⟩ | exact ⟨keepC hb4 (keepC hb3 c0), keepC hb4 (keepC hb3 c1)⟩ | exact ⟨keepC hb3 c0, keepC hb3 c1⟩ | exact ⟨keepA (keepC hb4 (keepC hb3 c0)) _, keepA (keepC hb4 (keepC hb3 c1)) _⟩) (first | (have hz4 : W2.heap.size ≤ w4.heap.size := Nat.le_trans hzr (Nat.le_trans (undrew0 hb3).size hb4.size); have hownA := (own_below (own_below OWN.out (undrew0 hb3)) hb4).alloc (.cells #[.int .i64 x, .int .i64 y] 39); refine step_append_lies _ (by rfl) _ _ _ (by rfl) W2.heap.size 39 i0 _ 2 16 Try.underlying52 hi0 hz0 hz1 hz2 rfl (by omega) _ k _ (by rfl) hownA ⟨w4.heap.size, 0, none⟩ 1 1 [.int .i64 x, .int .i64 y] (by rfl) (by rfl) (World.news_of_block (cs := #[.int .i64 x, .int .i64 y]) (t := 39) (fr := (0, 0)) (heap_alloc_new w4 _)) (by simp [Value.oneCell']) (by omega) hk9 hk16 (by simp; omega) (w4.heap.size + 1) (by simp) ?_; intro gg cap9 w5 hown5 hgrow hat hlt5) | (go_at_call 80; ((with_reducible refine HC1.out.mono ?_); rintro e w3 ⟨rfl, hb3⟩)) | (go_at_call 80; ((with_reducible refine (HC2.out w3 hb3).mono ?_); rintro e w4 ⟨rfl, hb4⟩)))
      have hB5 : Below W2.heap.size W2 w5 := grownB hownA hgrow (Nat.le_refl _) (belowA (belowT (belowT HBW.out (undrew0 hb3)) hb4) _)
      have HO5 := Lib.hid hown5
      clear hown5 hgrow hownA hb3 hb4 c0 c1 c2 c3'
      go_wp2
      go_roundw
      case rel => exact ⟨k + 1, _, by omega, by go_num, rfl, Lib.hid (by rw [HS.out, List.flatMap_append]; exact HO5.out), hB5⟩
      case measure => simp [intOf]; omega
    · obtain rfl : k = cs.length := by omega
      go_wp2
      refine bodyPost_ret (results_tmp2 rfl _ _ _) rfl ?_
      have hown := OWN.out
      obtain ⟨R, hR⟩ : ∃ R, rangesL lo hi L cs.length = R := ⟨_, rfl⟩
      have hRl : R.length = cs.length := by rw [← hR]; exact rangesL_len _ _ _ _
      rw [hR] at hown
      have hown' := hown
      rw [← hRl] at hown'
      obtain ⟨A5, cap5, rfl, _⟩ := own_rdN encSp_len hown'
      rw [hRl] at hown ⊢
      exact HFOLD.out _ _ ⟨A5, cap5, rfl, by rw [hR]; exact ownsRow_base2 hown HB2.out.size, belowT HB2.out hbw⟩
end Go.Proofs.Ytblbbhenmhkknaa
