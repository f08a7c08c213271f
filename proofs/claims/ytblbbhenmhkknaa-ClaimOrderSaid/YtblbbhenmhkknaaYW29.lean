/- claim.Sure. -/
import Derived.Deep.RegionHeld3
import Derived.Test.YtblbbhenmhkknaaZ4f974a
namespace Go.Proofs.Ytblbbhenmhkknaa
open Go.RowKit

/-- The claims among the first k that are surely paid. -/
def sureL (lo : Int) (l : List Cl3) (k : Nat) : List Nat := (List.range k).filter fun i => match l[i]? with | some c => decide (needI l c ≤ lo) | none => false
theorem sureL_yes {lo : Int} {l : List Cl3} {k : Nat} {c : Cl3} (h : l[k]? = some c) (h2 : needI l c ≤ lo) : sureL lo l (k + 1) = sureL lo l k ++ [k] := by
  unfold sureL; rw [List.range_succ, List.filter_append]; simp [h, h2]
theorem sureL_no {lo : Int} {l : List Cl3} {k : Nat} {c : Cl3} (h : l[k]? = some c) (h2 : ¬ needI l c ≤ lo) : sureL lo l (k + 1) = sureL lo l k := by
  unfold sureL; rw [List.range_succ, List.filter_append]; simp [h, h2]
theorem sureL_le (lo : Int) (l : List Cl3) (k : Nat) : (sureL lo l k).length ≤ k := by
  unfold sureL; exact Nat.le_trans (List.length_filter_le _ _) (by simp)

theorem undrew0 {W X : World} (h : Below W.drew.heap.size W.drew X) : Below W.heap.size W X := ⟨h.os, h.tape, h.output, h.size, h.block⟩
def SureYes (lo : Int) (cs : List Clm) (w : World) (e : Ending) (w' : World) : Prop :=
  ∃ v, e = .returned (.tuple #[v, iv 0]) ∧ w'.ownsRow w.heap.size 3 1 v (sureL lo (cs.map c3) cs.length).length ((sureL lo (cs.map c3) cs.length).map nv) ∧ Below w.heap.size w w'

set_option maxRecDepth 100000 in
set_option maxHeartbeats 1000000 in
theorem sure_no (lo hi : Int) (A : Option Addr) (cs : List Clm) (B cap : Nat) (w : World) (hm : cs.length ≤ cap) (hcm : cap ≤ maxLen) (hok : ClmsOk cs) (hR : RdN 4 encClm w B A cs) (hB : B ≤ w.heap.size) (hE : estErr lo hi cs ≠ 0) :
    Calls Try.prog 35 #[.agg #[.int .i64 lo, .int .i64 hi, .slice A cs.length cap]] w (TruthNo (estErr lo hi cs) w) := by
  have hb0 : Below w.heap.size w _ := belowA (belowR w) (.cells #[.int .i64 lo, .int .i64 hi, .slice A cs.length cap] 42)
  have hop := enter_no lo hi A cs B cap (w.alloc (.cells #[.int .i64 lo, .int .i64 hi, .slice A cs.length cap] 42)) hm hcm hok (hR.below hb0 hB) (Nat.le_trans hB hb0.size) hE
  obtain ⟨E, hEE⟩ : ∃ E, estErr lo hi cs = E := ⟨_, rfl⟩
  rw [hEE] at hE hop ⊢
  have hne : (E != 0) = true := by simpa using hE
  have HOP := Lib.hid hop
  clear hop hEE hE
  go_enter Try.func35, Try.ntmps35
  go_wp2_with fail
  refine HOP.out.mono ?_
  rintro e w1 ⟨rfl, hb⟩
  have hB1 := belowT hb0 hb
  clear hb hb0
  go_wp2
  go_ret2
  exact ⟨rfl, belowA hB1 _⟩

set_option maxRecDepth 100000 in
set_option maxHeartbeats 4000000 in
theorem sure_yes (lo hi : Int) (A : Option Addr) (cs : List Clm) (B cap : Nat) (w : World) (hm : cs.length ≤ cap) (hcm : cap ≤ maxLen) (hok : ClmsOk cs) (hR : RdN 4 encClm w B A cs) (hB : B ≤ w.heap.size) (hE : estErr lo hi cs = 0) :
    Calls Try.prog 35 #[.agg #[.int .i64 lo, .int .i64 hi, .slice A cs.length cap]] w (SureYes lo cs w) := by
  obtain ⟨i0, hi0, hz0, hz1, hz2⟩ := info_parts Try.info3
  have hest := est_ok hE
  have hb0 : Below w.heap.size w _ := belowA (belowR w) (.cells #[.int .i64 lo, .int .i64 hi, .slice A cs.length cap] 42)
  have hop := enter_yes lo hi A cs B cap (w.alloc (.cells #[.int .i64 lo, .int .i64 hi, .slice A cs.length cap] 42)) hm hcm hest.len.2 hok (hR.below hb0 hB) (Nat.le_trans hB hb0.size) hE
  have hok3 := hest.ok3
  have hle8 := hest.len.2
  have HOP := Lib.hid hop
  obtain ⟨L, hL⟩ : ∃ L, cs.map c3 = L := ⟨_, rfl⟩
  have hLl : L.length = cs.length := by rw [← hL]; simp
  rw [hL] at hok3
  have hnd := fun W A3 cap3 i c B (hR : RdN 3 encC3 W B A3 L) (hB : B ≤ W.heap.size) (hx3 : L[i]? = some c) => need_any lo hi A A3 cs.length cap cap3 i L c B W (by omega) hok3 hR hB hx3
  rw [hLl] at hnd
  have HND := Lib.hid hnd
  have HL := Lib.hid hL
  have HLL := Lib.hid hLl
  clear hop hE hnd hL hLl hok3
  unfold SureYes
  rw [HL.out]
  have hfold : ∀ e w', SureYes lo cs w e w' ↔ (∃ v, e = .returned (.tuple #[v, iv 0]) ∧ w'.ownsRow w.heap.size 3 1 v (sureL lo L cs.length).length ((sureL lo L cs.length).map nv) ∧ Below w.heap.size w w') := fun e w' => by unfold SureYes; rw [HL.out]
  refine Calls.mono (R := SureYes lo cs w) ?_ (fun e w' h => (hfold e w').1 h)
  have HFOLD := Lib.hid hfold
  clear hfold
  go_enter Try.func35, Try.ntmps35
  go_wp2_with fail
  refine HOP.out.mono ?_
  rintro e w1 ⟨A3, cap3, rfl, hrd, _, _, hb⟩
  rw [HL.out] at hrd
  have hB1 := belowT hb0 hb
  have HRD := Lib.hid hrd
  clear hb hb0 hrd
  go_wp2
  obtain ⟨W2, hW2⟩ : ∃ W, w1.alloc (.cells #[.int .i64 lo, .int .i64 hi, .slice A cs.length cap, .slice A3 cs.length cap3] 127) = W := ⟨_, rfl⟩
  have p0 : W2.cell? ⟨w1.heap.size, 0, none⟩ = some (.int .i64 lo) := by rw [← hW2]; clear hW2; go_simp
  have p1 : W2.cell? ⟨w1.heap.size, 1, none⟩ = some (.int .i64 hi) := by rw [← hW2]; clear hW2; go_simp
  have p2 : W2.cell? ⟨w1.heap.size, 2, none⟩ = some (.slice A cs.length cap) := by rw [← hW2]; clear hW2; go_simp
  have p3 : W2.cell? ⟨w1.heap.size, 3, none⟩ = some (.slice A3 cs.length cap3) := by rw [← hW2]; clear hW2; go_simp
  have hB2 : Below w.heap.size w W2 := by rw [← hW2]; exact belowA hB1 _
  have hz2' : w1.heap.size < W2.heap.size := lt_of_cell p0
  have hrd2 : RdN 3 encC3 W2 w1.heap.size A3 L := by rw [← hW2]; exact HRD.out.alloc (Nat.le_refl _) _
  rw [hW2]
  have HRD2 := Lib.hid hrd2
  have HB2 := Lib.hid hB2
  clear hW2 hrd2 HRD hB2 hB1 HOP hR
  go_loopw [17, 2] (fun vi vl wr => ∃ (k : Nat) (v : Value), k ≤ cs.length ∧ vi = .int .i64 k ∧ vl = v ∧ Hid (wr.ownsRow W2.heap.size 3 1 v (sureL lo L k).length ((sureL lo L k).map nv)) ∧ Below W2.heap.size W2 wr) (fun vi _ _ => cs.length - (intOf vi).toNat)
  case atStart => exact ⟨0, _, Nat.zero_le _, rfl, rfl, Lib.hid (World.ownsRow_nil _ _ _ _), belowR _⟩
  case round =>
    obtain ⟨k, v, hk, rfl, rfl, OWN, hbw⟩ := hrel
    have hzr := hbw.size
    have hz9 : w1.heap.size ≤ wr.heap.size := by omega
    by_cases hlt : k < cs.length
    · obtain ⟨c, hx⟩ : ∃ x, L[k]? = some x := ⟨_, List.getElem?_eq_getElem (by rw [HLL.out]; exact hlt)⟩
      have c0 := keepC hbw p0
      have c1 := keepC hbw p1
      have c2 := keepC hbw p2
      have c3' := keepC hbw p3
      have hnd := fun W hR hB => HND.out W A3 cap3 k c w1.heap.size hR hB hx
      have hrdr := (HRD2.out).below hbw (by omega)

      obtain ⟨N, hN⟩ : ∃ N, needI L c = N := ⟨_, rfl⟩
      rw [hN] at hnd
      have HC := Lib.hid (hnd wr.drew (hrdr.keep (fun _ _ => rfl)) hz9)
      have hlen := sureL_le lo L k
      by_cases hle : N ≤ lo
      · have HS := Lib.hid (sureL_yes (lo := lo) hx (by rw [hN]; exact hle))
        clear hnd hrdr hN hx p0 p1 p2 p3
        have HBW := Lib.hid hbw
        clear hbw
        go_wp2
        go_region_held3 (fun w' => w'.cell? ⟨w1.heap.size, 0, none⟩ = some (.int .i64 lo) ∧ w'.cell? ⟨w1.heap.size, 1, none⟩ = some (.int .i64 hi) ∧ w'.cell? ⟨w1.heap.size, 2, none⟩ = some (.slice A cs.length cap) ∧ w'.cell? ⟨w1.heap.size, 3, none⟩ = some (.slice A3 cs.length cap3)) (first | exact ⟨c0, c1, c2, c3'⟩ | exact ⟨keepC hb3 c0, keepC hb3 c1, keepC hb3 c2, keepC hb3 c3'⟩) (first | (go_at_call 86; refine HC.out.mono ?_; rintro e w3 ⟨rfl, hb3⟩))
        have hb3' : Below wr.heap.size wr w3 := undrew0 hb3
        have hzl := hb3'.size
        have OWN3 := Lib.hid (own_below OWN.out hb3')
        have hnew : ∀ j u, [Value.int .i64 (k : Int)][j]? = some u → (w3.alloc (.cells #[.int .i64 (k : Int)] 3)).cell? ((⟨w3.heap.size, 0, none⟩ : Addr).add j) = some u := one_new _ _ _
        have HN := Lib.hid hnew
        have HB3 := Lib.hid hb3'
        clear hb3 hb3' hnew c0 c1 c2 c3'
        go_wp2_with (at_builtin; refine wpList_append_own _ rfl _ _ 32 rfl W2.heap.size 3 i0 (.int .i64 0) 1 8 Try.underlying32 hi0 hz0 hz1 hz2 rfl (by decide) _ _ _ rfl (OWN3.out.alloc _) ⟨w3.heap.size, 0, none⟩ 1 1 [.int .i64 (k : Int)] rfl rfl ?c1 ?c2 ?c3 ?c4 ?c5 ?_)
        case c1 => exact HN.out
        case c2 => simp [Value.oneCell']
        case c3 => unfold maxLen; omega
        case c4 => omega
        case c5 => simp; omega
        intro v' w4 hown' hgrow _
        have hB4 : Below W2.heap.size W2 w4 := grownB (OWN3.out.alloc _) hgrow (Nat.le_refl _) (belowA (belowT HBW.out HB3.out) _)
        have HO' := Lib.hid hown'
        clear hgrow hown'
        go_wp2
        go_roundw
        case rel => exact ⟨k + 1, v', by omega, by go_num, rfl, Lib.hid (by rw [HS.out, List.length_append, List.map_append]; exact HO'.out), hB4⟩
        case measure => simp [intOf]; omega
      · have HS := Lib.hid (sureL_no (lo := lo) hx (by rw [hN]; exact hle))
        clear hnd hrdr hN hx p0 p1 p2 p3
        have HBW := Lib.hid hbw
        clear hbw
        go_wp2
        go_region_held3 (fun w' => w'.cell? ⟨w1.heap.size, 0, none⟩ = some (.int .i64 lo) ∧ w'.cell? ⟨w1.heap.size, 1, none⟩ = some (.int .i64 hi) ∧ w'.cell? ⟨w1.heap.size, 2, none⟩ = some (.slice A cs.length cap) ∧ w'.cell? ⟨w1.heap.size, 3, none⟩ = some (.slice A3 cs.length cap3)) (first | exact ⟨c0, c1, c2, c3'⟩ | exact ⟨keepC hb3 c0, keepC hb3 c1, keepC hb3 c2, keepC hb3 c3'⟩) (first | (go_at_call 86; refine HC.out.mono ?_; rintro e w3 ⟨rfl, hb3⟩))
        have hb3' : Below wr.heap.size wr w3 := undrew0 hb3
        have OWN3 := Lib.hid (own_below OWN.out hb3')
        have HB3 := Lib.hid hb3'
        clear hb3 hb3' c0 c1 c2 c3'
        go_wp2
        go_roundw
        case rel => exact ⟨k + 1, _, by omega, by go_num, rfl, by rw [HS.out]; exact OWN3, belowT HBW.out HB3.out⟩
        case measure => simp [intOf]; omega
    · obtain rfl : k = cs.length := by omega
      go_wp2
      refine bodyPost_ret (results_tmp2 rfl _ _ _) rfl ?_
      exact (HFOLD.out _ _).2 ⟨_, rfl, ownsRow_base2 OWN.out HB2.out.size, belowT HB2.out hbw⟩
end Go.Proofs.Ytblbbhenmhkknaa
