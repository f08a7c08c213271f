/- ClaimPays: the walk of the law, where Cost (F30) and the reference Cost (F31) answer alike. ClaimPays: what Cost (F30) answers, as a row; the law where the further claim is refused. -/
import Derived.Test.YtblbbhenmhkknaaYL5
import Derived.Test.YtblbbhenmhkknaaZb8d4bc
import Derived.Test.YtblbbhenmhkknaaZdabc57
import Derived.Test.YtblbbhenmhkknaaZb9a413
import Derived.Test.YtblbbhenmhkknaaYP9
namespace Go.Proofs.Ytblbbhenmhkknaa
open Go.RowKit

def RowP (L : List Int) (K E : Int) (w : World) (e : Ending) (w' : World) : Prop := ∃ A cap, e = .returned (.tuple #[.slice A L.length cap, iv K, iv E]) ∧ Rd1 iv w' w'.heap.size A L ∧ Below w.heap.size w w'
def RowC (L : List Int) (E : Int) (w : World) (e : Ending) (w' : World) : Prop := ∃ A cap, e = .returned (.tuple #[.slice A L.length cap, iv E]) ∧ Rd1 iv w' w'.heap.size A L ∧ Below w.heap.size w w'

theorem pays_row (lo hi : Int) (A D : Option Addr) (cs : List Clm) (B cap capD : Nat) (P : Int) (ds : List Int) (hm : cs.length ≤ cap) (hcm : cap ≤ maxLen) (hok : ClmsOk cs) (hdm : ds.length ≤ maxLen) : ∃ L K E, L.length ≤ 1000000 ∧
    (∀ w, RdN 4 encClm w B A cs → B ≤ w.heap.size → Rd1 iv w B D ds → Calls Try.prog 28 #[.agg #[.int .i64 lo, .int .i64 hi, .slice A cs.length cap], .agg #[.int .i64 P, .slice D ds.length capD]] w (RowP L K E w)) ∧
    (∀ w, RdN 4 encClm w B A cs → B ≤ w.heap.size → Rd1 iv w B D ds → Calls Try.prog 29 #[.agg #[.int .i64 lo, .int .i64 hi, .slice A cs.length cap], .agg #[.int .i64 P, .slice D ds.length capD]] w (RowP L K E w)) := by
  by_cases hE : truthE lo hi cs P ds = 0
  · have hl8 : cs.length ≤ 8 := (est_ok (truthE_ok hE).1.est).len.2
    have hl : (pays (jl cs ds) P).length = cs.length := by rw [pays_len, jl_len]
    have key : ∀ w e w', PaysYes cs P ds w e w' → RowP (pays (jl cs ds) P) (P - (pays (jl cs ds) P).sum) 0 w e w' := fun w e w' h => by
      obtain ⟨A', cap', rfl, hown, hb⟩ := h
      exact ⟨A', cap', by rw [hl], own_rd1' hown hl, hb⟩
    exact ⟨_, _, _, by rw [hl]; omega, fun w hR hB hD => (pays_yes lo hi A D cs B cap capD P ds w hm hcm hok hR hB hD hE).mono (key w), fun w hR hB hD => (refPays_yes lo hi A D cs B cap capD P ds w hm hcm hok hR hB hD hE).mono (key w)⟩
  · have key : ∀ (w : World) e w', (e = .returned (.tuple #[.slice none 0 0, iv 0, iv (truthE lo hi cs P ds)]) ∧ Below w.heap.size w w') → RowP [] 0 (truthE lo hi cs P ds) w e w' := fun w e w' h => ⟨none, 0, h.1, Rd1.nil, h.2⟩
    exact ⟨[], 0, _, by simp, fun w hR hB hD => (pays_no lo hi A D cs B cap capD P ds w hm hcm hok hR hB hD hE).mono (key w), fun w hR hB hD => (refPays_no lo hi A D cs B cap capD P ds w hm hcm hok hR hB hD hdm hE).mono (key w)⟩

set_option maxRecDepth 1000000 in
set_option maxHeartbeats 8000000 in
theorem paysLaw_walk (lo hi : Int) (A D : Option Addr) (cs : List Clm) (B cap capD : Nat) (P : Int) (ds : List Int) (f : Clm) (w : World) (hm : cs.length ≤ cap) (hcm : cap ≤ maxLen) (hok : ClmsOk cs) (hR : RdN 4 encClm w B A cs) (hB : B ≤ w.heap.size) (hD : Rd1 iv w B D ds) (hdm : ds.length ≤ maxLen)
    (hcost : ∃ L E, L.length ≤ 1000000 ∧
      (∀ w, RdN 4 encClm w B A cs → B ≤ w.heap.size → Rd1 iv w B D ds → Calls Try.prog 30 #[.agg #[.int .i64 lo, .int .i64 hi, .slice A cs.length cap], .agg #[.int .i64 P, .slice D ds.length capD], .agg #[.string f.name, .int .i64 f.rank, .int .i64 f.lo, .int .i64 f.hi]] w (RowC L E w)) ∧
      (∀ w, RdN 4 encClm w B A cs → B ≤ w.heap.size → Rd1 iv w B D ds → Calls Try.prog 31 #[.agg #[.int .i64 lo, .int .i64 hi, .slice A cs.length cap], .agg #[.int .i64 P, .slice D ds.length capD], .agg #[.string f.name, .int .i64 f.rank, .int .i64 f.lo, .int .i64 f.hi]] w (RowC L E w))) :
    Calls Try.prog 4 #[.agg #[.int .i64 lo, .int .i64 hi, .slice A cs.length cap], .agg #[.int .i64 P, .slice D ds.length capD], .agg #[.string f.name, .int .i64 f.rank, .int .i64 f.lo, .int .i64 f.hi]] w fun e w' => e = .returned (.bool true) ∧ Below w.heap.size w w' := by
  obtain ⟨L, K, E, hL, h3, h4⟩ := pays_row lo hi A D cs B cap capD P ds hm hcm hok hdm
  obtain ⟨M, G, hM, h5, h6⟩ := hcost
  have h1 := fun W (hR : RdN 4 encClm W B A cs) (hB : B ≤ W.heap.size) => check_any lo hi A cs B cap W hm hcm hok hR hB
  have h2 := fun W (hR : RdN 4 encClm W B A cs) (hB : B ≤ W.heap.size) => refCheck_any lo hi A cs B cap W hm hcm hok hR hB
  obtain ⟨X, Y, Z, hXY⟩ : ∃ x y z, estE lo hi cs = (x, y, z) := ⟨_, _, _, rfl⟩
  rw [hXY] at h1 h2
  unfold ret3 at h1 h2
  simp only at h1 h2
  unfold RowP at h3 h4
  unfold RowC at h5 h6
  obtain ⟨W1, hW1⟩ : ∃ W1, ((w.alloc (.cells #[.int .i64 lo, .int .i64 hi, .slice A cs.length cap] 42)).alloc (.cells #[.int .i64 P, .slice D ds.length capD] 44)).alloc (.cells #[.string f.name, .int .i64 f.rank, .int .i64 f.lo, .int .i64 f.hi] 46) = W1 := ⟨_, rfl⟩
  have hb0 : Below w.heap.size w W1 := by rw [← hW1]; exact belowA (belowA (belowA (belowR _) _) _) _
  have p0 : W1.cell? ⟨w.heap.size, 0, none⟩ = some (.int .i64 lo) := by rw [← hW1]; clear hW1; go_simp
  have p1 : W1.cell? ⟨w.heap.size, 1, none⟩ = some (.int .i64 hi) := by rw [← hW1]; clear hW1; go_simp
  have p2 : W1.cell? ⟨w.heap.size, 2, none⟩ = some (.slice A cs.length cap) := by rw [← hW1]; clear hW1; go_simp
  have q0 : W1.cell? ⟨w.heap.size + 1, 0, none⟩ = some (.int .i64 P) := by rw [← hW1]; clear hW1; go_simp
  have q1 : W1.cell? ⟨w.heap.size + 1, 1, none⟩ = some (.slice D ds.length capD) := by rw [← hW1]; clear hW1; go_simp
  have r0 : W1.cell? ⟨w.heap.size + 1 + 1, 0, none⟩ = some (.string f.name) := by rw [← hW1]; clear hW1; go_simp
  have r1 : W1.cell? ⟨w.heap.size + 1 + 1, 1, none⟩ = some (.int .i64 f.rank) := by rw [← hW1]; clear hW1; go_simp
  have r2 : W1.cell? ⟨w.heap.size + 1 + 1, 2, none⟩ = some (.int .i64 f.lo) := by rw [← hW1]; clear hW1; go_simp
  have r3 : W1.cell? ⟨w.heap.size + 1 + 1, 3, none⟩ = some (.int .i64 f.hi) := by rw [← hW1]; clear hW1; go_simp
  have hz1 : w.heap.size + 1 + 1 < W1.heap.size := lt_of_cell r0
  have HB0 := Lib.hid hb0
  have H1 := Lib.hid h1
  have H2 := Lib.hid h2
  have H3 := Lib.hid h3
  have H4 := Lib.hid h4
  have H5 := Lib.hid h5
  have H6 := Lib.hid h6
  have HR1 := Lib.hid (hR.below hb0 hB)
  have HD1 := Lib.hid (hD.below hb0 hB)
  clear h1 h2 h3 h4 h5 h6 hXY hR hD hb0 hm hcm hok hdm
  go_enter Try.func4, Try.ntmps4
  go_wp2_with fail
  refine (H1.out _ HR1.out (by omega)).mono ?_
  rintro e w1 ⟨rfl, hb1⟩
  have p0 := keepC hb1 p0
  have p1 := keepC hb1 p1
  have p2 := keepC hb1 p2
  have q0 := keepC hb1 q0
  have q1 := keepC hb1 q1
  have r0 := keepC hb1 r0
  have r1 := keepC hb1 r1
  have r2 := keepC hb1 r2
  have r3 := keepC hb1 r3
  have HR2 := Lib.hid (HR1.out.below hb1 (by omega))
  have HD2 := Lib.hid (HD1.out.below hb1 (by omega))
  have HB1 := Lib.hid (belowT HB0.out hb1)
  have hz2 := hb1.size
  clear hb1 hW1 HR1 HD1
  go_wp2_with fail
  refine (H2.out _ HR2.out (by omega)).mono ?_
  rintro e w2 ⟨rfl, hb2⟩
  have p0 := keepC hb2 p0
  have p1 := keepC hb2 p1
  have p2 := keepC hb2 p2
  have q0 := keepC hb2 q0
  have q1 := keepC hb2 q1
  have r0 := keepC hb2 r0
  have r1 := keepC hb2 r1
  have r2 := keepC hb2 r2
  have r3 := keepC hb2 r3
  have HR3 := Lib.hid (HR2.out.below hb2 (by omega))
  have HD3 := Lib.hid (HD2.out.below hb2 (by omega))
  have HB2 := Lib.hid (belowT HB1.out hb2)
  have hz3 := hb2.size
  clear hb2 HR2 HD2
  go_wp2_with fail
  refine (H3.out _ HR3.out (by omega) HD3.out).mono ?_
  rintro e w3 ⟨A3, cap3, rfl, hrd3, hb3⟩
  have p0 := keepC hb3 p0
  have p1 := keepC hb3 p1
  have p2 := keepC hb3 p2
  have q0 := keepC hb3 q0
  have q1 := keepC hb3 q1
  have r0 := keepC hb3 r0
  have r1 := keepC hb3 r1
  have r2 := keepC hb3 r2
  have r3 := keepC hb3 r3
  have HR4 := Lib.hid (HR3.out.below hb3 (by omega))
  have HD4 := Lib.hid (HD3.out.below hb3 (by omega))
  have HB3 := Lib.hid (belowT HB2.out hb3)
  have hz4 := hb3.size
  have HL3 := Lib.hid hrd3
  clear hb3 HR3 HD3 hrd3
  go_wp2_with fail
  refine (H4.out _ HR4.out (by omega) HD4.out).mono ?_
  rintro e w4 ⟨A4, cap4, rfl, hrd4, hb4⟩
  have p0 := keepC hb4 p0
  have p1 := keepC hb4 p1
  have p2 := keepC hb4 p2
  have q0 := keepC hb4 q0
  have q1 := keepC hb4 q1
  have r0 := keepC hb4 r0
  have r1 := keepC hb4 r1
  have r2 := keepC hb4 r2
  have r3 := keepC hb4 r3
  have HR5 := Lib.hid (HR4.out.below hb4 (by omega))
  have HD5 := Lib.hid (HD4.out.below hb4 (by omega))
  have HB4 := Lib.hid (belowT HB3.out hb4)
  have hz5 := hb4.size
  have HS1 := Lib.hid (ints_same A3 A4 L w4.heap.size cap3 cap4 w4 hL ((HL3.out.below hb4 (Nat.le_refl _)).more hb4.size) hrd4 (Nat.le_refl _))
  clear hb4 HR4 HD4 hrd4 HL3
  go_wp2_with fail
  refine HS1.out.mono ?_
  rintro e w5 ⟨rfl, hb5⟩
  have p0 := keepC hb5 p0
  have p1 := keepC hb5 p1
  have p2 := keepC hb5 p2
  have q0 := keepC hb5 q0
  have q1 := keepC hb5 q1
  have r0 := keepC hb5 r0
  have r1 := keepC hb5 r1
  have r2 := keepC hb5 r2
  have r3 := keepC hb5 r3
  have HR6 := Lib.hid (HR5.out.below hb5 (by omega))
  have HD6 := Lib.hid (HD5.out.below hb5 (by omega))
  have HB5 := Lib.hid (belowT HB4.out hb5)
  have hz6 := hb5.size
  clear hb5 HR5 HD5 HS1
  go_wp2_with fail
  refine (H5.out _ HR6.out (by omega) HD6.out).mono ?_
  rintro e w6 ⟨A6, cap6, rfl, hrd6, hb6⟩
  have p0 := keepC hb6 p0
  have p1 := keepC hb6 p1
  have p2 := keepC hb6 p2
  have q0 := keepC hb6 q0
  have q1 := keepC hb6 q1
  have r0 := keepC hb6 r0
  have r1 := keepC hb6 r1
  have r2 := keepC hb6 r2
  have r3 := keepC hb6 r3
  have HR7 := Lib.hid (HR6.out.below hb6 (by omega))
  have HD7 := Lib.hid (HD6.out.below hb6 (by omega))
  have HB6 := Lib.hid (belowT HB5.out hb6)
  have hz7 := hb6.size
  have HL6 := Lib.hid hrd6
  clear hb6 HR6 HD6 hrd6
  go_wp2_with fail
  refine (H6.out _ HR7.out (by omega) HD7.out).mono ?_
  rintro e w7 ⟨A7, cap7, rfl, hrd7, hb7⟩
  have p0 := keepC hb7 p0
  have p1 := keepC hb7 p1
  have p2 := keepC hb7 p2
  have q0 := keepC hb7 q0
  have q1 := keepC hb7 q1
  have r0 := keepC hb7 r0
  have r1 := keepC hb7 r1
  have r2 := keepC hb7 r2
  have r3 := keepC hb7 r3
  have HR8 := Lib.hid (HR7.out.below hb7 (by omega))
  have HD8 := Lib.hid (HD7.out.below hb7 (by omega))
  have HB7 := Lib.hid (belowT HB6.out hb7)
  have hz8 := hb7.size
  have HS2 := Lib.hid (ints_same A6 A7 M w7.heap.size cap6 cap7 w7 hM ((HL6.out.below hb7 (Nat.le_refl _)).more hb7.size) hrd7 (Nat.le_refl _))
  clear hb7 HR7 HD7 hrd7 HL6 p0 p1 p2 q0 q1 r0 r1 r2 r3
  go_wp2_with fail
  refine HS2.out.mono ?_
  rintro e w8 ⟨rfl, hb8⟩
  have HB8 := Lib.hid (belowT HB7.out hb8)
  clear hb8
  go_wp2_with fail
  refine (awake_any _).mono ?_
  rintro e w9 ⟨rfl, hb9⟩
  go_wp2
  go_ret
  exact ⟨rfl, belowT HB8.out hb9⟩
end Go.Proofs.Ytblbbhenmhkknaa

namespace Go.Proofs.Ytblbbhenmhkknaa
open Go.RowKit

theorem cost_row (lo hi : Int) (A D : Option Addr) (cs : List Clm) (B cap capD : Nat) (P : Int) (ds : List Int) (f : Clm) (w : World) (hm : cs.length ≤ cap) (hcm : cap ≤ maxLen) (hok : ClmsOk cs) (hfs : f.name.size ≤ maxLen) (hR : RdN 4 encClm w B A cs) (hB : B ≤ w.heap.size) (hD : Rd1 iv w B D ds) (hE : truthE lo hi cs P ds = 0) (h8 : cs.length ≠ 8) (hT : toldE cs f = 0) (hne : f.lo = f.hi) (hl : (costL cs P ds f).length = cs.length) :
    Calls Try.prog 30 #[.agg #[.int .i64 lo, .int .i64 hi, .slice A cs.length cap], .agg #[.int .i64 P, .slice D ds.length capD], .agg #[.string f.name, .int .i64 f.rank, .int .i64 f.lo, .int .i64 f.hi]] w (RowC (costL cs P ds f) 0 w) := by
  refine (cost_yes lo hi A D cs B cap capD P ds f w hm hcm hok hfs hR hB hD hE h8 hT hne).mono fun e w' h => ?_
  obtain ⟨A', cap', rfl, hown, hb⟩ := h
  exact ⟨A', cap', by rw [hl], own_rd1' hown hl, hb⟩

theorem paysLaw_bad (lo hi : Int) (A D : Option Addr) (cs : List Clm) (B cap capD : Nat) (P : Int) (ds : List Int) (f : Clm) (w : World) (hm : cs.length ≤ cap) (hcm : cap ≤ maxLen) (hok : ClmsOk cs) (hfs : f.name.size ≤ maxLen) (hR : RdN 4 encClm w B A cs) (hB : B ≤ w.heap.size) (hD : Rd1 iv w B D ds) (hdm : ds.length ≤ maxLen) (hE : furtherE lo hi cs P ds f ≠ 0) :
    Calls Try.prog 4 #[.agg #[.int .i64 lo, .int .i64 hi, .slice A cs.length cap], .agg #[.int .i64 P, .slice D ds.length capD], .agg #[.string f.name, .int .i64 f.rank, .int .i64 f.lo, .int .i64 f.hi]] w fun e w' => e = .returned (.bool true) ∧ Below w.heap.size w w' := by
  have key : ∀ (w : World) e w', TruthNo (furtherE lo hi cs P ds f) w e w' → RowC [] (furtherE lo hi cs P ds f) w e w' := fun w e w' h => ⟨none, 0, h.1, Rd1.nil, h.2⟩
  exact paysLaw_walk lo hi A D cs B cap capD P ds f w hm hcm hok hR hB hD hdm ⟨[], _, by simp,
    fun w hR hB hD => (cost_no lo hi A D cs B cap capD P ds f w hm hcm hok hfs hR hB hD hE).mono (key w),
    fun w hR hB hD => (refCost_no lo hi A D cs B cap capD P ds f w hm hcm hok hfs hR hB hD hdm hE).mono (key w)⟩
end Go.Proofs.Ytblbbhenmhkknaa
