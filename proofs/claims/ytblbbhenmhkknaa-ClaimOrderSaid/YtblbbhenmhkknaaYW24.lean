/- claim.truth, of a valid estate. -/
import Derived.Test.YtblbbhenmhkknaaZ4f974a
namespace Go.Proofs.Ytblbbhenmhkknaa
open Go.RowKit

def TruthYes (cs : List Clm) (ds : List Int) (w : World) (e : Ending) (w' : World) : Prop :=
  ∃ A cap, e = .returned (.tuple #[.slice A cs.length cap, iv 0]) ∧ w'.ownsRow w.heap.size 125 3 (.slice A cs.length cap) cs.length ((justL (cs.map c3) (fun i => ds.getD i 0)).flatMap encC3) ∧ Below w.heap.size w w'

set_option maxRecDepth 100000 in
set_option maxHeartbeats 4000000 in
theorem truth_len (lo hi : Int) (A D : Option Addr) (cs : List Clm) (B cap capD : Nat) (P : Int) (ds : List Int) (w : World) (hm : cs.length ≤ cap) (hcm : cap ≤ maxLen) (hok : ClmsOk cs) (hR : RdN 4 encClm w B A cs) (hB : B ≤ w.heap.size) (hE : estErr lo hi cs = 0)
    (hl : ds.length ≠ cs.length) :
    Calls Try.prog 73 #[.agg #[.int .i64 lo, .int .i64 hi, .slice A cs.length cap], .agg #[.int .i64 P, .slice D ds.length capD]] w (TruthNo 3 w) := by
  have hest := est_ok hE
  have hop := fun w (hR : RdN 4 encClm w B A cs) (hB : B ≤ w.heap.size) => enter_yes lo hi A cs B cap w hm hcm hest.len.2 hok hR hB hE
  have HOP := Lib.hid hop
  clear hop hE
  have hne : ((ds.length : Int) != (cs.length : Int)) = true := by simp; omega
  go_enter Try.func73, Try.ntmps73
  go_wp2_with fail
  refine (HOP.out _ (hR.below (B' := w.heap.size) (belowA (belowA (belowR _) _) _) hB) (by simp; omega)).mono ?_
  rintro e w1 ⟨A3, cap3, rfl, hrd, _, _, hb⟩
  have hB1 := belowT (belowA (belowA (belowR _) _) _) hb
  have z1 : w.heap.size + 1 < w1.heap.size := (by have := hb.size; simp only [World.size_alloc] at this; omega)
  have q1 : w1.cell? ⟨w.heap.size + 1, 1, none⟩ = some (.slice D ds.length capD) := keepC hb (by go_simp)
  have q2 := fun ob => keepA q1 ob
  clear hb
  go_wp2
  refine bodyPost_ret (results_tmp2 rfl _ _ _) rfl ?_
  exact ⟨rfl, belowA hB1 _⟩

set_option maxRecDepth 100000 in
set_option maxHeartbeats 4000000 in
theorem truth_range (lo hi : Int) (A D : Option Addr) (cs : List Clm) (B cap capD : Nat) (P : Int) (ds : List Int) (w : World) (hm : cs.length ≤ cap) (hcm : cap ≤ maxLen) (hok : ClmsOk cs) (hR : RdN 4 encClm w B A cs) (hB : B ≤ w.heap.size) (hE : estErr lo hi cs = 0)
    (hl : ds.length = cs.length) (hP : inB lo hi P = false) :
    Calls Try.prog 73 #[.agg #[.int .i64 lo, .int .i64 hi, .slice A cs.length cap], .agg #[.int .i64 P, .slice D ds.length capD]] w (TruthNo 7 w) := by
  have hest := est_ok hE
  have hop := fun w (hR : RdN 4 encClm w B A cs) (hB : B ≤ w.heap.size) => enter_yes lo hi A cs B cap w hm hcm hest.len.2 hok hR hB hE
  have HOP := Lib.hid hop
  clear hop hE
  have hle : ((ds.length : Int) != (cs.length : Int)) = false := by simp; omega
  go_enter Try.func73, Try.ntmps73
  go_wp2_with fail
  refine (HOP.out _ (hR.below (B' := w.heap.size) (belowA (belowA (belowR _) _) _) hB) (by simp; omega)).mono ?_
  rintro e w1 ⟨A3, cap3, rfl, hrd, _, _, hb⟩
  have hB1 := belowT (belowA (belowA (belowR _) _) _) hb
  have z1 : w.heap.size + 1 < w1.heap.size := (by have := hb.size; simp only [World.size_alloc] at this; omega)
  have q0 : w1.cell? ⟨w.heap.size + 1, 0, none⟩ = some (.int .i64 P) := keepC hb (by go_simp)
  have q1 : w1.cell? ⟨w.heap.size + 1, 1, none⟩ = some (.slice D ds.length capD) := keepC hb (by go_simp)
  have q2 := fun ob => keepA q1 ob
  have q3 := fun ob => keepA q0 ob
  clear hb
  go_wp2_with (go_at_call 55; refine (out_one lo hi P _ _ (by go_simp) (by simp)).mono ?_; rintro e w2 ⟨rfl, hb2⟩; have hB2 := belowT (belowA (belowA hB1 _) _) hb2)
  refine bodyPost_ret (results_tmp2 rfl _ _ _) rfl ?_
  exact ⟨rfl, hB2⟩
end Go.Proofs.Ytblbbhenmhkknaa
