/- claim.truth. -/
import Derived.Test.YtblbbhenmhkknaaW22
namespace Go.Proofs.Ytblbbhenmhkknaa
open Go.RowKit

theorem truth1_any (i : Nat) (r lo hi x : Int) (g B capD : Nat) (D : Option Addr) (ds : List Int) (w : World) (hc : w.cell? ⟨g, 1, none⟩ = some (.slice D ds.length capD)) (hD : Rd1 iv w B D ds) (hx : ds[i]? = some x) :
    Calls Try.prog 105 #[.int .i64 i, .agg #[.int .i64 r, .int .i64 lo, .int .i64 hi], .pointer (some ⟨g, 0, none⟩)] w fun e w' => e = .returned (.int .i64 x) ∧ Below w.heap.size w w' := by
  obtain ⟨b, off, rfl, _, hd⟩ := hD i x hx
  have hi : i < ds.length := (List.getElem?_eq_some_iff.1 hx).1
  have hiz : (i : Int) < (ds.length : Int) := by omega
  have hca := fun ob => keepA hc ob
  have hda := fun ob => keepA hd ob
  clear hx
  go_enter Try.func105, Try.ntmps105
  go_wp2
  go_ret
  exact ⟨rfl, belowA (belowR _) _⟩

/-- Whether each number is within its claim's cents. -/
def centsOk (cs : List Cl3) (ds : List Int) (k : Nat) : Bool := (List.range k).all fun i => match cs[i]?, ds[i]? with | some c, some d => inB c.lo c.hi d | _, _ => true
theorem centsOk_succ (cs : List Cl3) (ds : List Int) (k : Nat) (c : Cl3) (d : Int) (h1 : cs[k]? = some c) (h2 : ds[k]? = some d) : centsOk cs ds (k + 1) = (centsOk cs ds k && inB c.lo c.hi d) := by
  unfold centsOk
  rw [List.range_succ, List.all_append]
  simp [h1, h2]
theorem centsOk_no {cs : List Cl3} {ds : List Int} {k n : Nat} {c : Cl3} {d : Int} (h1 : cs[k]? = some c) (h2 : ds[k]? = some d) (h : inB c.lo c.hi d = false) (hk : k < n) : centsOk cs ds n = false := by
  unfold centsOk
  rw [List.all_eq_false]
  exact ⟨k, List.mem_range.2 hk, by simp [h1, h2, h]⟩
/-- The error of a truth of an estate. -/
def truthE (lo hi : Int) (cs : List Clm) (P : Int) (ds : List Int) : Int :=
  if estErr lo hi cs = 0 then (if ds.length = cs.length then (if inB lo hi P then (if centsOk (cs.map c3) ds cs.length then 0 else 7) else 7) else 3) else estErr lo hi cs

def TruthNo (E : Int) (w : World) (e : Ending) (w' : World) : Prop := e = .returned (.tuple #[.slice none 0 0, iv E]) ∧ Below w.heap.size w w'

set_option maxRecDepth 100000 in
set_option maxHeartbeats 4000000 in
theorem truth_bad (lo hi : Int) (A D : Option Addr) (cs : List Clm) (B cap capD : Nat) (P : Int) (ds : List Int) (w : World) (hm : cs.length ≤ cap) (hcm : cap ≤ maxLen) (hok : ClmsOk cs) (hR : RdN 4 encClm w B A cs) (hB : B ≤ w.heap.size) (hE : estErr lo hi cs ≠ 0) :
    Calls Try.prog 73 #[.agg #[.int .i64 lo, .int .i64 hi, .slice A cs.length cap], .agg #[.int .i64 P, .slice D ds.length capD]] w (TruthNo (estErr lo hi cs) w) := by
  have hop := fun w (hR : RdN 4 encClm w B A cs) (hB : B ≤ w.heap.size) => enter_no lo hi A cs B cap w hm hcm hok hR hB hE
  obtain ⟨E, hEE⟩ : ∃ E, estErr lo hi cs = E := ⟨_, rfl⟩
  rw [hEE] at hE hop ⊢
  have hne : (E != 0) = true := by simpa using hE
  have HOP := Lib.hid hop
  clear hop hEE hE
  go_enter Try.func73, Try.ntmps73
  go_wp2_with fail
  refine (HOP.out _ (hR.below (B' := w.heap.size) (belowA (belowA (belowR _) _) _) hB) (by simp; omega)).mono ?_
  rintro e w1 ⟨rfl, hb⟩
  have hB1 := belowT (belowA (belowA (belowR _) _) _) hb
  go_wp2
  refine bodyPost_ret (results_tmp2 rfl _ _ _) rfl ?_
  exact ⟨rfl, belowA hB1 _⟩
end Go.Proofs.Ytblbbhenmhkknaa
