/- The examples of the laws: a ship, an estate, a truth, a claim. -/
import Derived.Test.YtblbbhenmhkknaaZb6d629
import Derived.Test.YtblbbhenmhkknaaZ307368
namespace Go.Proofs.Ytblbbhenmhkknaa
open Go.RowKit

def sClyde : ByteArray := ⟨#[99, 108, 121, 100, 101]⟩
def sOrient : ByteArray := ⟨#[111, 114, 105, 101, 110, 116]⟩
def sPacific : ByteArray := ⟨#[112, 97, 99, 105, 102, 105, 99]⟩
def sCash : ByteArray := ⟨#[99, 97, 115, 104]⟩
def sCrew : ByteArray := ⟨#[99, 114, 101, 119]⟩
def sBank : ByteArray := ⟨#[98, 97, 110, 107]⟩
def sYard : ByteArray := ⟨#[121, 97, 114, 100]⟩
def sFlag : ByteArray := ⟨#[102, 108, 97, 103]⟩
def sTug : ByteArray := ⟨#[116, 117, 103]⟩
def exPs : List Pap := [⟨10, sClyde, sOrient⟩, ⟨20, sOrient, sPacific⟩, ⟨30, sOrient, sCash⟩]
def exCs : List Clm := [⟨sCrew, 1, 300, 400⟩, ⟨sBank, 2, 600, 800⟩, ⟨sYard, 2, 300, 300⟩, ⟨sFlag, 3, 100, 100⟩]
def exDs : List Int := [300, 600, 300, 100]
def exTug : Clm := ⟨sTug, 2, 300, 300⟩

/-- A slice of a call's own, out of its block. -/
theorem rd1_lit {α : Type} {enc : α → Value} {w : World} {g : Nat} {t : TypeId} {xs : List α} (h : w.heap[g]? = some (.cells (xs.map enc).toArray t (0, 0))) : Rd1 enc w (g + 1) (some ⟨g, 0, none⟩) xs := by
  intro i x hx
  refine ⟨g, 0, rfl, by omega, ?_⟩
  simp [World.cell?, h, hx]
theorem rdN_lit {α : Type} {k : Nat} {encs : α → List Value} (he : ∀ x, (encs x).length = k) {w : World} {g : Nat} {t : TypeId} {xs : List α} (h : w.heap[g]? = some (.cells (xs.flatMap encs).toArray t (0, 0))) : RdN k encs w (g + 1) (some ⟨g, 0, none⟩) xs := by
  intro i x hx
  refine ⟨g, 0, rfl, by omega, fun j u hu => ?_⟩
  have := flat_get he xs i x hx j u hu
  simp [World.cell?, h, this]

theorem enc3p_len (p : Pap) : (encPap p).length = 3 := rfl
theorem enc4c_len (c : Clm) : (encClm c).length = 4 := rfl
theorem heap_new (w : World) (cs : Array Value) (t : TypeId) : (w.alloc (.cells cs t)).heap[w.heap.size]? = some (.cells cs t (0, 0)) := by rw [← World.alloc_eq]; simp
/-- A span's call, whose block is left aside. -/
theorem ex_ps : exPs.flatMap encPap = [.int .i64 10, .string sClyde, .string sOrient, .int .i64 20, .string sOrient, .string sPacific, .int .i64 30, .string sOrient, .string sCash] := rfl
theorem ex_cs : exCs.flatMap encClm = [.string sCrew, .int .i64 1, .int .i64 300, .int .i64 400, .string sBank, .int .i64 2, .int .i64 600, .int .i64 800, .string sYard, .int .i64 2, .int .i64 300, .int .i64 300, .string sFlag, .int .i64 3, .int .i64 100, .int .i64 100] := rfl

set_option maxRecDepth 100000 in
theorem ship_any (w : World) : Calls Try.prog 39 #[] w fun e w' => ∃ g, e = .returned (.agg #[.string sClyde, .slice (some ⟨g, 0, none⟩) 3 3, .int .i64 1]) ∧ RdN 3 encPap w' w'.heap.size (some ⟨g, 0, none⟩) exPs ∧ Below w.heap.size w w' := by
  go_enter Try.func39, Try.ntmps39
  go_wp2
  refine bodyPost_ret (v := .agg #[.string sClyde, .slice (some ⟨w.heap.size + 1, 0, none⟩) 3 3, .int .i64 1]) (by simp [results, Try.results39, go_sem, sClyde]) rfl ⟨w.heap.size + 1, rfl, ?_, belowA (belowA (belowR _) _) _⟩
  have h := heap_new (w.alloc (.cells #[.string sClyde, .slice (some ⟨w.heap.size + 1, 0, none⟩) 3 3, .int .i64 1] 24)) (exPs.flatMap encPap).toArray 72
  simp only [World.size_alloc] at h
  exact (rdN_lit enc3p_len h).more (by simp)
set_option maxRecDepth 100000 in
set_option maxHeartbeats 1000000 in
theorem estate_any (w : World) : Calls Try.prog 40 #[] w fun e w' => ∃ g, e = .returned (.agg #[.int .i64 1000, .int .i64 1200, .slice (some ⟨g, 0, none⟩) 4 4]) ∧ RdN 4 encClm w' w'.heap.size (some ⟨g, 0, none⟩) exCs ∧ Below w.heap.size w w' := by
  go_enter Try.func40, Try.ntmps40
  go_wp2_with fail
  have c0 := World.cell?_alloc_lt w
  refine (span_any _ _ _).mono ?_
  rintro e w1 ⟨rfl, hb1⟩
  have hB1 := belowT (belowA (belowR _) _) hb1
  go_wp2_with fail
  refine (span_any _ _ _).mono ?_
  rintro e w2 ⟨rfl, hb2⟩
  have hB2 := belowT hB1 hb2
  go_wp2_with fail
  refine (span_any _ _ _).mono ?_
  rintro e w3 ⟨rfl, hb3⟩
  have hB3 := belowT hB2 hb3
  go_wp2_with fail
  refine (span_any _ _ _).mono ?_
  rintro e w4 ⟨rfl, hb4⟩
  have hB4 := belowT hB3 hb4
  go_wp2_with fail
  refine (span_any _ _ _).mono ?_
  rintro e w5 ⟨rfl, hb5⟩
  have hB5 := belowT hB4 hb5
  have hbb : Below (w.alloc (.cells #[.int .i64 0, .int .i64 0, .slice none 0 0] 42)).heap.size (w.alloc (.cells #[.int .i64 0, .int .i64 0, .slice none 0 0] 42)) w5 := belowT (belowT (belowT (belowT hb1 hb2) hb3) hb4) hb5
  have z5 : w.heap.size < w5.heap.size := by have := hbb.size; simp only [World.size_alloc] at this; omega
  have q0 : w5.cell? ⟨w.heap.size, 0, none⟩ = some (.int .i64 0) := keepC hbb (by go_simp)
  have q1 : w5.cell? ⟨w.heap.size, 1, none⟩ = some (.int .i64 0) := keepC hbb (by go_simp)
  have q2 : w5.cell? ⟨w.heap.size, 2, none⟩ = some (.slice none 0 0) := keepC hbb (by go_simp)
  have f0 : ∀ o, w5.frozen? ⟨w.heap.size, o, none⟩ = false := fun o => (hbb.frozen (p := ⟨w.heap.size, o, none⟩) (by simp)).trans (by go_simp)
  have g0 := f0 0
  have g1 := f0 1
  have g2 := f0 2
  clear hb1 hb2 hb3 hb4 hb5 hB1 hB2 hB3 hB4 hbb f0 c0
  go_wp2
  have e0 : ∀ ob, ((((w5.setCell ⟨w.heap.size, 0, none⟩ (.int .i64 1000)).setCell ⟨w.heap.size, 1, none⟩ (.int .i64 1200)).setCell ⟨w.heap.size, 2, none⟩ (.slice (some ⟨w5.heap.size, 0, none⟩) 4 4)).alloc ob).cell? ⟨w.heap.size, 0, none⟩ = some (.int .i64 1000) := fun ob => keepA (by go_simp) ob
  have e1 : ∀ ob, ((((w5.setCell ⟨w.heap.size, 0, none⟩ (.int .i64 1000)).setCell ⟨w.heap.size, 1, none⟩ (.int .i64 1200)).setCell ⟨w.heap.size, 2, none⟩ (.slice (some ⟨w5.heap.size, 0, none⟩) 4 4)).alloc ob).cell? ⟨w.heap.size, 1, none⟩ = some (.int .i64 1200) := fun ob => keepA (by go_simp) ob
  have e2 : ∀ ob, ((((w5.setCell ⟨w.heap.size, 0, none⟩ (.int .i64 1000)).setCell ⟨w.heap.size, 1, none⟩ (.int .i64 1200)).setCell ⟨w.heap.size, 2, none⟩ (.slice (some ⟨w5.heap.size, 0, none⟩) 4 4)).alloc ob).cell? ⟨w.heap.size, 2, none⟩ = some (.slice (some ⟨w5.heap.size, 0, none⟩) 4 4) := fun ob => keepA (by go_simp) ob
  have hn := heap_new (((w5.setCell ⟨w.heap.size, 0, none⟩ (.int .i64 1000)).setCell ⟨w.heap.size, 1, none⟩ (.int .i64 1200)).setCell ⟨w.heap.size, 2, none⟩ (.slice (some ⟨w5.heap.size, 0, none⟩) 4 4)) (exCs.flatMap encClm).toArray 46
  have hs : (((w5.setCell ⟨w.heap.size, 0, none⟩ (.int .i64 1000)).setCell ⟨w.heap.size, 1, none⟩ (.int .i64 1200)).setCell ⟨w.heap.size, 2, none⟩ (.slice (some ⟨w5.heap.size, 0, none⟩) 4 4)).heap.size = w5.heap.size := by simp [World.setCell]
  rw [hs] at hn
  refine bodyPost_ret (v := .agg #[.int .i64 1000, .int .i64 1200, .slice (some ⟨w5.heap.size, 0, none⟩) 4 4]) (by simp [results, Try.results40, go_sem, e0, e1, e2]) rfl ⟨w5.heap.size, rfl, ?_, belowA (belowS (belowS (belowS hB5 (by simp) _) (by simp) _) (by simp) _) _⟩
  exact (rdN_lit enc4c_len hn).more (by simp [World.setCell])
set_option maxRecDepth 100000 in
theorem truthX_any (w : World) : Calls Try.prog 67 #[] w fun e w' => ∃ g, e = .returned (.agg #[.int .i64 1000, .slice (some ⟨g, 0, none⟩) 4 4]) ∧ Rd1 iv w' w'.heap.size (some ⟨g, 0, none⟩) exDs ∧ Below w.heap.size w w' := by
  go_enter Try.func67, Try.ntmps67
  go_wp2
  refine bodyPost_ret (v := .agg #[.int .i64 1000, .slice (some ⟨w.heap.size + 1, 0, none⟩) 4 4]) (by simp [results, Try.results67, go_sem]) rfl ⟨w.heap.size + 1, rfl, ?_, belowA (belowA (belowR _) _) _⟩
  have h := heap_new (w.alloc (.cells #[.int .i64 1000, .slice (some ⟨w.heap.size + 1, 0, none⟩) 4 4] 44)) (exDs.map iv).toArray 3
  simp only [World.size_alloc] at h
  exact (rd1_lit h).more (by simp)
set_option maxRecDepth 100000 in
theorem tug_any (w : World) : Calls Try.prog 68 #[] w fun e w' => e = .returned (.agg #[.string sTug, .int .i64 2, .int .i64 300, .int .i64 300]) ∧ Below w.heap.size w w' := by
  go_enter Try.func68, Try.ntmps68
  go_wp2_with fail
  refine (span_any _ _ _).mono ?_
  rintro e w1 ⟨rfl, hb1⟩
  have hB1 := belowT (belowA (belowR _) _) hb1
  have z1 : w.heap.size < w1.heap.size := by have := hb1.size; simp only [World.size_alloc] at this; omega
  have q0 : w1.cell? ⟨w.heap.size, 0, none⟩ = some (.string ⟨#[]⟩) := keepC hb1 (by go_simp)
  have q1 : w1.cell? ⟨w.heap.size, 1, none⟩ = some (.int .i64 0) := keepC hb1 (by go_simp)
  have q2 : w1.cell? ⟨w.heap.size, 2, none⟩ = some (.int .i64 0) := keepC hb1 (by go_simp)
  have q3 : w1.cell? ⟨w.heap.size, 3, none⟩ = some (.int .i64 0) := keepC hb1 (by go_simp)
  have f0 : ∀ o, w1.frozen? ⟨w.heap.size, o, none⟩ = false := fun o => (hb1.frozen (p := ⟨w.heap.size, o, none⟩) (by simp)).trans (by go_simp)
  have g0 := f0 0
  have g1 := f0 1
  have g2 := f0 2
  have g3 := f0 3
  clear hb1 f0
  go_wp2
  exact bodyPost_ret (v := .agg #[.string sTug, .int .i64 2, .int .i64 300, .int .i64 300]) (by simp [results, Try.results68, go_sem, sTug, q0, q1, q2, q3]) rfl ⟨rfl, belowS (belowS (belowS (belowS hB1 (by simp) _) (by simp) _) (by simp) _) (by simp) _⟩
end Go.Proofs.Ytblbbhenmhkknaa
