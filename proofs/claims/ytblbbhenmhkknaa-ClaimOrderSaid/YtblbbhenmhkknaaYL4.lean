/- What the program answers at the examples: the estate. -/
import Derived.Test.YtblbbhenmhkknaaYW32
import Derived.Test.YtblbbhenmhkknaaZ9029f7
import Derived.Test.YtblbbhenmhkknaaYL3
namespace Go.Proofs.Ytblbbhenmhkknaa
open Go.RowKit

theorem exClmsOk : ClmsOk exCs := by unfold ClmsOk; decide +kernel
theorem exEst : estErr 1000 1200 exCs = 0 := by
  simp only [estErr, estE, toldE, taken, toldAt, firstBad, ByteArray.toList_eq]
  decide +kernel
theorem exTruth : truthE 1000 1200 exCs 1000 exDs = 0 := by
  unfold truthE
  rw [if_pos exEst]
  decide +kernel
theorem exTold : toldE exCs exTug = 0 := by
  simp only [toldE, taken, ByteArray.toList_eq]
  decide +kernel
theorem exPaysL : pays (jl exCs exDs) 1000 = [300, 466, 233, 0] := by decide +kernel
theorem exRangesL : rangesL 1000 1200 (exCs.map c3) 4 = [(300, 400), (400, 654), (163, 300), (0, 0)] := by decide +kernel
theorem exSureL : sureL 1000 (exCs.map c3) 4 = [0] := by decide +kernel
theorem exCostL : costL exCs 1000 exDs exTug = [0, 116, 58, 0] := by decide +kernel
theorem exLeast0 : leastR 1000 1200 exCs 0 = (400, 0) := by unfold leastR; rw [if_pos exEst]; decide +kernel
theorem exLeast2 : leastR 1000 1200 exCs 2 = (1500, 0) := by unfold leastR; rw [if_pos exEst]; decide +kernel
theorem exLeast3 : leastR 1000 1200 exCs 3 = (1600, 0) := by unfold leastR; rw [if_pos exEst]; decide +kernel

theorem own_rd1' {α : Type} {enc : α → Value} {w : World} {base : Nat} {e : TypeId} {A : Option Addr} {n cap : Nat} {xs : List α} (h : w.ownsRow base e 1 (.slice A n cap) n (xs.map enc)) (hn : xs.length = n) : Rd1 enc w w.heap.size A xs := by
  subst hn
  obtain ⟨A', cap', e1, h2, _⟩ := own_rd1 h
  injection e1 with e1 _ _
  subst e1
  exact h2
theorem own_rdN' {α : Type} {k : Nat} {encs : α → List Value} (he : ∀ x, (encs x).length = k) {w : World} {base : Nat} {e : TypeId} {A : Option Addr} {n cap : Nat} {xs : List α} (h : w.ownsRow base e k (.slice A n cap) n (xs.flatMap encs)) (hn : xs.length = n) : RdN k encs w w.heap.size A xs := by
  subst hn
  obtain ⟨A', cap', e1, h2, _⟩ := own_rdN he h
  injection e1 with e1 _ _
  subst e1
  exact h2

theorem exPays (g g2 B : Nat) (w : World) (hR : RdN 4 encClm w B (some ⟨g, 0, none⟩) exCs) (hD : Rd1 iv w B (some ⟨g2, 0, none⟩) exDs) (hB : B ≤ w.heap.size) :
    Calls Try.prog 28 #[.agg #[.int .i64 1000, .int .i64 1200, .slice (some ⟨g, 0, none⟩) 4 4], .agg #[.int .i64 1000, .slice (some ⟨g2, 0, none⟩) 4 4]] w fun e w' => ∃ A cap, e = .returned (.tuple #[.slice A 4 cap, iv 1, iv 0]) ∧ Rd1 iv w' w'.heap.size A [300, 466, 233, 0] ∧ Below w.heap.size w w' := by
  refine (pays_yes 1000 1200 (some ⟨g, 0, none⟩) (some ⟨g2, 0, none⟩) exCs B 4 4 1000 exDs w (by decide) (by decide +kernel) exClmsOk hR hB hD exTruth).mono ?_
  rintro e w' ⟨A, cap, rfl, hown, hb⟩
  rw [exPaysL] at hown ⊢
  exact ⟨A, cap, rfl, own_rd1' hown rfl, hb⟩
theorem exRanges (g B : Nat) (w : World) (hR : RdN 4 encClm w B (some ⟨g, 0, none⟩) exCs) (hB : B ≤ w.heap.size) :
    Calls Try.prog 32 #[.agg #[.int .i64 1000, .int .i64 1200, .slice (some ⟨g, 0, none⟩) 4 4]] w fun e w' => ∃ A cap, e = .returned (.tuple #[.slice A 4 cap, iv 0]) ∧ RdN 2 encSp w' w'.heap.size A [(300, 400), (400, 654), (163, 300), (0, 0)] ∧ Below w.heap.size w w' := by
  refine (ranges_yes 1000 1200 (some ⟨g, 0, none⟩) exCs B 4 w (by decide) (by decide +kernel) exClmsOk hR hB exEst).mono ?_
  rintro e w' ⟨A, cap, rfl, hown, hb⟩
  have hown' : w'.ownsRow w.heap.size 39 2 (.slice A 4 cap) 4 ((rangesL 1000 1200 (exCs.map c3) 4).flatMap encSp) := hown
  rw [exRangesL] at hown'
  exact ⟨A, cap, rfl, own_rdN' encSp_len hown' rfl, hb⟩
theorem exSure (g B : Nat) (w : World) (hR : RdN 4 encClm w B (some ⟨g, 0, none⟩) exCs) (hB : B ≤ w.heap.size) :
    Calls Try.prog 35 #[.agg #[.int .i64 1000, .int .i64 1200, .slice (some ⟨g, 0, none⟩) 4 4]] w fun e w' => ∃ A cap, e = .returned (.tuple #[.slice A 1 cap, iv 0]) ∧ Rd1 iv w' w'.heap.size A [0] ∧ Below w.heap.size w w' := by
  refine (sure_yes 1000 1200 (some ⟨g, 0, none⟩) exCs B 4 w (by decide) (by decide +kernel) exClmsOk hR hB exEst).mono ?_
  rintro e w' ⟨v, rfl, hown, hb⟩
  have hown' : w'.ownsRow w.heap.size 3 1 v (sureL 1000 (exCs.map c3) 4).length ((sureL 1000 (exCs.map c3) 4).map nv) := hown
  rw [exSureL] at hown'
  obtain ⟨A, cap, rfl, hrd, _⟩ := own_rd1 (xs := [0]) (enc := nv) hown'
  exact ⟨A, cap, rfl, hrd.map_ (enc' := iv) (fun (n : Nat) => (n : Int)) (fun _ => rfl), hb⟩
theorem exLeast {at_ n : Int} (h : leastR 1000 1200 exCs at_ = (n, 0)) (g B : Nat) (w : World) (hR : RdN 4 encClm w B (some ⟨g, 0, none⟩) exCs) (hB : B ≤ w.heap.size) :
    Calls Try.prog 37 #[.agg #[.int .i64 1000, .int .i64 1200, .slice (some ⟨g, 0, none⟩) 4 4], .int .i64 at_] w fun e w' => e = .returned (.tuple #[iv n, iv 0]) ∧ Below w.heap.size w w' := by
  refine (least_any 1000 1200 at_ (some ⟨g, 0, none⟩) exCs B 4 w (by decide) (by decide +kernel) exClmsOk hR hB).mono ?_
  rintro e w' ⟨rfl, hb⟩
  rw [h]
  exact ⟨rfl, hb⟩
theorem exCost (g g2 B : Nat) (w : World) (hR : RdN 4 encClm w B (some ⟨g, 0, none⟩) exCs) (hD : Rd1 iv w B (some ⟨g2, 0, none⟩) exDs) (hB : B ≤ w.heap.size) :
    Calls Try.prog 30 #[.agg #[.int .i64 1000, .int .i64 1200, .slice (some ⟨g, 0, none⟩) 4 4], .agg #[.int .i64 1000, .slice (some ⟨g2, 0, none⟩) 4 4], .agg #[.string sTug, .int .i64 2, .int .i64 300, .int .i64 300]] w fun e w' => ∃ A cap, e = .returned (.tuple #[.slice A 4 cap, iv 0]) ∧ Rd1 iv w' w'.heap.size A [0, 116, 58, 0] ∧ Below w.heap.size w w' := by
  refine (cost_yes 1000 1200 (some ⟨g, 0, none⟩) (some ⟨g2, 0, none⟩) exCs B 4 4 1000 exDs exTug w (by decide) (by decide +kernel) exClmsOk (by decide +kernel) hR hB hD exTruth (by decide) exTold rfl).mono ?_
  rintro e w' ⟨A, cap, rfl, hown, hb⟩
  rw [exCostL] at hown
  exact ⟨A, cap, rfl, own_rd1' hown rfl, hb⟩
end Go.Proofs.Ytblbbhenmhkknaa
