/- ClaimCost: the walk's short branches. -/
import Derived.Deep.DeepCutAuto
import Derived.Test.YtblbbhenmhkknaaYL5
import Derived.Test.YtblbbhenmhkknaaZb8d4bc
import Derived.Test.YtblbbhenmhkknaaZb9a413
namespace Go.Proofs.Ytblbbhenmhkknaa
open Go.RowKit

theorem cost_no (lo hi : Int) (A D : Option Addr) (cs : List Clm) (B cap capD : Nat) (P : Int) (ds : List Int) (f : Clm) (w : World) (hm : cs.length ≤ cap) (hcm : cap ≤ maxLen) (hok : ClmsOk cs) (hfs : f.name.size ≤ maxLen) (hR : RdN 4 encClm w B A cs) (hB : B ≤ w.heap.size) (hD : Rd1 iv w B D ds) (hE : furtherE lo hi cs P ds f ≠ 0) :
    Calls Try.prog 30 #[.agg #[.int .i64 lo, .int .i64 hi, .slice A cs.length cap], .agg #[.int .i64 P, .slice D ds.length capD], .agg #[.string f.name, .int .i64 f.rank, .int .i64 f.lo, .int .i64 f.hi]] w (TruthNo (furtherE lo hi cs P ds f) w) := by
  by_cases h1 : truthE lo hi cs P ds = 0
  · by_cases h8 : cs.length = 8
    · have e : furtherE lo hi cs P ds f = 3 := by unfold furtherE; rw [if_pos h1, if_pos h8]
      rw [e]
      exact cost_eight lo hi A D cs B cap capD P ds f w hm hcm hok hR hB hD h1 h8
    · by_cases ht : toldE cs f = 0
      · by_cases hl : f.lo = f.hi
        · exact absurd (by unfold furtherE; rw [if_pos h1, if_neg h8, if_pos ht, if_pos hl]) hE
        · have e : furtherE lo hi cs P ds f = 2 := by unfold furtherE; rw [if_pos h1, if_neg h8, if_pos ht, if_neg hl]
          rw [e]
          exact cost_arg lo hi A D cs B cap capD P ds f w hm hcm hok hfs hR hB hD h1 h8 ht hl
      · have e : furtherE lo hi cs P ds f = toldE cs f := by unfold furtherE; rw [if_pos h1, if_neg h8, if_neg ht]
        rw [e]
        exact cost_told lo hi A D cs B cap capD P ds f w hm hcm hok hfs hR hB hD h1 h8 ht
  · have e : furtherE lo hi cs P ds f = truthE lo hi cs P ds := by unfold furtherE; rw [if_neg h1]
    rw [e]
    exact cost_bad lo hi A D cs B cap capD P ds f w hm hcm hok hR hB hD h1
end Go.Proofs.Ytblbbhenmhkknaa
