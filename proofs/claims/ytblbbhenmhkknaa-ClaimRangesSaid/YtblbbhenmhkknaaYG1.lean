/- The reference: the cents of all claims, one at one end, all others at the other one (F85). -/
import Derived.Test.YtblbbhenmhkknaaZ8ec8fa
import Derived.Test.YtblbbhenmhkknaaYPut
namespace Go.Proofs.Ytblbbhenmhkknaa
open Go.RowKit

def EndsPost (hg : Bool) (cs : List Clm) (a : Nat) (w : World) (e : Ending) (w' : World) : Prop :=
  ∃ A cap, e = .returned (.slice A cs.length cap) ∧ w'.ownsRow w.heap.size 3 1 (.slice A cs.length cap) cs.length ((endD hg cs a cs.length).map iv) ∧ Below w.heap.size w w'

set_option maxRecDepth 100000 in
set_option maxHeartbeats 4000000 in
theorem refEnds_any (hg : Bool) (lo hi : Int) (A : Option Addr) (cs : List Clm) (B cap a : Nat) (w : World) (hR : RdN 4 encClm w B A cs) (hB : B ≤ w.heap.size) (hle8 : cs.length ≤ 9) :
    Calls Try.prog 85 #[.agg #[.int .i64 lo, .int .i64 hi, .slice A cs.length cap], .int .i64 a, .bool hg] w (EndsPost hg cs a w) := by
  obtain ⟨i3, hi3, hz30, hz31, hz32⟩ := info_parts Try.info3
  obtain ⟨W1, hW1⟩ : ∃ W1, w.alloc (.cells #[.int .i64 lo, .int .i64 hi, .slice A cs.length cap] 42) = W1 := ⟨_, rfl⟩
  have hb0 : Below w.heap.size w W1 := by rw [← hW1]; exact belowA (belowR _) _
  have p2 : W1.cell? ⟨w.heap.size, 2, none⟩ = some (.slice A cs.length cap) := by rw [← hW1]; clear hW1; go_simp
  have HB0 := Lib.hid hb0
  have HR1 := Lib.hid (hR.below hb0 hB)
  have HP2 := Lib.hid p2
  have hz1 : w.heap.size < W1.heap.size := lt_of_cell p2
  clear hb0 hR
  go_enter Try.func85, Try.ntmps85
  go_wp2
  clear hW1 p2
  go_loopw [8, 7] (fun vi vo wr => ∃ (k : Nat) (v : Value), k ≤ cs.length ∧ vi = .int .i64 k ∧ vo = v ∧ Hid (wr.ownsRow W1.heap.size 3 1 v k ((endD hg cs a k).map iv)) ∧ Below W1.heap.size W1 wr) (fun vi _ _ => cs.length - (intOf vi).toNat)
  case atStart => exact ⟨0, _, Nat.zero_le _, rfl, rfl, Lib.hid (World.ownsRow_nil _ _ _ _), belowR _⟩
  case round =>
    obtain ⟨k, v, hk, rfl, rfl, OWN, hbw⟩ := hrel
    have hzr := hbw.size
    have p2 := keepC hbw HP2.out
    by_cases hlt : k < cs.length
    · obtain ⟨c, hx⟩ : ∃ x, cs[k]? = some x := ⟨_, List.getElem?_eq_getElem hlt⟩
      obtain ⟨b, off, rfl, _, _, _, e2, e3⟩ := clmAt (HR1.out.below hbw (by omega)) hx
      have hkz : (k : Int) < (cs.length : Int) := by omega
      have hk0 : (0 : Int) ≤ (k : Int) := by omega
      obtain ⟨cl, hcl⟩ : ∃ x, c.lo = x := ⟨_, rfl⟩
      obtain ⟨ch, hch⟩ : ∃ x, c.hi = x := ⟨_, rfl⟩
      rw [hcl] at e2
      rw [hch] at e3
      have HBW := Lib.hid hbw
      clear hbw
      cases hq : (((k : Int) == (a : Int)) == hg)
      · have hsn : endD hg cs a (k + 1) = endD hg cs a k ++ [cl] := by rw [endD_succ, endX_lo hx hq, hcl]
        have hnew : ∀ j u, [Value.int .i64 cl][j]? = some u → ((wr.alloc (.cells #[.int .i64 cl, .int .i64 ch] 39)).alloc (.cells #[.int .i64 cl] 3)).cell? ((⟨wr.heap.size + 1, 0, none⟩ : Addr).add j) = some u := news_b wr (.cells #[.int .i64 cl, .int .i64 ch] 39) [.int .i64 cl] 3
        have HSN := Lib.hid hsn
        have HN := Lib.hid hnew
        clear hsn hnew hx hcl hch
        go_wp2_with (at_builtin; refine wpList_append_own _ rfl _ _ 32 rfl W1.heap.size 3 i3 (.int .i64 0) 1 8 Try.underlying32 hi3 hz30 hz31 hz32 rfl (by decide) _ _ _ rfl ((OWN.out.alloc _).alloc _) ⟨wr.heap.size + 1, 0, none⟩ 1 1 [.int .i64 cl] rfl rfl ?c1 ?c2 ?c3 ?c4 ?c5 ?_)
        case c1 => exact HN.out
        case c2 => simp [Value.oneCell']
        case c3 => unfold maxLen; omega
        case c4 => omega
        case c5 => simp; omega
        intro v' w5 hown5 hgrow _
        have hB5 : Below W1.heap.size W1 w5 := grownB ((OWN.out.alloc _).alloc _) hgrow (Nat.le_refl _) (belowA (belowA HBW.out _) _)
        have HO5 := Lib.hid hown5
        clear hown5 hgrow
        go_wp2
        go_roundw
        case rel => exact ⟨k + 1, v', by omega, by go_num, rfl, Lib.hid (by rw [HSN.out, List.map_append]; exact HO5.out), hB5⟩
        case measure => simp [intOf]; omega
      · have hsn : endD hg cs a (k + 1) = endD hg cs a k ++ [ch] := by rw [endD_succ, endX_hi hx hq, hch]
        have hnew : ∀ j u, [Value.int .i64 ch][j]? = some u → ((wr.alloc (.cells #[.int .i64 cl, .int .i64 ch] 39)).alloc (.cells #[.int .i64 ch] 3)).cell? ((⟨wr.heap.size + 1, 0, none⟩ : Addr).add j) = some u := news_b wr (.cells #[.int .i64 cl, .int .i64 ch] 39) [.int .i64 ch] 3
        have HSN := Lib.hid hsn
        have HN := Lib.hid hnew
        clear hsn hnew hx hcl hch
        go_wp2_with (at_builtin; refine wpList_append_own _ rfl _ _ 32 rfl W1.heap.size 3 i3 (.int .i64 0) 1 8 Try.underlying32 hi3 hz30 hz31 hz32 rfl (by decide) _ _ _ rfl ((OWN.out.alloc _).alloc _) ⟨wr.heap.size + 1, 0, none⟩ 1 1 [.int .i64 ch] rfl rfl ?c1 ?c2 ?c3 ?c4 ?c5 ?_)
        case c1 => exact HN.out
        case c2 => simp [Value.oneCell']
        case c3 => unfold maxLen; omega
        case c4 => omega
        case c5 => simp; omega
        intro v' w5 hown5 hgrow _
        have hB5 : Below W1.heap.size W1 w5 := grownB ((OWN.out.alloc _).alloc _) hgrow (Nat.le_refl _) (belowA (belowA HBW.out _) _)
        have HO5 := Lib.hid hown5
        clear hown5 hgrow
        go_wp2
        go_roundw
        case rel => exact ⟨k + 1, v', by omega, by go_num, rfl, Lib.hid (by rw [HSN.out, List.map_append]; exact HO5.out), hB5⟩
        case measure => simp [intOf]; omega
    · obtain rfl : k = cs.length := by omega
      obtain ⟨A2, cap2, rfl, _⟩ := own_rd1 (xs := endD hg cs a cs.length) (enc := iv) (by rw [endD_len]; exact OWN.out)
      rw [endD_len] at OWN
      rw [endD_len]
      go_wp2
      go_ret
      exact ⟨_, _, rfl, ownsRow_base2 OWN.out (by omega), belowT HB0.out hbw⟩
end Go.Proofs.Ytblbbhenmhkknaa
