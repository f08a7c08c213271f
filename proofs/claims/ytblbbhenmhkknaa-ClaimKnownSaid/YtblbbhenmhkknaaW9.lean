/- slices.SortStableFunc over the papers' indices: at most 8 of them. -/
import Derived.Test.YtblbbhenmhkknaaW8
namespace Go.Proofs.Ytblbbhenmhkknaa
open Go.RowKit Go.Sort

set_option maxRecDepth 100000 in
theorem stable_any (A : Option Addr) (ps : List Pap) (B pcap g : Nat) (blk off cap : Nat) (d : Array Nat) (w : World)
    (hR : RdN 3 encPap w B A ps) (hgc : w.cell? ⟨g, 1, none⟩ = some (.slice A ps.length pcap)) (hgb : g ≠ blk) (hBb : B ≤ blk)
    (hd : ∀ p ∈ ps, 0 ≤ p.day ∧ p.day ≤ 40000) (hH : Holds nv w blk off d) (hlt : allLt ps.length d) (hsz : d.size ≤ 8) :
    Calls Try.prog 110 #[.slice (some ⟨blk, off, none⟩) d.size cap, .int .i64 d.size, .func (.func 94) #[] #[.pointer (some ⟨g, 0, none⟩)]] w fun e w' =>
      e = .returned (.tuple #[]) ∧ ∃ n, w' = (putRow nv w blk off (Sort.insertionSort (ltD ps) d 0 d.size)).drewN n := by
  have hc := insertion_any A ps B pcap g blk off cap d w hR hgc hgb hBb hd hH hlt (by omega)
  have HC := Lib.hid hc
  clear hc hR hgc hgb hBb hd hH hlt
  have e1 : ((20 : Int) < (d.size : Int)) = False := by simp; omega
  have e2 : ((20 : Int) ≤ (d.size : Int)) = False := by simp; omega
  go_enter Try.func110, Try.ntmps110
  go_wp2
  refine wp_loop_rounds 1 ?_
  rw [rounds_succ]
  go_wp2_with (go_at_call 124; refine HC.out.mono ?_; rintro e w1 ⟨rfl, n, rfl⟩)
  refine wp_loop_rounds 1 ?_
  rw [rounds_succ]
  go_wp2
  go_end0
  exact ⟨rfl, n, rfl⟩
theorem sortStable_any (A : Option Addr) (ps : List Pap) (B pcap g : Nat) (blk off cap : Nat) (d : Array Nat) (w : World)
    (hR : RdN 3 encPap w B A ps) (hgc : w.cell? ⟨g, 1, none⟩ = some (.slice A ps.length pcap)) (hgb : g ≠ blk) (hBb : B ≤ blk)
    (hd : ∀ p ∈ ps, 0 ≤ p.day ∧ p.day ≤ 40000) (hH : Holds nv w blk off d) (hlt : allLt ps.length d) (hsz : d.size ≤ 8) :
    Calls Try.prog 93 #[.slice (some ⟨blk, off, none⟩) d.size cap, .func (.func 94) #[] #[.pointer (some ⟨g, 0, none⟩)]] w fun e w' =>
      e = .returned (.tuple #[]) ∧ ∃ n, w' = (putRow nv w blk off (Sort.insertionSort (ltD ps) d 0 d.size)).drewN n := by
  have hc := stable_any A ps B pcap g blk off cap d w hR hgc hgb hBb hd hH hlt hsz
  have HC := Lib.hid hc
  clear hc hR hgc hgb hBb hd hH hlt
  go_enter Try.func93, Try.ntmps93
  go_wp2_with (go_at_call 110; refine HC.out.mono ?_; rintro e w1 ⟨rfl, n, rfl⟩)
  go_end0
  exact ⟨rfl, n, rfl⟩

/-- No index: nothing is sorted. -/
theorem insertion_none (A0 : Option Addr) (cap : Nat) (f : Value) (w : World) :
    Calls Try.prog 124 #[.slice A0 0 cap, .int .i64 (0 : Int), .int .i64 (0 : Int), f] w fun e w' => e = .returned (.tuple #[]) ∧ w = w' := by
  go_enter Try.func124, Try.ntmps124
  go_wp2
  refine wp_loop_rounds 1 ?_
  rw [rounds_succ]
  go_wp2
  go_end0
  exact ⟨rfl, rfl⟩
set_option maxRecDepth 100000 in
theorem stable_none (A0 : Option Addr) (cap : Nat) (f : Value) (w : World) :
    Calls Try.prog 110 #[.slice A0 0 cap, .int .i64 (0 : Int), f] w fun e w' => e = .returned (.tuple #[]) ∧ w = w' := by
  go_enter Try.func110, Try.ntmps110
  go_wp2
  refine wp_loop_rounds 1 ?_
  rw [rounds_succ]
  go_wp2_with (go_at_call 124; refine (insertion_none _ _ _ _).mono ?_; rintro e w1 ⟨rfl, rfl⟩)
  refine wp_loop_rounds 1 ?_
  rw [rounds_succ]
  go_wp2
  go_end0
  exact ⟨rfl, rfl⟩
theorem sortStable_none (A0 : Option Addr) (cap : Nat) (f : Value) (w : World) :
    Calls Try.prog 93 #[.slice A0 0 cap, f] w fun e w' => e = .returned (.tuple #[]) ∧ w = w' := by
  go_enter Try.func93, Try.ntmps93
  go_wp2_with (go_at_call 110; refine (stable_none _ _ _ _).mono ?_; rintro e w1 ⟨rfl, rfl⟩)
  go_end0
  exact ⟨rfl, rfl⟩
end Go.Proofs.Ytblbbhenmhkknaa
