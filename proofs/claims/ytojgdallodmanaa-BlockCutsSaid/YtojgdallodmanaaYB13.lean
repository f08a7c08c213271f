/- slices.SortStableFunc over nodes, by how many parts they have: at most 8 of them. -/
import Derived.Deep.LoopGhost
import Derived.BigRegion
import Derived.Test.YtojgdallodmanaaZ244535
import Derived.Test.YtojgdallodmanaaZ0f1ffd
namespace Go.Proofs.Ytojgdallodmanaa
open Go.RowKit Go.Sort

theorem swap_w {α : Type} [Inhabited α] (enc : α → Value) (w : World) (blk off : Nat) (dk : Array α) (n i j : Nat) (hi : i < dk.size) (hj : j < dk.size) :
    ((((putRow enc w blk off dk).drewN n).setCell ⟨blk, off + i, none⟩ (enc dk[j]!)).setCell ⟨blk, off + j, none⟩ (enc dk[i]!)).drew = (putRow enc w blk off (swp dk i j)).drewN (n + 1) := by
  rw [← putRow_swp enc w blk off dk i j hi hj]
  rfl
section
variable {α : Type} [Inhabited α] (lt : α → α → Bool)
theorem inner_go (a j : Nat) (d : Array α) (hj : a < j + 1) (hl : lt d[j + 1]! d[j]! = true) : insInner lt a (j + 1) d = insInner lt a j (swp d (j + 1) j) := by
  rw [insInner, if_pos (by simp [hl]; omega)]
theorem inner_stop (a j : Nat) (d : Array α) (h : lt d[j + 1]! d[j]! = false) : insInner lt a (j + 1) d = d := by
  rw [insInner, if_neg (by simp [h])]
theorem inner_end (a j : Nat) (d : Array α) (h : j ≤ a) : insInner lt a j d = d := by
  cases j with
  | zero => rw [insInner]
  | succ k => rw [insInner, if_neg (by simp; intro h2; omega)]
theorem outer_go (a b i : Nat) (d : Array α) (h : i < b) : insOuter lt a b i d = insOuter lt a b (i + 1) (insInner lt a i d) := by rw [insOuter, if_pos h]
theorem outer_stop (a b i : Nat) (d : Array α) (h : ¬ i < b) : insOuter lt a b i d = d := by rw [insOuter, if_neg h]
end
/-- A node's set of parts, of which K says how many they are; it lies apart from the row. -/
def KeyAt (w : World) (blk : Nat) (K : Nat → Int) (b : Nat) : Prop := b ≠ blk ∧ ∃ s : Nat, s < 256 ∧ w.cell? ⟨b, 2, none⟩ = some (iv (s : Int)) ∧ K b = (onesN s : Int)
def ltK (K : Nat → Int) (x y : Nat) : Bool := decide (K x - K y < 0)
def allP (P : Nat → Prop) (d : Array Nat) : Prop := ∀ j, j < d.size → P d[j]!
theorem allP_swp {P : Nat → Prop} {d : Array Nat} (h : allP P d) (i j : Nat) (hi : i < d.size) (hj : j < d.size) : allP P (swp d i j) := by
  intro k hk
  rw [size_swp] at hk
  have h1 := h k hk
  have h2 := h i hi
  have h3 := h j hj
  unfold swp
  rw [getElem!_pos _ k (by simpa using hk), Array.getElem_setIfInBounds (by simpa using hk)]
  split
  · exact h2
  · rw [Array.getElem_setIfInBounds (by simpa using hk)]
    split
    · exact h3
    · rw [getElem!_pos _ k hk] at h1; exact h1

set_option maxHeartbeats 4000000 in
set_option maxRecDepth 1000000 in
theorem insertion_any (K : Nat → Int) (blk off cap : Nat) (d : Array Nat) (w : World)
    (hH : Holds ptr w blk off d) (hlt : allP (KeyAt w blk K) d) (hsz : d.size < 4611686018427387904) :
    Calls Try.prog 132 #[.slice (some ⟨blk, off, none⟩) d.size cap, .int .i64 (0 : Int), .int .i64 d.size, .func (.func 124) #[] #[]] w fun e w' =>
      e = .returned (.tuple #[]) ∧ ∃ n, w' = (putRow ptr w blk off (Sort.insertionSort (ltK K) d 0 d.size)).drewN n := by
  have hcAt : ∀ (X : Array Nat) (x y m : Nat), KeyAt w blk K x → KeyAt w blk K y → ∀ n, Calls Try.prog 124 #[ptr x, ptr y] (((putRow ptr w blk off X).drewN m).drewN n) fun e w' => e = .returned (iv (K x - K y)) ∧ ∃ q, w' = (((putRow ptr w blk off X).drewN m).drewN n).drewN q := fun X x y m hX hY n => by
    obtain ⟨x1, s, x2, x3, x4⟩ := hX
    obtain ⟨y1, t, y2, y3, y4⟩ := hY
    rw [x4, y4]
    exact cmpNd_any x y s t _ x2 y2 ((cell?_putRow_other ptr w blk off X ⟨x, 2, none⟩ (.inl x1)).trans x3) ((cell?_putRow_other ptr w blk off X ⟨y, 2, none⟩ (.inl y1)).trans y3)
  have HC := Lib.hid hcAt
  have HST : Hid (w = (putRow ptr w blk off d).drewN 0) := (putRow_self ptr w blk off d hH).symm
  have HH := Lib.hid hH
  have HLT := Lib.hid hlt
  clear hcAt hH hlt
  go_enter Try.func132, Try.ntmps132
  go_wp2
  go_loopg [8] (d.size) (fun g1 vi wr => ∃ (i n : Nat) (dk : Array Nat), vi = .int .i64 i ∧ 0 < i ∧ i ≤ d.size + 1 ∧ d.size + 1 - i ≤ g1 + 1 ∧ dk.size = d.size ∧ wr = (putRow ptr w blk off dk).drewN n ∧ Hid (allP (KeyAt w blk K) dk) ∧ Hid (insOuter (ltK K) 0 d.size i dk = insOuter (ltK K) 0 d.size 1 d))
  case atStart => exact ⟨1, 0, d, by go_num, by omega, by omega, by omega, rfl, HST.out, HLT, rfl⟩
  case round =>
    obtain ⟨i, n, dk, rfl, hai, hib, hg1, hsk, rfl, HA, HO⟩ := hrel
    by_cases hlt : i < d.size
    · have hltz : (i : Int) < (d.size : Int) := by omega
      go_wp2
      go_loopg [9] i (fun g2 vj wr2 => ∃ (j m : Nat) (dj : Array Nat), vj = .int .i64 j ∧ j ≤ i ∧ j ≤ g2 ∧ dj.size = d.size ∧ wr2 = (putRow ptr w blk off dj).drewN m ∧ Hid (allP (KeyAt w blk K) dj) ∧ Hid (insInner (ltK K) 0 j dj = insInner (ltK K) 0 i dk))
      case atStart => exact ⟨i, n, dk, rfl, Nat.le_refl _, Nat.le_refl _, hsk, rfl, HA, rfl⟩
      case round =>
        obtain ⟨j, m, dj, rfl, hji, hg2, hsj, rfl, HAj, HI⟩ := hrel
        have out : insInner (ltK K) 0 j dj = dj → Hid (insOuter (ltK K) 0 d.size (i + 1) dj = insOuter (ltK K) 0 d.size 1 d) := fun hs => by
          show _ = _
          rw [← HO.out, outer_go _ _ _ _ _ hlt, ← HI.out, hs]
        have OUT := Lib.hid out
        clear out
        by_cases hja : 0 < j
        · have hHj := holds_putRow ptr w blk off d dj HH.out hsj
          obtain ⟨jp, rfl⟩ : ∃ jp, j = jp + 1 := ⟨j - 1, by omega⟩
          obtain ⟨xj, hxj⟩ : ∃ x, dj[jp + 1]! = x := ⟨_, rfl⟩
          obtain ⟨xp, hxp⟩ : ∃ x, dj[jp]! = x := ⟨_, rfl⟩
          obtain ⟨cj, fj⟩ := hHj (jp + 1) (by omega)
          obtain ⟨cp, fp⟩ := hHj jp (by omega)
          have lj := HAj.out (jp + 1) (by omega)
          have lp := HAj.out jp (by omega)
          rw [hxj] at cj lj
          rw [hxp] at cp lp
          have hwp : IntKind.i64.wrap (jp : Int) = (jp : Int) := by rw [IntKind.wrap_i64]; omega
          have jz : (jp : Int) + 1 < (d.size : Int) := by omega
          have jz1 : (jp : Int) < (d.size : Int) := by omega
          have hjaz' : (0 : Int) < (jp : Int) + 1 := by omega
          have p0 : (0 : Int) ≤ (jp : Int) + 1 := by omega
          have e0 : ((jp : Int) + 1).toNat = jp + 1 := by omega
          have hc := HC.out dj xj xp m lj lp
          clear hHj
          have cj' : ((putRow ptr w blk off dj).drewN m).cell? ⟨blk, off + (jp + 1), none⟩ = some (ptr xj) := cj
          have cp' : ((putRow ptr w blk off dj).drewN m).cell? ⟨blk, off + jp, none⟩ = some (ptr xp) := cp
          have fj' : ((putRow ptr w blk off dj).drewN m).frozen? ⟨blk, off + (jp + 1), none⟩ = false := fj
          have fp' : ((putRow ptr w blk off dj).drewN m).frozen? ⟨blk, off + jp, none⟩ = false := fp
          clear cj cp fj fp
          generalize hwq : (putRow ptr w blk off dj).drewN m = wq at cj' cp' fj' fp' hc ⊢
          obtain ⟨cv, hcv⟩ : ∃ c : Int, K xj - K xp = c := ⟨_, rfl⟩
          rw [hcv] at hc
          have HCC := Lib.hid hc
          have HCV := Lib.hid hcv
          have HXJ := Lib.hid hxj
          have HXP := Lib.hid hxp
          have HWQ := Lib.hid hwq
          clear hc hcv hxj hxp hwq
          by_cases hlv : cv < 0
          · go_wp2_with fail
            go_quiet ((go_at_call 124; exact Calls.quiet_of (HCC.out _)))
            go_wp2_with fail
            have hw2 : wq.drewN nq = (putRow ptr w blk off dj).drewN (m + nq) := by rw [← HWQ.out, World.drewN_drewN]
            have cj2 : (wq.drewN nq).cell? ⟨blk, off + (jp + 1), none⟩ = some (ptr xj) := cj'
            have cp2 : (wq.drewN nq).cell? ⟨blk, off + jp, none⟩ = some (ptr xp) := cp'
            have fj2 : (wq.drewN nq).frozen? ⟨blk, off + (jp + 1), none⟩ = false := fj'
            have fp2 : (wq.drewN nq).frozen? ⟨blk, off + jp, none⟩ = false := fp'
            clear cj' cp' fj' fp'
            generalize wq.drewN nq = wq2 at hw2 cj2 cp2 fj2 fp2 ⊢
            obtain ⟨j1, hj1⟩ : ∃ j1, j1 = jp + 1 := ⟨_, rfl⟩
            rw [← hj1] at cj2 fj2 e0
            have J1 : Hid (j1 = jp + 1) := hj1
            have HW2 : Hid (wq2 = (putRow ptr w blk off dj).drewN (m + nq)) := hw2
            clear hj1 hw2
            go_region
            all_goals go_wp2
            go_roundg jp
            case measure => omega
            case rel =>
              refine ⟨jp, m + nq + 1, swp dj (jp + 1) jp, by first | rfl | go_num | (congr 1; omega), by omega, Nat.le_refl _, by rw [size_swp]; exact hsj, ?_, allP_swp HAj.out (jp + 1) jp (by omega) (by omega), (show Hid _ from ?_)⟩
              · rw [J1.out, HW2.out, ← HXP.out, ← HXJ.out]
                exact swap_w ptr w blk off dj (m + nq) (jp + 1) jp (by omega) (by omega)
              · show _ = _
                rw [← HI.out, inner_go (ltK K) 0 jp dj hja (by rw [HXJ.out, HXP.out]; unfold ltK; rw [HCV.out]; exact decide_eq_true hlv)]
          · go_wp2_with fail
            go_quiet ((go_at_call 124; exact Calls.quiet_of (HCC.out _)))
            go_wp2
            go_roundg (d.size - (i + 1))
            case measure => omega
            case rel => exact ⟨i + 1, m + nq, dj, by go_num, by omega, by omega, by omega, hsj, by rw [← HWQ.out, World.drewN_drewN], HAj, OUT.out (inner_stop _ _ _ _ (by rw [HXJ.out, HXP.out]; unfold ltK; rw [HCV.out]; exact decide_eq_false (by omega)))⟩
        · obtain rfl : j = 0 := by omega
          have hjaz : decide (((0 : Nat) : Int) > (0 : Int)) = false := by decide
          generalize hwq : (putRow ptr w blk off dj).drewN m = wq
          have HWQ := Lib.hid hwq
          clear hwq
          go_wp2_with fail
          go_quiet (fail)
          go_wp2
          go_roundg (d.size - (i + 1))
          case measure => omega
          case rel => exact ⟨i + 1, m + nq, dj, by go_num, by omega, by omega, by omega, hsj, by rw [← HWQ.out, World.drewN_drewN], HAj, OUT.out (inner_end _ _ _ _ (by omega))⟩
    · have hltz : ¬ (i : Int) < (d.size : Int) := by omega
      go_wp2
      go_end0
      exact ⟨rfl, n, by unfold Sort.insertionSort; rw [← HO.out, outer_stop _ _ _ _ _ hlt]⟩

set_option maxRecDepth 100000 in
theorem stable_any (K : Nat → Int) (blk off cap : Nat) (d : Array Nat) (w : World)
    (hH : Holds ptr w blk off d) (hlt : allP (KeyAt w blk K) d) (hsz : d.size ≤ 8) :
    Calls Try.prog 129 #[.slice (some ⟨blk, off, none⟩) d.size cap, .int .i64 d.size, .func (.func 124) #[] #[]] w fun e w' =>
      e = .returned (.tuple #[]) ∧ ∃ n, w' = (putRow ptr w blk off (Sort.insertionSort (ltK K) d 0 d.size)).drewN n := by
  have hc := insertion_any K blk off cap d w hH hlt (by omega)
  have HC := Lib.hid hc
  clear hc hH hlt
  have e1 : ((20 : Int) < (d.size : Int)) = False := by simp; omega
  have e2 : ((20 : Int) ≤ (d.size : Int)) = False := by simp; omega
  go_enter Try.func129, Try.ntmps129
  go_wp2
  refine wp_loop_rounds 1 ?_
  rw [rounds_succ]
  go_wp2_with (go_at_call 132; refine HC.out.mono ?_; rintro e w1 ⟨rfl, n, rfl⟩)
  refine wp_loop_rounds 1 ?_
  rw [rounds_succ]
  go_wp2
  go_end0
  exact ⟨rfl, n, rfl⟩
theorem sortNd_any (K : Nat → Int) (blk off cap : Nat) (d : Array Nat) (w : World)
    (hH : Holds ptr w blk off d) (hlt : allP (KeyAt w blk K) d) (hsz : d.size ≤ 8) :
    Calls Try.prog 123 #[.slice (some ⟨blk, off, none⟩) d.size cap, .func (.func 124) #[] #[]] w fun e w' =>
      e = .returned (.tuple #[]) ∧ ∃ n, w' = (putRow ptr w blk off (Sort.insertionSort (ltK K) d 0 d.size)).drewN n := by
  have hc := stable_any K blk off cap d w hH hlt hsz
  have HC := Lib.hid hc
  clear hc hH hlt
  go_enter Try.func123, Try.ntmps123
  go_wp2_with (go_at_call 129; refine HC.out.mono ?_; rintro e w1 ⟨rfl, n, rfl⟩)
  go_end0
  exact ⟨rfl, n, rfl⟩
end Go.Proofs.Ytojgdallodmanaa
