/- Where the pieces of a tide end: what is sorted and laid together. The contracts of the reference's small functions on sets and weights: in, sum, Common, all. The reference's joint and Check. Weights that are raised one after the other, as little as weighings ask for: no truth is lost. The plain law of the reference's greedy way. No program is named here. -/
import Derived.Lib.SlicesCompact
import Derived.Sort.Grow
import Derived.Test.YtmhjhbchokbonaaGreatM0
import Derived.Test.YtmhjhbchokbonaaGreatM4
import Derived.Test.YtmhjhbchokbonaaGreatM5
set_option maxRecDepth 1000000
set_option maxHeartbeats 16000000
namespace Go.Proofs.YtmhjhbchokbonaaGreat
open Go.RowKit Go.Sort
def bendTo (h : StH) (lo hi : Int) (k : Nat) : List Int := hi :: (((h.ps.take k).map StP.keel).filter fun x => decide (lo < x ∧ x < hi))
def bendsL (h : StH) (lo hi : Int) : List Int := Lib.compact ((bendTo h lo hi h.ps.length).mergeSort fun x y => decide (x ≤ y))
theorem bendTo_succ {h : StH} {lo hi : Int} {k : Nat} {x : StP} (hx : h.ps[k]? = some x) : bendTo h lo hi (k + 1) = bendTo h lo hi k ++ (if lo < x.keel ∧ x.keel < hi then [x.keel] else []) := by
 unfold bendTo
 rw [List.take_add_one, hx]
 simp only [Option.toList_some, List.map_append, List.filter_append, List.map_cons, List.map_nil, List.cons_append]
 congr 2
 by_cases hc : lo < x.keel ∧ x.keel < hi
 ·rw [if_pos hc, List.filter_cons_of_pos (by simpa using hc)]; rfl
 ·rw [if_neg hc, List.filter_cons_of_neg (by simpa using hc)]; rfl
theorem bendTo_len (h : StH) (lo hi : Int) (k : Nat) : (bendTo h lo hi k).length ≤ k + 1 := by
 unfold bendTo
 rw [List.length_cons]
 have h1 := List.length_filter_le (fun x => decide (lo < x ∧ x < hi)) ((h.ps.take k).map StP.keel)
 rw [List.length_map, List.length_take] at h1
 omega
theorem compact_mem (zs : List Int) (x : Int) : x ∈ Lib.compact zs ↔ x ∈ zs := by
 unfold Lib.compact Lib.compactUpTo
 rw [List.mem_map]
 constructor
 ·rintro ⟨i, hi, rfl⟩
  rw [List.mem_filter, List.mem_range] at hi
  rw [getElem!_pos _ _ (by simpa using hi.1)]
  simp
 ·intro hx
  have key : ∀ n (j : Nat), j ≤ n → j < zs.length → zs.toArray[j]! = x → ∃ i, i ∈ (List.range zs.length).filter (Lib.keeps zs.toArray) ∧ zs.toArray[i]! = x := by
   intro n
   induction n with
   | zero =>
    intro j hj hl he
    obtain rfl : j = 0 := by omega
    exact ⟨0, List.mem_filter.2 ⟨List.mem_range.2 hl, Lib.keeps_lt_one _ 0 (by omega)⟩, he⟩
   | succ n ih =>
    intro j hj hl he
    rcases Nat.eq_zero_or_pos j with rfl | hp
    ·exact ⟨0, List.mem_filter.2 ⟨List.mem_range.2 hl, Lib.keeps_lt_one _ 0 (by omega)⟩, he⟩
    ·by_cases h2 : zs.toArray[j]! = zs.toArray[j - 1]!
     ·exact ih (j - 1) (by omega) (by omega) (by rw [← h2]; exact he)
     ·exact ⟨j, List.mem_filter.2 ⟨List.mem_range.2 hl, Lib.keeps_pos h2⟩, he⟩
  obtain ⟨j, hj, he⟩ := List.getElem_of_mem hx
  exact key j j (Nat.le_refl _) hj (by rw [getElem!_pos _ _ (by simpa using hj)]; simpa using he)
theorem compact_sorted {zs : List Int} (h : zs.Pairwise (· ≤ ·)) : (Lib.compact zs).Pairwise (· ≤ ·) := by
 unfold Lib.compact Lib.compactUpTo
 rw [List.pairwise_map]
 refine List.Pairwise.imp_of_mem ?_ ((List.pairwise_lt_range (n := zs.length)).filter _)
 intro a b ha hb hab
 rw [List.mem_filter, List.mem_range] at ha hb
 rw [getElem!_pos _ _ (by simpa using ha.1), getElem!_pos _ _ (by simpa using hb.1)]
 have := List.pairwise_iff_getElem.1 h a b ha.1 hb.1 hab
 simpa using this
theorem compact_len (zs : List Int) : (Lib.compact zs).length ≤ zs.length := by
 unfold Lib.compact Lib.compactUpTo
 rw [List.length_map]
 have := List.length_filter_le (Lib.keeps zs.toArray) (List.range zs.length)
 rw [List.length_range] at this
 exact this
theorem bendsL_ok (h : StH) {lo hi : Int} (hlh : lo ≤ hi) : Bends (h.ps.map StP.keel) lo hi (bendsL h lo hi) := by
 have hm : ∀ x, x ∈ bendsL h lo hi ↔ x = hi ∨ (x ∈ h.ps.map StP.keel ∧ lo < x ∧ x < hi) := fun x => by
  unfold bendsL bendTo
  rw [compact_mem, List.mem_mergeSort, List.mem_cons, List.mem_filter, List.take_length]
  simp
 refine ⟨?_, fun b hb => ?_, fun b hb => ?_, (hm hi).2 (.inl rfl), fun k hk h1 h2 => (hm k).2 (.inr ⟨hk, h1, h2⟩)⟩
 ·unfold bendsL
  refine compact_sorted ?_
  have := List.pairwise_mergeSort (le := fun x y : Int => decide (x ≤ y)) (fun a b c h1 h2 => by simp only [decide_eq_true_eq] at *; omega) (fun a b => by simp only [Bool.or_eq_true, decide_eq_true_eq]; omega) (bendTo h lo hi h.ps.length)
  exact this.imp fun h => by simpa using h
 ·rcases (hm b).1 hb with rfl | ⟨_, h1, _⟩
  ·exact hlh
  ·omega
 ·rcases (hm b).1 hb with rfl | ⟨_, _, h2⟩ <;> omega
theorem belowPutI {a w : World} (h : RowKit.Below a.heap.size a w) {g : Nat} (hg : a.heap.size ≤ g) (off : Nat) (d : Array Int) : RowKit.Below a.heap.size a (putRow (Value.int .i64) w g off d) :=
 h.trans ⟨rfl, rfl, rfl, by simp [putRow, mapBlock], fun k hk => by
  simp only [putRow, mapBlock, Array.getElem?_modify]
  rw [if_neg (by omega)]⟩
theorem belowGrow {a w : World} (h : RowKit.Below a.heap.size a w) (os : Array Obj) : RowKit.Below a.heap.size a (grow w os) :=
 h.trans ⟨rfl, rfl, rfl, by simp, fun k hk => heap_grow_old w os (Nat.lt_of_lt_of_le hk h.size)⟩
theorem belowAhead {a w : World} (h : RowKit.Below a.heap.size a w) (n : Nat) : RowKit.Below a.heap.size a (Go.Sort.ahead w n) := ⟨h.os, h.tape, h.output, h.size, h.block⟩
theorem own_holdsI {w : World} {base : Nat} {e : TypeId} {g cap : Nat} {xs : List Int} (h : w.ownsRow base e 1 (.slice (some ⟨g, 0, none⟩) xs.length cap) xs.length (xs.map iv)) :
  Holds (Value.int .i64) w g 0 xs.toArray := by
 intro j hj
 have hj' : j < xs.length := by simpa using hj
 refine ⟨?_, by rw [Nat.zero_add]; exact h.frozenAt j⟩
 rw [Nat.zero_add, h.cellAt j (by omega), List.getElem?_map, List.getElem?_eq_getElem hj']
 simp [hj']
theorem piecesOf_take {lo : Int} {L : List Int} : ∀ {k : Nat}, piecesOf lo (L.take k) <+: piecesOf lo L := by
 induction L generalizing lo with
 | nil => intro k; simp [piecesOf]
 | cons b L ih =>
  intro k
  cases k with
  | zero => simp [piecesOf]
  | succ k => rw [List.take_succ_cons, piecesOf, piecesOf]; exact List.prefix_cons_inj _ |>.2 ih
def fromOf : Int → List Int → Int
 | a, [] => a
 | _, b :: L => fromOf b L
theorem piecesOf_snoc {lo b : Int} {L : List Int} : piecesOf lo (L ++ [b]) = piecesOf lo L ++ [(fromOf lo L, b)] := by
 induction L generalizing lo with
 | nil => rfl
 | cons c L ih => rw [List.cons_append, piecesOf, piecesOf, ih]; rfl
theorem fromOf_snoc {lo b : Int} {L : List Int} : fromOf lo (L ++ [b]) = b := by
 induction L generalizing lo with
 | nil => rfl
 | cons c L ih => exact ih
end Go.Proofs.YtmhjhbchokbonaaGreat
namespace Go.Proofs.YtmhjhbchokbonaaGreat
open Go.RowKit
theorem hasB_bit (s i : Nat) : hasB s i = s.testBit i := by
 unfold hasB
 rw [Nat.testBit_eq_decide_div_mod_eq]
 rw [Bool.eq_iff_iff]
 simp
theorem manyN_ones (s : Nat) : manyN s 8 = onesN s := by
 unfold manyN onesN
 congr 1
 apply List.filter_congr
 intro i _
 exact hasB_bit s i
theorem many2_any (s : Nat) (w : World) (hs : s < 256) : Calls Tryz.prog 121 #[iv s] w fun e w' => e = .returned (iv (onesN s)) ∧ w = w' := by
 rw [← manyN_ones]; exact many_any s w (by omega)
theorem has2_any (s i : Nat) (w : World) (hs : s < 256) (hi : i ≤ 16) : Calls Tryz.prog 87 #[iv s, iv i] w fun e w' => e = .returned (.bool (s.testBit i)) ∧ w = w' := by
 rw [← hasB_bit]; exact has_any s i w (by omega) hi
def rowW (w : Nat → Int) (n : Nat) : List Int := (List.range n).map w
theorem rowW_len (w : Nat → Int) (n : Nat) : (rowW w n).length = n := by simp [rowW]
theorem rowW_at (w : Nat → Int) {n i : Nat} (h : i < n) : (rowW w n)[i]? = some (w i) := by simp [rowW, h]
theorem rowW_succ (w : Nat → Int) (n : Nat) : rowW w (n + 1) = rowW w n ++ [w n] := by simp [rowW, List.range_succ]
theorem sumTo_bd2 {w : Nat → Int} {P : Nat → Bool} : ∀ k, (∀ i, i < k → 0 ≤ w i ∧ w i ≤ 100000) → 0 ≤ sumTo w P k ∧ sumTo w P k ≤ 100000 * (k : Int) := by
 intro k
 induction k with
 | zero => intro _; simp [sumTo]
 | succ k ih =>
  intro hw
  have := ih (fun i hi => hw i (by omega))
  have h2 := hw k (by omega)
  simp only [sumTo]
  cases hk : P k with
  | true => simp only [if_true]; omega
  | false => simp only [Bool.false_eq_true, if_false]; omega
theorem sumTo_t {w : Nat → Int} {P : Nat → Bool} {k : Nat} (h : P k = true) : sumTo w P (k + 1) = sumTo w P k + w k := by simp [sumTo, h]
theorem sumTo_f {w : Nat → Int} {P : Nat → Bool} {k : Nat} (h : P k = false) : sumTo w P (k + 1) = sumTo w P k := by simp [sumTo, h]
theorem sumTo_more {w : Nat → Int} {P : Nat → Bool} {n : Nat} (h : ∀ i, n ≤ i → P i = false) : ∀ k, sumTo w P (n + k) = sumTo w P n := by
 intro k
 induction k with
 | zero => rfl
 | succ k ih => rw [← Nat.add_assoc, sumTo_f (h _ (by omega)), ih]
theorem sumTo_sumS {w : Nat → Int} {s n : Nat} (hn : n ≤ 8) (hs : s < 2 ^ n) : sumTo w (fun i => s.testBit i) n = sumS w s := by
 have := sumTo_more (w := w) (P := fun i => s.testBit i) (n := n) (fun i hi => Nat.testBit_lt_two_pow (Nat.lt_of_lt_of_le hs (Nat.pow_le_pow_right (by decide) hi))) (8 - n)
 rw [show n + (8 - n) = 8 by omega] at this
 exact this.symm
theorem sum_any (A : Option Addr) (w : Nat → Int) (n B cap s : Nat) (W : World) (hn : n ≤ 8) (hs : s < 256) (hR : Rd1 iv W B A (rowW w n)) (hb : ∀ i, i < n → 0 ≤ w i ∧ w i ≤ 100000) :
  Calls Tryz.prog 122 #[.slice A n cap, iv s] W fun e W' => e = .returned (iv (sumTo w (fun i => s.testBit i) n)) ∧ W = W' := by
 have HB := Lq hb
 have HR := Lq hR
 clear hb hR
 go_enter Tryz.func122, Tryz.ntmps122
 go_wp2
 go_loop [5, 6] (fun x i => ∃ k : Nat, ∃ v : Int, k ≤ n ∧ i = iv k ∧ x = iv v ∧ 0 ≤ v ∧ v ≤ 100000 * k ∧ Hid (sumTo w (fun i => s.testBit i) k = v)) (fun _ i => n - (intOf i).toNat)
 case atStart => exact ⟨0, 0, Nat.zero_le _, rfl, rfl, by omega, by omega, Lq rfl⟩
 case round =>
  obtain ⟨k, v, hk, rfl, rfl, hv0, hv1, HV⟩ := hrel
  by_cases hlt : k < n
  ·obtain ⟨b, off, rfl, _, hc⟩ := HR.out k (w k) (rowW_at w hlt)
   have hwk := HB.out k hlt
   obtain ⟨x, hx⟩ := ex (w k)
   rw [hx] at hc hwk
   have HX := Lq hx
   clear hx
   obtain ⟨hw0, hw1⟩ := hwk
   cases hbit : s.testBit k
   ·have HBIT := Lq hbit
    go_wp2_with (go_at_call 87; refine (has2_any _ _ _ hs (by omega)).mono ?_; rintro e w' ⟨rfl, rfl⟩)
    go_round
    case rel => exact ⟨k + 1, v, by omega, by go_num, rfl, hv0, by omega, Lq (by rw [sumTo_f (P := fun i => s.testBit i) HBIT.out, HV.out])⟩
    case measure => simp [intOf]; omega
   ·have HBIT := Lq hbit
    go_wp2_with (go_at_call 87; refine (has2_any _ _ _ hs (by omega)).mono ?_; rintro e w' ⟨rfl, rfl⟩)
    go_round
    case rel => exact ⟨k + 1, v + x, by omega, by go_num, rfl, by omega, by omega, Lq (by rw [sumTo_t (P := fun i => s.testBit i) HBIT.out, HV.out, HX.out])⟩
    case measure => simp [intOf]; omega
  ·go_wp2
   go_ret
   obtain rfl : k = n := by omega
   exact ⟨by rw [HV.out]; rfl, rfl⟩
theorem weight_any (A : Option Addr) (w : Nat → Int) (n B cap s : Nat) (W : World) (hn : n ≤ 8) (hs : s < 256) (hR : Rd1 iv W B A (rowW w n)) (hb : ∀ i, i < n → 0 ≤ w i ∧ w i ≤ 100000) :
  Calls Tryz.prog 50 #[.slice A n cap, iv s] W fun e W' => e = .returned (iv (sumTo w (fun i => s.testBit i) n)) ∧ W = W' := by
 have HB := Lq hb
 have HR := Lq hR
 clear hb hR
 go_enter Tryz.func50, Tryz.ntmps50
 go_wp2
 go_loop [5, 6] (fun x i => ∃ k : Nat, ∃ v : Int, k ≤ n ∧ i = iv k ∧ x = iv v ∧ 0 ≤ v ∧ v ≤ 100000 * k ∧ Hid (sumTo w (fun i => s.testBit i) k = v)) (fun _ i => n - (intOf i).toNat)
 case atStart => exact ⟨0, 0, Nat.zero_le _, rfl, rfl, by omega, by omega, Lq rfl⟩
 case round =>
  obtain ⟨k, v, hk, rfl, rfl, hv0, hv1, HV⟩ := hrel
  by_cases hlt : k < n
  ·obtain ⟨b, off, rfl, _, hc⟩ := HR.out k (w k) (rowW_at w hlt)
   have hwk := HB.out k hlt
   obtain ⟨x, hx⟩ := ex (w k)
   rw [hx] at hc hwk
   have HX := Lq hx
   clear hx
   obtain ⟨hw0, hw1⟩ := hwk
   cases hbit : s.testBit k
   ·have HBIT := Lq hbit
    go_wp2_with (go_at_call 87; refine (has2_any _ _ _ hs (by omega)).mono ?_; rintro e w' ⟨rfl, rfl⟩)
    go_round
    case rel => exact ⟨k + 1, v, by omega, by go_num, rfl, hv0, by omega, Lq (by rw [sumTo_f (P := fun i => s.testBit i) HBIT.out, HV.out])⟩
    case measure => simp [intOf]; omega
   ·have HBIT := Lq hbit
    go_wp2_with (go_at_call 87; refine (has2_any _ _ _ hs (by omega)).mono ?_; rintro e w' ⟨rfl, rfl⟩)
    go_round
    case rel => exact ⟨k + 1, v + x, by omega, by go_num, rfl, by omega, by omega, Lq (by rw [sumTo_t (P := fun i => s.testBit i) HBIT.out, HV.out, HX.out])⟩
    case measure => simp [intOf]; omega
  ·go_wp2
   go_ret
   obtain rfl : k = n := by omega
   exact ⟨by rw [HV.out]; rfl, rfl⟩
def commonTo (a b : Nat) : Nat → Nat
 | 0 => 0
 | k + 1 => if a.testBit k && b.testBit k then commonTo a b k + 2 ^ k else commonTo a b k
theorem commonTo_is (a b : Nat) : ∀ k, commonTo a b k = (a &&& b) % 2 ^ k := by
 intro k
 induction k with
 | zero => simp [commonTo, Nat.mod_one]
 | succ k ih =>
  unfold commonTo
  rw [ih, Nat.mod_pow_succ, ← Nat.testBit_and, Nat.testBit_eq_decide_div_mod_eq]
  rcases Nat.mod_two_eq_zero_or_one ((a &&& b) / 2 ^ k) with h | h
  ·rw [h]; simp
  ·rw [h]; simp
theorem commonTo_all {a b : Nat} (ha : a < 256) : commonTo a b 8 = a &&& b := by
 rw [commonTo_is]
 exact Nat.mod_eq_of_lt (Nat.lt_of_le_of_lt Nat.and_le_left ha)
theorem common_any (a b : Nat) (W : World) (ha : a < 256) (hb : b < 256) : Calls Tryz.prog 83 #[iv a, iv b] W fun e W' => e = .returned (iv (a &&& b : Nat)) ∧ W = W' := by
 rw [← commonTo_all ha]
 have hlt : ∀ k, commonTo a b k ≤ 255 := fun k => by
  rw [commonTo_is]
  have := Nat.mod_le (a &&& b) (2 ^ k)
  have h2 : a &&& b ≤ a := Nat.and_le_left
  omega
 have HLT := Lq hlt
 clear hlt
 go_enter Tryz.func83, Tryz.ntmps83
 go_wp2
 go_loop [5, 6] (fun x i => ∃ k v : Nat, k ≤ 8 ∧ i = iv k ∧ x = iv v ∧ v ≤ 255 ∧ Hid (commonTo a b k = v)) (fun _ i => 8 - (intOf i).toNat)
 case atStart => exact ⟨0, 0, Nat.zero_le _, rfl, rfl, by omega, Lq rfl⟩
 case round =>
  obtain ⟨k, v, hk, rfl, rfl, hv, HV⟩ := hrel
  by_cases hlt : k < 8
  ·cases h1 : a.testBit k
   ·have H1 := Lq h1
    go_wp2_with (go_at_call 87; refine (has2_any _ _ _ (by assumption) (by omega)).mono ?_; rintro e w' ⟨rfl, rfl⟩)
    go_round
    case rel => exact ⟨k + 1, v, by omega, by go_num, rfl, hv, Lq (by unfold commonTo; rw [H1.out, HV.out]; rfl)⟩
    case measure => simp [intOf]; omega
   ·have H1 := Lq h1
    cases h2 : b.testBit k
    ·have H2 := Lq h2
     go_wp2_with (go_at_call 87; refine (has2_any _ _ _ (by assumption) (by omega)).mono ?_; rintro e w' ⟨rfl, rfl⟩)
     go_round
     case rel => exact ⟨k + 1, v, by omega, by go_num, rfl, hv, Lq (by unfold commonTo; rw [H1.out, H2.out, HV.out]; rfl)⟩
     case measure => simp [intOf]; omega
    ·have H2 := Lq h2
     have hp : 2 ^ k ≤ 128 := Nat.pow_le_pow_right (n := 2) (by omega) (show k ≤ 7 by omega)
     have h3 : commonTo a b (k + 1) = v + 2 ^ k := by unfold commonTo; rw [H1.out, H2.out, HV.out]; rfl
     have h4 := HLT.out (k + 1)
     rw [h3] at h4
     have H3 := Lq h3
     clear h3
     have hbit := bit_any k W (by omega)
     obtain ⟨P, hP⟩ : ∃ P : Nat, 2 ^ k = P := ⟨_, rfl⟩
     rw [hP] at hp h4 hbit H3
     have HBIT := Lq hbit
     clear hP hbit
     go_wp2_with (first | (go_at_call 87; refine (has2_any _ _ _ (by assumption) (by omega)).mono ?_; rintro e w' ⟨rfl, rfl⟩) | (go_at_call 9; refine HBIT.out.mono ?_; rintro e w' ⟨rfl, rfl⟩))
     go_round
     case rel => exact ⟨k + 1, v + P, by omega, by go_num, by go_num, by omega, H3⟩
     case measure => simp [intOf]; omega
  ·go_wp2
   go_ret
   obtain rfl : k = 8 := by omega
   exact ⟨by rw [HV.out]; rfl, rfl⟩
theorem in_b {n lo hi : Int} {b : Bool} (h : inB lo hi n = b) (w : World) : Calls Tryz.prog 42 #[iv n, iv lo, iv hi] w fun e w' => e = .returned (.bool b) ∧ w = w' := by
 subst h; exact in_any n lo hi w
theorem joint_any (h : Hul) (A J : Option Addr) (B cap capJ k : Nat) (w : World) (hH : HulRd w B h A cap J capJ) (hk : k < h.js.length) (hB : B ≤ w.heap.size) :
  Calls Tryz.prog 44 #[hv h A cap J capJ, iv k] w (Rt w (iv (jointE h.ps.length h.js k))) := by
 obtain ⟨W1, hW1, hb0, hz1, p0, p1, p2, p3, p4⟩ := hulBox w h A cap J capJ
 have hpm := hH.pm
 have hjm := hH.jm
 have hpl := hH.pl
 have hjl := hH.jl
 unfold maxLen at hpm hjm
 obtain ⟨j, hj⟩ : ∃ j, h.js[k]? = some j := ⟨_, List.getElem?_eq_getElem hk⟩
 obtain ⟨a, b⟩ := j
 obtain ⟨bb, off, rfl, _, d0, d1⟩ := spAt (hH.js.below hb0 hB) hj
 simp only at d0 d1
 have hJE : jointE h.ps.length h.js k = if inB 0 ((h.ps.length : Int) - 1) a && inB 0 ((h.ps.length : Int) - 1) b then (if b ≤ a then 2 else if hasJ (h.js.take k) (a, b) then 5 else 0) else 4 := by unfold jointE; rw [hj]
 obtain ⟨R, hR⟩ := ex (jointE h.ps.length h.js k)
 rw [hR] at hJE ⊢
 have hlt0 := lt_of_cell p0
 have hlt1 := lt_of_cell d0
 have HJ := Lq (hH.js.below hb0 hB)
 have HB0 := Lq hb0
 have hzz : w.heap.size ≤ W1.heap.size := hb0.size
 clear hz1 hb0 hH p2 p3 p4 hR
 obtain ⟨N, hN⟩ := ex h.ps.length
 obtain ⟨M, hM⟩ := ex h.js.length
 have hjj := hj
 clear hj
 have HJJ := Lq hjj
 have hkM : (k : Int) < (M : Int) := by omega
 have hk0 : (0 : Int) ≤ (k : Int) := by omega
 rw [hN] at hJE p0 hW1 hpl
 rw [hM] at p1 hW1 hjl
 clear hjj hk
 cases h1 : inB 0 ((N : Int) - 1) a
 ·have hr : R = 4 := by rw [hJE, h1]; rfl
  subst hr
  have H1 := Lq h1
  clear h1 hJE
  go_enter Tryz.func44, Tryz.ntmps44
  go_wp2_with (go_at_call 42; refine (in_b H1.out _).mono ?_; rintro e w2 ⟨rfl, rfl⟩)
  go_ret
  exact ⟨rfl, belowA HB0.out _⟩
 cases h2 : inB 0 ((N : Int) - 1) b
 ·have hr : R = 4 := by rw [hJE, h1, h2]; rfl
  subst hr
  have H1 := Lq h1
  have H2 := Lq h2
  clear h1 h2 hJE
  go_enter Tryz.func44, Tryz.ntmps44
  go_wp2_with fail
  refine (in_b H1.out _).mono ?_
  rintro e w2 ⟨rfl, rfl⟩
  go_wp2_with fail
  refine (in_b H2.out _).mono ?_
  rintro e w2 ⟨rfl, rfl⟩
  go_wp2_with fail
  go_ret
  exact ⟨rfl, belowA HB0.out _⟩
 have H1 := Lq h1
 have H2 := Lq h2
 rw [h1, h2] at hJE
 simp only [Bool.and_self, if_true] at hJE
 clear h1 h2
 by_cases h3 : b ≤ a
 ·rw [if_pos h3] at hJE
  subst hJE
  go_enter Tryz.func44, Tryz.ntmps44
  go_wp2_with fail
  refine (in_b H1.out _).mono ?_
  rintro e w2 ⟨rfl, rfl⟩
  go_wp2_with fail
  refine (in_b H2.out _).mono ?_
  rintro e w2 ⟨rfl, rfl⟩
  go_wp2_with fail
  go_ret
  exact ⟨rfl, belowA HB0.out _⟩
 ·rw [if_neg h3] at hJE
  have HE := Lq hJE
  obtain ⟨W2, hW2⟩ := ex (W1.alloc (.cells #[iv a, iv b] 45))
  have hb2 : BW W1 W2 := by rw [← hW2]; exact belowA (belowR _) _
  have c0 : W2.cell? ⟨W1.heap.size, 0, none⟩ = some (iv a) := by rw [← hW2]; clear hW1 hW2; go_simp
  have c1 : W2.cell? ⟨W1.heap.size, 1, none⟩ = some (iv b) := by rw [← hW2]; clear hW1 hW2; go_simp
  have HC : Hid (∀ W, BW W2 W → W.cell? ⟨w.heap.size, 0, none⟩ = some (.slice A N cap) ∧ W.cell? ⟨w.heap.size, 1, none⟩ = some (.slice (some ⟨bb, off, none⟩) M capJ) ∧ W.cell? ⟨W1.heap.size, 0, none⟩ = some (iv a) ∧ W.cell? ⟨W1.heap.size, 1, none⟩ = some (iv b)) := Lq fun W hb => ⟨keepC hb (keepC hb2 p0), keepC hb (keepC hb2 p1), keepC hb c0, keepC hb c1⟩
  have HB2 := Lq (belowT HB0.out hb2)
  have HJ2 := Lq (HJ.out.below hb2 (Nat.le_trans hB HB0.out.size))
  have hz2 := hb2.size
  have HZ := Lq (Nat.le_trans hB (Nat.le_trans HB0.out.size hb2.size))
  obtain ⟨q0, q1, e0, e1⟩ := HC.out W2 (belowR _)
  clear hb2 hJE
  go_enter Tryz.func44, Tryz.ntmps44
  go_wp2_with fail
  refine (in_b H1.out _).mono ?_
  rintro e w2 ⟨rfl, rfl⟩
  go_wp2_with fail
  refine (in_b H2.out _).mono ?_
  rintro e w2 ⟨rfl, rfl⟩
  go_wp2_with fail
  clear hW1 hW2 p0 p1 d0 d1 c0 c1 q0 q1 e0 e1
  go_loopw [6] (fun i wr => ∃ q : Nat, q ≤ k ∧ i = iv q ∧ Hid (hasJ (h.js.take q) (a, b) = false) ∧ Hid (BW W2 wr)) (fun i _ => k - (intOf i).toNat)
  case atStart => exact ⟨0, Nat.zero_le _, rfl, Lq (by simp [hasJ]), Lq (belowR _)⟩
  case round =>
   obtain ⟨q, hq, rfl, HN, HBW⟩ := hrel
   obtain ⟨p0, p1, c0, c1⟩ := HC.out _ HBW.out
   by_cases hlt : q < k
   ·obtain ⟨x, hx⟩ : ∃ x, h.js[q]? = some x := ⟨_, List.getElem?_eq_getElem (by omega)⟩
    obtain ⟨x0, x1⟩ := x
    obtain ⟨b2, off2, he2, _, d0, d1⟩ := spAt (HJ2.out.below HBW.out HZ.out) hx
    injection he2 with he2
    injection he2 with he3 he4
    subst he3 he4
    simp only at d0 d1
    have Hx := Lq hx
    have hkz : (q : Int) < (M : Int) := by omega
    have hk0 : (0 : Int) ≤ (q : Int) := by omega
    have hkd : (q : Int) < (k : Int) := by omega
    clear hx
    by_cases hp : a = x0 ∧ b = x1
    ·obtain ⟨rfl, rfl⟩ := hp
     have hEQ : ∀ w, (Op.equalIn 10000 45 (.agg #[iv a, iv b]) (.agg #[iv a, iv b])).run Tryz.prog w = .ok true w := fun w => by have := run_eqJ 9998 a b a b w; simpa using this
     go_wp2_with fail
     go_quiet (fail)
     go_wp2_with fail
     go_ret
     have hyes : hasJ (h.js.take k) (a, b) = true := hasJ_yes (k := q) (x := (a, b)) (by rw [List.getElem?_take, if_pos hlt]; exact Hx.out) (by simp [eqJ])
     exact ⟨by rw [HE.out, hyes]; rfl, belowT HB2.out (belowN HBW.out _)⟩
    ·have hp' : eqJ (a, b) (x0, x1) = false := by
      unfold eqJ
      rw [Bool.and_eq_false_iff]
      simp only [beq_eq_false_iff_ne]
      by_cases h : a = x0
      ·exact .inr fun h2 => hp ⟨h, h2⟩
      ·exact .inl h
     have HP := Lq hp'
     have hp2 : (x0 == a && x1 == b) = false := by
      rw [← hp']
      unfold eqJ
      rw [Bool.eq_iff_iff]
      simp only [Bool.and_eq_true, beq_iff_eq]
      constructor <;> rintro ⟨h1, h2⟩ <;> exact ⟨h1.symm, h2.symm⟩
     have hEQ : ∀ w, (Op.equalIn 10000 45 (.agg #[iv x0, iv x1]) (.agg #[iv a, iv b])).run Tryz.prog w = .ok false w := fun w => by have := run_eqJ 9998 x0 x1 a b w; rw [this]; exact congrArg (fun r => Result.ok r w) hp2
     clear hp hp' hp2
     go_wp2_with fail
     go_quiet (fail)
     go_wp2_with fail
     go_roundw
     case rel => exact ⟨q + 1, by omega, by go_num, Lq (by rw [hasJ_snoc _ _ _ _ Hx.out, HN.out, HP.out]; rfl), Lq (belowN HBW.out _)⟩
     case measure => simp [intOf]; omega
   ·obtain rfl : q = k := by omega
    go_wp2_with fail
    go_ret
    exact ⟨by rw [HE.out, HN.out]; rfl, belowT HB2.out HBW.out⟩
theorem Tryz.info9 : (Tryz.prog.info? 9).map (fun i => (i.zero, i.size, i.bytes)) = some (some (.string ⟨#[]⟩), 1, 16) := by kernel_rfl
theorem refCheck_any (h : Hul) (A J : Option Addr) (B cap capJ : Nat) (w : World) (hH : HulRd w B h A cap J capJ) (hB : B ≤ w.heap.size) :
  Calls Tryz.prog 7 #[hv h A cap J capJ] w (Rt w (ret3 (checkE h))) := by
 obtain ⟨i0, hi0, hz0, hz1, hz2⟩ := info_parts Tryz.info9
 obtain ⟨W1, hW1, hb0, hzz, p0, p1, p2, p3, p4⟩ := hulBox w h A cap J capJ
 have HC : Hid (∀ W, BW W1 W → W.cell? ⟨w.heap.size, 0, none⟩ = some (.slice A h.ps.length cap) ∧ W.cell? ⟨w.heap.size, 1, none⟩ = some (.slice J h.js.length capJ) ∧ W.cell? ⟨w.heap.size, 2, none⟩ = some (iv h.slo) ∧ W.cell? ⟨w.heap.size, 3, none⟩ = some (iv h.shi) ∧ W.cell? ⟨w.heap.size, 4, none⟩ = some (iv h.winch)) := Lq fun W hb => ⟨keepC hb p0, keepC hb p1, keepC hb p2, keepC hb p3, keepC hb p4⟩
 have hz1' : w.heap.size ≤ W1.heap.size := hb0.size
 have HB0 := Lq hb0
 have HH := Lq (hH.below hb0 hB)
 have hpm := hH.pm
 have hjm := hH.jm
 have hpl := hH.pl
 have hjl := hH.jl
 unfold maxLen at hpm hjm
 obtain ⟨R, hR⟩ := ex (checkE h)
 rw [hR]
 have HR := Lq hR
 have hBz := Nat.le_trans hB hb0.size
 clear hb0 hH hR
 have hfin : ∀ (r : Int × Int × Int), R = r → ret3 R = .tuple #[iv r.1, iv r.2.1, iv r.2.2] := fun r h => by rw [h]; rfl
 have HFIN := Lq hfin
 clear hfin
 cases h1 : inB 1 8 (h.ps.length : Int)
 ·have hr : R = (1, 0, 3) := by rw [← HR.out]; simp [checkE, h1]
  have HRR := Lq hr
  have H1 := Lq h1
  clear hr h1
  go_enter Tryz.func7, Tryz.ntmps7
  go_wp2_with (go_at_call 42; refine (in_b H1.out _).mono ?_; rintro e w2 ⟨rfl, rfl⟩)
  go_ret3
  exact ⟨by rw [HFIN.out _ HRR.out]; rfl, HB0.out⟩
 have hn8 := inB_t h1
 by_cases h2 : h.js.length ≤ 12
 case neg =>
  have hr : R = (1, 0, 3) := by rw [← HR.out]; simp [checkE, h2]
  have HRR := Lq hr
  have H1 := Lq h1
  have hd : (12 : Int) < (h.js.length : Int) := by omega
  clear hr h1
  go_enter Tryz.func7, Tryz.ntmps7
  go_wp2_with (go_at_call 42; refine (in_b H1.out _).mono ?_; rintro e w2 ⟨rfl, rfl⟩)
  go_ret3
  exact ⟨by rw [HFIN.out _ HRR.out]; rfl, HB0.out⟩
 have hd : ¬ (12 : Int) < (h.js.length : Int) := by omega
 have H1 := Lq h1
 obtain ⟨E, hE⟩ := ex (rangeE 1 2000 h.slo h.shi)
 cases h3 : (inB 1 2000 h.slo && inB 1 2000 h.shi)
 ·have hr : R = (1, 0, 7) := by rw [← HR.out]; simp [checkE, h1, h2, h3]
  have HRR := Lq hr
  obtain rfl : E = 7 := by rw [← hE]; exact rangeE_out h3
  have HE := Lq hE
  clear hr h1 h3 hE
  go_enter Tryz.func7, Tryz.ntmps7
  go_wp2_with (go_at_call 42; refine (in_b H1.out _).mono ?_; rintro e w2 ⟨rfl, rfl⟩)
  refine (range_any 1 2000 h.slo h.shi _).mono ?_
  rintro e w2 ⟨he, hb2⟩
  rw [HE.out] at he
  subst he
  have HB2 := Lq hb2
  clear hb2 hW1 p0 p1 p2 p3 p4
  obtain ⟨p0, p1, p2, p3, p4⟩ := HC.out _ HB2.out
  go_wp2
  go_ret3
  exact ⟨by rw [HFIN.out _ HRR.out]; rfl, belowT HB0.out HB2.out⟩
 have hE7 : E = if h.shi < h.slo then 2 else 0 := by
  rw [← hE]
  split
  ·exact rangeE_turned h3 (by assumption)
  ·exact rangeE_ok h3 (by omega)
 cases h4 : inB 1 10000000 h.winch
 ·have hr : R = (1, 0, 7) := by rw [← HR.out]; simp [checkE, h1, h2, h3, h4]
  have HRR := Lq hr
  have H4 := Lq h4
  have hne : (E == 7) = false := by rw [hE7]; split <;> rfl
  have HE := Lq hE
  clear hr h1 h3 h4 hE hE7
  go_enter Tryz.func7, Tryz.ntmps7
  go_wp2_with (go_at_call 42; refine (in_b H1.out _).mono ?_; rintro e w2 ⟨rfl, rfl⟩)
  refine (range_any 1 2000 h.slo h.shi _).mono ?_
  rintro e w2 ⟨he, hb2⟩
  rw [HE.out] at he
  subst he
  have HB2 := Lq hb2
  clear hb2 hW1 p0 p1 p2 p3 p4
  obtain ⟨p0, p1, p2, p3, p4⟩ := HC.out _ HB2.out
  go_wp2_with (go_at_call 42; refine (in_b H4.out _).mono ?_; rintro e w2 ⟨rfl, rfl⟩)
  go_ret3
  exact ⟨by rw [HFIN.out _ HRR.out]; rfl, belowT HB0.out HB2.out⟩
 have H4 := Lq h4
 by_cases h5 : h.shi < h.slo
 ·have hr : R = (1, 0, 2) := by rw [← HR.out]; simp [checkE, h1, h2, h3, h4, h5]
  have HRR := Lq hr
  obtain rfl : E = 2 := by rw [hE7, if_pos h5]
  have HE := Lq hE
  clear hr h1 h3 h4 hE hE7
  go_enter Tryz.func7, Tryz.ntmps7
  go_wp2_with (go_at_call 42; refine (in_b H1.out _).mono ?_; rintro e w2 ⟨rfl, rfl⟩)
  refine (range_any 1 2000 h.slo h.shi _).mono ?_
  rintro e w2 ⟨he, hb2⟩
  rw [HE.out] at he
  subst he
  have HB2 := Lq hb2
  clear hb2 hW1 p0 p1 p2 p3 p4
  obtain ⟨p0, p1, p2, p3, p4⟩ := HC.out _ HB2.out
  go_wp2_with (go_at_call 42; refine (in_b H4.out _).mono ?_; rintro e w2 ⟨rfl, rfl⟩)
  go_ret3
  exact ⟨by rw [HFIN.out _ HRR.out]; rfl, belowT HB0.out HB2.out⟩
 have hr : R = listsE h := by rw [← HR.out]; simp [checkE, h1, h2, h3, h4, h5]
 unfold listsE at hr
 have HRR := Lq hr
 obtain rfl : E = 0 := by rw [hE7, if_neg h5]
 have HE := Lq hE
 clear hr h1 h3 h4 hE hE7
 go_enter Tryz.func7, Tryz.ntmps7
 go_wp2_with (go_at_call 42; refine (in_b H1.out _).mono ?_; rintro e w2 ⟨rfl, rfl⟩)
 refine (range_any 1 2000 h.slo h.shi _).mono ?_
 rintro e w2 ⟨he, hb2⟩
 rw [HE.out] at he
 subst he
 have HB2 := Lq hb2
 clear hb2 hW1 p0 p1 p2 p3 p4
 obtain ⟨p0, p1, p2, p3, p4⟩ := HC.out _ HB2.out
 go_wp2_with (go_at_call 42; refine (in_b H4.out _).mono ?_; rintro e w2 ⟨rfl, rfl⟩)
 obtain ⟨w1, hw1⟩ : ∃ w1 : World, w1 = w2 := ⟨_, rfl⟩
 have HBW1 : Hid (BW W1 w1) := Lq (by rw [hw1]; exact HB2.out)
 have hq0 : w1.cell? ⟨w.heap.size, 0, none⟩ = some (.slice A h.ps.length cap) := by rw [hw1]; exact p0
 subst hw1
 have HHW := Lq (HH.out.below HBW1.out hBz)
 have HC1 : Hid (∀ W, BW w1 W → W.cell? ⟨w.heap.size, 0, none⟩ = some (.slice A h.ps.length cap) ∧ W.cell? ⟨w.heap.size, 1, none⟩ = some (.slice J h.js.length capJ) ∧ W.cell? ⟨w.heap.size, 2, none⟩ = some (iv h.slo) ∧ W.cell? ⟨w.heap.size, 3, none⟩ = some (iv h.shi) ∧ W.cell? ⟨w.heap.size, 4, none⟩ = some (iv h.winch)) := Lq fun W hb => HC.out W (belowT HBW1.out hb)
 have hzw1 : W1.heap.size ≤ w1.heap.size := HBW1.out.size
 have hBw : B ≤ w1.heap.size := Nat.le_trans hBz hzw1
 have HNM := Lq HH.out.nm
 have HHP := Lq HH.out
 clear p0 p1 p2 p3 p4 hq0 HB2 hzz HC
 go_loopw [6, 7] (fun vn vi wr => ∃ (k : Nat) (v : Value), k ≤ h.ps.length ∧ vi = iv k ∧ v = vn ∧ Hid (wr.ownsRow w1.heap.size 9 1 v k (((h.ps.take k).map Prt.name).map Value.string)) ∧ Hid (BW w1 wr) ∧ Hid (firstBad (partE h.ps) k = none)) (fun _ vi _ => h.ps.length - (intOf vi).toNat)
 case atStart => exact ⟨0, _, Nat.zero_le _, rfl, rfl, Lq (World.ownsRow_nil _ _ _ _), Lq (belowR _), Lq rfl⟩
 case round =>
  obtain ⟨k, v, hk, rfl, rfl, OWN, HBW, HN⟩ := hrel
  obtain ⟨p0, p1, p2, p3, p4⟩ := HC1.out _ HBW.out
  have hzr := HBW.out.size
  by_cases hlt : k < h.ps.length
  ·obtain ⟨c, hx⟩ : ∃ x, h.ps[k]? = some x := ⟨_, List.getElem?_eq_getElem hlt⟩
   have hsn := HNM.out c (List.mem_of_getElem? hx)
   have HX := Lq hx
   have htk : (h.ps.take k).length = k := by rw [List.length_take]; omega
   have htk1 : h.ps.take (k + 1) = h.ps.take k ++ [c] := by
    obtain ⟨h, rfl⟩ := List.getElem?_eq_some_iff.1 hx
    rw [List.take_succ_eq_append_getElem h]
   obtain ⟨A2, cap2, rfl, hrd, hA2⟩ := own_rd1 (xs := (h.ps.take k).map Prt.name) (enc := Value.string) (by rw [List.length_map, htk]; exact OWN.out)
   clear hA2
   rw [List.length_map, htk] at OWN ⊢
   have ht := fresh_any A2 ((h.ps.take k).map Prt.name) wr.heap.size cap2 c.name wr hsn (by rw [List.length_map, htk]; unfold maxLen; omega) hrd (Nat.le_refl _)
   rw [List.length_map, htk] at ht
   have he : partE h.ps k = if freshE ((h.ps.take k).map Prt.name) c.name = 0 then rangeE 0 100000 c.lo c.hi else freshE ((h.ps.take k).map Prt.name) c.name := by unfold partE; rw [hx]
   obtain ⟨T, hT⟩ := ex (freshE ((h.ps.take k).map Prt.name) c.name)
   rw [hT] at he ht
   obtain ⟨b, off, rfl, _, e0, e1, e2⟩ := prtAt (HHW.out.ps.below HBW.out hBw) hx
   obtain ⟨name, clo, chi⟩ := c
   simp only at e0 e1 e2 ht hsn he
   have HT := Lq ht
   have HTK := Lq htk1
   have hkz : (k : Int) < (h.ps.length : Int) := by omega
   have hk0 : (0 : Int) ≤ (k : Int) := by omega
   clear htk htk1 hrd ht hT hx
   go_wp2_with fail
   refine HT.out.mono ?_
   rintro e w3 ⟨rfl, hb3⟩
   have OWN3 := Lq (own_below OWN.out hb3)
   have HB3 := Lq (belowT HBW.out hb3)
   have d0 := keepC hb3 e0
   have d1 := keepC hb3 e1
   have d2 := keepC hb3 e2
   have hz3 := hb3.size
   clear p0 p1 p2 p3 p4 e0 e1 e2
   obtain ⟨p0, p1, p2, p3, p4⟩ := HC1.out _ HB3.out
   have hnew : ∀ j u, [Value.string name][j]? = some u → (w3.alloc (.cells #[.string name] 9)).cell? ((⟨w3.heap.size, 0, none⟩ : Addr).add j) = some u := one_new _ _ _
   have HNW := Lq hnew
   clear hb3 hnew OWN p1 p2 p3 p4 d1 d2
   go_wp2_with (at_builtin; refine wpList_append_own _ rfl _ _ 72 rfl w1.heap.size 9 i0 (.string ⟨#[]⟩) 1 16 Tryz.underlying72 hi0 hz0 hz1 hz2 rfl (by decide) _ _ _ rfl (OWN3.out.alloc _) ⟨w3.heap.size, 0, none⟩ 1 1 [.string name] rfl rfl ?c1 ?c2 ?c3 ?c4 ?c5 ?_)
   case c1 => exact HNW.out
   case c2 => simp [Value.oneCell']
   case c3 => unfold maxLen; omega
   case c4 => omega
   case c5 => simp; omega
   intro v' w4 hown' hgrow _
   have hB4 : BW w1 w4 := grownB (OWN3.out.alloc _) hgrow (Nat.le_refl _) (belowA HB3.out _)
   have HO' := Lq hown'
   have HB4 := Lq hB4
   clear hgrow hown' p0 d0 hB4
   by_cases hT0 : T = 0
   ·subst hT0
    rw [if_pos rfl] at he
    have hrg := fun W => range_any 0 100000 clo chi W
    obtain ⟨V, hV⟩ := ex (rangeE 0 100000 clo chi)
    rw [hV] at he hrg
    have HRG := Lq hrg
    have HE2 := Lq he
    obtain ⟨p0, p1, p2, p3, p4⟩ := HC1.out _ HB4.out
    obtain ⟨b', off', he', _, e0, e1, e2⟩ := prtAt (HHW.out.ps.below HB4.out hBw) HX.out
    injection he' with he'
    injection he' with he1 he2
    subst he1 he2
    simp only at e0 e1 e2
    clear he hrg hV p1 p2 p3 p4 e0
    go_wp2_with fail
    refine (HRG.out _).mono ?_
    rintro e w5 ⟨rfl, hb5⟩
    have HO5 := Lq (own_below HO'.out hb5)
    have HB5 := Lq (belowT HB4.out hb5)
    clear hb5 p0 e1 e2 HO' HB4
    by_cases hV0 : V = 0
    ·subst hV0
     go_wp2_with fail
     go_roundw
     case rel => exact ⟨k + 1, v', by omega, by go_num, rfl, Lq (by have h := HO5.out; rw [HTK.out]; simpa using h), HB5, Lq (firstBad_succ HN.out HE2.out)⟩
     case measure => simp [intOf]; omega
    ·have hne : (V != 0) = true := by simpa using hV0
     have HV0 := Lq hV0
     clear hV0
     go_wp2_with fail
     go_ret3
     exact ⟨by rw [HFIN.out _ HRR.out, firstBad_at HN.out (by rw [HE2.out]; exact HV0.out) hlt, HE2.out]; rfl, belowT HB0.out (belowT HBW1.out HB5.out)⟩
   ·have hne : (T != 0) = true := by simpa using hT0
    have hne2 : (T == 0) = false := by simpa using hT0
    rw [if_neg hT0] at he
    have HE2 := Lq he
    have HT0 := Lq hT0
    clear hT0 he
    go_wp2_with fail
    go_ret3
    exact ⟨by rw [HFIN.out _ HRR.out, firstBad_at HN.out (by rw [HE2.out]; exact HT0.out) hlt, HE2.out]; rfl, belowT HB0.out (belowT HBW1.out HB4.out)⟩
  ·obtain rfl : k = h.ps.length := by omega
   have HNP := HN
   go_wp2_with fail
   clear p0 p1 p2 p3 p4
   obtain ⟨wq, hwq⟩ : ∃ wq : World, wq = wr := ⟨_, rfl⟩
   have HBQ : Hid (BW w1 wq) := Lq (by rw [hwq]; exact HBW.out)
   subst hwq
   go_loopw [8] (fun vi wr => ∃ q : Nat, q ≤ h.js.length ∧ vi = iv q ∧ Hid (BW w1 wr) ∧ Hid (firstBad (jointE h.ps.length h.js) q = none)) (fun vi _ => h.js.length - (intOf vi).toNat)
   case atStart => exact ⟨0, Nat.zero_le _, rfl, HBQ, Lq rfl⟩
   case round =>
    obtain ⟨q, hq, rfl, HBW2, HN2⟩ := hrel
    obtain ⟨p0, p1, p2, p3, p4⟩ := HC1.out _ HBW2.out
    by_cases hlt2 : q < h.js.length
    ·have hjt := joint_any h A J B cap capJ q wr (HHW.out.below HBW2.out hBw) hlt2 (Nat.le_trans hBw HBW2.out.size)
     obtain ⟨V, hV⟩ := ex (jointE h.ps.length h.js q)
     rw [hV] at hjt
     have HJT := Lq hjt
     have HV := Lq hV
     have hkz : (q : Int) < (h.js.length : Int) := by omega
     have hk0 : (0 : Int) ≤ (q : Int) := by omega
     clear hjt hV
     go_wp2_with fail
     refine HJT.out.mono ?_
     rintro e w5 ⟨rfl, hb5⟩
     have HB5 := Lq (belowT HBW2.out hb5)
     clear hb5 p0 p1 p2 p3 p4
     by_cases hV0 : V = 0
     ·subst hV0
      go_wp2_with fail
      go_roundw
      case rel => exact ⟨q + 1, by omega, by go_num, HB5, Lq (firstBad_succ HN2.out HV.out)⟩
      case measure => simp [intOf]; omega
     ·have hne : (V != 0) = true := by simpa using hV0
      have HV0 := Lq hV0
      clear hV0
      go_wp2_with fail
      go_ret3
      exact ⟨by rw [HFIN.out _ HRR.out, HNP.out]; simp only; rw [firstBad_at HN2.out (by rw [HV.out]; exact HV0.out) hlt2, HV.out]; rfl, belowT HB0.out (belowT HBW1.out HB5.out)⟩
    ·obtain rfl : q = h.js.length := by omega
     go_wp2_with fail
     go_ret3
     exact ⟨by rw [HFIN.out _ HRR.out, HNP.out]; simp only; rw [HN2.out]; rfl, belowT HB0.out (belowT HBW1.out HBW2.out)⟩
end Go.Proofs.YtmhjhbchokbonaaGreat
namespace Go.Proofs.YtmhjhbchokbonaaGreat
def upd (w : Nat → Int) (i : Nat) (v : Int) : Nat → Int := fun k => if k = i then v else w k
theorem upd_self (w : Nat → Int) (i : Nat) (v : Int) : upd w i v i = v := by simp [upd]
theorem upd_ne {w : Nat → Int} {i k : Nat} {v : Int} (h : k ≠ i) : upd w i v k = w k := by simp [upd, h]
theorem sumTo_upd (w : Nat → Int) (p : Nat) (v : Int) (P : Nat → Bool) : ∀ k, sumTo (upd w p v) P k = sumTo w P k + if p < k ∧ P p = true then v - w p else 0 := by
 intro k
 induction k with
 | zero => simp [sumTo]
 | succ k ih =>
  simp only [sumTo, ih]
  by_cases hk : k = p
  ·subst hk
   rw [upd_self]
   cases hP : P k <;> simp
   omega
  ·rw [upd_ne hk]
   by_cases h1 : p < k
   ·by_cases h2 : P p = true
    ·rw [if_pos ⟨h1, h2⟩, if_pos (c := p < k + 1 ∧ P p = true) ⟨by omega, h2⟩]; omega
    ·rw [if_neg (by simp [h2]), if_neg (c := p < k + 1 ∧ P p = true) (by simp [h2])]; omega
   ·rw [if_neg (by omega), if_neg (c := p < k + 1 ∧ P p = true) (by omega)]; omega
theorem sumS_upd (w : Nat → Int) {p : Nat} (hp : p < 8) (v : Int) (s : Nat) : sumS (upd w p v) s = sumS w s + if s.testBit p = true then v - w p else 0 := by
 unfold sumS sumP
 rw [sumTo_upd]
 simp [hp]
theorem sumTo_le {w w' : Nat → Int} {P : Nat → Bool} : ∀ k, (∀ i, i < k → P i = true → w i ≤ w' i) → sumTo w P k ≤ sumTo w' P k := by
 intro k
 induction k with
 | zero => intro _; simp [sumTo]
 | succ k ih =>
  intro h
  have := ih (fun i hi => h i (by omega))
  have h2 := h k (by omega)
  simp only [sumTo]
  cases hk : P k with
  | true => have := h2 hk; simp only [if_true]; omega
  | false => simp only [Bool.false_eq_true, if_false]; omega
theorem sumS_le {w w' : Nat → Int} {s : Nat} (h : ∀ i, i < 8 → s.testBit i = true → w i ≤ w' i) : sumS w s ≤ sumS w' s := sumTo_le 8 h
theorem sumTo_find {w w' : Nat → Int} {P : Nat → Bool} : ∀ k, sumTo w P k < sumTo w' P k → ∃ i, i < k ∧ P i = true ∧ w i < w' i := by
 intro k
 induction k with
 | zero => intro h; simp [sumTo] at h
 | succ k ih =>
  intro h
  simp only [sumTo] at h
  by_cases h1 : sumTo w P k < sumTo w' P k
  ·obtain ⟨i, a, b, c⟩ := ih h1
   exact ⟨i, by omega, b, c⟩
  ·cases hk : P k with
   | true => rw [hk] at h; simp only [if_true] at h; exact ⟨k, by omega, hk, by omega⟩
   | false => rw [hk] at h; simp only [Bool.false_eq_true, if_false] at h; omega
theorem sumS_find {w w' : Nat → Int} {s : Nat} (h : sumS w s < sumS w' s) : ∃ i, i < 8 ∧ s.testBit i = true ∧ w i < w' i := sumTo_find 8 h
theorem bit_lt {s n p : Nat} (hs : s < 2 ^ n) (hb : s.testBit p = true) : p < n := by
 rcases Nat.lt_or_ge p n with h | h
 ·exact h
 ·rw [Nat.testBit_lt_two_pow (Nat.lt_of_lt_of_le hs (Nat.pow_le_pow_right (by decide) h))] at hb; cases hb
theorem least_mem {α : Type} (f : α → Nat) (P : α → Prop) : ∀ l : List α, (∃ x ∈ l, P x) → ∃ x ∈ l, P x ∧ ∀ y ∈ l, P y → f x ≤ f y := by
 classical
 intro l
 induction l with
 | nil => rintro ⟨x, hx, _⟩; cases hx
 | cons a l ih =>
  rintro ⟨x, hx, hPx⟩
  by_cases hl : ∃ x ∈ l, P x
  ·obtain ⟨y, hy, hPy, hmin⟩ := ih hl
   by_cases ha : P a
   ·by_cases hle : f a ≤ f y
    ·refine ⟨a, by simp, ha, fun z hz hPz => ?_⟩
     rcases List.mem_cons.1 hz with rfl | hz
     ·exact Nat.le_refl _
     ·exact Nat.le_trans hle (hmin z hz hPz)
    ·refine ⟨y, List.mem_cons_of_mem _ hy, hPy, fun z hz hPz => ?_⟩
     rcases List.mem_cons.1 hz with rfl | hz
     ·omega
     ·exact hmin z hz hPz
   ·refine ⟨y, List.mem_cons_of_mem _ hy, hPy, fun z hz hPz => ?_⟩
    rcases List.mem_cons.1 hz with rfl | hz
    ·exact absurd hPz ha
    ·exact hmin z hz hPz
  ·rcases List.mem_cons.1 hx with rfl | hx
   ·refine ⟨x, by simp, hPx, fun z hz hPz => ?_⟩
    rcases List.mem_cons.1 hz with rfl | hz
    ·exact Nat.le_refl _
    ·exact absurd ⟨z, hz, hPz⟩ hl
   ·exact absurd ⟨x, hx, hPx⟩ hl
structure Lw (h : Hul) (l : List Wgh) : Prop where
 n8 : h.ps.length ≤ 8
 lam : ∀ x ∈ l, ∀ y ∈ l, LamW x y
 lt : ∀ x ∈ l, x.set.toNat < 2 ^ h.ps.length
def Box (h : Hul) (w : Nat → Int) : Prop := ∀ (i : Nat) (p : Prt), h.ps[i]? = some p → p.lo ≤ w i ∧ w i ≤ p.hi
def loOf (h : Hul) (i : Nat) : Int := (h.ps[i]?.map Prt.lo).getD 0
def hiOf (h : Hul) (i : Nat) : Int := (h.ps[i]?.map Prt.hi).getD 0
theorem box_iff {h : Hul} {w : Nat → Int} : Box h w ↔ ∀ i, i < h.ps.length → loOf h i ≤ w i ∧ w i ≤ hiOf h i := by
 constructor
 ·intro hb i hi
  have hg := List.getElem?_eq_getElem hi
  have := hb i _ hg
  simpa [loOf, hiOf, hg] using this
 ·intro hb i p hip
  have := hb i (List.getElem?_eq_some_iff.1 hip).1
  simpa [loOf, hiOf, hip] using this
theorem Lw.swap {h : Hul} {l : List Wgh} (H : Lw h l) {t w : Nat → Int} (ht : TruthP h l t) (hw : ∀ i, i < h.ps.length → w i ≤ t i) (hlo : ∀ i, i < h.ps.length → loOf h i ≤ w i)
  {p q : Nat} (hp : p < h.ps.length) (hq : q < h.ps.length) (hpt : t p = w p) (hqt : w q < t q) (hph : w p + 1 ≤ hiOf h p)
  (hT : ∀ y ∈ l, y.set.toNat.testBit p = true → y.set.toNat.testBit q = false → sumS t y.set.toNat + 1 ≤ y.hi)
  (hL : ∀ y ∈ l, y.set.toNat.testBit q = true → y.set.toNat.testBit p = false → y.lo ≤ sumS w y.set.toNat) :
  TruthP h l (upd (upd t p (t p + 1)) q (t q - 1)) ∧ (∀ i, i < h.ps.length → upd w p (w p + 1) i ≤ upd (upd t p (t p + 1)) q (t q - 1) i) := by
 have hpq : q ≠ p := fun hc => by rw [hc] at hqt; omega
 have hn := H.n8
 have hb : Box h t := ht.1
 rw [box_iff] at hb
 refine ⟨⟨box_iff.2 fun i hi => ?_, fun y hy => ?_⟩, fun i hi => ?_⟩
 ·have h1 := hb i hi
  by_cases hiq : i = q
  ·subst hiq
   rw [upd_self]
   have := hlo i hi
   omega
  ·rw [upd_ne hiq]
   by_cases hip : i = p
   ·subst hip
    rw [upd_self]
    omega
   ·rw [upd_ne hip]; exact h1
 ·have h1 := ht.2 y hy
  rw [sumS_upd _ (by omega), sumS_upd _ (by omega), upd_ne hpq]
  cases hyp : y.set.toNat.testBit p with
  | true =>
   cases hyq : y.set.toNat.testBit q with
   | true => simp only [if_true]; omega
   | false =>
    have := hT y hy hyp hyq
    simp only [if_true, Bool.false_eq_true, if_false]
    omega
  | false =>
   cases hyq : y.set.toNat.testBit q with
   | true =>
    have h2 := hL y hy hyq hyp
    have h3 : sumS w y.set.toNat + 1 ≤ sumS t y.set.toNat := by
     have h4 : sumS (upd w q (w q + 1)) y.set.toNat ≤ sumS t y.set.toNat := sumS_le fun i _ hbi => by
      by_cases hiq : i = q
      ·subst hiq; rw [upd_self]; omega
      ·rw [upd_ne hiq]; exact hw i (bit_lt (H.lt y hy) hbi)
     rw [sumS_upd _ (by omega), hyq] at h4
     simp only [if_true] at h4
     omega
    simp only [if_true, Bool.false_eq_true, if_false]
    omega
   | false => simp only [Bool.false_eq_true, if_false]; omega
 ·by_cases hiq : i = q
  ·subst hiq
   rw [upd_self, upd_ne hpq]
   omega
  ·rw [upd_ne hiq]
   by_cases hip : i = p
   ·subst hip; rw [upd_self, upd_self]; omega
   ·rw [upd_ne hip, upd_ne hip]; exact hw i hi
def Full (h : Hul) (l : List Wgh) (w : Nat → Int) (q : Nat) : Prop := hiOf h q ≤ w q ∨ ∃ y ∈ l, y.set.toNat.testBit q = true ∧ y.hi ≤ sumS w y.set.toNat
theorem Lw.full_eq {h : Hul} {l : List Wgh} (H : Lw h l) {t w : Nat → Int} (ht : TruthP h l t) (hw : ∀ i, i < h.ps.length → w i ≤ t i) {q : Nat} (hq : q < h.ps.length) (hf : Full h l w q) : t q = w q := by
 have h1 := hw q hq
 rcases hf with hf | ⟨y, hy, hyq, hyh⟩
 ·have hb : Box h t := ht.1
  rw [box_iff] at hb
  have := hb q hq
  omega
 ·by_cases hlt : w q < t q
  ·have hn := H.n8
   have h4 : sumS (upd w q (w q + 1)) y.set.toNat ≤ sumS t y.set.toNat := sumS_le fun i _ hbi => by
    by_cases hiq : i = q
    ·subst hiq; rw [upd_self]; omega
    ·rw [upd_ne hiq]; exact hw i (bit_lt (H.lt y hy) hbi)
   rw [sumS_upd _ (by omega), hyq] at h4
   simp only [if_true] at h4
   have := (ht.2 y hy).2
   omega
  ·omega
theorem Full.mono {h : Hul} {l : List Wgh} {w w' : Nat → Int} {q : Nat} (hf : Full h l w q) (hle : ∀ i, w i ≤ w' i) : Full h l w' q := by
 rcases hf with hf | ⟨y, hy, hyq, hyh⟩
 ·exact .inl (Int.le_trans hf (hle q))
 ·exact .inr ⟨y, hy, hyq, Int.le_trans hyh (sumS_le fun i _ _ => hle i)⟩
def Keeps (h : Hul) (l : List Wgh) (Q : (Nat → Int) → (Nat → Int) → Prop) (w : Nat → Int) : Prop := ∀ t, TruthP h l t → ∃ t', TruthP h l t' ∧ (∀ i, i < h.ps.length → w i ≤ t' i) ∧ Q t t'
theorem LamW.chain {x y : Wgh} (h : LamW x y) {p : Nat} (hp8 : p < 8) (hx : x.set.toNat.testBit p = true) (hy : y.set.toNat.testBit p = true) : subP x.set.toNat y.set.toNat ∨ subP y.set.toNat x.set.toNat := by
 rcases h with h | h
 ·exact absurd ⟨hx, hy⟩ (h p hp8)
 ·exact h
theorem Lw.partner {h : Hul} {l : List Wgh} (H : Lw h l) {t w : Nat → Int} {p : Nat} (hp : p < h.ps.length)
  {S : Wgh} (hS : S ∈ l) (hSp : S.set.toNat.testBit p = true) (hb : sumS w S.set.toNat < sumS t S.set.toNat)
  (hr : ∀ y ∈ l, y.set.toNat.testBit p = true → sumS w y.set.toNat + 1 ≤ y.hi) :
  ∃ q, q < h.ps.length ∧ S.set.toNat.testBit q = true ∧ w q < t q ∧ (∀ y ∈ l, y.set.toNat.testBit p = true → y.set.toNat.testBit q = false → sumS t y.set.toNat + 1 ≤ y.hi) ∧
   ∀ y ∈ l, y.set.toNat.testBit q = true → y.set.toNat.testBit p = false → onesN y.set.toNat < onesN S.set.toNat := by
 have hn := H.n8
 have hp8 : p < 8 := by omega
 obtain ⟨D, hD, ⟨hDp, hDb⟩, hDm⟩ := least_mem (fun y : Wgh => onesN y.set.toNat) (fun y => y.set.toNat.testBit p = true ∧ sumS w y.set.toNat < sumS t y.set.toNat ∧ (y.hi ≤ sumS t y.set.toNat ∨ y = S)) l ⟨S, hS, hSp, hb, .inr rfl⟩
 obtain ⟨q, hq8, hqD, hqt⟩ := sumS_find hDb.1
 have hDS : subP D.set.toNat S.set.toNat := by
  rcases (H.lam D hD S hS).chain hp8 hDp hSp with hc | hc
  ·exact hc
  ·exact ones_eq hc (hDm S hS ⟨hSp, hb, .inr rfl⟩)
 refine ⟨q, bit_lt (H.lt D hD) hqD, hDS q hq8 hqD, hqt, fun y hy hyp hyq => ?_, fun y hy hyq hyp => ?_⟩
 ·rcases Int.lt_or_le (sumS t y.set.toNat) y.hi with hlt | hge
  ·omega
  ·have h1 := hr y hy hyp
   have h2 := hDm y hy ⟨hyp, by omega, .inl hge⟩
   rcases (H.lam D hD y hy).chain hp8 hDp hyp with hc | hc
   ·rw [hc q hq8 hqD] at hyq; cases hyq
   ·rw [ones_eq hc h2 q hq8 hqD] at hyq; cases hyq
 ·rcases (H.lam D hD y hy).chain hq8 hqD hyq with hc | hc
  ·rw [hc p hp8 hDp] at hyp; cases hyp
  ·have h1 : onesN y.set.toNat < onesN D.set.toNat := by
    rcases Nat.lt_or_ge (onesN y.set.toNat) (onesN D.set.toNat) with h1 | h1
    ·exact h1
    ·rw [ones_eq hc h1 p hp8 hDp] at hyp; cases hyp
   exact Nat.lt_of_lt_of_le h1 (ones_le hDS)
end Go.Proofs.YtmhjhbchokbonaaGreat
