/- The reference: Cost (F31): the round that lays one cost. -/
import Derived.Deep.RegionHeld3
import Derived.Test.YtblbbhenmhkknaaZdabc57
import Derived.Test.YtblbbhenmhkknaaYReg
import Derived.Test.YtblbbhenmhkknaaZe720a3
namespace Go.Proofs.Ytblbbhenmhkknaa
open Go.RowKit

set_option maxRecDepth 1000000 in
set_option maxHeartbeats 4000000 in
theorem reg31_10 {Q : Exit → Act → World → Prop} {z0 z1 z2 z3 z4 z5 z6 z7 z8 z10 z12 z15 z16 z17 z18 z19 z20 z21 z22 z23 z24 z25 z26 z27 z28 z29 z30 z31 z32 z33 z34 z35 z36 z37 z38 z39 z40 z41 z42 z43 z44 z45 z46 z47 z48 z49 z50 z51 z52 z53 z54 z55 z56 z57 z58 z59 z60 z61 z62 z63 z64 z65 z66 z67 z68 z69 z70 z71 z72 : Value} {k n gx gy capx capy base : Nat} {x y : Int} {a0 V : World} {vo : Value} {xs : List Value} (hk : k < n) (hn : n ≤ 8)
    (cx : a0.cell? ⟨gx, k, none⟩ = some (.int .i64 x)) (cy : a0.cell? ⟨gy, k, none⟩ = some (.int .i64 y)) (hw : IntKind.i64.wrap (x - y) = x - y) (hown : V.ownsRow base 3 1 vo k xs) (hb : Below a0.heap.size a0 V) (ha : a0.heap.size ≤ base) (hbase : base ≤ V.heap.size)
    (hQ : ∀ u60 u61 u62 u63 u64 u65 u66 u67 u68 u69 u70 u71 v13 wx, wx.ownsRow base 3 1 v13 (k + 1) (xs ++ [.int .i64 (x - y)]) → Below a0.heap.size a0 wx → base ≤ wx.heap.size → Q .normal ⟨#[z0, z1, z2, z3, z4, z5, z6, z7, z8, .slice (some ⟨gx, 0, none⟩) n capx, z10, .slice (some ⟨gy, 0, none⟩) (n + 1) capy, z12, v13, .int .i64 k, z15, z16, z17, z18, z19, z20, z21, z22, z23, z24, z25, z26, z27, z28, z29, z30, z31, z32, z33, z34, z35, z36, z37, z38, z39, z40, z41, z42, z43, z44, z45, z46, z47, z48, z49, z50, z51, z52, z53, z54, z55, z56, z57, z58, z59, u60, u61, u62, u63, u64, u65, u66, u67, u68, u69, u70, u71, z72], []⟩ wx) :
    (regionOf Try.f31 10).wp Try.prog Q ⟨#[z0, z1, z2, z3, z4, z5, z6, z7, z8, .slice (some ⟨gx, 0, none⟩) n capx, z10, .slice (some ⟨gy, 0, none⟩) (n + 1) capy, z12, vo, .int .i64 k, z15, z16, z17, z18, z19, z20, z21, z22, z23, z24, z25, z26, z27, z28, z29, z30, z31, z32, z33, z34, z35, z36, z37, z38, z39, z40, z41, z42, z43, z44, z45, z46, z47, z48, z49, z50, z51, z52, z53, z54, z55, z56, z57, z58, z59, z60, z61, z62, z63, z64, z65, z66, z67, z68, z69, z70, z71, z72], []⟩ V := by
  obtain ⟨i4, hi4, hz40, hz41, hz42⟩ := info_parts Try.info3
  have hz1 : (0 : Int) ≤ (k : Int) := by omega
  have hz2 : (k : Int) < (n : Int) := by omega
  have hz3 : (k : Int) < (n : Int) + 1 := by omega
  have hm : k + 1 ≤ maxLen := by unfold maxLen; omega
  have hm8 : (k + 1) * 8 ≤ 140737488355328 := by omega
  have HOW := Lib.hid (hown.alloc (.cells #[.int .i64 (x - y)] 3)).drew
  have HB := Lib.hid (belowDq (belowA hb (.cells #[.int .i64 (x - y)] 3)))
  have HBASE : base ≤ (V.alloc (.cells #[.int .i64 (x - y)] 3)).drew.heap.size := by simp; omega
  have HQ := Lib.hid hQ
  have HC : Hid (∀ W, Below a0.heap.size a0 W → W.cell? ⟨gx, k, none⟩ = some (.int .i64 x) ∧ W.cell? ⟨gy, k, none⟩ = some (.int .i64 y)) := Lib.hid fun W h => ⟨keepC h cx, keepC h cy⟩
  have HB0 := Lib.hid (belowDq hb)
  clear hQ hown hb cx cy
  conv => arg 2; whnf
  go_region_held3 (fun w' => w'.cell? ⟨gx, k, none⟩ = some (.int .i64 x) ∧ w'.cell? ⟨gy, k, none⟩ = some (.int .i64 y)) (first | exact HC.out _ HB' | exact HC.out _ HB.out | exact HC.out _ HB0.out) (((refine step_append_any (by rfl) _ _ _ (by rfl) base 3 i4 _ 1 8 Try.underlying32 hi4 hz40 hz41 hz42 rfl (by omega) _ k _ (by rfl) HOW.out _ 1 [.int .i64 (x - y)] (by rfl) (.inr ⟨⟨V.heap.size, 0, none⟩, 1, by rfl, by rfl, World.news_of_block (cs := #[.int .i64 (x - y)]) (t := 3) (fr := (0, 0)) (heap_alloc_new V _), by simp [Value.oneCell']⟩) hm hm8 HBASE ?_; intro v13 wx hown' hgrow'; have HB' := grownB HOW.out hgrow' ha HB.out)))
  refine HQ.out _ _ _ _ _ _ _ _ _ _ _ _ _ _ hown' HB' (Nat.le_trans HBASE hgrow'.size)
end Go.Proofs.Ytblbbhenmhkknaa
