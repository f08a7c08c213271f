/- Rows that are fields of a variable: the regions that append to them (printed by mkT18r.py). The law's Truth: the regions that append to it (printed by mkT20r.py). The law's Truth and Tide (printed by mkT20.py). -/
import Derived.Deep.RegionHeld3
import Derived.Test.YtmhjhbchokbonaaGreatM0
import Derived.Test.YtmhjhbchokbonaaGreatM9
import Derived.Test.YtmhjhbchokbonaaGreatM10
import Derived.Test.YtmhjhbchokbonaaGreatM17
import Derived.Test.YtmhjhbchokbonaaGreatM19
set_option maxRecDepth 1000000
set_option maxHeartbeats 16000000
namespace Go.Proofs.YtmhjhbchokbonaaGreat
open Go.RowKit
theorem news_blk {w : World} {n : Nat} {t : TypeId} {u : Value} (h : Blk w n t #[u]) : ∀ j u', [u][j]? = some u' → w.cell? ((⟨n, 0, none⟩ : Addr).add j) = some u' := fun j u' hu => by
 rw [add_bk, h.cell]
 simpa using hu
noncomputable def ops24_10 : Array Oper := opsOf (regionOf Tryz.f24 10)
theorem reg24_10 {Q : Exit → Act → World → Prop} {V : World} {base gt gx n : Nat} {vW vL : Value} {v1 v2 : Int} {xs ys : List Value} {z0 z1 z2 z3 z5 z6 z7 z8 z9 z11 z12 z13 z14 z15 z16 z17 z18 z19 z20 z21 z22 z23 z24 z25 z26 z27 z28 z29 z30 z31 z32 z33 z34 z35 z36 z37 z38 z39 z40 z41 z42 z43 z44 z45 z46 z47 z48 z49 z50 z51 z52 z53 z54 z55 z56 z57 z58 z59 z60 z61 z62 z63 z64 z65 z66 z67 z68 z69 z70 z71 z72 z73 z74 z75 z76 z77 z78 : Value} (hn : n + 1 ≤ 100) (hbase : base ≤ V.heap.size) (hW : V.ownsRow base 3 1 vW n xs) (hL : V.ownsRow base 3 1 vL n ys) (hd : ∀ g, vW.ownBlock = some g → vL.ownBlock ≠ some g)
  (hgt : Blk V gt 49 #[vW, vL]) (hg1 : some gt ≠ vW.ownBlock) (hg2 : some gt ≠ vL.ownBlock)
  (hSK : ∀ W, KeptO V W vW.ownBlock vL.ownBlock → W.cell? ⟨gt, 0, none⟩ = some vW ∧ W.cell? ⟨gt, 1, none⟩ = some vL ∧ W.cell? ⟨gx, 3, none⟩ = some (iv v1) ∧ W.cell? ⟨gx, 5, none⟩ = some (iv v2))
  (hS : ∀ W, BW V W → W.cell? ⟨gt, 0, none⟩ = some vW ∧ W.cell? ⟨gt, 1, none⟩ = some vL ∧ W.cell? ⟨gx, 3, none⟩ = some (iv v1) ∧ W.cell? ⟨gx, 5, none⟩ = some (iv v2))
  (hQ : ∀  u44 u45 u46 u47 u48 u49 u50 u51 u52 u53 u54 u55 u56 u57 u58 u59 wx, (∃ g c g2 c2 W, TwoR base V W vW.ownBlock vL.ownBlock (.slice (some ⟨g, 0, none⟩) (n + 1) c) (.slice (some ⟨g2, 0, none⟩) (n + 1) c2) (n + 1) (n + 1) (xs ++ [iv v1]) (ys ++ [iv v2]) ∧ wx = (W.setCell ⟨gt, 0, none⟩ (.slice (some ⟨g, 0, none⟩) (n + 1) c)).setCell ⟨gt, 1, none⟩ (.slice (some ⟨g2, 0, none⟩) (n + 1) c2)) → Q .normal ⟨((z0 :: z1 :: z2 :: z3 :: (.pointer (some ⟨gt, 0, none⟩)) :: z5 :: z6 :: z7 :: z8 :: z9 :: (.pointer (some ⟨gx, 0, none⟩)) :: z11 :: z12 :: z13 :: z14 :: z15 :: z16 :: z17 :: z18 :: z19 :: z20 :: z21 :: z22 :: z23 :: z24 :: z25 :: z26 :: z27 :: z28 :: z29 :: z30 :: z31 :: z32 :: z33 :: z34 :: z35 :: z36 :: z37 :: z38 :: z39 :: z40 :: z41 :: z42 :: z43 :: u44 :: u45 :: u46 :: u47 :: u48 :: u49 :: u50 :: u51 :: u52 :: u53 :: u54 :: u55 :: u56 :: u57 :: u58 :: u59 :: z60 :: z61 :: z62 :: z63 :: z64 :: z65 :: z66 :: z67 :: z68 :: z69 :: z70 :: z71 :: z72 :: z73 :: z74 :: z75 :: z76 :: z77 :: z78 :: [] : List Value).toArray), []⟩ wx) :
  (regionOf Tryz.f24 10).wp Tryz.prog Q ⟨((z0 :: z1 :: z2 :: z3 :: (.pointer (some ⟨gt, 0, none⟩)) :: z5 :: z6 :: z7 :: z8 :: z9 :: (.pointer (some ⟨gx, 0, none⟩)) :: z11 :: z12 :: z13 :: z14 :: z15 :: z16 :: z17 :: z18 :: z19 :: z20 :: z21 :: z22 :: z23 :: z24 :: z25 :: z26 :: z27 :: z28 :: z29 :: z30 :: z31 :: z32 :: z33 :: z34 :: z35 :: z36 :: z37 :: z38 :: z39 :: z40 :: z41 :: z42 :: z43 :: z44 :: z45 :: z46 :: z47 :: z48 :: z49 :: z50 :: z51 :: z52 :: z53 :: z54 :: z55 :: z56 :: z57 :: z58 :: z59 :: z60 :: z61 :: z62 :: z63 :: z64 :: z65 :: z66 :: z67 :: z68 :: z69 :: z70 :: z71 :: z72 :: z73 :: z74 :: z75 :: z76 :: z77 :: z78 :: [] : List Value).toArray), []⟩ V := by
 obtain ⟨i3, hi3, hz30, hz31, hz32⟩ := info_parts Tryz.info3
 have hgV := hgt.lt
 have HSK := Lq hSK
 have HWL : Hid (∀ g, V.heap.size ≤ g → some g ≠ vW.ownBlock ∧ some g ≠ vL.ownBlock) := Lq fun g hge => ⟨fun e => by have := (hW.lt _ e.symm).2; omega, fun e => by have := (hL.lt _ e.symm).2; omega⟩
 have HGT : Hid (∀ W, KeptO V W vW.ownBlock vL.ownBlock → Blk W gt 49 #[vW, vL]) := Lq fun W hk => hk.blk hgt hg1 hg2
 have T0 : Hid (TwoR base V V.drew vW.ownBlock vL.ownBlock vW vL n n xs ys) := Lq (TwoR.start hW hL hd (belowDq (belowR V)))
 have hn9 : n + 1 ≤ maxLen := by unfold maxLen; omega
 have hn8 : (n + 1) * 8 ≤ 140737488355328 := by omega
 clear hSK hgt hg1 hg2 hW hL hd
 have HS := Lq hS
 have HQ := Lq hQ
 have HB0 := Lq (belowDq (belowR V))
 clear hS hQ
 have e : regionOf Tryz.f24 10 = Code.region 10 ops24_10 true := by kernel_rfl
 rw [e]
 refine wp_region_noPanic ?_
 refine wp_region_late (S := (fun W => W.cell? ⟨gt, 0, none⟩ = some vW ∧ W.cell? ⟨gt, 1, none⟩ = some vL ∧ W.cell? ⟨gx, 3, none⟩ = some (iv v1) ∧ W.cell? ⟨gx, 5, none⟩ = some (iv v2))) (late := (fun n => n == 15)) (by kernel_rfl) ?_
 have hHeld := HS.out _ HB0.out
 have hsz : ops24_10.size = 18 := by kernel_rfl
 have hrep : Array.replicate 18 false = #[false, false, false, false, false, false, false, false, false, false, false, false, false, false, false, false, false, false] := by kernel_rfl
 rw [hsz, hrep]
 clear e hsz hrep
 generalize V.drew = V0 at HB0 T0 hHeld ⊢
 refine tkL 0 (.pointer (some ⟨gt, 0, none⟩)) ?_
 refine tkL 2 (.pointer (some ⟨gx, 2, none⟩)) ?_
 refine tkL 7 (.pointer (some ⟨gt, 1, none⟩)) ?_
 refine tkL 9 (.pointer (some ⟨gx, 5, none⟩)) ?_
 refine tkL 1 vW ?_
 refine tkL 3 (.pointer (some ⟨gx, 3, none⟩)) ?_
 refine tkL 8 vL ?_
 refine tkL 10 (.pointer (some ⟨gx, 5, none⟩)) ?_
 refine tkL 4 (iv v1) ?_
 refine tkL 11 (iv v2) ?_
 refine rdL2 5 12 (fun K' hK => ?_) fun K' hK => ?_
 ·go_simp
  have T3 := Lq (T0.out.below (belowA (belowR V0) (.cells #[iv v1] 3)))
  have L4 := Lq (Blk.new V0 3 #[iv v1])
  have hgen2 := T0.out.kept.size
  obtain ⟨w1, hww1⟩ := ex (V0.alloc (.cells #[iv v1] 3))
  obtain ⟨n2, hnn2⟩ := ex V0.heap.size
  rw [hww1] at T3 L4 ⊢
  rw [hnn2] at L4 hgen2 ⊢
  refine hK.out _ _ (HSK.out _ T3.out.kept) (fun hHeld => ?_)
  clear hww1 hnn2 T0
  clear hK
  refine rdL2 6 12 (fun K' hK => ?_) fun K' hK => ?_
  ·refine step_append_lies w1 (by rfl) _ _ _ (by rfl) base 3 i3 _ 1 8 Tryz.underlying47 hi3 hz30 hz31 hz32 rfl (by omega) _ n _ (by rfl) T3.out.ow ⟨n2, 0, none⟩ 1 1 [iv v1] (by rfl) (by rfl) (news_blk L4.out) (by simp [Value.oneCell']) (by omega) hn9 hn8 (Nat.le_trans hbase T3.out.kept.size) _ rfl ?_
   intro g7 c8 w5 hown hgrow hat hlt
   have T6 := Lq (T3.out.growW hgrow hown hat)
   refine hK.out _ _ (HSK.out _ T6.out.kept) (fun hHeld => ?_)
   clear hown hgrow hat hlt T3
   clear hK
   refine tkL 14 (.pointer (some ⟨gt, 0, none⟩)) ?_
   refine rdL1 12 fun K' hK => ?_
   go_simp
   have T11 := Lq (T6.out.below (belowA (belowR w5) (.cells #[iv v2] 3)))
   have L12 := Lq (Blk.new w5 3 #[iv v2])
   have hgen10 := T6.out.kept.size
   obtain ⟨w9, hww9⟩ := ex (w5.alloc (.cells #[iv v2] 3))
   obtain ⟨n10, hnn10⟩ := ex w5.heap.size
   rw [hww9] at T11 L12 ⊢
   rw [hnn10] at L12 hgen10 ⊢
   refine hK.out _ _ (HSK.out _ T11.out.kept) (fun hHeld => ?_)
   clear hww9 hnn10 T6
   clear hK
   refine rdL1 13 fun K' hK => ?_
   refine step_append_lies w9 (by rfl) _ _ _ (by rfl) base 3 i3 _ 1 8 Tryz.underlying47 hi3 hz30 hz31 hz32 rfl (by omega) _ n _ (by rfl) T11.out.ol ⟨n10, 0, none⟩ 1 1 [iv v2] (by rfl) (by rfl) (news_blk L12.out) (by simp [Value.oneCell']) (by omega) hn9 hn8 (Nat.le_trans hbase T11.out.kept.size) _ rfl ?_
   intro g15 c16 w13 hown hgrow hat hlt
   have T14 := Lq (T11.out.growL hgrow hown hat)
   refine hK.out _ _ (HSK.out _ T14.out.kept) (fun hHeld => ?_)
   clear hown hgrow hat hlt T11
   clear hK
   refine rdT 15 fun K' hK => ?_
   have bg := HGT.out _ T14.out.kept
   have cg := bg.c 0
   have fg := bg.frozen 0
   have lg := bg.lt
   go_simp
   refine hK.out _ _ ?_
   clear cg fg lg
   clear hK
   refine wpAny_of_held (S := fun _ => True) _ _ _ _ ?_
   refine tk 16 (.pointer (some ⟨gt, 1, none⟩)) ?_
   refine rd1 17 fun K' hK => ?_
   have b2 := bg.set_ 0 (.slice (some ⟨g7, 0, none⟩) (n + 1) c8)
   have cg := b2.cell 1
   have fg := b2.frozen 1
   have lg := b2.lt
   simp only [List.setIfInBounds_toArray, List.set_cons_zero, List.getElem?_toArray, List.getElem?_cons_zero, List.getElem?_cons_succ] at cg
   go_simp
   refine hK.out _ _ trivial (fun _ => ?_)
   clear cg fg lg b2
   clear hK
   refine wpAnyH_done (by kernel_rfl) ?_ _
   exact NoPanic.normal (HQ.out _ _ _ _ _ _ _ _ _ _ _ _ _ _ _ _ _ ⟨g7, c8, g15, c16, _, T14.out, rfl⟩)
  ·go_simp
   have T19 := Lq (T3.out.below (belowA (belowR w1) (.cells #[iv v2] 3)))
   have L20 := Lq (Blk.new w1 3 #[iv v2])
   have L21 := Lq (L4.out.alloc (.cells #[iv v2] 3))
   have hgen18 := T3.out.kept.size
   obtain ⟨w17, hww17⟩ := ex (w1.alloc (.cells #[iv v2] 3))
   obtain ⟨n18, hnn18⟩ := ex w1.heap.size
   rw [hww17] at T19 L20 L21 ⊢
   rw [hnn18] at L20 hgen18 ⊢
   refine hK.out _ _ (HSK.out _ T19.out.kept) (fun hHeld => ?_)
   clear hww17 hnn18 T3
   clear hK
   refine rdL1 6 fun K' hK => ?_
   refine step_append_lies w17 (by rfl) _ _ _ (by rfl) base 3 i3 _ 1 8 Tryz.underlying47 hi3 hz30 hz31 hz32 rfl (by omega) _ n _ (by rfl) T19.out.ow ⟨n2, 0, none⟩ 1 1 [iv v1] (by rfl) (by rfl) (news_blk L21.out) (by simp [Value.oneCell']) (by omega) hn9 hn8 (Nat.le_trans hbase T19.out.kept.size) _ rfl ?_
   intro g24 c25 w22 hown hgrow hat hlt
   have T23 := Lq (T19.out.growW hgrow hown hat)
   have L26 := Lq (L20.out.grown hgrow (HWL.out n18 hgen18).1)
   refine hK.out _ _ (HSK.out _ T23.out.kept) (fun hHeld => ?_)
   clear hown hgrow hat hlt T19
   clear hK
   refine tkL 14 (.pointer (some ⟨gt, 0, none⟩)) ?_
   refine rdL1 13 fun K' hK => ?_
   refine step_append_lies w22 (by rfl) _ _ _ (by rfl) base 3 i3 _ 1 8 Tryz.underlying47 hi3 hz30 hz31 hz32 rfl (by omega) _ n _ (by rfl) T23.out.ol ⟨n18, 0, none⟩ 1 1 [iv v2] (by rfl) (by rfl) (news_blk L26.out) (by simp [Value.oneCell']) (by omega) hn9 hn8 (Nat.le_trans hbase T23.out.kept.size) _ rfl ?_
   intro g29 c30 w27 hown hgrow hat hlt
   have T28 := Lq (T23.out.growL hgrow hown hat)
   refine hK.out _ _ (HSK.out _ T28.out.kept) (fun hHeld => ?_)
   clear hown hgrow hat hlt T23
   clear hK
   refine rdT 15 fun K' hK => ?_
   have bg := HGT.out _ T28.out.kept
   have cg := bg.c 0
   have fg := bg.frozen 0
   have lg := bg.lt
   go_simp
   refine hK.out _ _ ?_
   clear cg fg lg
   clear hK
   refine wpAny_of_held (S := fun _ => True) _ _ _ _ ?_
   refine tk 16 (.pointer (some ⟨gt, 1, none⟩)) ?_
   refine rd1 17 fun K' hK => ?_
   have b2 := bg.set_ 0 (.slice (some ⟨g24, 0, none⟩) (n + 1) c25)
   have cg := b2.cell 1
   have fg := b2.frozen 1
   have lg := b2.lt
   simp only [List.setIfInBounds_toArray, List.set_cons_zero, List.getElem?_toArray, List.getElem?_cons_zero, List.getElem?_cons_succ] at cg
   go_simp
   refine hK.out _ _ trivial (fun _ => ?_)
   clear cg fg lg b2
   clear hK
   refine wpAnyH_done (by kernel_rfl) ?_ _
   exact NoPanic.normal (HQ.out _ _ _ _ _ _ _ _ _ _ _ _ _ _ _ _ _ ⟨g24, c25, g29, c30, _, T28.out, rfl⟩)
 ·go_simp
  have T33 := Lq (T0.out.below (belowA (belowR V0) (.cells #[iv v2] 3)))
  have L34 := Lq (Blk.new V0 3 #[iv v2])
  have hgen32 := T0.out.kept.size
  obtain ⟨w31, hww31⟩ := ex (V0.alloc (.cells #[iv v2] 3))
  obtain ⟨n32, hnn32⟩ := ex V0.heap.size
  rw [hww31] at T33 L34 ⊢
  rw [hnn32] at L34 hgen32 ⊢
  refine hK.out _ _ (HSK.out _ T33.out.kept) (fun hHeld => ?_)
  clear hww31 hnn32 T0
  clear hK
  refine rdL1 5 fun K' hK => ?_
  go_simp
  have T37 := Lq (T33.out.below (belowA (belowR w31) (.cells #[iv v1] 3)))
  have L38 := Lq (Blk.new w31 3 #[iv v1])
  have L39 := Lq (L34.out.alloc (.cells #[iv v1] 3))
  have hgen36 := T33.out.kept.size
  obtain ⟨w35, hww35⟩ := ex (w31.alloc (.cells #[iv v1] 3))
  obtain ⟨n36, hnn36⟩ := ex w31.heap.size
  rw [hww35] at T37 L38 L39 ⊢
  rw [hnn36] at L38 hgen36 ⊢
  refine hK.out _ _ (HSK.out _ T37.out.kept) (fun hHeld => ?_)
  clear hww35 hnn36 T33
  clear hK
  refine rdL1 6 fun K' hK => ?_
  refine step_append_lies w35 (by rfl) _ _ _ (by rfl) base 3 i3 _ 1 8 Tryz.underlying47 hi3 hz30 hz31 hz32 rfl (by omega) _ n _ (by rfl) T37.out.ow ⟨n36, 0, none⟩ 1 1 [iv v1] (by rfl) (by rfl) (news_blk L38.out) (by simp [Value.oneCell']) (by omega) hn9 hn8 (Nat.le_trans hbase T37.out.kept.size) _ rfl ?_
  intro g42 c43 w40 hown hgrow hat hlt
  have T41 := Lq (T37.out.growW hgrow hown hat)
  have L44 := Lq (L39.out.grown hgrow (HWL.out n32 hgen32).1)
  refine hK.out _ _ (HSK.out _ T41.out.kept) (fun hHeld => ?_)
  clear hown hgrow hat hlt T37
  clear hK
  refine tkL 14 (.pointer (some ⟨gt, 0, none⟩)) ?_
  refine rdL1 13 fun K' hK => ?_
  refine step_append_lies w40 (by rfl) _ _ _ (by rfl) base 3 i3 _ 1 8 Tryz.underlying47 hi3 hz30 hz31 hz32 rfl (by omega) _ n _ (by rfl) T41.out.ol ⟨n32, 0, none⟩ 1 1 [iv v2] (by rfl) (by rfl) (news_blk L44.out) (by simp [Value.oneCell']) (by omega) hn9 hn8 (Nat.le_trans hbase T41.out.kept.size) _ rfl ?_
  intro g47 c48 w45 hown hgrow hat hlt
  have T46 := Lq (T41.out.growL hgrow hown hat)
  refine hK.out _ _ (HSK.out _ T46.out.kept) (fun hHeld => ?_)
  clear hown hgrow hat hlt T41
  clear hK
  refine rdT 15 fun K' hK => ?_
  have bg := HGT.out _ T46.out.kept
  have cg := bg.c 0
  have fg := bg.frozen 0
  have lg := bg.lt
  go_simp
  refine hK.out _ _ ?_
  clear cg fg lg
  clear hK
  refine wpAny_of_held (S := fun _ => True) _ _ _ _ ?_
  refine tk 16 (.pointer (some ⟨gt, 1, none⟩)) ?_
  refine rd1 17 fun K' hK => ?_
  have b2 := bg.set_ 0 (.slice (some ⟨g42, 0, none⟩) (n + 1) c43)
  have cg := b2.cell 1
  have fg := b2.frozen 1
  have lg := b2.lt
  simp only [List.setIfInBounds_toArray, List.set_cons_zero, List.getElem?_toArray, List.getElem?_cons_zero, List.getElem?_cons_succ] at cg
  go_simp
  refine hK.out _ _ trivial (fun _ => ?_)
  clear cg fg lg b2
  clear hK
  refine wpAnyH_done (by kernel_rfl) ?_ _
  exact NoPanic.normal (HQ.out _ _ _ _ _ _ _ _ _ _ _ _ _ _ _ _ _ ⟨g42, c43, g47, c48, _, T46.out, rfl⟩)
noncomputable def ops24_11 : Array Oper := opsOf (regionOf Tryz.f24 11)
theorem reg24_11 {Q : Exit → Act → World → Prop} {V : World} {base gt gx n : Nat} {vW vL : Value} {v1 v2 : Int} {xs ys : List Value} {z0 z1 z2 z3 z5 z6 z7 z8 z9 z11 z12 z13 z14 z15 z16 z17 z18 z19 z20 z21 z22 z23 z24 z25 z26 z27 z28 z29 z30 z31 z32 z33 z34 z35 z36 z37 z38 z39 z40 z41 z42 z43 z44 z45 z46 z47 z48 z49 z50 z51 z52 z53 z54 z55 z56 z57 z58 z59 z60 z61 z62 z63 z64 z65 z66 z67 z68 z69 z70 z71 z72 z73 z74 z75 z76 z77 z78 : Value} (hn : n + 1 ≤ 100) (hbase : base ≤ V.heap.size) (hW : V.ownsRow base 3 1 vW n xs) (hL : V.ownsRow base 3 1 vL n ys) (hd : ∀ g, vW.ownBlock = some g → vL.ownBlock ≠ some g)
  (hgt : Blk V gt 49 #[vW, vL]) (hg1 : some gt ≠ vW.ownBlock) (hg2 : some gt ≠ vL.ownBlock)
  (hSK : ∀ W, KeptO V W vW.ownBlock vL.ownBlock → W.cell? ⟨gt, 0, none⟩ = some vW ∧ W.cell? ⟨gt, 1, none⟩ = some vL ∧ W.cell? ⟨gx, 2, none⟩ = some (iv v1) ∧ W.cell? ⟨gx, 6, none⟩ = some (iv v2))
  (hS : ∀ W, BW V W → W.cell? ⟨gt, 0, none⟩ = some vW ∧ W.cell? ⟨gt, 1, none⟩ = some vL ∧ W.cell? ⟨gx, 2, none⟩ = some (iv v1) ∧ W.cell? ⟨gx, 6, none⟩ = some (iv v2))
  (hQ : ∀  u60 u61 u62 u63 u64 u65 u66 u67 u68 u69 u70 u71 u72 u73 u74 u75 wx, (∃ g c g2 c2 W, TwoR base V W vW.ownBlock vL.ownBlock (.slice (some ⟨g, 0, none⟩) (n + 1) c) (.slice (some ⟨g2, 0, none⟩) (n + 1) c2) (n + 1) (n + 1) (xs ++ [iv v1]) (ys ++ [iv v2]) ∧ wx = (W.setCell ⟨gt, 0, none⟩ (.slice (some ⟨g, 0, none⟩) (n + 1) c)).setCell ⟨gt, 1, none⟩ (.slice (some ⟨g2, 0, none⟩) (n + 1) c2)) → Q .normal ⟨((z0 :: z1 :: z2 :: z3 :: (.pointer (some ⟨gt, 0, none⟩)) :: z5 :: z6 :: z7 :: z8 :: z9 :: (.pointer (some ⟨gx, 0, none⟩)) :: z11 :: z12 :: z13 :: z14 :: z15 :: z16 :: z17 :: z18 :: z19 :: z20 :: z21 :: z22 :: z23 :: z24 :: z25 :: z26 :: z27 :: z28 :: z29 :: z30 :: z31 :: z32 :: z33 :: z34 :: z35 :: z36 :: z37 :: z38 :: z39 :: z40 :: z41 :: z42 :: z43 :: z44 :: z45 :: z46 :: z47 :: z48 :: z49 :: z50 :: z51 :: z52 :: z53 :: z54 :: z55 :: z56 :: z57 :: z58 :: z59 :: u60 :: u61 :: u62 :: u63 :: u64 :: u65 :: u66 :: u67 :: u68 :: u69 :: u70 :: u71 :: u72 :: u73 :: u74 :: u75 :: z76 :: z77 :: z78 :: [] : List Value).toArray), []⟩ wx) :
  (regionOf Tryz.f24 11).wp Tryz.prog Q ⟨((z0 :: z1 :: z2 :: z3 :: (.pointer (some ⟨gt, 0, none⟩)) :: z5 :: z6 :: z7 :: z8 :: z9 :: (.pointer (some ⟨gx, 0, none⟩)) :: z11 :: z12 :: z13 :: z14 :: z15 :: z16 :: z17 :: z18 :: z19 :: z20 :: z21 :: z22 :: z23 :: z24 :: z25 :: z26 :: z27 :: z28 :: z29 :: z30 :: z31 :: z32 :: z33 :: z34 :: z35 :: z36 :: z37 :: z38 :: z39 :: z40 :: z41 :: z42 :: z43 :: z44 :: z45 :: z46 :: z47 :: z48 :: z49 :: z50 :: z51 :: z52 :: z53 :: z54 :: z55 :: z56 :: z57 :: z58 :: z59 :: z60 :: z61 :: z62 :: z63 :: z64 :: z65 :: z66 :: z67 :: z68 :: z69 :: z70 :: z71 :: z72 :: z73 :: z74 :: z75 :: z76 :: z77 :: z78 :: [] : List Value).toArray), []⟩ V := by
 obtain ⟨i3, hi3, hz30, hz31, hz32⟩ := info_parts Tryz.info3
 have hgV := hgt.lt
 have HSK := Lq hSK
 have HWL : Hid (∀ g, V.heap.size ≤ g → some g ≠ vW.ownBlock ∧ some g ≠ vL.ownBlock) := Lq fun g hge => ⟨fun e => by have := (hW.lt _ e.symm).2; omega, fun e => by have := (hL.lt _ e.symm).2; omega⟩
 have HGT : Hid (∀ W, KeptO V W vW.ownBlock vL.ownBlock → Blk W gt 49 #[vW, vL]) := Lq fun W hk => hk.blk hgt hg1 hg2
 have T0 : Hid (TwoR base V V.drew vW.ownBlock vL.ownBlock vW vL n n xs ys) := Lq (TwoR.start hW hL hd (belowDq (belowR V)))
 have hn9 : n + 1 ≤ maxLen := by unfold maxLen; omega
 have hn8 : (n + 1) * 8 ≤ 140737488355328 := by omega
 clear hSK hgt hg1 hg2 hW hL hd
 have HS := Lq hS
 have HQ := Lq hQ
 have HB0 := Lq (belowDq (belowR V))
 clear hS hQ
 have e : regionOf Tryz.f24 11 = Code.region 11 ops24_11 true := by kernel_rfl
 rw [e]
 refine wp_region_noPanic ?_
 refine wp_region_late (S := (fun W => W.cell? ⟨gt, 0, none⟩ = some vW ∧ W.cell? ⟨gt, 1, none⟩ = some vL ∧ W.cell? ⟨gx, 2, none⟩ = some (iv v1) ∧ W.cell? ⟨gx, 6, none⟩ = some (iv v2))) (late := (fun n => n == 15)) (by kernel_rfl) ?_
 have hHeld := HS.out _ HB0.out
 have hsz : ops24_11.size = 18 := by kernel_rfl
 have hrep : Array.replicate 18 false = #[false, false, false, false, false, false, false, false, false, false, false, false, false, false, false, false, false, false] := by kernel_rfl
 rw [hsz, hrep]
 clear e hsz hrep
 generalize V.drew = V0 at HB0 T0 hHeld ⊢
 refine tkL 0 (.pointer (some ⟨gt, 0, none⟩)) ?_
 refine tkL 2 (.pointer (some ⟨gx, 2, none⟩)) ?_
 refine tkL 7 (.pointer (some ⟨gt, 1, none⟩)) ?_
 refine tkL 9 (.pointer (some ⟨gx, 5, none⟩)) ?_
 refine tkL 1 vW ?_
 refine tkL 3 (.pointer (some ⟨gx, 2, none⟩)) ?_
 refine tkL 8 vL ?_
 refine tkL 10 (.pointer (some ⟨gx, 6, none⟩)) ?_
 refine tkL 4 (iv v1) ?_
 refine tkL 11 (iv v2) ?_
 refine rdL2 5 12 (fun K' hK => ?_) fun K' hK => ?_
 ·go_simp
  have T51 := Lq (T0.out.below (belowA (belowR V0) (.cells #[iv v1] 3)))
  have L52 := Lq (Blk.new V0 3 #[iv v1])
  have hgen50 := T0.out.kept.size
  obtain ⟨w49, hww49⟩ := ex (V0.alloc (.cells #[iv v1] 3))
  obtain ⟨n50, hnn50⟩ := ex V0.heap.size
  rw [hww49] at T51 L52 ⊢
  rw [hnn50] at L52 hgen50 ⊢
  refine hK.out _ _ (HSK.out _ T51.out.kept) (fun hHeld => ?_)
  clear hww49 hnn50 T0
  clear hK
  refine rdL2 6 12 (fun K' hK => ?_) fun K' hK => ?_
  ·refine step_append_lies w49 (by rfl) _ _ _ (by rfl) base 3 i3 _ 1 8 Tryz.underlying47 hi3 hz30 hz31 hz32 rfl (by omega) _ n _ (by rfl) T51.out.ow ⟨n50, 0, none⟩ 1 1 [iv v1] (by rfl) (by rfl) (news_blk L52.out) (by simp [Value.oneCell']) (by omega) hn9 hn8 (Nat.le_trans hbase T51.out.kept.size) _ rfl ?_
   intro g55 c56 w53 hown hgrow hat hlt
   have T54 := Lq (T51.out.growW hgrow hown hat)
   refine hK.out _ _ (HSK.out _ T54.out.kept) (fun hHeld => ?_)
   clear hown hgrow hat hlt T51
   clear hK
   refine tkL 14 (.pointer (some ⟨gt, 0, none⟩)) ?_
   refine rdL1 12 fun K' hK => ?_
   go_simp
   have T59 := Lq (T54.out.below (belowA (belowR w53) (.cells #[iv v2] 3)))
   have L60 := Lq (Blk.new w53 3 #[iv v2])
   have hgen58 := T54.out.kept.size
   obtain ⟨w57, hww57⟩ := ex (w53.alloc (.cells #[iv v2] 3))
   obtain ⟨n58, hnn58⟩ := ex w53.heap.size
   rw [hww57] at T59 L60 ⊢
   rw [hnn58] at L60 hgen58 ⊢
   refine hK.out _ _ (HSK.out _ T59.out.kept) (fun hHeld => ?_)
   clear hww57 hnn58 T54
   clear hK
   refine rdL1 13 fun K' hK => ?_
   refine step_append_lies w57 (by rfl) _ _ _ (by rfl) base 3 i3 _ 1 8 Tryz.underlying47 hi3 hz30 hz31 hz32 rfl (by omega) _ n _ (by rfl) T59.out.ol ⟨n58, 0, none⟩ 1 1 [iv v2] (by rfl) (by rfl) (news_blk L60.out) (by simp [Value.oneCell']) (by omega) hn9 hn8 (Nat.le_trans hbase T59.out.kept.size) _ rfl ?_
   intro g63 c64 w61 hown hgrow hat hlt
   have T62 := Lq (T59.out.growL hgrow hown hat)
   refine hK.out _ _ (HSK.out _ T62.out.kept) (fun hHeld => ?_)
   clear hown hgrow hat hlt T59
   clear hK
   refine rdT 15 fun K' hK => ?_
   have bg := HGT.out _ T62.out.kept
   have cg := bg.c 0
   have fg := bg.frozen 0
   have lg := bg.lt
   go_simp
   refine hK.out _ _ ?_
   clear cg fg lg
   clear hK
   refine wpAny_of_held (S := fun _ => True) _ _ _ _ ?_
   refine tk 16 (.pointer (some ⟨gt, 1, none⟩)) ?_
   refine rd1 17 fun K' hK => ?_
   have b2 := bg.set_ 0 (.slice (some ⟨g55, 0, none⟩) (n + 1) c56)
   have cg := b2.cell 1
   have fg := b2.frozen 1
   have lg := b2.lt
   simp only [List.setIfInBounds_toArray, List.set_cons_zero, List.getElem?_toArray, List.getElem?_cons_zero, List.getElem?_cons_succ] at cg
   go_simp
   refine hK.out _ _ trivial (fun _ => ?_)
   clear cg fg lg b2
   clear hK
   refine wpAnyH_done (by kernel_rfl) ?_ _
   exact NoPanic.normal (HQ.out _ _ _ _ _ _ _ _ _ _ _ _ _ _ _ _ _ ⟨g55, c56, g63, c64, _, T62.out, rfl⟩)
  ·go_simp
   have T67 := Lq (T51.out.below (belowA (belowR w49) (.cells #[iv v2] 3)))
   have L68 := Lq (Blk.new w49 3 #[iv v2])
   have L69 := Lq (L52.out.alloc (.cells #[iv v2] 3))
   have hgen66 := T51.out.kept.size
   obtain ⟨w65, hww65⟩ := ex (w49.alloc (.cells #[iv v2] 3))
   obtain ⟨n66, hnn66⟩ := ex w49.heap.size
   rw [hww65] at T67 L68 L69 ⊢
   rw [hnn66] at L68 hgen66 ⊢
   refine hK.out _ _ (HSK.out _ T67.out.kept) (fun hHeld => ?_)
   clear hww65 hnn66 T51
   clear hK
   refine rdL1 6 fun K' hK => ?_
   refine step_append_lies w65 (by rfl) _ _ _ (by rfl) base 3 i3 _ 1 8 Tryz.underlying47 hi3 hz30 hz31 hz32 rfl (by omega) _ n _ (by rfl) T67.out.ow ⟨n50, 0, none⟩ 1 1 [iv v1] (by rfl) (by rfl) (news_blk L69.out) (by simp [Value.oneCell']) (by omega) hn9 hn8 (Nat.le_trans hbase T67.out.kept.size) _ rfl ?_
   intro g72 c73 w70 hown hgrow hat hlt
   have T71 := Lq (T67.out.growW hgrow hown hat)
   have L74 := Lq (L68.out.grown hgrow (HWL.out n66 hgen66).1)
   refine hK.out _ _ (HSK.out _ T71.out.kept) (fun hHeld => ?_)
   clear hown hgrow hat hlt T67
   clear hK
   refine tkL 14 (.pointer (some ⟨gt, 0, none⟩)) ?_
   refine rdL1 13 fun K' hK => ?_
   refine step_append_lies w70 (by rfl) _ _ _ (by rfl) base 3 i3 _ 1 8 Tryz.underlying47 hi3 hz30 hz31 hz32 rfl (by omega) _ n _ (by rfl) T71.out.ol ⟨n66, 0, none⟩ 1 1 [iv v2] (by rfl) (by rfl) (news_blk L74.out) (by simp [Value.oneCell']) (by omega) hn9 hn8 (Nat.le_trans hbase T71.out.kept.size) _ rfl ?_
   intro g77 c78 w75 hown hgrow hat hlt
   have T76 := Lq (T71.out.growL hgrow hown hat)
   refine hK.out _ _ (HSK.out _ T76.out.kept) (fun hHeld => ?_)
   clear hown hgrow hat hlt T71
   clear hK
   refine rdT 15 fun K' hK => ?_
   have bg := HGT.out _ T76.out.kept
   have cg := bg.c 0
   have fg := bg.frozen 0
   have lg := bg.lt
   go_simp
   refine hK.out _ _ ?_
   clear cg fg lg
   clear hK
   refine wpAny_of_held (S := fun _ => True) _ _ _ _ ?_
   refine tk 16 (.pointer (some ⟨gt, 1, none⟩)) ?_
   refine rd1 17 fun K' hK => ?_
   have b2 := bg.set_ 0 (.slice (some ⟨g72, 0, none⟩) (n + 1) c73)
   have cg := b2.cell 1
   have fg := b2.frozen 1
   have lg := b2.lt
   simp only [List.setIfInBounds_toArray, List.set_cons_zero, List.getElem?_toArray, List.getElem?_cons_zero, List.getElem?_cons_succ] at cg
   go_simp
   refine hK.out _ _ trivial (fun _ => ?_)
   clear cg fg lg b2
   clear hK
   refine wpAnyH_done (by kernel_rfl) ?_ _
   exact NoPanic.normal (HQ.out _ _ _ _ _ _ _ _ _ _ _ _ _ _ _ _ _ ⟨g72, c73, g77, c78, _, T76.out, rfl⟩)
 ·go_simp
  have T81 := Lq (T0.out.below (belowA (belowR V0) (.cells #[iv v2] 3)))
  have L82 := Lq (Blk.new V0 3 #[iv v2])
  have hgen80 := T0.out.kept.size
  obtain ⟨w79, hww79⟩ := ex (V0.alloc (.cells #[iv v2] 3))
  obtain ⟨n80, hnn80⟩ := ex V0.heap.size
  rw [hww79] at T81 L82 ⊢
  rw [hnn80] at L82 hgen80 ⊢
  refine hK.out _ _ (HSK.out _ T81.out.kept) (fun hHeld => ?_)
  clear hww79 hnn80 T0
  clear hK
  refine rdL1 5 fun K' hK => ?_
  go_simp
  have T85 := Lq (T81.out.below (belowA (belowR w79) (.cells #[iv v1] 3)))
  have L86 := Lq (Blk.new w79 3 #[iv v1])
  have L87 := Lq (L82.out.alloc (.cells #[iv v1] 3))
  have hgen84 := T81.out.kept.size
  obtain ⟨w83, hww83⟩ := ex (w79.alloc (.cells #[iv v1] 3))
  obtain ⟨n84, hnn84⟩ := ex w79.heap.size
  rw [hww83] at T85 L86 L87 ⊢
  rw [hnn84] at L86 hgen84 ⊢
  refine hK.out _ _ (HSK.out _ T85.out.kept) (fun hHeld => ?_)
  clear hww83 hnn84 T81
  clear hK
  refine rdL1 6 fun K' hK => ?_
  refine step_append_lies w83 (by rfl) _ _ _ (by rfl) base 3 i3 _ 1 8 Tryz.underlying47 hi3 hz30 hz31 hz32 rfl (by omega) _ n _ (by rfl) T85.out.ow ⟨n84, 0, none⟩ 1 1 [iv v1] (by rfl) (by rfl) (news_blk L86.out) (by simp [Value.oneCell']) (by omega) hn9 hn8 (Nat.le_trans hbase T85.out.kept.size) _ rfl ?_
  intro g90 c91 w88 hown hgrow hat hlt
  have T89 := Lq (T85.out.growW hgrow hown hat)
  have L92 := Lq (L87.out.grown hgrow (HWL.out n80 hgen80).1)
  refine hK.out _ _ (HSK.out _ T89.out.kept) (fun hHeld => ?_)
  clear hown hgrow hat hlt T85
  clear hK
  refine tkL 14 (.pointer (some ⟨gt, 0, none⟩)) ?_
  refine rdL1 13 fun K' hK => ?_
  refine step_append_lies w88 (by rfl) _ _ _ (by rfl) base 3 i3 _ 1 8 Tryz.underlying47 hi3 hz30 hz31 hz32 rfl (by omega) _ n _ (by rfl) T89.out.ol ⟨n80, 0, none⟩ 1 1 [iv v2] (by rfl) (by rfl) (news_blk L92.out) (by simp [Value.oneCell']) (by omega) hn9 hn8 (Nat.le_trans hbase T89.out.kept.size) _ rfl ?_
  intro g95 c96 w93 hown hgrow hat hlt
  have T94 := Lq (T89.out.growL hgrow hown hat)
  refine hK.out _ _ (HSK.out _ T94.out.kept) (fun hHeld => ?_)
  clear hown hgrow hat hlt T89
  clear hK
  refine rdT 15 fun K' hK => ?_
  have bg := HGT.out _ T94.out.kept
  have cg := bg.c 0
  have fg := bg.frozen 0
  have lg := bg.lt
  go_simp
  refine hK.out _ _ ?_
  clear cg fg lg
  clear hK
  refine wpAny_of_held (S := fun _ => True) _ _ _ _ ?_
  refine tk 16 (.pointer (some ⟨gt, 1, none⟩)) ?_
  refine rd1 17 fun K' hK => ?_
  have b2 := bg.set_ 0 (.slice (some ⟨g90, 0, none⟩) (n + 1) c91)
  have cg := b2.cell 1
  have fg := b2.frozen 1
  have lg := b2.lt
  simp only [List.setIfInBounds_toArray, List.set_cons_zero, List.getElem?_toArray, List.getElem?_cons_zero, List.getElem?_cons_succ] at cg
  go_simp
  refine hK.out _ _ trivial (fun _ => ?_)
  clear cg fg lg b2
  clear hK
  refine wpAnyH_done (by kernel_rfl) ?_ _
  exact NoPanic.normal (HQ.out _ _ _ _ _ _ _ _ _ _ _ _ _ _ _ _ _ ⟨g90, c91, g95, c96, _, T94.out, rfl⟩)
noncomputable def ops8_5 : Array Oper := opsOf (regionOf Tryz.f8 5)
theorem reg8_5 {Q : Exit → Act → World → Prop} {V : World} {base gt g2 n1 n2 b o1 N cap i ul capU : Nat} {AU : Option Addr} {vW vL : Value} {lo hi D T M : Int} {xs ys : List Value} {z0 z3 z4 z7 z8 z9 z10 z11 z12 z13 z14 z15 z16 z17 z18 z19 z20 z21 z22 z23 z24 z25 z26 z27 z28 z29 z30 z31 z32 z33 z34 z35 z36 z37 z38 z39 z40 z41 z42 z43 z44 z45 z46 z47 : Value} (hn1 : n1 + 1 ≤ 100) (hbase : base ≤ V.heap.size) (hW : V.ownsRow base 3 1 vW n1 xs) (hL : V.ownsRow base 3 1 vL n2 ys) (hd : ∀ g, vW.ownBlock = some g → vL.ownBlock ≠ some g)
  (hgt : Blk V gt 49 #[vW, vL]) (hg1 : some gt ≠ vW.ownBlock) (hg2 : some gt ≠ vL.ownBlock)
  (hiN : i < N) (hwD : IntKind.i64.wrap (2 * (i : Int)) = D)
  (h46 : ∀ W, BW V W → Calls Tryz.prog 46 #[.slice AU ul capU, iv D] W (Rt W (iv T)))
  (h45 : ∀ W, BW V W → Calls Tryz.prog 45 #[.agg #[iv lo, iv hi], iv T] W (Rt W (iv M)))
  (hSK : ∀ W, KeptO V W vW.ownBlock vL.ownBlock → W.cell? ⟨gt, 0, none⟩ = some vW ∧ W.cell? ⟨gt, 1, none⟩ = some vL ∧ W.cell? ⟨g2, 0, none⟩ = some (.slice (some ⟨b, o1, none⟩) N cap) ∧ W.cell? ⟨b, o1 + i * 7 + 2, none⟩ = some (iv lo) ∧ W.cell? ⟨b, o1 + i * 7 + 3, none⟩ = some (iv hi))
  (hS : ∀ W, BW V W → W.cell? ⟨gt, 0, none⟩ = some vW ∧ W.cell? ⟨gt, 1, none⟩ = some vL ∧ W.cell? ⟨g2, 0, none⟩ = some (.slice (some ⟨b, o1, none⟩) N cap) ∧ W.cell? ⟨b, o1 + i * 7 + 2, none⟩ = some (iv lo) ∧ W.cell? ⟨b, o1 + i * 7 + 3, none⟩ = some (iv hi))
  (hQ : ∀  u14 u15 u16 u17 u18 u19 u20 u21 u22 u23 u24 u25 u26 u27 u28 u29 wx, (∃ g c W, TwoR base V W vW.ownBlock vL.ownBlock (.slice (some ⟨g, 0, none⟩) (n1 + 1) c) vL (n1 + 1) n2 (xs ++ [iv M]) ys ∧ wx = W.setCell ⟨gt, 0, none⟩ (.slice (some ⟨g, 0, none⟩) (n1 + 1) c)) → Q .normal ⟨#[z0, .slice AU ul capU, .pointer (some ⟨g2, 0, none⟩), z3, z4, .pointer (some ⟨gt, 0, none⟩), iv i, z7, z8, z9, z10, z11, z12, z13, u14, u15, u16, u17, u18, u19, u20, u21, u22, u23, u24, u25, u26, u27, u28, u29, z30, z31, z32, z33, z34, z35, z36, z37, z38, z39, z40, z41, z42, z43, z44, z45, z46, z47], []⟩ wx) :
  (regionOf Tryz.f8 5).wp Tryz.prog Q ⟨#[z0, .slice AU ul capU, .pointer (some ⟨g2, 0, none⟩), z3, z4, .pointer (some ⟨gt, 0, none⟩), iv i, z7, z8, z9, z10, z11, z12, z13, z14, z15, z16, z17, z18, z19, z20, z21, z22, z23, z24, z25, z26, z27, z28, z29, z30, z31, z32, z33, z34, z35, z36, z37, z38, z39, z40, z41, z42, z43, z44, z45, z46, z47], []⟩ V := by
 obtain ⟨i3, hi3, hz30, hz31, hz32⟩ := info_parts Tryz.info3
 have hgV := hgt.lt
 have HSK := Lq hSK
 have HWL : Hid (∀ g, V.heap.size ≤ g → some g ≠ vW.ownBlock ∧ some g ≠ vL.ownBlock) := Lq fun g hge => ⟨fun e => by have := (hW.lt _ e.symm).2; omega, fun e => by have := (hL.lt _ e.symm).2; omega⟩
 have HGT : Hid (∀ W, KeptO V W vW.ownBlock vL.ownBlock → Blk W gt 49 #[vW, vL]) := Lq fun W hk => hk.blk hgt hg1 hg2
 have T0 : Hid (TwoR base V V.drew vW.ownBlock vL.ownBlock vW vL n1 n2 xs ys) := Lq (TwoR.start hW hL hd (belowDq (belowR V)))
 have hn9 : n1 + 1 ≤ maxLen := by unfold maxLen; omega
 have hn8 : (n1 + 1) * 8 ≤ 140737488355328 := by omega
 have hk0 : (0 : Int) ≤ (i : Int) := by omega
 have hkz : (i : Int) < (N : Int) := by omega
 have H46 := Lq h46
 have H45 := Lq h45
 clear h46 h45 hSK hgt hg1 hg2 hW hL hd
 have HS := Lq hS
 have HQ := Lq hQ
 have HB0 := Lq (belowDq (belowR V))
 clear hS hQ
 have e : regionOf Tryz.f8 5 = Code.region 5 ops8_5 true := by kernel_rfl
 rw [e]
 refine wp_region_noPanic ?_
 refine wp_region_late (S := (fun W => W.cell? ⟨gt, 0, none⟩ = some vW ∧ W.cell? ⟨gt, 1, none⟩ = some vL ∧ W.cell? ⟨g2, 0, none⟩ = some (.slice (some ⟨b, o1, none⟩) N cap) ∧ W.cell? ⟨b, o1 + i * 7 + 2, none⟩ = some (iv lo) ∧ W.cell? ⟨b, o1 + i * 7 + 3, none⟩ = some (iv hi))) (late := (fun n => n == 16)) (by kernel_rfl) ?_
 have hHeld := HS.out _ HB0.out
 have hsz : ops8_5.size = 17 := by kernel_rfl
 have hrep : Array.replicate 17 false = #[false, false, false, false, false, false, false, false, false, false, false, false, false, false, false, false, false] := by kernel_rfl
 rw [hsz, hrep]
 clear e hsz hrep
 generalize V.drew = V0 at HB0 T0 hHeld ⊢
 refine tkL 0 (.pointer (some ⟨gt, 0, none⟩)) ?_
 refine tkL 2 (.pointer (some ⟨g2, 0, none⟩)) ?_
 refine tkL 4 (iv i) ?_
 refine tkL 8 (.slice AU ul capU) ?_
 refine tkL 9 (iv i) ?_
 refine tkL 1 vW ?_
 refine tkL 3 (.slice (some ⟨b, o1, none⟩) N cap) ?_
 refine tkL 10 (iv D) ?_
 refine tkL 5 (.pointer (some ⟨b, o1 + i * 7, none⟩)) ?_
 refine tkL 6 (.pointer (some ⟨b, o1 + i * 7 + 2, none⟩)) ?_
 refine tkL 7 (.agg #[iv lo, iv hi]) ?_
 refine rdL1 11 fun K' hK => ?_
 go_simp
 refine (H46.out _ HB0.out).mono ?_
 rintro e w1 ⟨rfl, hb⟩
 have T2 := Lq (T0.out.below hb)
 have HB3 := Lq (belowT HB0.out hb)
 clear hb
 refine hK.out _ _ (HSK.out _ T2.out.kept) (fun hHeld => ?_)
 clear T0
 clear hK
 refine rdL1 12 fun K' hK => ?_
 go_simp
 refine (H45.out _ HB3.out).mono ?_
 rintro e w4 ⟨rfl, hb⟩
 have T5 := Lq (T2.out.below hb)
 have HB6 := Lq (belowT HB3.out hb)
 clear hb
 refine hK.out _ _ (HSK.out _ T5.out.kept) (fun hHeld => ?_)
 clear T2
 clear hK
 refine rdL1 13 fun K' hK => ?_
 go_simp
 have T9 := Lq (T5.out.below (belowA (belowR w4) (.cells #[iv M] 3)))
 have L10 := Lq (Blk.new w4 3 #[iv M])
 have hgen8 := T5.out.kept.size
 obtain ⟨w7, hww7⟩ := ex (w4.alloc (.cells #[iv M] 3))
 obtain ⟨n8, hnn8⟩ := ex w4.heap.size
 rw [hww7] at T9 L10 ⊢
 rw [hnn8] at L10 hgen8 ⊢
 refine hK.out _ _ (HSK.out _ T9.out.kept) (fun hHeld => ?_)
 clear hww7 hnn8 T5
 clear hK
 refine rdL1 14 fun K' hK => ?_
 refine step_append_lies w7 (by rfl) _ _ _ (by rfl) base 3 i3 _ 1 8 Tryz.underlying47 hi3 hz30 hz31 hz32 rfl (by omega) _ n1 _ (by rfl) T9.out.ow ⟨n8, 0, none⟩ 1 1 [iv M] (by rfl) (by rfl) (news_blk L10.out) (by simp [Value.oneCell']) (by omega) hn9 hn8 (Nat.le_trans hbase T9.out.kept.size) _ rfl ?_
 intro g13 c14 w11 hown hgrow hat hlt
 have T12 := Lq (T9.out.growW hgrow hown hat)
 refine hK.out _ _ (HSK.out _ T12.out.kept) (fun hHeld => ?_)
 clear hown hgrow hat hlt T9
 clear hK
 refine tkL 15 (.pointer (some ⟨gt, 0, none⟩)) ?_
 refine rdT 16 fun K' hK => ?_
 have bg := HGT.out _ T12.out.kept
 have cg := bg.c 0
 have fg := bg.frozen 0
 have lg := bg.lt
 go_simp
 refine hK.out _ _ ?_
 clear cg fg lg
 clear hK
 refine wpAny_of_held (S := fun _ => True) _ _ _ _ ?_
 refine wpAnyH_done (by kernel_rfl) ?_ _
 exact NoPanic.normal (HQ.out _ _ _ _ _ _ _ _ _ _ _ _ _ _ _ _ _ ⟨g13, c14, _, T12.out, rfl⟩)
noncomputable def ops8_6 : Array Oper := opsOf (regionOf Tryz.f8 6)
theorem reg8_6 {Q : Exit → Act → World → Prop} {V : World} {base gt g2 n1 n2 b o1 N cap i ul capU : Nat} {AU : Option Addr} {vW vL : Value} {lo hi D T M : Int} {xs ys : List Value} {z0 z3 z4 z7 z8 z9 z10 z11 z12 z13 z14 z15 z16 z17 z18 z19 z20 z21 z22 z23 z24 z25 z26 z27 z28 z29 z30 z31 z32 z33 z34 z35 z36 z37 z38 z39 z40 z41 z42 z43 z44 z45 z46 z47 : Value} (hn2 : n2 + 1 ≤ 100) (hbase : base ≤ V.heap.size) (hW : V.ownsRow base 3 1 vW n1 xs) (hL : V.ownsRow base 3 1 vL n2 ys) (hd : ∀ g, vW.ownBlock = some g → vL.ownBlock ≠ some g)
  (hgt : Blk V gt 49 #[vW, vL]) (hg1 : some gt ≠ vW.ownBlock) (hg2 : some gt ≠ vL.ownBlock)
  (hiN : i < N) (hw2 : IntKind.i64.wrap (2 * (i : Int)) = 2 * (i : Int)) (hwD : IntKind.i64.wrap (2 * (i : Int) + 1) = D)
  (h46 : ∀ W, BW V W → Calls Tryz.prog 46 #[.slice AU ul capU, iv D] W (Rt W (iv T)))
  (h45 : ∀ W, BW V W → Calls Tryz.prog 45 #[.agg #[iv lo, iv hi], iv T] W (Rt W (iv M)))
  (hSK : ∀ W, KeptO V W vW.ownBlock vL.ownBlock → W.cell? ⟨gt, 0, none⟩ = some vW ∧ W.cell? ⟨gt, 1, none⟩ = some vL ∧ W.cell? ⟨g2, 0, none⟩ = some (.slice (some ⟨b, o1, none⟩) N cap) ∧ W.cell? ⟨b, o1 + i * 7 + 5, none⟩ = some (iv lo) ∧ W.cell? ⟨b, o1 + i * 7 + 6, none⟩ = some (iv hi))
  (hS : ∀ W, BW V W → W.cell? ⟨gt, 0, none⟩ = some vW ∧ W.cell? ⟨gt, 1, none⟩ = some vL ∧ W.cell? ⟨g2, 0, none⟩ = some (.slice (some ⟨b, o1, none⟩) N cap) ∧ W.cell? ⟨b, o1 + i * 7 + 5, none⟩ = some (iv lo) ∧ W.cell? ⟨b, o1 + i * 7 + 6, none⟩ = some (iv hi))
  (hQ : ∀  u30 u31 u32 u33 u34 u35 u36 u37 u38 u39 u40 u41 u42 u43 u44 u45 u46 wx, (∃ g c W, TwoR base V W vW.ownBlock vL.ownBlock vW (.slice (some ⟨g, 0, none⟩) (n2 + 1) c) n1 (n2 + 1) xs (ys ++ [iv M]) ∧ wx = W.setCell ⟨gt, 1, none⟩ (.slice (some ⟨g, 0, none⟩) (n2 + 1) c)) → Q .normal ⟨#[z0, .slice AU ul capU, .pointer (some ⟨g2, 0, none⟩), z3, z4, .pointer (some ⟨gt, 0, none⟩), iv i, z7, z8, z9, z10, z11, z12, z13, z14, z15, z16, z17, z18, z19, z20, z21, z22, z23, z24, z25, z26, z27, z28, z29, u30, u31, u32, u33, u34, u35, u36, u37, u38, u39, u40, u41, u42, u43, u44, u45, u46, z47], []⟩ wx) :
  (regionOf Tryz.f8 6).wp Tryz.prog Q ⟨#[z0, .slice AU ul capU, .pointer (some ⟨g2, 0, none⟩), z3, z4, .pointer (some ⟨gt, 0, none⟩), iv i, z7, z8, z9, z10, z11, z12, z13, z14, z15, z16, z17, z18, z19, z20, z21, z22, z23, z24, z25, z26, z27, z28, z29, z30, z31, z32, z33, z34, z35, z36, z37, z38, z39, z40, z41, z42, z43, z44, z45, z46, z47], []⟩ V := by
 obtain ⟨i3, hi3, hz30, hz31, hz32⟩ := info_parts Tryz.info3
 have hgV := hgt.lt
 have HSK := Lq hSK
 have HWL : Hid (∀ g, V.heap.size ≤ g → some g ≠ vW.ownBlock ∧ some g ≠ vL.ownBlock) := Lq fun g hge => ⟨fun e => by have := (hW.lt _ e.symm).2; omega, fun e => by have := (hL.lt _ e.symm).2; omega⟩
 have HGT : Hid (∀ W, KeptO V W vW.ownBlock vL.ownBlock → Blk W gt 49 #[vW, vL]) := Lq fun W hk => hk.blk hgt hg1 hg2
 have T0 : Hid (TwoR base V V.drew vW.ownBlock vL.ownBlock vW vL n1 n2 xs ys) := Lq (TwoR.start hW hL hd (belowDq (belowR V)))
 have hm9 : n2 + 1 ≤ maxLen := by unfold maxLen; omega
 have hm8 : (n2 + 1) * 8 ≤ 140737488355328 := by omega
 have hk0 : (0 : Int) ≤ (i : Int) := by omega
 have hkz : (i : Int) < (N : Int) := by omega
 have H46 := Lq h46
 have H45 := Lq h45
 clear h46 h45 hSK hgt hg1 hg2 hW hL hd
 have HS := Lq hS
 have HQ := Lq hQ
 have HB0 := Lq (belowDq (belowR V))
 clear hS hQ
 have e : regionOf Tryz.f8 6 = Code.region 6 ops8_6 true := by kernel_rfl
 rw [e]
 refine wp_region_noPanic ?_
 refine wp_region_late (S := (fun W => W.cell? ⟨gt, 0, none⟩ = some vW ∧ W.cell? ⟨gt, 1, none⟩ = some vL ∧ W.cell? ⟨g2, 0, none⟩ = some (.slice (some ⟨b, o1, none⟩) N cap) ∧ W.cell? ⟨b, o1 + i * 7 + 5, none⟩ = some (iv lo) ∧ W.cell? ⟨b, o1 + i * 7 + 6, none⟩ = some (iv hi))) (late := (fun n => n == 17)) (by kernel_rfl) ?_
 have hHeld := HS.out _ HB0.out
 have hsz : ops8_6.size = 18 := by kernel_rfl
 have hrep : Array.replicate 18 false = #[false, false, false, false, false, false, false, false, false, false, false, false, false, false, false, false, false, false] := by kernel_rfl
 rw [hsz, hrep]
 clear e hsz hrep
 generalize V.drew = V0 at HB0 T0 hHeld ⊢
 refine tkL 0 (.pointer (some ⟨gt, 1, none⟩)) ?_
 refine tkL 2 (.pointer (some ⟨g2, 0, none⟩)) ?_
 refine tkL 4 (iv i) ?_
 refine tkL 8 (.slice AU ul capU) ?_
 refine tkL 9 (iv i) ?_
 refine tkL 1 vL ?_
 refine tkL 3 (.slice (some ⟨b, o1, none⟩) N cap) ?_
 refine tkL 10 (iv (2 * (i : Int))) ?_
 refine tkL 5 (.pointer (some ⟨b, o1 + i * 7, none⟩)) ?_
 refine tkL 11 (iv D) ?_
 refine tkL 6 (.pointer (some ⟨b, o1 + i * 7 + 5, none⟩)) ?_
 refine tkL 7 (.agg #[iv lo, iv hi]) ?_
 refine rdL1 12 fun K' hK => ?_
 go_simp
 refine (H46.out _ HB0.out).mono ?_
 rintro e w15 ⟨rfl, hb⟩
 have T16 := Lq (T0.out.below hb)
 have HB17 := Lq (belowT HB0.out hb)
 clear hb
 refine hK.out _ _ (HSK.out _ T16.out.kept) (fun hHeld => ?_)
 clear T0
 clear hK
 refine rdL1 13 fun K' hK => ?_
 go_simp
 refine (H45.out _ HB17.out).mono ?_
 rintro e w18 ⟨rfl, hb⟩
 have T19 := Lq (T16.out.below hb)
 have HB20 := Lq (belowT HB17.out hb)
 clear hb
 refine hK.out _ _ (HSK.out _ T19.out.kept) (fun hHeld => ?_)
 clear T16
 clear hK
 refine rdL1 14 fun K' hK => ?_
 go_simp
 have T23 := Lq (T19.out.below (belowA (belowR w18) (.cells #[iv M] 3)))
 have L24 := Lq (Blk.new w18 3 #[iv M])
 have hgen22 := T19.out.kept.size
 obtain ⟨w21, hww21⟩ := ex (w18.alloc (.cells #[iv M] 3))
 obtain ⟨n22, hnn22⟩ := ex w18.heap.size
 rw [hww21] at T23 L24 ⊢
 rw [hnn22] at L24 hgen22 ⊢
 refine hK.out _ _ (HSK.out _ T23.out.kept) (fun hHeld => ?_)
 clear hww21 hnn22 T19
 clear hK
 refine rdL1 15 fun K' hK => ?_
 refine step_append_lies w21 (by rfl) _ _ _ (by rfl) base 3 i3 _ 1 8 Tryz.underlying47 hi3 hz30 hz31 hz32 rfl (by omega) _ n2 _ (by rfl) T23.out.ol ⟨n22, 0, none⟩ 1 1 [iv M] (by rfl) (by rfl) (news_blk L24.out) (by simp [Value.oneCell']) (by omega) hm9 hm8 (Nat.le_trans hbase T23.out.kept.size) _ rfl ?_
 intro g27 c28 w25 hown hgrow hat hlt
 have T26 := Lq (T23.out.growL hgrow hown hat)
 refine hK.out _ _ (HSK.out _ T26.out.kept) (fun hHeld => ?_)
 clear hown hgrow hat hlt T23
 clear hK
 refine tkL 16 (.pointer (some ⟨gt, 1, none⟩)) ?_
 refine rdT 17 fun K' hK => ?_
 have bg := HGT.out _ T26.out.kept
 have cg := bg.c 1
 have fg := bg.frozen 1
 have lg := bg.lt
 go_simp
 refine hK.out _ _ ?_
 clear cg fg lg
 clear hK
 refine wpAny_of_held (S := fun _ => True) _ _ _ _ ?_
 refine wpAnyH_done (by kernel_rfl) ?_ _
 exact NoPanic.normal (HQ.out _ _ _ _ _ _ _ _ _ _ _ _ _ _ _ _ _ _ ⟨g27, c28, _, T26.out, rfl⟩)
theorem turn46_any (A : Option Addr) (l : List Int) (B cap : Nat) (n : Nat) (w : World) (hm : l.length ≤ maxLen) (hR : Rd1 uv w B A l) (hl : ∀ x ∈ l, 0 ≤ x ∧ x ≤ 4294967295) (hn : n ≤ 1000) :
  Calls Tryz.prog 46 #[.slice A l.length cap, iv n] w fun e w' => e = .returned (iv (turnI l n)) ∧ w = w' := by
 unfold maxLen at hm
 rcases Nat.eq_zero_or_pos l.length with h0 | h0
 ·have hr : turnI l n = 0 := by
   have : l = [] := List.length_eq_zero_iff.1 h0
   subst this; simp [turnI]
  have HR := Lq hr
  clear hr
  rw [h0]
  go_enter Tryz.func46, Tryz.ntmps46
  go_wp2
  go_ret
  exact ⟨by rw [HR.out]; rfl, rfl⟩
 ·have hlt := Nat.mod_lt n h0
  obtain ⟨x, hx⟩ : ∃ x, l[n % l.length]? = some x := ⟨_, List.getElem?_eq_getElem hlt⟩
  obtain ⟨b, off, rfl, _, hc⟩ := hR _ x hx
  have hb := hl x (List.mem_of_getElem? hx)
  obtain ⟨hb1, hb2⟩ := hb
  have hr : turnI l n = x := by simp [turnI, hx]
  have HR := Lq hr
  have HX := Lq hx
  clear hr hx hl
  have hne : ((l.length : Int) == 0) = false := beq_eq_false_iff_ne.2 (by omega)
  go_enter Tryz.func46, Tryz.ntmps46
  go_wp2
  go_ret
  exact ⟨by rw [HR.out]; rfl, rfl⟩
def twF (h : StH) (us : List Int) (i : Nat) : Int := match h.ps[i]? with
 | some x => amongI x.wlo x.whi (turnI us (2 * i))
 | none => 0
def tlF (h : StH) (us : List Int) (i : Nat) : Int := match h.ps[i]? with
 | some x => amongI x.llo x.lhi (turnI us (2 * i + 1))
 | none => 0
theorem truthF_of {h : StH} (hk : H5Ok h) (us : List Int) : TruthOf h (rowW (twF h us) h.ps.length) (rowW (tlF h us) h.ps.length) := by
 refine ⟨rowW_len _ _, rowW_len _ _, fun i x hx => ?_⟩
 have hi := (List.getElem?_eq_some_iff.1 hx).1
 have ho := hk.ps i x hx
 rw [rowW_at _ hi, rowW_at _ hi]
 simp only [Option.getD_some]
 have e1 : twF h us i = amongI x.wlo x.whi (turnI us (2 * i)) := by unfold twF; rw [hx]
 have e2 : tlF h us i = amongI x.llo x.lhi (turnI us (2 * i + 1)) := by unfold tlF; rw [hx]
 rw [e1, e2]
 have a1 := amongI_bd (n := turnI us (2 * i)) ho.w1
 have a2 := amongI_bd (n := turnI us (2 * i + 1)) ho.l1
 exact ⟨a1.1, a1.2, a2.1, a2.2⟩
theorem KeptO.only {W0 V W : World} {a b : Option Nat} {gt : Nat} (h : KeptO V W a b) (ho : OnlyAt W0 V gt) (ha : ∀ g, a = some g → W0.heap.size ≤ g) (hb : ∀ g, b = some g → W0.heap.size ≤ g) : OnlyAt W0 W gt :=
 ⟨h.os.trans ho.os, h.tape.trans ho.tape, h.output.trans ho.output, Nat.le_trans ho.size h.size, fun k hk hne => (h.block k (Nat.lt_of_lt_of_le hk ho.size) (fun e => by have := ha k e.symm; omega) (fun e => by have := hb k e.symm; omega)).trans (ho.block k hk hne)⟩
theorem truth8_any (h : StH) (A : Option Addr) (B cap : Nat) (AU : Option Addr) (us : List Int) (capU : Nat) (w : World) (hH : H5Rd w B h A cap) (hk : H5Ok h) (hu : U32s us) (hU : Rd1 uv w B AU us) (hB : B ≤ w.heap.size) :
  Calls Tryz.prog 8 #[h5V h A cap, .slice AU us.length capU] w fun e w' => BW w w' ∧ ∃ A1 c1 A2 c2, e = .returned (.agg #[.slice A1 h.ps.length c1, .slice A2 h.ps.length c2]) ∧ T5Rd w' w'.heap.size (rowW (twF h us) h.ps.length) (rowW (tlF h us) h.ps.length) A1 A2 := by
 obtain ⟨gr, hgr⟩ := ex (w.heap.size + 1)
 obtain ⟨gt, hgt⟩ := ex (gr + 1)
 obtain ⟨W1, hW1⟩ := ex ((((w.alloc (.cells #[.slice A h.ps.length cap, iv h.aft, iv h.fore] 24)).alloc (.cells #[.slice none 0 0, .slice none 0 0] 49)).alloc (.cells #[.slice none 0 0, .slice none 0 0] 49)))
 have hbW1 : BW w W1 := by rw [← hW1]; exact (belowA (belowA (belowA (belowR _) _) _) _)
 have hzW1 : W1.heap.size = w.heap.size + 3 := by rw [← hW1]; simp
 have k0 : Blk W1 w.heap.size 24 #[.slice A h.ps.length cap, iv h.aft, iv h.fore] := by
  rw [← hW1]
  exact ((Blk.new w 24 #[.slice A h.ps.length cap, iv h.aft, iv h.fore]).alloc (.cells #[.slice none 0 0, .slice none 0 0] 49)).alloc (.cells #[.slice none 0 0, .slice none 0 0] 49)
 have k1 : Blk W1 gr 49 #[.slice none 0 0, .slice none 0 0] := by
  rw [← hW1, ← hgr]
  have := (Blk.new (w.alloc (.cells #[.slice A h.ps.length cap, iv h.aft, iv h.fore] 24)) 49 #[.slice none 0 0, .slice none 0 0]).alloc (.cells #[.slice none 0 0, .slice none 0 0] 49)
  rw [World.size_alloc] at this
  exact this
 have k2 : Blk W1 gt 49 #[.slice none 0 0, .slice none 0 0] := by
  rw [← hW1, ← hgt, ← hgr]
  have := Blk.new ((w.alloc (.cells #[.slice A h.ps.length cap, iv h.aft, iv h.fore] 24)).alloc (.cells #[.slice none 0 0, .slice none 0 0] 49)) 49 #[.slice none 0 0, .slice none 0 0]
  rw [World.size_alloc, World.size_alloc] at this
  exact this
 have HP := Lq (hH.ps.below hbW1 hB)
 have HU := Lq (hU.below hbW1 hB)
 have HB1 := Lq hbW1
 have HK := Lq hk
 have HUU := Lq hu
 have hpm := hH.pm
 have hpl := hH.pl
 unfold maxLen at hpm
 have hn10 := hk.n10
 have hn1 := hk.n1
 have HC : Hid (∀ V, OnlyAt W1 V gt → V.cell? ⟨w.heap.size, 0, none⟩ = some (.slice A h.ps.length cap) ∧ Blk V gr 49 #[.slice none 0 0, .slice none 0 0]) := Lq fun V ho => ⟨ho.cell (k0.cell 0) (by omega), k1.same (ho.block _ k1.lt (by omega))⟩
 have K2 := Lq k2
 have hgtz : gt < W1.heap.size := k2.lt
 have p0 := k0.c 0
 have p1 := k0.c 1
 have p2 := k0.c 2
 clear hH hk hu hU hbW1 k0 k1 k2
 go_enter Tryz.func8, Tryz.ntmps8
 go_wp2_with fail
 clear hW1 p0 p1 p2
 obtain ⟨wq, hwq⟩ : ∃ wq : World, wq = W1 := ⟨_, rfl⟩
 have HOQ : Hid (OnlyAt W1 wq gt) := Lq (by rw [hwq]; exact OnlyAt.of_below (belowR _) _)
 have HGQ : Hid (Blk wq gt 49 #[.slice none 0 0, .slice none 0 0]) := Lq (by rw [hwq]; exact K2.out)
 rw [← hwq]
 clear hwq K2
 go_loopw [6] (fun vi wr => ∃ (k : Nat) (vW vL : Value), k ≤ h.ps.length ∧ vi = iv k ∧ Hid (wr.ownsRow W1.heap.size 3 1 vW k ((rowW (twF h us) k).map iv)) ∧ Hid (wr.ownsRow W1.heap.size 3 1 vL k ((rowW (tlF h us) k).map iv)) ∧ Hid (∀ g, vW.ownBlock = some g → vL.ownBlock ≠ some g) ∧ Hid (Blk wr gt 49 #[vW, vL]) ∧ Hid (OnlyAt W1 wr gt)) (fun vi _ => h.ps.length - (intOf vi).toNat)
 case atStart => exact ⟨0, _, _, Nat.zero_le _, rfl, Lq (World.ownsRow_nil _ _ _ _), Lq (World.ownsRow_nil _ _ _ _), Lq (fun g e => by cases e), HGQ, HOQ⟩
 case round =>
  clear HGQ HOQ
  obtain ⟨k, vW, vL, hk, rfl, OWN, OWL, HDIS, HBG, HO⟩ := hrel
  have p0 := (HC.out _ HO.out).1
  have hzr := HO.out.size
  by_cases hlt : k < h.ps.length
  ·obtain ⟨x, hx⟩ : ∃ x, h.ps[k]? = some x := ⟨_, List.getElem?_eq_getElem hlt⟩
   have hxo := HK.out.ps k x hx
   have e1 : twF h us k = amongI x.wlo x.whi (turnI us (2 * k)) := by unfold twF; rw [hx]
   have e2 : tlF h us k = amongI x.llo x.lhi (turnI us (2 * k + 1)) := by unfold tlF; rw [hx]
   have ht1 := turnI_bd us (2 * k) HUU.out.2
   have ht2 := turnI_bd us (2 * k + 1) HUU.out.2
   obtain ⟨b, o1, rfl, hbB, d0, d1, d2, d3, d4, d5, d6⟩ := stAt HP.out hx
   have hw5 : IntKind.i64.wrap (2 * (k : Int)) = ((2 * k : Nat) : Int) := by rw [IntKind.wrap_i64]; omega
   have hw6 : IntKind.i64.wrap (2 * (k : Int)) = 2 * (k : Int) := by rw [IntKind.wrap_i64]; omega
   have hw7 : IntKind.i64.wrap (2 * (k : Int) + 1) = ((2 * k + 1 : Nat) : Int) := by rw [IntKind.wrap_i64]; omega
   have hA1 : ∀ V, OnlyAt W1 V gt → Calls Tryz.prog 46 #[.slice AU us.length capU, iv ((2 * k : Nat) : Int)] V (Rt V (iv (turnI us (2 * k)))) := fun V ho => (turn46_any AU us B capU (2 * k) V HUU.out.1 (ho.rd1 HU.out (by omega)) HUU.out.2 (by omega)).mono fun e w' h => ⟨h.1, h.2 ▸ belowR _⟩
   have hA2 : ∀ V, OnlyAt W1 V gt → Calls Tryz.prog 46 #[.slice AU us.length capU, iv ((2 * k + 1 : Nat) : Int)] V (Rt V (iv (turnI us (2 * k + 1)))) := fun V ho => (turn46_any AU us B capU (2 * k + 1) V HUU.out.1 (ho.rd1 HU.out (by omega)) HUU.out.2 (by omega)).mono fun e w' h => ⟨h.1, h.2 ▸ belowR _⟩
   have hM1 : ∀ V, Calls Tryz.prog 45 #[.agg #[iv x.wlo, iv x.whi], iv (turnI us (2 * k))] V fun e w' => e = .returned (iv (amongI x.wlo x.whi (turnI us (2 * k)))) ∧ BW V w' := fun V => among_any x.wlo x.whi (turnI us (2 * k)) V hxo.w0 hxo.w1 (by have := hxo.w2; omega) ht1.1 ht1.2
   have hM2 : ∀ V, Calls Tryz.prog 45 #[.agg #[iv x.llo, iv x.lhi], iv (turnI us (2 * k + 1))] V fun e w' => e = .returned (iv (amongI x.llo x.lhi (turnI us (2 * k + 1)))) ∧ BW V w' := fun V => among_any x.llo x.lhi (turnI us (2 * k + 1)) V hxo.l0 hxo.l1 (by have := hxo.l2; omega) ht2.1 ht2.2
   rw [← e1] at hM1
   rw [← e2] at hM2
   have HA1 := Lq hA1
   have HA2 := Lq hA2
   have HM1 := Lq hM1
   have HM2 := Lq hM2
   have HD : Hid (∀ V, OnlyAt W1 V gt → V.cell? ⟨w.heap.size, 0, none⟩ = some (.slice (some ⟨b, o1, none⟩) h.ps.length cap) ∧ V.cell? ⟨b, o1 + k * 7 + 2, none⟩ = some (iv x.wlo) ∧ V.cell? ⟨b, o1 + k * 7 + 3, none⟩ = some (iv x.whi) ∧ V.cell? ⟨b, o1 + k * 7 + 5, none⟩ = some (iv x.llo) ∧ V.cell? ⟨b, o1 + k * 7 + 6, none⟩ = some (iv x.lhi)) := Lq fun V ho => ⟨(HC.out _ ho).1, ho.cell d2 (by omega), ho.cell d3 (by omega), ho.cell d5 (by omega), ho.cell d6 (by omega)⟩
   have hlW : ∀ g, vW.ownBlock = some g → W1.heap.size ≤ g := fun g e => (OWN.out.lt g e).1
   have hlL : ∀ g, vL.ownBlock = some g → W1.heap.size ≤ g := fun g e => (OWL.out.lt g e).1
   have hg1 : some gt ≠ vW.ownBlock := fun e => by have := hlW gt e.symm; omega
   have hg2 : some gt ≠ vL.ownBlock := fun e => by have := hlL gt e.symm; omega
   have hSK : ∀ W, KeptO wr W vW.ownBlock vL.ownBlock → W.cell? ⟨gt, 0, none⟩ = some vW ∧ W.cell? ⟨gt, 1, none⟩ = some vL ∧ W.cell? ⟨w.heap.size, 0, none⟩ = some (.slice (some ⟨b, o1, none⟩) h.ps.length cap) ∧ W.cell? ⟨b, o1 + k * 7 + 2, none⟩ = some (iv x.wlo) ∧ W.cell? ⟨b, o1 + k * 7 + 2 + 1, none⟩ = some (iv x.whi) := fun W hkk => ⟨(hkk.blk HBG.out hg1 hg2).cell 0, (hkk.blk HBG.out hg1 hg2).cell 1, (HD.out _ (hkk.only HO.out hlW hlL)).1, (HD.out _ (hkk.only HO.out hlW hlL)).2.1, (HD.out _ (hkk.only HO.out hlW hlL)).2.2.1⟩
   have HSK := Lq hSK
   have HLW := Lq hlW
   have HLL := Lq hlL
   have HX := Lq (show x = x from rfl)
   clear hSK hlW hlL hA1 hA2 hM1 hM2 d0 d1 d2 d3 d4 d5 d6 hx e1 e2 ht1 ht2 hxo
   go_upto_region 5 with fail
   refine reg8_5 (base := W1.heap.size) (n1 := k) (n2 := k) (by omega) hzr OWN.out OWL.out HDIS.out HBG.out hg1 hg2 hlt hw5 (fun W hb => HA1.out W (HO.out.more hb)) (fun W hb => HM1.out W) HSK.out (fun W hb => HSK.out W (KeptO.of_below hb)) ?_
   intro u100 u101 u102 u103 u104 u105 u106 u107 u108 u109 u110 u111 u112 u113 u114 u115 wx hwx
   obtain ⟨g, c, W, hT, hwx⟩ := hwx
   have hgg : g ≠ gt := fun e => by have : W1.heap.size ≤ g := (hT.ow.lt g rfl).1; omega
   have hOW := hT.kept.only HO.out HLW.out HLL.out
   have hWx : OnlyAt W wx gt := by rw [hwx]; exact OnlyAt.of_set (belowR W) gt 0 _
   have hOx := hOW.trans hWx
   have hrW := hWx.own hT.ow (by simp [Value.ownBlock]; exact hgg)
   have hrL := hWx.own hT.ol (fun e => hg2 e.symm)
   have hGx : Blk wx gt 49 #[.slice (some ⟨g, 0, none⟩) (k + 1) c, vL] := by rw [hwx]; exact (hT.kept.blk HBG.out hg1 hg2).set_ 0 _
   have hlW2 : ∀ g', (Value.slice (some ⟨g, 0, none⟩) (k + 1) c).ownBlock = some g' → W1.heap.size ≤ g' := fun g' e => (hT.ow.lt g' e).1
   have hg1x : some gt ≠ (Value.slice (some ⟨g, 0, none⟩) (k + 1) c).ownBlock := fun e => by simp [Value.ownBlock] at e; exact hgg e.symm
   have HOX := Lq hOx
   have HRW := Lq hrW
   have HRL := Lq hrL
   have HGX := Lq hGx
   have HDX := Lq hT.dis
   have HL2 := Lq hlW2
   have hSK2 : ∀ W, KeptO wx W (Value.slice (some ⟨g, 0, none⟩) (k + 1) c).ownBlock vL.ownBlock → W.cell? ⟨gt, 0, none⟩ = some (.slice (some ⟨g, 0, none⟩) (k + 1) c) ∧ W.cell? ⟨gt, 1, none⟩ = some vL ∧ W.cell? ⟨w.heap.size, 0, none⟩ = some (.slice (some ⟨b, o1, none⟩) h.ps.length cap) ∧ W.cell? ⟨b, o1 + k * 7 + 5, none⟩ = some (iv x.llo) ∧ W.cell? ⟨b, o1 + k * 7 + 5 + 1, none⟩ = some (iv x.lhi) := fun W hkk => ⟨(hkk.blk HGX.out hg1x hg2).cell 0, (hkk.blk HGX.out hg1x hg2).cell 1, (HD.out _ (hkk.only HOX.out HL2.out HLL.out)).1, (HD.out _ (hkk.only HOX.out HL2.out HLL.out)).2.2.2.1, (HD.out _ (hkk.only HOX.out HL2.out HLL.out)).2.2.2.2⟩
   have HSK2 := Lq hSK2
   have hzx := hOx.size
   clear hT hwx hOW hWx hOx hrW hrL hGx hlW2 hSK2 HSK HA1 HM1
   go_upto_region 6 with fail
   refine reg8_6 (base := W1.heap.size) (n1 := k + 1) (n2 := k) (by omega) hzx HRW.out HRL.out HDX.out HGX.out hg1x hg2 hlt hw6 hw7 (fun W hb => HA2.out W (HOX.out.more hb)) (fun W hb => HM2.out W) HSK2.out (fun W hb => HSK2.out W (KeptO.of_below hb)) ?_
   intro u200 u201 u202 u203 u204 u205 u206 u207 u208 u209 u210 u211 u212 u213 u214 u215 u216 wy hwy
   obtain ⟨g', c', W', hT, hwy⟩ := hwy
   have hgg2 : g' ≠ gt := fun e => by have : W1.heap.size ≤ g' := (hT.ol.lt g' rfl).1; omega
   have hWy : OnlyAt W' wy gt := by rw [hwy]; exact OnlyAt.of_set (belowR W') gt 1 _
   have HOY := Lq ((hT.kept.only HOX.out HL2.out HLL.out).trans hWy)
   have HRW2 : Hid (wy.ownsRow W1.heap.size 3 1 (.slice (some ⟨g, 0, none⟩) (k + 1) c) (k + 1) ((rowW (twF h us) (k + 1)).map iv)) := Lq (by rw [rowW_succ, List.map_append]; exact hWy.own hT.ow (fun e => hg1x e.symm))
   have HRL2 : Hid (wy.ownsRow W1.heap.size 3 1 (.slice (some ⟨g', 0, none⟩) (k + 1) c') (k + 1) ((rowW (tlF h us) (k + 1)).map iv)) := Lq (by rw [rowW_succ, List.map_append]; exact hWy.own hT.ol (by simp [Value.ownBlock]; exact hgg2))
   have HGY : Hid (Blk wy gt 49 #[.slice (some ⟨g, 0, none⟩) (k + 1) c, .slice (some ⟨g', 0, none⟩) (k + 1) c']) := Lq (by rw [hwy]; exact (hT.kept.blk HGX.out hg1x hg2).set_ 1 _)
   have HDY := Lq hT.dis
   clear hT hwy hWy
   go_wp2_with fail
   go_roundw
   case rel => exact ⟨k + 1, _, _, by omega, by go_num, HRW2, HRL2, HDY, HGY, HOY⟩
   case measure => simp [intOf]; omega
  ·obtain rfl : k = h.ps.length := by omega
   have hO := HO.out
   obtain ⟨gW, cW, rfl, hgW, _, _⟩ := own_form OWN.out hn1
   obtain ⟨gL, cL, rfl, hgL, _, _⟩ := own_form OWL.out hn1
   have hbg := HBG.out
   have y0 := hbg.c 0
   have y1 := hbg.c 1
   have hkr := (HC.out _ hO).2
   have z0 := hkr.c 0
   have z1 := hkr.c 1
   have f0 := hkr.frozen 0
   have f1 := hkr.frozen 1
   have hl := hkr.lt
   have KR := Lq hkr
   have hbz := hO.below HB1.out (by omega)
   clear hbg hO hkr
   go_wp2_with fail
   obtain ⟨wx, hwx⟩ := ex ((wr.setCell ⟨gr, 0, none⟩ (.slice (some ⟨gW, 0, none⟩) h.ps.length cW)).setCell ⟨gr, 1, none⟩ (.slice (some ⟨gL, 0, none⟩) h.ps.length cL))
   have hWx : OnlyAt wr wx gr := by rw [← hwx]; exact (OnlyAt.of_set (belowR wr) gr 0 _).set 1 _
   have kx : Blk wx gr 49 #[.slice (some ⟨gW, 0, none⟩) h.ps.length cW, .slice (some ⟨gL, 0, none⟩) h.ps.length cL] := by rw [← hwx]; exact (KR.out.set_ 0 _).set_ 1 _
   have hbx : BW w wx := by rw [← hwx]; exact belowS (belowS hbz (by dsimp only; omega) _) (by dsimp only; omega) _
   have hrW := hWx.own OWN.out (by simp [Value.ownBlock]; omega)
   have hrL := hWx.own OWL.out (by simp [Value.ownBlock]; omega)
   rw [hwx]
   have x0 := kx.c 0
   have x1 := kx.c 1
   clear hwx f0 f1 y0 y1 z0 z1
   refine bodyPost_ret (v := .agg #[.slice (some ⟨gW, 0, none⟩) h.ps.length cW, .slice (some ⟨gL, 0, none⟩) h.ps.length cL]) (by simp [results, Tryz.results8, go_sem, x0, x1]) rfl ?_
   exact ⟨hbx, some ⟨gW, 0, none⟩, cW, some ⟨gL, 0, none⟩, cL, rfl, own_rdP hrW (rowW_len _ _), own_rdP hrL (rowW_len _ _)⟩
end Go.Proofs.YtmhjhbchokbonaaGreat
