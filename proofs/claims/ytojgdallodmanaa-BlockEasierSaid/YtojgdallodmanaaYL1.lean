/- BlockEasier: the region in which a hull is copied three times. Printed by mkL1.py. -/
import Derived.Deep.RegionHeld3
import Derived.Test.YtojgdallodmanaaZf22f08
import Derived.Test.YtojgdallodmanaaZ9acd8a
import Derived.Test.YtojgdallodmanaaZ49bf15
namespace Go.Proofs.Ytojgdallodmanaa
open Go.RowKit

theorem Blk.five {w : World} {g : Nat} {t : TypeId} {x0 x1 x2 x3 x4 : Value} (h : Blk w g t #[x0, x1, x2, x3, x4]) (v0 v1 v2 v3 v4 : Value) : Blk (((((w.setCell ⟨g, 0, none⟩ v0).setCell ⟨g, 1, none⟩ v1).setCell ⟨g, 2, none⟩ v2).setCell ⟨g, 3, none⟩ v3).setCell ⟨g, 4, none⟩ v4) g t #[v0, v1, v2, v3, v4] := by
  have := ((((h.set_ 0 v0).set_ 1 v1).set_ 2 v2).set_ 3 v3).set_ 4 v4
  simpa using this
theorem Blk.far5 {w : World} {g k : Nat} {t : TypeId} {cs : Array Value} (h : Blk w g t cs) (hne : g ≠ k) (v0 v1 v2 v3 v4 : Value) : Blk (((((w.setCell ⟨k, 0, none⟩ v0).setCell ⟨k, 1, none⟩ v1).setCell ⟨k, 2, none⟩ v2).setCell ⟨k, 3, none⟩ v3).setCell ⟨k, 4, none⟩ v4) g t cs :=
  ((((h.far hne v0).far hne v1).far hne v2).far hne v3).far hne v4
theorem below5 {a w : World} {g : Nat} (h : Below a.heap.size a w) (hg : a.heap.size ≤ g) (v0 v1 v2 v3 v4 : Value) : Below a.heap.size a (((((w.setCell ⟨g, 0, none⟩ v0).setCell ⟨g, 1, none⟩ v1).setCell ⟨g, 2, none⟩ v2).setCell ⟨g, 3, none⟩ v3).setCell ⟨g, 4, none⟩ v4) :=
  belowS (belowS (belowS (belowS (belowS h hg _) hg _) hg _) hg _) hg _
/-- Three copies of a hull, each in a block of its own. -/
structure Three (V W : World) (g7 g8 g9 : Nat) (cs : Array Value) : Prop where
  b : Below V.heap.size V W
  b7 : Blk W g7 27 cs
  b8 : Blk W g8 27 cs
  b9 : Blk W g9 27 cs
  n7 : V.heap.size ≤ g7
  n8 : V.heap.size ≤ g8
  n9 : V.heap.size ≤ g9
  d78 : g7 ≠ g8
  d79 : g7 ≠ g9
  d89 : g8 ≠ g9
noncomputable def ops14_3 : Array Oper := opsOf (regionOf Try.f14 3)

set_option maxRecDepth 100000 in
set_option maxHeartbeats 2000000 in
theorem st14_3_3_4_5 {Q : Exit → Act → World → Prop} {V : World} {n cap m capJ pb : Nat} {A J : Option Addr} {slo shi winch : Int} {g7 g8 g9 : Nat} {z0 z1 z2 z4 z5 z6 z10 z11 z12 z13 z14 z15 z16 z17 z18 z19 z20 z21 z22 z23 z24 z25 z26 z30 z31 z32 z33 z34 z35 z36 z37 z38 z39 z40 z41 z42 z43 z44 z45 z46 z47 z48 z49 z50 z51 z52 z53 z54 z55 z56 z57 z58 z59 z60 z61 z62 z63 z64 z65 z66 z67 z68 z69 z70 z71 z72 z73 z74 z75 z76 z77 z78 z79 z80 z81 z82 z83 z84 z85 z86 z87 z88 z89 z90 z91 z92 z93 z94 z95 z96 z97 z98 z99 z100 z101 z102 z103 z104 z105 z106 z107 z108 z109 z110 z111 z112 z113 z114 z115 z116 z117 z118 z119 z120 z121 z122 z123 z124 z125 z126 z127 z128 z129 z130 z131 z132 z133 z134 z135 z136 z137 z138 z139 z140 z141 z142 z143 z144 z145 z146 z147 z148 z149 z150 z151 z152 z153 z154 z155 z156 z157 z158 z159 z160 z161 z162 z163 z164 z165 z166 z167 z168 z169 z170 z171 z172 z173 z174 : Value}
    (hQ : ∀ g7 g8 g9 u27 u28 u29 wx, Three V wx g7 g8 g9 #[.slice A n cap, .slice J m capJ, .int .i64 slo, .int .i64 shi, .int .i64 winch] → Q .normal ⟨#[z0, z1, z2, .pointer (some ⟨pb, 0, none⟩), z4, z5, z6, ptr g7, ptr g8, ptr g9, z10, z11, z12, z13, z14, z15, z16, z17, z18, z19, z20, z21, z22, z23, z24, z25, z26, u27, u28, u29, z30, z31, z32, z33, z34, z35, z36, z37, z38, z39, z40, z41, z42, z43, z44, z45, z46, z47, z48, z49, z50, z51, z52, z53, z54, z55, z56, z57, z58, z59, z60, z61, z62, z63, z64, z65, z66, z67, z68, z69, z70, z71, z72, z73, z74, z75, z76, z77, z78, z79, z80, z81, z82, z83, z84, z85, z86, z87, z88, z89, z90, z91, z92, z93, z94, z95, z96, z97, z98, z99, z100, z101, z102, z103, z104, z105, z106, z107, z108, z109, z110, z111, z112, z113, z114, z115, z116, z117, z118, z119, z120, z121, z122, z123, z124, z125, z126, z127, z128, z129, z130, z131, z132, z133, z134, z135, z136, z137, z138, z139, z140, z141, z142, z143, z144, z145, z146, z147, z148, z149, z150, z151, z152, z153, z154, z155, z156, z157, z158, z159, z160, z161, z162, z163, z164, z165, z166, z167, z168, z169, z170, z171, z172, z173, z174], []⟩ wx) {w : World} (hB : Below V.heap.size V w) (b7 : Blk w g7 27 #[.slice none 0 0, .slice none 0 0, .int .i64 0, .int .i64 0, .int .i64 0]) (n7 : V.heap.size ≤ g7) (b8 : Blk w g8 27 #[.slice none 0 0, .slice none 0 0, .int .i64 0, .int .i64 0, .int .i64 0]) (n8 : V.heap.size ≤ g8) (b9 : Blk w g9 27 #[.slice none 0 0, .slice none 0 0, .int .i64 0, .int .i64 0, .int .i64 0]) (n9 : V.heap.size ≤ g9) (d78 : g7 ≠ g8) (d79 : g7 ≠ g9) (d89 : g8 ≠ g9) :
    wpAnyH Try.prog .any ops14_3 (NoPanic Q) (fun W => Below V.heap.size V W) 3 #[true, true, true, true, true, true, false, false, false] ⟨#[z0, z1, z2, .pointer (some ⟨pb, 0, none⟩), z4, z5, z6, ptr g7, ptr g8, ptr g9, z10, z11, z12, z13, z14, z15, z16, z17, z18, z19, z20, z21, z22, z23, z24, z25, z26, .agg #[.slice A n cap, .slice J m capJ, .int .i64 slo, .int .i64 shi, .int .i64 winch], .agg #[.slice A n cap, .slice J m capJ, .int .i64 slo, .int .i64 shi, .int .i64 winch], .agg #[.slice A n cap, .slice J m capJ, .int .i64 slo, .int .i64 shi, .int .i64 winch], z30, z31, z32, z33, z34, z35, z36, z37, z38, z39, z40, z41, z42, z43, z44, z45, z46, z47, z48, z49, z50, z51, z52, z53, z54, z55, z56, z57, z58, z59, z60, z61, z62, z63, z64, z65, z66, z67, z68, z69, z70, z71, z72, z73, z74, z75, z76, z77, z78, z79, z80, z81, z82, z83, z84, z85, z86, z87, z88, z89, z90, z91, z92, z93, z94, z95, z96, z97, z98, z99, z100, z101, z102, z103, z104, z105, z106, z107, z108, z109, z110, z111, z112, z113, z114, z115, z116, z117, z118, z119, z120, z121, z122, z123, z124, z125, z126, z127, z128, z129, z130, z131, z132, z133, z134, z135, z136, z137, z138, z139, z140, z141, z142, z143, z144, z145, z146, z147, z148, z149, z150, z151, z152, z153, z154, z155, z156, z157, z158, z159, z160, z161, z162, z163, z164, z165, z166, z167, z168, z169, z170, z171, z172, z173, z174], []⟩ w := by
  have _used := hQ
  clear _used
  refine wpAnyH_ready (rs := [6]) (by kernel_rfl) (by simp) ?_
  refine AllReadyH.cons (o := opN ops14_3 6) (by kernel_rfl) (fun K hK => ?_) AllReadyH.nil
  obtain ⟨o, e⟩ : ∃ o, o = opN ops14_3 6 := ⟨_, rfl⟩
  rw [← e]
  conv at e => rhs; whnf
  subst e
  have c0 := b7.cell 0
  have f0 := b7.frozen 0
  have c1 := b7.cell 1
  have f1 := b7.frozen 1
  have c2 := b7.cell 2
  have f2 := b7.frozen 2
  have c3 := b7.cell 3
  have f3 := b7.frozen 3
  have c4 := b7.cell 4
  have f4 := b7.frozen 4
  simp only [List.getElem?_toArray, List.getElem?_cons_zero, List.getElem?_cons_succ] at c0 c1 c2 c3 c4
  have hB' := below5 hB n7 (.slice A n cap) (.slice J m capJ) (.int .i64 slo) (.int .i64 shi) (.int .i64 winch)
  have b7' := b7.five (.slice A n cap) (.slice J m capJ) (.int .i64 slo) (.int .i64 shi) (.int .i64 winch)
  have b8' := b8.far5 (k := g7) (by omega) (.slice A n cap) (.slice J m capJ) (.int .i64 slo) (.int .i64 shi) (.int .i64 winch)
  have b9' := b9.far5 (k := g7) (by omega) (.slice A n cap) (.slice J m capJ) (.int .i64 slo) (.int .i64 shi) (.int .i64 winch)
  go_simp
  refine hK.out _ _ hB' (fun hHeld => ?_)
  clear hK hB b7 b8 b9 c0 c1 c2 c3 c4 f0 f1 f2 f3 f4
  generalize (((((w.setCell ⟨g7, 0, none⟩ (.slice A n cap)).setCell ⟨g7, 1, none⟩ (.slice J m capJ)).setCell ⟨g7, 2, none⟩ (.int .i64 slo)).setCell ⟨g7, 3, none⟩ (.int .i64 shi)).setCell ⟨g7, 4, none⟩ (.int .i64 winch)) = w at *
  have hB := hB'
  have b7 := b7'
  have b8 := b8'
  have b9 := b9'
  clear hB' b7' b8' b9'
  (try simp only [List.setIfInBounds_toArray, List.set_cons_zero, List.set_cons_succ])
  refine wpAnyH_ready (rs := [7]) (by kernel_rfl) (by simp) ?_
  refine AllReadyH.cons (o := opN ops14_3 7) (by kernel_rfl) (fun K hK => ?_) AllReadyH.nil
  obtain ⟨o, e⟩ : ∃ o, o = opN ops14_3 7 := ⟨_, rfl⟩
  rw [← e]
  conv at e => rhs; whnf
  subst e
  have c0 := b8.cell 0
  have f0 := b8.frozen 0
  have c1 := b8.cell 1
  have f1 := b8.frozen 1
  have c2 := b8.cell 2
  have f2 := b8.frozen 2
  have c3 := b8.cell 3
  have f3 := b8.frozen 3
  have c4 := b8.cell 4
  have f4 := b8.frozen 4
  simp only [List.getElem?_toArray, List.getElem?_cons_zero, List.getElem?_cons_succ] at c0 c1 c2 c3 c4
  have hB' := below5 hB n8 (.slice A n cap) (.slice J m capJ) (.int .i64 slo) (.int .i64 shi) (.int .i64 winch)
  have b8' := b8.five (.slice A n cap) (.slice J m capJ) (.int .i64 slo) (.int .i64 shi) (.int .i64 winch)
  have b7' := b7.far5 (k := g8) (by omega) (.slice A n cap) (.slice J m capJ) (.int .i64 slo) (.int .i64 shi) (.int .i64 winch)
  have b9' := b9.far5 (k := g8) (by omega) (.slice A n cap) (.slice J m capJ) (.int .i64 slo) (.int .i64 shi) (.int .i64 winch)
  go_simp
  refine hK.out _ _ hB' (fun hHeld => ?_)
  clear hK hB b7 b8 b9 c0 c1 c2 c3 c4 f0 f1 f2 f3 f4
  generalize (((((w.setCell ⟨g8, 0, none⟩ (.slice A n cap)).setCell ⟨g8, 1, none⟩ (.slice J m capJ)).setCell ⟨g8, 2, none⟩ (.int .i64 slo)).setCell ⟨g8, 3, none⟩ (.int .i64 shi)).setCell ⟨g8, 4, none⟩ (.int .i64 winch)) = w at *
  have hB := hB'
  have b7 := b7'
  have b8 := b8'
  have b9 := b9'
  clear hB' b7' b8' b9'
  (try simp only [List.setIfInBounds_toArray, List.set_cons_zero, List.set_cons_succ])
  refine wpAnyH_ready (rs := [8]) (by kernel_rfl) (by simp) ?_
  refine AllReadyH.cons (o := opN ops14_3 8) (by kernel_rfl) (fun K hK => ?_) AllReadyH.nil
  obtain ⟨o, e⟩ : ∃ o, o = opN ops14_3 8 := ⟨_, rfl⟩
  rw [← e]
  conv at e => rhs; whnf
  subst e
  have c0 := b9.cell 0
  have f0 := b9.frozen 0
  have c1 := b9.cell 1
  have f1 := b9.frozen 1
  have c2 := b9.cell 2
  have f2 := b9.frozen 2
  have c3 := b9.cell 3
  have f3 := b9.frozen 3
  have c4 := b9.cell 4
  have f4 := b9.frozen 4
  simp only [List.getElem?_toArray, List.getElem?_cons_zero, List.getElem?_cons_succ] at c0 c1 c2 c3 c4
  have hB' := below5 hB n9 (.slice A n cap) (.slice J m capJ) (.int .i64 slo) (.int .i64 shi) (.int .i64 winch)
  have b9' := b9.five (.slice A n cap) (.slice J m capJ) (.int .i64 slo) (.int .i64 shi) (.int .i64 winch)
  have b7' := b7.far5 (k := g9) (by omega) (.slice A n cap) (.slice J m capJ) (.int .i64 slo) (.int .i64 shi) (.int .i64 winch)
  have b8' := b8.far5 (k := g9) (by omega) (.slice A n cap) (.slice J m capJ) (.int .i64 slo) (.int .i64 shi) (.int .i64 winch)
  go_simp
  refine hK.out _ _ hB' (fun hHeld => ?_)
  clear hK hB b7 b8 b9 c0 c1 c2 c3 c4 f0 f1 f2 f3 f4
  generalize (((((w.setCell ⟨g9, 0, none⟩ (.slice A n cap)).setCell ⟨g9, 1, none⟩ (.slice J m capJ)).setCell ⟨g9, 2, none⟩ (.int .i64 slo)).setCell ⟨g9, 3, none⟩ (.int .i64 shi)).setCell ⟨g9, 4, none⟩ (.int .i64 winch)) = w at *
  have hB := hB'
  have b7 := b7'
  have b8 := b8'
  have b9 := b9'
  clear hB' b7' b8' b9'
  (try simp only [List.setIfInBounds_toArray, List.set_cons_zero, List.set_cons_succ])
  refine wpAnyH_done (by kernel_rfl) ?_ _
  exact NoPanic.normal (hQ g7 g8 g9 _ _ _ _ ⟨hB, b7, b8, b9, n7, n8, n9, d78, d79, d89⟩)

set_option maxRecDepth 100000 in
set_option maxHeartbeats 2000000 in
theorem st14_3_3_4 {Q : Exit → Act → World → Prop} {V : World} {n cap m capJ pb : Nat} {A J : Option Addr} {slo shi winch : Int} {g7 g8 : Nat} {z0 z1 z2 z4 z5 z6 z9 z10 z11 z12 z13 z14 z15 z16 z17 z18 z19 z20 z21 z22 z23 z24 z25 z26 z30 z31 z32 z33 z34 z35 z36 z37 z38 z39 z40 z41 z42 z43 z44 z45 z46 z47 z48 z49 z50 z51 z52 z53 z54 z55 z56 z57 z58 z59 z60 z61 z62 z63 z64 z65 z66 z67 z68 z69 z70 z71 z72 z73 z74 z75 z76 z77 z78 z79 z80 z81 z82 z83 z84 z85 z86 z87 z88 z89 z90 z91 z92 z93 z94 z95 z96 z97 z98 z99 z100 z101 z102 z103 z104 z105 z106 z107 z108 z109 z110 z111 z112 z113 z114 z115 z116 z117 z118 z119 z120 z121 z122 z123 z124 z125 z126 z127 z128 z129 z130 z131 z132 z133 z134 z135 z136 z137 z138 z139 z140 z141 z142 z143 z144 z145 z146 z147 z148 z149 z150 z151 z152 z153 z154 z155 z156 z157 z158 z159 z160 z161 z162 z163 z164 z165 z166 z167 z168 z169 z170 z171 z172 z173 z174 : Value}
    (hQ : ∀ g7 g8 g9 u27 u28 u29 wx, Three V wx g7 g8 g9 #[.slice A n cap, .slice J m capJ, .int .i64 slo, .int .i64 shi, .int .i64 winch] → Q .normal ⟨#[z0, z1, z2, .pointer (some ⟨pb, 0, none⟩), z4, z5, z6, ptr g7, ptr g8, ptr g9, z10, z11, z12, z13, z14, z15, z16, z17, z18, z19, z20, z21, z22, z23, z24, z25, z26, u27, u28, u29, z30, z31, z32, z33, z34, z35, z36, z37, z38, z39, z40, z41, z42, z43, z44, z45, z46, z47, z48, z49, z50, z51, z52, z53, z54, z55, z56, z57, z58, z59, z60, z61, z62, z63, z64, z65, z66, z67, z68, z69, z70, z71, z72, z73, z74, z75, z76, z77, z78, z79, z80, z81, z82, z83, z84, z85, z86, z87, z88, z89, z90, z91, z92, z93, z94, z95, z96, z97, z98, z99, z100, z101, z102, z103, z104, z105, z106, z107, z108, z109, z110, z111, z112, z113, z114, z115, z116, z117, z118, z119, z120, z121, z122, z123, z124, z125, z126, z127, z128, z129, z130, z131, z132, z133, z134, z135, z136, z137, z138, z139, z140, z141, z142, z143, z144, z145, z146, z147, z148, z149, z150, z151, z152, z153, z154, z155, z156, z157, z158, z159, z160, z161, z162, z163, z164, z165, z166, z167, z168, z169, z170, z171, z172, z173, z174], []⟩ wx) {w : World} (hB : Below V.heap.size V w) (b7 : Blk w g7 27 #[.slice none 0 0, .slice none 0 0, .int .i64 0, .int .i64 0, .int .i64 0]) (n7 : V.heap.size ≤ g7) (b8 : Blk w g8 27 #[.slice none 0 0, .slice none 0 0, .int .i64 0, .int .i64 0, .int .i64 0]) (n8 : V.heap.size ≤ g8) (d78 : g7 ≠ g8) :
    wpAnyH Try.prog .any ops14_3 (NoPanic Q) (fun W => Below V.heap.size V W) 4 #[true, true, true, true, true, false, false, false, false] ⟨#[z0, z1, z2, .pointer (some ⟨pb, 0, none⟩), z4, z5, z6, ptr g7, ptr g8, z9, z10, z11, z12, z13, z14, z15, z16, z17, z18, z19, z20, z21, z22, z23, z24, z25, z26, .agg #[.slice A n cap, .slice J m capJ, .int .i64 slo, .int .i64 shi, .int .i64 winch], .agg #[.slice A n cap, .slice J m capJ, .int .i64 slo, .int .i64 shi, .int .i64 winch], .agg #[.slice A n cap, .slice J m capJ, .int .i64 slo, .int .i64 shi, .int .i64 winch], z30, z31, z32, z33, z34, z35, z36, z37, z38, z39, z40, z41, z42, z43, z44, z45, z46, z47, z48, z49, z50, z51, z52, z53, z54, z55, z56, z57, z58, z59, z60, z61, z62, z63, z64, z65, z66, z67, z68, z69, z70, z71, z72, z73, z74, z75, z76, z77, z78, z79, z80, z81, z82, z83, z84, z85, z86, z87, z88, z89, z90, z91, z92, z93, z94, z95, z96, z97, z98, z99, z100, z101, z102, z103, z104, z105, z106, z107, z108, z109, z110, z111, z112, z113, z114, z115, z116, z117, z118, z119, z120, z121, z122, z123, z124, z125, z126, z127, z128, z129, z130, z131, z132, z133, z134, z135, z136, z137, z138, z139, z140, z141, z142, z143, z144, z145, z146, z147, z148, z149, z150, z151, z152, z153, z154, z155, z156, z157, z158, z159, z160, z161, z162, z163, z164, z165, z166, z167, z168, z169, z170, z171, z172, z173, z174], []⟩ w := by
  have _used := hQ
  clear _used
  refine wpAnyH_ready (rs := [5]) (by kernel_rfl) (by simp) ?_
  refine AllReadyH.cons (o := opN ops14_3 5) (by kernel_rfl) (fun K hK => ?_) AllReadyH.nil
  · skip
    obtain ⟨o, e⟩ : ∃ o, o = opN ops14_3 5 := ⟨_, rfl⟩
    rw [← e]
    conv at e => rhs; whnf
    subst e
    go_simp
    refine hK.out _ _ (belowA hB _) (fun hHeld => ?_)
    clear hK
    (try simp only [List.setIfInBounds_toArray, List.set_cons_zero, List.set_cons_succ])
    exact st14_3_3_4_5 hQ (belowA hB _) (b7.alloc _) n7 (b8.alloc _) n8 (Blk.new w 27 _) hB.size d78 (Nat.ne_of_lt b7.lt) (Nat.ne_of_lt b8.lt)

set_option maxRecDepth 100000 in
set_option maxHeartbeats 2000000 in
theorem st14_3_3_5 {Q : Exit → Act → World → Prop} {V : World} {n cap m capJ pb : Nat} {A J : Option Addr} {slo shi winch : Int} {g7 g9 : Nat} {z0 z1 z2 z4 z5 z6 z8 z10 z11 z12 z13 z14 z15 z16 z17 z18 z19 z20 z21 z22 z23 z24 z25 z26 z30 z31 z32 z33 z34 z35 z36 z37 z38 z39 z40 z41 z42 z43 z44 z45 z46 z47 z48 z49 z50 z51 z52 z53 z54 z55 z56 z57 z58 z59 z60 z61 z62 z63 z64 z65 z66 z67 z68 z69 z70 z71 z72 z73 z74 z75 z76 z77 z78 z79 z80 z81 z82 z83 z84 z85 z86 z87 z88 z89 z90 z91 z92 z93 z94 z95 z96 z97 z98 z99 z100 z101 z102 z103 z104 z105 z106 z107 z108 z109 z110 z111 z112 z113 z114 z115 z116 z117 z118 z119 z120 z121 z122 z123 z124 z125 z126 z127 z128 z129 z130 z131 z132 z133 z134 z135 z136 z137 z138 z139 z140 z141 z142 z143 z144 z145 z146 z147 z148 z149 z150 z151 z152 z153 z154 z155 z156 z157 z158 z159 z160 z161 z162 z163 z164 z165 z166 z167 z168 z169 z170 z171 z172 z173 z174 : Value}
    (hQ : ∀ g7 g8 g9 u27 u28 u29 wx, Three V wx g7 g8 g9 #[.slice A n cap, .slice J m capJ, .int .i64 slo, .int .i64 shi, .int .i64 winch] → Q .normal ⟨#[z0, z1, z2, .pointer (some ⟨pb, 0, none⟩), z4, z5, z6, ptr g7, ptr g8, ptr g9, z10, z11, z12, z13, z14, z15, z16, z17, z18, z19, z20, z21, z22, z23, z24, z25, z26, u27, u28, u29, z30, z31, z32, z33, z34, z35, z36, z37, z38, z39, z40, z41, z42, z43, z44, z45, z46, z47, z48, z49, z50, z51, z52, z53, z54, z55, z56, z57, z58, z59, z60, z61, z62, z63, z64, z65, z66, z67, z68, z69, z70, z71, z72, z73, z74, z75, z76, z77, z78, z79, z80, z81, z82, z83, z84, z85, z86, z87, z88, z89, z90, z91, z92, z93, z94, z95, z96, z97, z98, z99, z100, z101, z102, z103, z104, z105, z106, z107, z108, z109, z110, z111, z112, z113, z114, z115, z116, z117, z118, z119, z120, z121, z122, z123, z124, z125, z126, z127, z128, z129, z130, z131, z132, z133, z134, z135, z136, z137, z138, z139, z140, z141, z142, z143, z144, z145, z146, z147, z148, z149, z150, z151, z152, z153, z154, z155, z156, z157, z158, z159, z160, z161, z162, z163, z164, z165, z166, z167, z168, z169, z170, z171, z172, z173, z174], []⟩ wx) {w : World} (hB : Below V.heap.size V w) (b7 : Blk w g7 27 #[.slice none 0 0, .slice none 0 0, .int .i64 0, .int .i64 0, .int .i64 0]) (n7 : V.heap.size ≤ g7) (b9 : Blk w g9 27 #[.slice none 0 0, .slice none 0 0, .int .i64 0, .int .i64 0, .int .i64 0]) (n9 : V.heap.size ≤ g9) (d79 : g7 ≠ g9) :
    wpAnyH Try.prog .any ops14_3 (NoPanic Q) (fun W => Below V.heap.size V W) 4 #[true, true, true, true, false, true, false, false, false] ⟨#[z0, z1, z2, .pointer (some ⟨pb, 0, none⟩), z4, z5, z6, ptr g7, z8, ptr g9, z10, z11, z12, z13, z14, z15, z16, z17, z18, z19, z20, z21, z22, z23, z24, z25, z26, .agg #[.slice A n cap, .slice J m capJ, .int .i64 slo, .int .i64 shi, .int .i64 winch], .agg #[.slice A n cap, .slice J m capJ, .int .i64 slo, .int .i64 shi, .int .i64 winch], .agg #[.slice A n cap, .slice J m capJ, .int .i64 slo, .int .i64 shi, .int .i64 winch], z30, z31, z32, z33, z34, z35, z36, z37, z38, z39, z40, z41, z42, z43, z44, z45, z46, z47, z48, z49, z50, z51, z52, z53, z54, z55, z56, z57, z58, z59, z60, z61, z62, z63, z64, z65, z66, z67, z68, z69, z70, z71, z72, z73, z74, z75, z76, z77, z78, z79, z80, z81, z82, z83, z84, z85, z86, z87, z88, z89, z90, z91, z92, z93, z94, z95, z96, z97, z98, z99, z100, z101, z102, z103, z104, z105, z106, z107, z108, z109, z110, z111, z112, z113, z114, z115, z116, z117, z118, z119, z120, z121, z122, z123, z124, z125, z126, z127, z128, z129, z130, z131, z132, z133, z134, z135, z136, z137, z138, z139, z140, z141, z142, z143, z144, z145, z146, z147, z148, z149, z150, z151, z152, z153, z154, z155, z156, z157, z158, z159, z160, z161, z162, z163, z164, z165, z166, z167, z168, z169, z170, z171, z172, z173, z174], []⟩ w := by
  have _used := hQ
  clear _used
  refine wpAnyH_ready (rs := [4]) (by kernel_rfl) (by simp) ?_
  refine AllReadyH.cons (o := opN ops14_3 4) (by kernel_rfl) (fun K hK => ?_) AllReadyH.nil
  · skip
    obtain ⟨o, e⟩ : ∃ o, o = opN ops14_3 4 := ⟨_, rfl⟩
    rw [← e]
    conv at e => rhs; whnf
    subst e
    go_simp
    refine hK.out _ _ (belowA hB _) (fun hHeld => ?_)
    clear hK
    (try simp only [List.setIfInBounds_toArray, List.set_cons_zero, List.set_cons_succ])
    exact st14_3_3_4_5 hQ (belowA hB _) (b7.alloc _) n7 (Blk.new w 27 _) hB.size (b9.alloc _) n9 (Nat.ne_of_lt b7.lt) d79 (Nat.ne_of_gt b9.lt)

set_option maxRecDepth 100000 in
set_option maxHeartbeats 2000000 in
theorem st14_3_4_5 {Q : Exit → Act → World → Prop} {V : World} {n cap m capJ pb : Nat} {A J : Option Addr} {slo shi winch : Int} {g8 g9 : Nat} {z0 z1 z2 z4 z5 z6 z7 z10 z11 z12 z13 z14 z15 z16 z17 z18 z19 z20 z21 z22 z23 z24 z25 z26 z30 z31 z32 z33 z34 z35 z36 z37 z38 z39 z40 z41 z42 z43 z44 z45 z46 z47 z48 z49 z50 z51 z52 z53 z54 z55 z56 z57 z58 z59 z60 z61 z62 z63 z64 z65 z66 z67 z68 z69 z70 z71 z72 z73 z74 z75 z76 z77 z78 z79 z80 z81 z82 z83 z84 z85 z86 z87 z88 z89 z90 z91 z92 z93 z94 z95 z96 z97 z98 z99 z100 z101 z102 z103 z104 z105 z106 z107 z108 z109 z110 z111 z112 z113 z114 z115 z116 z117 z118 z119 z120 z121 z122 z123 z124 z125 z126 z127 z128 z129 z130 z131 z132 z133 z134 z135 z136 z137 z138 z139 z140 z141 z142 z143 z144 z145 z146 z147 z148 z149 z150 z151 z152 z153 z154 z155 z156 z157 z158 z159 z160 z161 z162 z163 z164 z165 z166 z167 z168 z169 z170 z171 z172 z173 z174 : Value}
    (hQ : ∀ g7 g8 g9 u27 u28 u29 wx, Three V wx g7 g8 g9 #[.slice A n cap, .slice J m capJ, .int .i64 slo, .int .i64 shi, .int .i64 winch] → Q .normal ⟨#[z0, z1, z2, .pointer (some ⟨pb, 0, none⟩), z4, z5, z6, ptr g7, ptr g8, ptr g9, z10, z11, z12, z13, z14, z15, z16, z17, z18, z19, z20, z21, z22, z23, z24, z25, z26, u27, u28, u29, z30, z31, z32, z33, z34, z35, z36, z37, z38, z39, z40, z41, z42, z43, z44, z45, z46, z47, z48, z49, z50, z51, z52, z53, z54, z55, z56, z57, z58, z59, z60, z61, z62, z63, z64, z65, z66, z67, z68, z69, z70, z71, z72, z73, z74, z75, z76, z77, z78, z79, z80, z81, z82, z83, z84, z85, z86, z87, z88, z89, z90, z91, z92, z93, z94, z95, z96, z97, z98, z99, z100, z101, z102, z103, z104, z105, z106, z107, z108, z109, z110, z111, z112, z113, z114, z115, z116, z117, z118, z119, z120, z121, z122, z123, z124, z125, z126, z127, z128, z129, z130, z131, z132, z133, z134, z135, z136, z137, z138, z139, z140, z141, z142, z143, z144, z145, z146, z147, z148, z149, z150, z151, z152, z153, z154, z155, z156, z157, z158, z159, z160, z161, z162, z163, z164, z165, z166, z167, z168, z169, z170, z171, z172, z173, z174], []⟩ wx) {w : World} (hB : Below V.heap.size V w) (b8 : Blk w g8 27 #[.slice none 0 0, .slice none 0 0, .int .i64 0, .int .i64 0, .int .i64 0]) (n8 : V.heap.size ≤ g8) (b9 : Blk w g9 27 #[.slice none 0 0, .slice none 0 0, .int .i64 0, .int .i64 0, .int .i64 0]) (n9 : V.heap.size ≤ g9) (d89 : g8 ≠ g9) :
    wpAnyH Try.prog .any ops14_3 (NoPanic Q) (fun W => Below V.heap.size V W) 4 #[true, true, true, false, true, true, false, false, false] ⟨#[z0, z1, z2, .pointer (some ⟨pb, 0, none⟩), z4, z5, z6, z7, ptr g8, ptr g9, z10, z11, z12, z13, z14, z15, z16, z17, z18, z19, z20, z21, z22, z23, z24, z25, z26, .agg #[.slice A n cap, .slice J m capJ, .int .i64 slo, .int .i64 shi, .int .i64 winch], .agg #[.slice A n cap, .slice J m capJ, .int .i64 slo, .int .i64 shi, .int .i64 winch], .agg #[.slice A n cap, .slice J m capJ, .int .i64 slo, .int .i64 shi, .int .i64 winch], z30, z31, z32, z33, z34, z35, z36, z37, z38, z39, z40, z41, z42, z43, z44, z45, z46, z47, z48, z49, z50, z51, z52, z53, z54, z55, z56, z57, z58, z59, z60, z61, z62, z63, z64, z65, z66, z67, z68, z69, z70, z71, z72, z73, z74, z75, z76, z77, z78, z79, z80, z81, z82, z83, z84, z85, z86, z87, z88, z89, z90, z91, z92, z93, z94, z95, z96, z97, z98, z99, z100, z101, z102, z103, z104, z105, z106, z107, z108, z109, z110, z111, z112, z113, z114, z115, z116, z117, z118, z119, z120, z121, z122, z123, z124, z125, z126, z127, z128, z129, z130, z131, z132, z133, z134, z135, z136, z137, z138, z139, z140, z141, z142, z143, z144, z145, z146, z147, z148, z149, z150, z151, z152, z153, z154, z155, z156, z157, z158, z159, z160, z161, z162, z163, z164, z165, z166, z167, z168, z169, z170, z171, z172, z173, z174], []⟩ w := by
  have _used := hQ
  clear _used
  refine wpAnyH_ready (rs := [3]) (by kernel_rfl) (by simp) ?_
  refine AllReadyH.cons (o := opN ops14_3 3) (by kernel_rfl) (fun K hK => ?_) AllReadyH.nil
  · skip
    obtain ⟨o, e⟩ : ∃ o, o = opN ops14_3 3 := ⟨_, rfl⟩
    rw [← e]
    conv at e => rhs; whnf
    subst e
    go_simp
    refine hK.out _ _ (belowA hB _) (fun hHeld => ?_)
    clear hK
    (try simp only [List.setIfInBounds_toArray, List.set_cons_zero, List.set_cons_succ])
    exact st14_3_3_4_5 hQ (belowA hB _) (Blk.new w 27 _) hB.size (b8.alloc _) n8 (b9.alloc _) n9 (Nat.ne_of_gt b8.lt) (Nat.ne_of_gt b9.lt) d89

set_option maxRecDepth 100000 in
set_option maxHeartbeats 2000000 in
theorem st14_3_3 {Q : Exit → Act → World → Prop} {V : World} {n cap m capJ pb : Nat} {A J : Option Addr} {slo shi winch : Int} {g7 : Nat} {z0 z1 z2 z4 z5 z6 z8 z9 z10 z11 z12 z13 z14 z15 z16 z17 z18 z19 z20 z21 z22 z23 z24 z25 z26 z30 z31 z32 z33 z34 z35 z36 z37 z38 z39 z40 z41 z42 z43 z44 z45 z46 z47 z48 z49 z50 z51 z52 z53 z54 z55 z56 z57 z58 z59 z60 z61 z62 z63 z64 z65 z66 z67 z68 z69 z70 z71 z72 z73 z74 z75 z76 z77 z78 z79 z80 z81 z82 z83 z84 z85 z86 z87 z88 z89 z90 z91 z92 z93 z94 z95 z96 z97 z98 z99 z100 z101 z102 z103 z104 z105 z106 z107 z108 z109 z110 z111 z112 z113 z114 z115 z116 z117 z118 z119 z120 z121 z122 z123 z124 z125 z126 z127 z128 z129 z130 z131 z132 z133 z134 z135 z136 z137 z138 z139 z140 z141 z142 z143 z144 z145 z146 z147 z148 z149 z150 z151 z152 z153 z154 z155 z156 z157 z158 z159 z160 z161 z162 z163 z164 z165 z166 z167 z168 z169 z170 z171 z172 z173 z174 : Value}
    (hQ : ∀ g7 g8 g9 u27 u28 u29 wx, Three V wx g7 g8 g9 #[.slice A n cap, .slice J m capJ, .int .i64 slo, .int .i64 shi, .int .i64 winch] → Q .normal ⟨#[z0, z1, z2, .pointer (some ⟨pb, 0, none⟩), z4, z5, z6, ptr g7, ptr g8, ptr g9, z10, z11, z12, z13, z14, z15, z16, z17, z18, z19, z20, z21, z22, z23, z24, z25, z26, u27, u28, u29, z30, z31, z32, z33, z34, z35, z36, z37, z38, z39, z40, z41, z42, z43, z44, z45, z46, z47, z48, z49, z50, z51, z52, z53, z54, z55, z56, z57, z58, z59, z60, z61, z62, z63, z64, z65, z66, z67, z68, z69, z70, z71, z72, z73, z74, z75, z76, z77, z78, z79, z80, z81, z82, z83, z84, z85, z86, z87, z88, z89, z90, z91, z92, z93, z94, z95, z96, z97, z98, z99, z100, z101, z102, z103, z104, z105, z106, z107, z108, z109, z110, z111, z112, z113, z114, z115, z116, z117, z118, z119, z120, z121, z122, z123, z124, z125, z126, z127, z128, z129, z130, z131, z132, z133, z134, z135, z136, z137, z138, z139, z140, z141, z142, z143, z144, z145, z146, z147, z148, z149, z150, z151, z152, z153, z154, z155, z156, z157, z158, z159, z160, z161, z162, z163, z164, z165, z166, z167, z168, z169, z170, z171, z172, z173, z174], []⟩ wx) {w : World} (hB : Below V.heap.size V w) (b7 : Blk w g7 27 #[.slice none 0 0, .slice none 0 0, .int .i64 0, .int .i64 0, .int .i64 0]) (n7 : V.heap.size ≤ g7)  :
    wpAnyH Try.prog .any ops14_3 (NoPanic Q) (fun W => Below V.heap.size V W) 5 #[true, true, true, true, false, false, false, false, false] ⟨#[z0, z1, z2, .pointer (some ⟨pb, 0, none⟩), z4, z5, z6, ptr g7, z8, z9, z10, z11, z12, z13, z14, z15, z16, z17, z18, z19, z20, z21, z22, z23, z24, z25, z26, .agg #[.slice A n cap, .slice J m capJ, .int .i64 slo, .int .i64 shi, .int .i64 winch], .agg #[.slice A n cap, .slice J m capJ, .int .i64 slo, .int .i64 shi, .int .i64 winch], .agg #[.slice A n cap, .slice J m capJ, .int .i64 slo, .int .i64 shi, .int .i64 winch], z30, z31, z32, z33, z34, z35, z36, z37, z38, z39, z40, z41, z42, z43, z44, z45, z46, z47, z48, z49, z50, z51, z52, z53, z54, z55, z56, z57, z58, z59, z60, z61, z62, z63, z64, z65, z66, z67, z68, z69, z70, z71, z72, z73, z74, z75, z76, z77, z78, z79, z80, z81, z82, z83, z84, z85, z86, z87, z88, z89, z90, z91, z92, z93, z94, z95, z96, z97, z98, z99, z100, z101, z102, z103, z104, z105, z106, z107, z108, z109, z110, z111, z112, z113, z114, z115, z116, z117, z118, z119, z120, z121, z122, z123, z124, z125, z126, z127, z128, z129, z130, z131, z132, z133, z134, z135, z136, z137, z138, z139, z140, z141, z142, z143, z144, z145, z146, z147, z148, z149, z150, z151, z152, z153, z154, z155, z156, z157, z158, z159, z160, z161, z162, z163, z164, z165, z166, z167, z168, z169, z170, z171, z172, z173, z174], []⟩ w := by
  have _used := hQ
  clear _used
  refine wpAnyH_ready (rs := [4, 5]) (by kernel_rfl) (by simp) ?_
  refine AllReadyH.cons (o := opN ops14_3 4) (by kernel_rfl) (fun K hK => ?_) (AllReadyH.cons (o := opN ops14_3 5) (by kernel_rfl) (fun K hK => ?_) AllReadyH.nil)
  · skip
    obtain ⟨o, e⟩ : ∃ o, o = opN ops14_3 4 := ⟨_, rfl⟩
    rw [← e]
    conv at e => rhs; whnf
    subst e
    go_simp
    refine hK.out _ _ (belowA hB _) (fun hHeld => ?_)
    clear hK
    (try simp only [List.setIfInBounds_toArray, List.set_cons_zero, List.set_cons_succ])
    exact st14_3_3_4 hQ (belowA hB _) (b7.alloc _) n7 (Blk.new w 27 _) hB.size (Nat.ne_of_lt b7.lt)
  · skip
    obtain ⟨o, e⟩ : ∃ o, o = opN ops14_3 5 := ⟨_, rfl⟩
    rw [← e]
    conv at e => rhs; whnf
    subst e
    go_simp
    refine hK.out _ _ (belowA hB _) (fun hHeld => ?_)
    clear hK
    (try simp only [List.setIfInBounds_toArray, List.set_cons_zero, List.set_cons_succ])
    exact st14_3_3_5 hQ (belowA hB _) (b7.alloc _) n7 (Blk.new w 27 _) hB.size (Nat.ne_of_lt b7.lt)

set_option maxRecDepth 100000 in
set_option maxHeartbeats 2000000 in
theorem st14_3_4 {Q : Exit → Act → World → Prop} {V : World} {n cap m capJ pb : Nat} {A J : Option Addr} {slo shi winch : Int} {g8 : Nat} {z0 z1 z2 z4 z5 z6 z7 z9 z10 z11 z12 z13 z14 z15 z16 z17 z18 z19 z20 z21 z22 z23 z24 z25 z26 z30 z31 z32 z33 z34 z35 z36 z37 z38 z39 z40 z41 z42 z43 z44 z45 z46 z47 z48 z49 z50 z51 z52 z53 z54 z55 z56 z57 z58 z59 z60 z61 z62 z63 z64 z65 z66 z67 z68 z69 z70 z71 z72 z73 z74 z75 z76 z77 z78 z79 z80 z81 z82 z83 z84 z85 z86 z87 z88 z89 z90 z91 z92 z93 z94 z95 z96 z97 z98 z99 z100 z101 z102 z103 z104 z105 z106 z107 z108 z109 z110 z111 z112 z113 z114 z115 z116 z117 z118 z119 z120 z121 z122 z123 z124 z125 z126 z127 z128 z129 z130 z131 z132 z133 z134 z135 z136 z137 z138 z139 z140 z141 z142 z143 z144 z145 z146 z147 z148 z149 z150 z151 z152 z153 z154 z155 z156 z157 z158 z159 z160 z161 z162 z163 z164 z165 z166 z167 z168 z169 z170 z171 z172 z173 z174 : Value}
    (hQ : ∀ g7 g8 g9 u27 u28 u29 wx, Three V wx g7 g8 g9 #[.slice A n cap, .slice J m capJ, .int .i64 slo, .int .i64 shi, .int .i64 winch] → Q .normal ⟨#[z0, z1, z2, .pointer (some ⟨pb, 0, none⟩), z4, z5, z6, ptr g7, ptr g8, ptr g9, z10, z11, z12, z13, z14, z15, z16, z17, z18, z19, z20, z21, z22, z23, z24, z25, z26, u27, u28, u29, z30, z31, z32, z33, z34, z35, z36, z37, z38, z39, z40, z41, z42, z43, z44, z45, z46, z47, z48, z49, z50, z51, z52, z53, z54, z55, z56, z57, z58, z59, z60, z61, z62, z63, z64, z65, z66, z67, z68, z69, z70, z71, z72, z73, z74, z75, z76, z77, z78, z79, z80, z81, z82, z83, z84, z85, z86, z87, z88, z89, z90, z91, z92, z93, z94, z95, z96, z97, z98, z99, z100, z101, z102, z103, z104, z105, z106, z107, z108, z109, z110, z111, z112, z113, z114, z115, z116, z117, z118, z119, z120, z121, z122, z123, z124, z125, z126, z127, z128, z129, z130, z131, z132, z133, z134, z135, z136, z137, z138, z139, z140, z141, z142, z143, z144, z145, z146, z147, z148, z149, z150, z151, z152, z153, z154, z155, z156, z157, z158, z159, z160, z161, z162, z163, z164, z165, z166, z167, z168, z169, z170, z171, z172, z173, z174], []⟩ wx) {w : World} (hB : Below V.heap.size V w) (b8 : Blk w g8 27 #[.slice none 0 0, .slice none 0 0, .int .i64 0, .int .i64 0, .int .i64 0]) (n8 : V.heap.size ≤ g8)  :
    wpAnyH Try.prog .any ops14_3 (NoPanic Q) (fun W => Below V.heap.size V W) 5 #[true, true, true, false, true, false, false, false, false] ⟨#[z0, z1, z2, .pointer (some ⟨pb, 0, none⟩), z4, z5, z6, z7, ptr g8, z9, z10, z11, z12, z13, z14, z15, z16, z17, z18, z19, z20, z21, z22, z23, z24, z25, z26, .agg #[.slice A n cap, .slice J m capJ, .int .i64 slo, .int .i64 shi, .int .i64 winch], .agg #[.slice A n cap, .slice J m capJ, .int .i64 slo, .int .i64 shi, .int .i64 winch], .agg #[.slice A n cap, .slice J m capJ, .int .i64 slo, .int .i64 shi, .int .i64 winch], z30, z31, z32, z33, z34, z35, z36, z37, z38, z39, z40, z41, z42, z43, z44, z45, z46, z47, z48, z49, z50, z51, z52, z53, z54, z55, z56, z57, z58, z59, z60, z61, z62, z63, z64, z65, z66, z67, z68, z69, z70, z71, z72, z73, z74, z75, z76, z77, z78, z79, z80, z81, z82, z83, z84, z85, z86, z87, z88, z89, z90, z91, z92, z93, z94, z95, z96, z97, z98, z99, z100, z101, z102, z103, z104, z105, z106, z107, z108, z109, z110, z111, z112, z113, z114, z115, z116, z117, z118, z119, z120, z121, z122, z123, z124, z125, z126, z127, z128, z129, z130, z131, z132, z133, z134, z135, z136, z137, z138, z139, z140, z141, z142, z143, z144, z145, z146, z147, z148, z149, z150, z151, z152, z153, z154, z155, z156, z157, z158, z159, z160, z161, z162, z163, z164, z165, z166, z167, z168, z169, z170, z171, z172, z173, z174], []⟩ w := by
  have _used := hQ
  clear _used
  refine wpAnyH_ready (rs := [3, 5]) (by kernel_rfl) (by simp) ?_
  refine AllReadyH.cons (o := opN ops14_3 3) (by kernel_rfl) (fun K hK => ?_) (AllReadyH.cons (o := opN ops14_3 5) (by kernel_rfl) (fun K hK => ?_) AllReadyH.nil)
  · skip
    obtain ⟨o, e⟩ : ∃ o, o = opN ops14_3 3 := ⟨_, rfl⟩
    rw [← e]
    conv at e => rhs; whnf
    subst e
    go_simp
    refine hK.out _ _ (belowA hB _) (fun hHeld => ?_)
    clear hK
    (try simp only [List.setIfInBounds_toArray, List.set_cons_zero, List.set_cons_succ])
    exact st14_3_3_4 hQ (belowA hB _) (Blk.new w 27 _) hB.size (b8.alloc _) n8 (Nat.ne_of_gt b8.lt)
  · skip
    obtain ⟨o, e⟩ : ∃ o, o = opN ops14_3 5 := ⟨_, rfl⟩
    rw [← e]
    conv at e => rhs; whnf
    subst e
    go_simp
    refine hK.out _ _ (belowA hB _) (fun hHeld => ?_)
    clear hK
    (try simp only [List.setIfInBounds_toArray, List.set_cons_zero, List.set_cons_succ])
    exact st14_3_4_5 hQ (belowA hB _) (b8.alloc _) n8 (Blk.new w 27 _) hB.size (Nat.ne_of_lt b8.lt)

set_option maxRecDepth 100000 in
set_option maxHeartbeats 2000000 in
theorem st14_3_5 {Q : Exit → Act → World → Prop} {V : World} {n cap m capJ pb : Nat} {A J : Option Addr} {slo shi winch : Int} {g9 : Nat} {z0 z1 z2 z4 z5 z6 z7 z8 z10 z11 z12 z13 z14 z15 z16 z17 z18 z19 z20 z21 z22 z23 z24 z25 z26 z30 z31 z32 z33 z34 z35 z36 z37 z38 z39 z40 z41 z42 z43 z44 z45 z46 z47 z48 z49 z50 z51 z52 z53 z54 z55 z56 z57 z58 z59 z60 z61 z62 z63 z64 z65 z66 z67 z68 z69 z70 z71 z72 z73 z74 z75 z76 z77 z78 z79 z80 z81 z82 z83 z84 z85 z86 z87 z88 z89 z90 z91 z92 z93 z94 z95 z96 z97 z98 z99 z100 z101 z102 z103 z104 z105 z106 z107 z108 z109 z110 z111 z112 z113 z114 z115 z116 z117 z118 z119 z120 z121 z122 z123 z124 z125 z126 z127 z128 z129 z130 z131 z132 z133 z134 z135 z136 z137 z138 z139 z140 z141 z142 z143 z144 z145 z146 z147 z148 z149 z150 z151 z152 z153 z154 z155 z156 z157 z158 z159 z160 z161 z162 z163 z164 z165 z166 z167 z168 z169 z170 z171 z172 z173 z174 : Value}
    (hQ : ∀ g7 g8 g9 u27 u28 u29 wx, Three V wx g7 g8 g9 #[.slice A n cap, .slice J m capJ, .int .i64 slo, .int .i64 shi, .int .i64 winch] → Q .normal ⟨#[z0, z1, z2, .pointer (some ⟨pb, 0, none⟩), z4, z5, z6, ptr g7, ptr g8, ptr g9, z10, z11, z12, z13, z14, z15, z16, z17, z18, z19, z20, z21, z22, z23, z24, z25, z26, u27, u28, u29, z30, z31, z32, z33, z34, z35, z36, z37, z38, z39, z40, z41, z42, z43, z44, z45, z46, z47, z48, z49, z50, z51, z52, z53, z54, z55, z56, z57, z58, z59, z60, z61, z62, z63, z64, z65, z66, z67, z68, z69, z70, z71, z72, z73, z74, z75, z76, z77, z78, z79, z80, z81, z82, z83, z84, z85, z86, z87, z88, z89, z90, z91, z92, z93, z94, z95, z96, z97, z98, z99, z100, z101, z102, z103, z104, z105, z106, z107, z108, z109, z110, z111, z112, z113, z114, z115, z116, z117, z118, z119, z120, z121, z122, z123, z124, z125, z126, z127, z128, z129, z130, z131, z132, z133, z134, z135, z136, z137, z138, z139, z140, z141, z142, z143, z144, z145, z146, z147, z148, z149, z150, z151, z152, z153, z154, z155, z156, z157, z158, z159, z160, z161, z162, z163, z164, z165, z166, z167, z168, z169, z170, z171, z172, z173, z174], []⟩ wx) {w : World} (hB : Below V.heap.size V w) (b9 : Blk w g9 27 #[.slice none 0 0, .slice none 0 0, .int .i64 0, .int .i64 0, .int .i64 0]) (n9 : V.heap.size ≤ g9)  :
    wpAnyH Try.prog .any ops14_3 (NoPanic Q) (fun W => Below V.heap.size V W) 5 #[true, true, true, false, false, true, false, false, false] ⟨#[z0, z1, z2, .pointer (some ⟨pb, 0, none⟩), z4, z5, z6, z7, z8, ptr g9, z10, z11, z12, z13, z14, z15, z16, z17, z18, z19, z20, z21, z22, z23, z24, z25, z26, .agg #[.slice A n cap, .slice J m capJ, .int .i64 slo, .int .i64 shi, .int .i64 winch], .agg #[.slice A n cap, .slice J m capJ, .int .i64 slo, .int .i64 shi, .int .i64 winch], .agg #[.slice A n cap, .slice J m capJ, .int .i64 slo, .int .i64 shi, .int .i64 winch], z30, z31, z32, z33, z34, z35, z36, z37, z38, z39, z40, z41, z42, z43, z44, z45, z46, z47, z48, z49, z50, z51, z52, z53, z54, z55, z56, z57, z58, z59, z60, z61, z62, z63, z64, z65, z66, z67, z68, z69, z70, z71, z72, z73, z74, z75, z76, z77, z78, z79, z80, z81, z82, z83, z84, z85, z86, z87, z88, z89, z90, z91, z92, z93, z94, z95, z96, z97, z98, z99, z100, z101, z102, z103, z104, z105, z106, z107, z108, z109, z110, z111, z112, z113, z114, z115, z116, z117, z118, z119, z120, z121, z122, z123, z124, z125, z126, z127, z128, z129, z130, z131, z132, z133, z134, z135, z136, z137, z138, z139, z140, z141, z142, z143, z144, z145, z146, z147, z148, z149, z150, z151, z152, z153, z154, z155, z156, z157, z158, z159, z160, z161, z162, z163, z164, z165, z166, z167, z168, z169, z170, z171, z172, z173, z174], []⟩ w := by
  have _used := hQ
  clear _used
  refine wpAnyH_ready (rs := [3, 4]) (by kernel_rfl) (by simp) ?_
  refine AllReadyH.cons (o := opN ops14_3 3) (by kernel_rfl) (fun K hK => ?_) (AllReadyH.cons (o := opN ops14_3 4) (by kernel_rfl) (fun K hK => ?_) AllReadyH.nil)
  · skip
    obtain ⟨o, e⟩ : ∃ o, o = opN ops14_3 3 := ⟨_, rfl⟩
    rw [← e]
    conv at e => rhs; whnf
    subst e
    go_simp
    refine hK.out _ _ (belowA hB _) (fun hHeld => ?_)
    clear hK
    (try simp only [List.setIfInBounds_toArray, List.set_cons_zero, List.set_cons_succ])
    exact st14_3_3_5 hQ (belowA hB _) (Blk.new w 27 _) hB.size (b9.alloc _) n9 (Nat.ne_of_gt b9.lt)
  · skip
    obtain ⟨o, e⟩ : ∃ o, o = opN ops14_3 4 := ⟨_, rfl⟩
    rw [← e]
    conv at e => rhs; whnf
    subst e
    go_simp
    refine hK.out _ _ (belowA hB _) (fun hHeld => ?_)
    clear hK
    (try simp only [List.setIfInBounds_toArray, List.set_cons_zero, List.set_cons_succ])
    exact st14_3_4_5 hQ (belowA hB _) (Blk.new w 27 _) hB.size (b9.alloc _) n9 (Nat.ne_of_gt b9.lt)

set_option maxRecDepth 100000 in
set_option maxHeartbeats 2000000 in
theorem st14_3 {Q : Exit → Act → World → Prop} {V : World} {n cap m capJ pb : Nat} {A J : Option Addr} {slo shi winch : Int} {z0 z1 z2 z4 z5 z6 z7 z8 z9 z10 z11 z12 z13 z14 z15 z16 z17 z18 z19 z20 z21 z22 z23 z24 z25 z26 z30 z31 z32 z33 z34 z35 z36 z37 z38 z39 z40 z41 z42 z43 z44 z45 z46 z47 z48 z49 z50 z51 z52 z53 z54 z55 z56 z57 z58 z59 z60 z61 z62 z63 z64 z65 z66 z67 z68 z69 z70 z71 z72 z73 z74 z75 z76 z77 z78 z79 z80 z81 z82 z83 z84 z85 z86 z87 z88 z89 z90 z91 z92 z93 z94 z95 z96 z97 z98 z99 z100 z101 z102 z103 z104 z105 z106 z107 z108 z109 z110 z111 z112 z113 z114 z115 z116 z117 z118 z119 z120 z121 z122 z123 z124 z125 z126 z127 z128 z129 z130 z131 z132 z133 z134 z135 z136 z137 z138 z139 z140 z141 z142 z143 z144 z145 z146 z147 z148 z149 z150 z151 z152 z153 z154 z155 z156 z157 z158 z159 z160 z161 z162 z163 z164 z165 z166 z167 z168 z169 z170 z171 z172 z173 z174 : Value}
    (hQ : ∀ g7 g8 g9 u27 u28 u29 wx, Three V wx g7 g8 g9 #[.slice A n cap, .slice J m capJ, .int .i64 slo, .int .i64 shi, .int .i64 winch] → Q .normal ⟨#[z0, z1, z2, .pointer (some ⟨pb, 0, none⟩), z4, z5, z6, ptr g7, ptr g8, ptr g9, z10, z11, z12, z13, z14, z15, z16, z17, z18, z19, z20, z21, z22, z23, z24, z25, z26, u27, u28, u29, z30, z31, z32, z33, z34, z35, z36, z37, z38, z39, z40, z41, z42, z43, z44, z45, z46, z47, z48, z49, z50, z51, z52, z53, z54, z55, z56, z57, z58, z59, z60, z61, z62, z63, z64, z65, z66, z67, z68, z69, z70, z71, z72, z73, z74, z75, z76, z77, z78, z79, z80, z81, z82, z83, z84, z85, z86, z87, z88, z89, z90, z91, z92, z93, z94, z95, z96, z97, z98, z99, z100, z101, z102, z103, z104, z105, z106, z107, z108, z109, z110, z111, z112, z113, z114, z115, z116, z117, z118, z119, z120, z121, z122, z123, z124, z125, z126, z127, z128, z129, z130, z131, z132, z133, z134, z135, z136, z137, z138, z139, z140, z141, z142, z143, z144, z145, z146, z147, z148, z149, z150, z151, z152, z153, z154, z155, z156, z157, z158, z159, z160, z161, z162, z163, z164, z165, z166, z167, z168, z169, z170, z171, z172, z173, z174], []⟩ wx) {w : World} (hB : Below V.heap.size V w)   :
    wpAnyH Try.prog .any ops14_3 (NoPanic Q) (fun W => Below V.heap.size V W) 6 #[true, true, true, false, false, false, false, false, false] ⟨#[z0, z1, z2, .pointer (some ⟨pb, 0, none⟩), z4, z5, z6, z7, z8, z9, z10, z11, z12, z13, z14, z15, z16, z17, z18, z19, z20, z21, z22, z23, z24, z25, z26, .agg #[.slice A n cap, .slice J m capJ, .int .i64 slo, .int .i64 shi, .int .i64 winch], .agg #[.slice A n cap, .slice J m capJ, .int .i64 slo, .int .i64 shi, .int .i64 winch], .agg #[.slice A n cap, .slice J m capJ, .int .i64 slo, .int .i64 shi, .int .i64 winch], z30, z31, z32, z33, z34, z35, z36, z37, z38, z39, z40, z41, z42, z43, z44, z45, z46, z47, z48, z49, z50, z51, z52, z53, z54, z55, z56, z57, z58, z59, z60, z61, z62, z63, z64, z65, z66, z67, z68, z69, z70, z71, z72, z73, z74, z75, z76, z77, z78, z79, z80, z81, z82, z83, z84, z85, z86, z87, z88, z89, z90, z91, z92, z93, z94, z95, z96, z97, z98, z99, z100, z101, z102, z103, z104, z105, z106, z107, z108, z109, z110, z111, z112, z113, z114, z115, z116, z117, z118, z119, z120, z121, z122, z123, z124, z125, z126, z127, z128, z129, z130, z131, z132, z133, z134, z135, z136, z137, z138, z139, z140, z141, z142, z143, z144, z145, z146, z147, z148, z149, z150, z151, z152, z153, z154, z155, z156, z157, z158, z159, z160, z161, z162, z163, z164, z165, z166, z167, z168, z169, z170, z171, z172, z173, z174], []⟩ w := by
  have _used := hQ
  clear _used
  refine wpAnyH_ready (rs := [3, 4, 5]) (by kernel_rfl) (by simp) ?_
  refine AllReadyH.cons (o := opN ops14_3 3) (by kernel_rfl) (fun K hK => ?_) (AllReadyH.cons (o := opN ops14_3 4) (by kernel_rfl) (fun K hK => ?_) (AllReadyH.cons (o := opN ops14_3 5) (by kernel_rfl) (fun K hK => ?_) AllReadyH.nil))
  · skip
    obtain ⟨o, e⟩ : ∃ o, o = opN ops14_3 3 := ⟨_, rfl⟩
    rw [← e]
    conv at e => rhs; whnf
    subst e
    go_simp
    refine hK.out _ _ (belowA hB _) (fun hHeld => ?_)
    clear hK
    (try simp only [List.setIfInBounds_toArray, List.set_cons_zero, List.set_cons_succ])
    exact st14_3_3 hQ (belowA hB _) (Blk.new w 27 _) hB.size 
  · skip
    obtain ⟨o, e⟩ : ∃ o, o = opN ops14_3 4 := ⟨_, rfl⟩
    rw [← e]
    conv at e => rhs; whnf
    subst e
    go_simp
    refine hK.out _ _ (belowA hB _) (fun hHeld => ?_)
    clear hK
    (try simp only [List.setIfInBounds_toArray, List.set_cons_zero, List.set_cons_succ])
    exact st14_3_4 hQ (belowA hB _) (Blk.new w 27 _) hB.size 
  · skip
    obtain ⟨o, e⟩ : ∃ o, o = opN ops14_3 5 := ⟨_, rfl⟩
    rw [← e]
    conv at e => rhs; whnf
    subst e
    go_simp
    refine hK.out _ _ (belowA hB _) (fun hHeld => ?_)
    clear hK
    (try simp only [List.setIfInBounds_toArray, List.set_cons_zero, List.set_cons_succ])
    exact st14_3_5 hQ (belowA hB _) (Blk.new w 27 _) hB.size 

set_option maxRecDepth 100000 in
set_option maxHeartbeats 2000000 in
theorem reg14_3 {Q : Exit → Act → World → Prop} {V : World} {pb n cap m capJ : Nat} {A J : Option Addr} {slo shi winch : Int} {z0 z1 z2 z4 z5 z6 z7 z8 z9 z10 z11 z12 z13 z14 z15 z16 z17 z18 z19 z20 z21 z22 z23 z24 z25 z26 z27 z28 z29 z30 z31 z32 z33 z34 z35 z36 z37 z38 z39 z40 z41 z42 z43 z44 z45 z46 z47 z48 z49 z50 z51 z52 z53 z54 z55 z56 z57 z58 z59 z60 z61 z62 z63 z64 z65 z66 z67 z68 z69 z70 z71 z72 z73 z74 z75 z76 z77 z78 z79 z80 z81 z82 z83 z84 z85 z86 z87 z88 z89 z90 z91 z92 z93 z94 z95 z96 z97 z98 z99 z100 z101 z102 z103 z104 z105 z106 z107 z108 z109 z110 z111 z112 z113 z114 z115 z116 z117 z118 z119 z120 z121 z122 z123 z124 z125 z126 z127 z128 z129 z130 z131 z132 z133 z134 z135 z136 z137 z138 z139 z140 z141 z142 z143 z144 z145 z146 z147 z148 z149 z150 z151 z152 z153 z154 z155 z156 z157 z158 z159 z160 z161 z162 z163 z164 z165 z166 z167 z168 z169 z170 z171 z172 z173 z174 : Value}
    (hS : ∀ W, Below V.heap.size V W → W.cell? ⟨pb, 0, none⟩ = some (.slice A n cap) ∧ W.cell? ⟨pb, 1, none⟩ = some (.slice J m capJ) ∧ W.cell? ⟨pb, 2, none⟩ = some (.int .i64 slo) ∧ W.cell? ⟨pb, 3, none⟩ = some (.int .i64 shi) ∧ W.cell? ⟨pb, 4, none⟩ = some (.int .i64 winch))
    (hQ : ∀ g7 g8 g9 u27 u28 u29 wx, Three V wx g7 g8 g9 #[.slice A n cap, .slice J m capJ, .int .i64 slo, .int .i64 shi, .int .i64 winch] → Q .normal ⟨#[z0, z1, z2, .pointer (some ⟨pb, 0, none⟩), z4, z5, z6, ptr g7, ptr g8, ptr g9, z10, z11, z12, z13, z14, z15, z16, z17, z18, z19, z20, z21, z22, z23, z24, z25, z26, u27, u28, u29, z30, z31, z32, z33, z34, z35, z36, z37, z38, z39, z40, z41, z42, z43, z44, z45, z46, z47, z48, z49, z50, z51, z52, z53, z54, z55, z56, z57, z58, z59, z60, z61, z62, z63, z64, z65, z66, z67, z68, z69, z70, z71, z72, z73, z74, z75, z76, z77, z78, z79, z80, z81, z82, z83, z84, z85, z86, z87, z88, z89, z90, z91, z92, z93, z94, z95, z96, z97, z98, z99, z100, z101, z102, z103, z104, z105, z106, z107, z108, z109, z110, z111, z112, z113, z114, z115, z116, z117, z118, z119, z120, z121, z122, z123, z124, z125, z126, z127, z128, z129, z130, z131, z132, z133, z134, z135, z136, z137, z138, z139, z140, z141, z142, z143, z144, z145, z146, z147, z148, z149, z150, z151, z152, z153, z154, z155, z156, z157, z158, z159, z160, z161, z162, z163, z164, z165, z166, z167, z168, z169, z170, z171, z172, z173, z174], []⟩ wx) :
    (regionOf Try.f14 3).wp Try.prog Q ⟨#[z0, z1, z2, .pointer (some ⟨pb, 0, none⟩), z4, z5, z6, z7, z8, z9, z10, z11, z12, z13, z14, z15, z16, z17, z18, z19, z20, z21, z22, z23, z24, z25, z26, z27, z28, z29, z30, z31, z32, z33, z34, z35, z36, z37, z38, z39, z40, z41, z42, z43, z44, z45, z46, z47, z48, z49, z50, z51, z52, z53, z54, z55, z56, z57, z58, z59, z60, z61, z62, z63, z64, z65, z66, z67, z68, z69, z70, z71, z72, z73, z74, z75, z76, z77, z78, z79, z80, z81, z82, z83, z84, z85, z86, z87, z88, z89, z90, z91, z92, z93, z94, z95, z96, z97, z98, z99, z100, z101, z102, z103, z104, z105, z106, z107, z108, z109, z110, z111, z112, z113, z114, z115, z116, z117, z118, z119, z120, z121, z122, z123, z124, z125, z126, z127, z128, z129, z130, z131, z132, z133, z134, z135, z136, z137, z138, z139, z140, z141, z142, z143, z144, z145, z146, z147, z148, z149, z150, z151, z152, z153, z154, z155, z156, z157, z158, z159, z160, z161, z162, z163, z164, z165, z166, z167, z168, z169, z170, z171, z172, z173, z174], []⟩ V := by
  have e : regionOf Try.f14 3 = Code.region 3 ops14_3 true := by kernel_rfl
  rw [e]
  have HB : Below V.heap.size V V.drew := belowDq (belowR V)
  have hHeld : (fun W => Below V.heap.size V W) V.drew := HB
  refine wp_region_noPanic ?_
  refine wp_region_held_drew (S := (fun W => Below V.heap.size V W)) (by kernel_rfl) hHeld (fun _ => ?_)
  have hsz : ops14_3.size = 9 := by kernel_rfl
  have hrep : Array.replicate 9 false = #[false, false, false, false, false, false, false, false, false] := by kernel_rfl
  rw [hsz, hrep]
  clear e hsz hrep
  generalize V.drew = V0 at HB hHeld ⊢
  obtain ⟨o, e0⟩ : ∃ o, o = opN ops14_3 0 := ⟨_, rfl⟩
  have e := e0
  conv at e => rhs; whnf
  refine wpAnyH_take (i := 0) (oi := o) (v := .agg #[.slice A n cap, .slice J m capJ, .int .i64 slo, .int .i64 shi, .int .i64 winch]) (by rw [e0]; kernel_rfl) (by kernel_rfl) (by kernel_rfl) (by kernel_rfl) (fun _ _ _ h => h) (Or.inl ⟨by rw [e]; rfl, ?_⟩) (by assumption) ?_
  · clear e0
    subst e
    intro w hSw
    obtain ⟨k0, k1, k2, k3, k4⟩ := hS w hSw
    go_simp
  clear e0
  subst e
  (try simp only [Act.put, List.setIfInBounds_toArray, List.set_cons_zero, List.set_cons_succ])
  obtain ⟨o, e0⟩ : ∃ o, o = opN ops14_3 1 := ⟨_, rfl⟩
  have e := e0
  conv at e => rhs; whnf
  refine wpAnyH_take (i := 1) (oi := o) (v := .agg #[.slice A n cap, .slice J m capJ, .int .i64 slo, .int .i64 shi, .int .i64 winch]) (by rw [e0]; kernel_rfl) (by kernel_rfl) (by kernel_rfl) (by kernel_rfl) (fun _ _ _ h => h) (Or.inl ⟨by rw [e]; rfl, ?_⟩) (by assumption) ?_
  · clear e0
    subst e
    intro w hSw
    obtain ⟨k0, k1, k2, k3, k4⟩ := hS w hSw
    go_simp
  clear e0
  subst e
  (try simp only [Act.put, List.setIfInBounds_toArray, List.set_cons_zero, List.set_cons_succ])
  obtain ⟨o, e0⟩ : ∃ o, o = opN ops14_3 2 := ⟨_, rfl⟩
  have e := e0
  conv at e => rhs; whnf
  refine wpAnyH_take (i := 2) (oi := o) (v := .agg #[.slice A n cap, .slice J m capJ, .int .i64 slo, .int .i64 shi, .int .i64 winch]) (by rw [e0]; kernel_rfl) (by kernel_rfl) (by kernel_rfl) (by kernel_rfl) (fun _ _ _ h => h) (Or.inl ⟨by rw [e]; rfl, ?_⟩) (by assumption) ?_
  · clear e0
    subst e
    intro w hSw
    obtain ⟨k0, k1, k2, k3, k4⟩ := hS w hSw
    go_simp
  clear e0
  subst e
  (try simp only [Act.put, List.setIfInBounds_toArray, List.set_cons_zero, List.set_cons_succ])
  exact st14_3 hQ HB
end Go.Proofs.Ytojgdallodmanaa
