/- ClaimOrder: the region that puts a claim's number in its place. Printed by insreg.py. -/
import Derived.Deep.RegionHeld3
import Derived.Test.YtblbbhenmhkknaaZd5d273
import Derived.Test.YtblbbhenmhkknaaZe720a3
import Derived.Test.YtblbbhenmhkknaaZ6bda3e
namespace Go.Proofs.Ytblbbhenmhkknaa
open Go.RowKit

noncomputable def ops11_12 : Array Oper := opsOf (regionOf Try.f11 12)

set_option maxRecDepth 1000000 in
set_option maxHeartbeats 2000000 in
theorem st11_12_0_4_6_7 {Q : Exit → Act → World → Prop} {V : World} {s1 s2 : Value} {k1 k2 i : Nat} {C1 C2 : List Value}
    {z0 z1 z2 z3 z4 z5 z6 z7 z8 z9 z10 z11 z12 z13 z14 z15 z16 z17 z18 z19 z20 z21 z22 z23 z24 z25 z26 z27 z28 z29 z30 z31 z32 z33 z34 z35 z36 z37 z38 z39 z40 z41 z42 z43 z44 z45 z46 z47 z48 z49 z50 z51 z52 z53 z54 z55 z56 z57 z58 z59 z60 z61 z62 z63 z64 z65 z66 z67 z68 z69 z70 z71 z72 z73 z74 z75 z76 z77 z78 z79 z80 z81 z82 z83 z84 z85 z86 z87 z88 z89 z90 z92 z94 z95 z96 z97 z99 z100 z101 z102 z103 z104 z105 z106 z107 z108 z109 z110 z111 z112 z113 z114 z115 z116 z117 z118 z119 z120 z121 z122 z123 z124 z125 z126 z127 z128 z129 z130 z131 z132 z133 z134 z135 z136 z137 z138 z139 z140 z141 z142 z143 z144 z145 z146 z147 z148 z149 z150 z151 z152 z153 z154 z155 z156 z157 z158 z159 z160 z161 z162 z163 z164 z165 z166 z167 z168 z169 z170 z171 z172 z173 z174 z175 z176 z177 z178 z179 z180 z181 z182 z183 z184 z185 z186 z187 z188 z189 z190 z191 z192 z193 z194 z195 z196 z197 z198 z199 z200 z201 z202 z203 : Value}
    (hk1 : k1 ≤ 9) (hk2 : k2 ≤ 9) (hC1 : Srcs V 1 s1 k1 C1) (hC2 : Srcs V 1 s2 k2 C2)
    (hQ : ∀ u88 u89 u90 u91 u92 u93 u94 u95 u96 u97 u98 u99 v' W', LiveB V W' [some ⟨v', 3, 1, 0 + k1 + 1 + k2, [] ++ C1 ++ [.int .i64 i] ++ C2⟩, none, none, none] → Q .normal ⟨#[z0, z1, z2, z3, z4, z5, z6, z7, z8, z9, v', z11, z12, z13, z14, z15, z16, z17, z18, z19, z20, z21, z22, z23, z24, z25, z26, z27, z28, z29, z30, z31, z32, z33, z34, z35, z36, z37, z38, z39, z40, z41, z42, z43, z44, z45, z46, z47, z48, z49, z50, z51, z52, z53, z54, z55, z56, z57, z58, z59, z60, z61, z62, z63, z64, z65, z66, z67, z68, z69, z70, z71, z72, z73, z74, z75, z76, z77, z78, z79, z80, z81, z82, z83, z84, z85, z86, z87, u88, u89, u90, u91, u92, u93, u94, u95, u96, u97, u98, u99, z100, z101, z102, z103, z104, z105, z106, z107, z108, z109, z110, z111, z112, z113, z114, z115, z116, z117, z118, z119, z120, z121, z122, z123, z124, z125, z126, z127, z128, z129, z130, z131, z132, z133, z134, z135, z136, z137, z138, z139, z140, z141, z142, z143, z144, z145, z146, z147, z148, z149, z150, z151, z152, z153, z154, z155, z156, z157, z158, z159, z160, z161, z162, z163, z164, z165, z166, z167, z168, z169, z170, z171, z172, z173, z174, z175, z176, z177, z178, z179, z180, z181, z182, z183, z184, z185, z186, z187, z188, z189, z190, z191, z192, z193, z194, z195, z196, z197, z198, z199, z200, z201, z202, z203], []⟩ W')
    {w : World} (hL : LiveB V w [some ⟨z95, 3, 1, 0 + k1 + 1, [] ++ C1 ++ [.int .i64 i]⟩, none, none, none]) :
    wpAnyH Try.prog .any ops11_12 (NoPanic Q) (fun _ => True) 2 #[true, true, true, true, true, true, true, true, true, true, true, false, false] ⟨#[z0, z1, z2, z3, z4, z5, z6, z7, z8, z9, z10, z11, z12, z13, z14, z15, z16, z17, z18, z19, z20, z21, z22, z23, z24, z25, z26, z27, z28, z29, z30, z31, z32, z33, z34, z35, z36, z37, z38, z39, z40, z41, z42, z43, z44, z45, z46, z47, z48, z49, z50, z51, z52, z53, z54, z55, z56, z57, z58, z59, z60, z61, z62, z63, z64, z65, z66, z67, z68, z69, z70, z71, z72, z73, z74, z75, z76, z77, z78, z79, z80, z81, z82, z83, z84, z85, z86, z87, z88, z89, z90, s1, z92, .int .i64 i, z94, z95, z96, z97, s2, z99, z100, z101, z102, z103, z104, z105, z106, z107, z108, z109, z110, z111, z112, z113, z114, z115, z116, z117, z118, z119, z120, z121, z122, z123, z124, z125, z126, z127, z128, z129, z130, z131, z132, z133, z134, z135, z136, z137, z138, z139, z140, z141, z142, z143, z144, z145, z146, z147, z148, z149, z150, z151, z152, z153, z154, z155, z156, z157, z158, z159, z160, z161, z162, z163, z164, z165, z166, z167, z168, z169, z170, z171, z172, z173, z174, z175, z176, z177, z178, z179, z180, z181, z182, z183, z184, z185, z186, z187, z188, z189, z190, z191, z192, z193, z194, z195, z196, z197, z198, z199, z200, z201, z202, z203], []⟩ w := by
  have _used := And.intro hk1 (And.intro hk2 (And.intro hC1 (And.intro hC2 hQ)))
  clear _used
  refine wpAnyH_ready (rs := [11]) (by kernel_rfl) (by simp) ?_
  refine AllReadyH.cons (o := opN ops11_12 11) (by kernel_rfl) (fun K hK => ?_) ?_
  · obtain ⟨o, e⟩ : ∃ o, o = opN ops11_12 11 := ⟨_, rfl⟩
    rw [← e]
    conv at e => rhs; whnf
    subst e
    obtain ⟨i4, hi4, hz40, hz41, hz42⟩ := info_parts Try.info3
    refine step_append_live (by rfl) _ _ 32 (by rfl) hL 0 _ rfl i4 _ 8 Try.underlying32 hi4 hz40 hz41 hz42 rfl (Nat.succ_pos _) (by rfl) s2 k2 _ (by rfl) (srcs_keep hL hC2) (by simp only []; unfold maxLen; omega) (by simp only []; omega) ?_
    intro v' w' hL'
    refine hK.out _ _ trivial (fun hHeld => ?_)
    clear hK
    (try simp only [Act.put, List.setIfInBounds_toArray, List.set_cons_zero, List.set_cons_succ])
    obtain ⟨o, e0⟩ : ∃ o, o = opN ops11_12 12 := ⟨_, rfl⟩
    have e := e0
    conv at e => rhs; whnf
    refine wpAnyH_take (i := 12) (oi := o) (v := v') (by rw [e0]; kernel_rfl) (by kernel_rfl) (by kernel_rfl) (by kernel_rfl) (fun _ _ _ h => h) (Or.inl ⟨by rw [e]; rfl, ?_⟩) (by assumption) ?_
    · clear e0
      subst e
      intro w hSw
      go_simp
    clear e0
    subst e
    (try simp only [Act.put, List.setIfInBounds_toArray, List.set_cons_zero, List.set_cons_succ])
    refine wpAnyH_done (by kernel_rfl) ?_ _
    exact NoPanic.normal (hQ _ _ _ _ _ _ _ _ _ _ _ _ _ _ hL')
  exact AllReadyH.nil

set_option maxRecDepth 1000000 in
set_option maxHeartbeats 2000000 in
theorem st11_12_0_4_6 {Q : Exit → Act → World → Prop} {V : World} {s1 s2 : Value} {k1 k2 i : Nat} {C1 C2 : List Value}
    {z0 z1 z2 z3 z4 z5 z6 z7 z8 z9 z10 z11 z12 z13 z14 z15 z16 z17 z18 z19 z20 z21 z22 z23 z24 z25 z26 z27 z28 z29 z30 z31 z32 z33 z34 z35 z36 z37 z38 z39 z40 z41 z42 z43 z44 z45 z46 z47 z48 z49 z50 z51 z52 z53 z54 z55 z56 z57 z58 z59 z60 z61 z62 z63 z64 z65 z66 z67 z68 z69 z70 z71 z72 z73 z74 z75 z76 z77 z78 z79 z80 z81 z82 z83 z84 z85 z86 z87 z88 z89 z90 z92 z94 z95 z96 z97 z99 z100 z101 z102 z103 z104 z105 z106 z107 z108 z109 z110 z111 z112 z113 z114 z115 z116 z117 z118 z119 z120 z121 z122 z123 z124 z125 z126 z127 z128 z129 z130 z131 z132 z133 z134 z135 z136 z137 z138 z139 z140 z141 z142 z143 z144 z145 z146 z147 z148 z149 z150 z151 z152 z153 z154 z155 z156 z157 z158 z159 z160 z161 z162 z163 z164 z165 z166 z167 z168 z169 z170 z171 z172 z173 z174 z175 z176 z177 z178 z179 z180 z181 z182 z183 z184 z185 z186 z187 z188 z189 z190 z191 z192 z193 z194 z195 z196 z197 z198 z199 z200 z201 z202 z203 : Value}
    (hk1 : k1 ≤ 9) (hk2 : k2 ≤ 9) (hC1 : Srcs V 1 s1 k1 C1) (hC2 : Srcs V 1 s2 k2 C2)
    (hQ : ∀ u88 u89 u90 u91 u92 u93 u94 u95 u96 u97 u98 u99 v' W', LiveB V W' [some ⟨v', 3, 1, 0 + k1 + 1 + k2, [] ++ C1 ++ [.int .i64 i] ++ C2⟩, none, none, none] → Q .normal ⟨#[z0, z1, z2, z3, z4, z5, z6, z7, z8, z9, v', z11, z12, z13, z14, z15, z16, z17, z18, z19, z20, z21, z22, z23, z24, z25, z26, z27, z28, z29, z30, z31, z32, z33, z34, z35, z36, z37, z38, z39, z40, z41, z42, z43, z44, z45, z46, z47, z48, z49, z50, z51, z52, z53, z54, z55, z56, z57, z58, z59, z60, z61, z62, z63, z64, z65, z66, z67, z68, z69, z70, z71, z72, z73, z74, z75, z76, z77, z78, z79, z80, z81, z82, z83, z84, z85, z86, z87, u88, u89, u90, u91, u92, u93, u94, u95, u96, u97, u98, u99, z100, z101, z102, z103, z104, z105, z106, z107, z108, z109, z110, z111, z112, z113, z114, z115, z116, z117, z118, z119, z120, z121, z122, z123, z124, z125, z126, z127, z128, z129, z130, z131, z132, z133, z134, z135, z136, z137, z138, z139, z140, z141, z142, z143, z144, z145, z146, z147, z148, z149, z150, z151, z152, z153, z154, z155, z156, z157, z158, z159, z160, z161, z162, z163, z164, z165, z166, z167, z168, z169, z170, z171, z172, z173, z174, z175, z176, z177, z178, z179, z180, z181, z182, z183, z184, z185, z186, z187, z188, z189, z190, z191, z192, z193, z194, z195, z196, z197, z198, z199, z200, z201, z202, z203], []⟩ W')
    {w : World} (hL : LiveB V w [some ⟨z92, 3, 1, 0 + k1, [] ++ C1⟩, some ⟨z94, 3, 1, 1, [.int .i64 i]⟩, none, none]) :
    wpAnyH Try.prog .any ops11_12 (NoPanic Q) (fun _ => True) 3 #[true, true, true, true, true, true, true, false, true, true, true, false, false] ⟨#[z0, z1, z2, z3, z4, z5, z6, z7, z8, z9, z10, z11, z12, z13, z14, z15, z16, z17, z18, z19, z20, z21, z22, z23, z24, z25, z26, z27, z28, z29, z30, z31, z32, z33, z34, z35, z36, z37, z38, z39, z40, z41, z42, z43, z44, z45, z46, z47, z48, z49, z50, z51, z52, z53, z54, z55, z56, z57, z58, z59, z60, z61, z62, z63, z64, z65, z66, z67, z68, z69, z70, z71, z72, z73, z74, z75, z76, z77, z78, z79, z80, z81, z82, z83, z84, z85, z86, z87, z88, z89, z90, s1, z92, .int .i64 i, z94, z95, z96, z97, s2, z99, z100, z101, z102, z103, z104, z105, z106, z107, z108, z109, z110, z111, z112, z113, z114, z115, z116, z117, z118, z119, z120, z121, z122, z123, z124, z125, z126, z127, z128, z129, z130, z131, z132, z133, z134, z135, z136, z137, z138, z139, z140, z141, z142, z143, z144, z145, z146, z147, z148, z149, z150, z151, z152, z153, z154, z155, z156, z157, z158, z159, z160, z161, z162, z163, z164, z165, z166, z167, z168, z169, z170, z171, z172, z173, z174, z175, z176, z177, z178, z179, z180, z181, z182, z183, z184, z185, z186, z187, z188, z189, z190, z191, z192, z193, z194, z195, z196, z197, z198, z199, z200, z201, z202, z203], []⟩ w := by
  have _used := And.intro hk1 (And.intro hk2 (And.intro hC1 (And.intro hC2 hQ)))
  clear _used
  refine wpAnyH_ready (rs := [7]) (by kernel_rfl) (by simp) ?_
  refine AllReadyH.cons (o := opN ops11_12 7) (by kernel_rfl) (fun K hK => ?_) ?_
  · obtain ⟨i4, hi4, hz40, hz41, hz42⟩ := info_parts Try.info3
    have hsrc := live_src hL.2 (k := 1) rfl (by simp [Value.oneCell'])
    refine step_append_live (by rfl) _ _ 32 (by rfl) hL 0 _ rfl i4 _ 8 Try.underlying32 hi4 hz40 hz41 hz42 rfl (Nat.succ_pos _) (by rfl) _ 1 _ (by rfl) hsrc (by simp only []; unfold maxLen; omega) (by simp only []; omega) ?_
    intro v' w' hL'
    have hL' := liveB_drop hL' 1
    exact hK.out _ _ trivial (fun _ => st11_12_0_4_6_7 hk1 hk2 hC1 hC2 hQ hL')
  exact AllReadyH.nil

set_option maxRecDepth 1000000 in
set_option maxHeartbeats 2000000 in
theorem st11_12_0_4 {Q : Exit → Act → World → Prop} {V : World} {s1 s2 : Value} {k1 k2 i : Nat} {C1 C2 : List Value}
    {z0 z1 z2 z3 z4 z5 z6 z7 z8 z9 z10 z11 z12 z13 z14 z15 z16 z17 z18 z19 z20 z21 z22 z23 z24 z25 z26 z27 z28 z29 z30 z31 z32 z33 z34 z35 z36 z37 z38 z39 z40 z41 z42 z43 z44 z45 z46 z47 z48 z49 z50 z51 z52 z53 z54 z55 z56 z57 z58 z59 z60 z61 z62 z63 z64 z65 z66 z67 z68 z69 z70 z71 z72 z73 z74 z75 z76 z77 z78 z79 z80 z81 z82 z83 z84 z85 z86 z87 z88 z89 z90 z92 z94 z95 z96 z97 z99 z100 z101 z102 z103 z104 z105 z106 z107 z108 z109 z110 z111 z112 z113 z114 z115 z116 z117 z118 z119 z120 z121 z122 z123 z124 z125 z126 z127 z128 z129 z130 z131 z132 z133 z134 z135 z136 z137 z138 z139 z140 z141 z142 z143 z144 z145 z146 z147 z148 z149 z150 z151 z152 z153 z154 z155 z156 z157 z158 z159 z160 z161 z162 z163 z164 z165 z166 z167 z168 z169 z170 z171 z172 z173 z174 z175 z176 z177 z178 z179 z180 z181 z182 z183 z184 z185 z186 z187 z188 z189 z190 z191 z192 z193 z194 z195 z196 z197 z198 z199 z200 z201 z202 z203 : Value}
    (hk1 : k1 ≤ 9) (hk2 : k2 ≤ 9) (hC1 : Srcs V 1 s1 k1 C1) (hC2 : Srcs V 1 s2 k2 C2)
    (hQ : ∀ u88 u89 u90 u91 u92 u93 u94 u95 u96 u97 u98 u99 v' W', LiveB V W' [some ⟨v', 3, 1, 0 + k1 + 1 + k2, [] ++ C1 ++ [.int .i64 i] ++ C2⟩, none, none, none] → Q .normal ⟨#[z0, z1, z2, z3, z4, z5, z6, z7, z8, z9, v', z11, z12, z13, z14, z15, z16, z17, z18, z19, z20, z21, z22, z23, z24, z25, z26, z27, z28, z29, z30, z31, z32, z33, z34, z35, z36, z37, z38, z39, z40, z41, z42, z43, z44, z45, z46, z47, z48, z49, z50, z51, z52, z53, z54, z55, z56, z57, z58, z59, z60, z61, z62, z63, z64, z65, z66, z67, z68, z69, z70, z71, z72, z73, z74, z75, z76, z77, z78, z79, z80, z81, z82, z83, z84, z85, z86, z87, u88, u89, u90, u91, u92, u93, u94, u95, u96, u97, u98, u99, z100, z101, z102, z103, z104, z105, z106, z107, z108, z109, z110, z111, z112, z113, z114, z115, z116, z117, z118, z119, z120, z121, z122, z123, z124, z125, z126, z127, z128, z129, z130, z131, z132, z133, z134, z135, z136, z137, z138, z139, z140, z141, z142, z143, z144, z145, z146, z147, z148, z149, z150, z151, z152, z153, z154, z155, z156, z157, z158, z159, z160, z161, z162, z163, z164, z165, z166, z167, z168, z169, z170, z171, z172, z173, z174, z175, z176, z177, z178, z179, z180, z181, z182, z183, z184, z185, z186, z187, z188, z189, z190, z191, z192, z193, z194, z195, z196, z197, z198, z199, z200, z201, z202, z203], []⟩ W')
    {w : World} (hL : LiveB V w [some ⟨z92, 3, 1, 0 + k1, [] ++ C1⟩, none, none, none]) :
    wpAnyH Try.prog .any ops11_12 (NoPanic Q) (fun _ => True) 4 #[true, true, true, true, true, true, false, false, true, true, true, false, false] ⟨#[z0, z1, z2, z3, z4, z5, z6, z7, z8, z9, z10, z11, z12, z13, z14, z15, z16, z17, z18, z19, z20, z21, z22, z23, z24, z25, z26, z27, z28, z29, z30, z31, z32, z33, z34, z35, z36, z37, z38, z39, z40, z41, z42, z43, z44, z45, z46, z47, z48, z49, z50, z51, z52, z53, z54, z55, z56, z57, z58, z59, z60, z61, z62, z63, z64, z65, z66, z67, z68, z69, z70, z71, z72, z73, z74, z75, z76, z77, z78, z79, z80, z81, z82, z83, z84, z85, z86, z87, z88, z89, z90, s1, z92, .int .i64 i, z94, z95, z96, z97, s2, z99, z100, z101, z102, z103, z104, z105, z106, z107, z108, z109, z110, z111, z112, z113, z114, z115, z116, z117, z118, z119, z120, z121, z122, z123, z124, z125, z126, z127, z128, z129, z130, z131, z132, z133, z134, z135, z136, z137, z138, z139, z140, z141, z142, z143, z144, z145, z146, z147, z148, z149, z150, z151, z152, z153, z154, z155, z156, z157, z158, z159, z160, z161, z162, z163, z164, z165, z166, z167, z168, z169, z170, z171, z172, z173, z174, z175, z176, z177, z178, z179, z180, z181, z182, z183, z184, z185, z186, z187, z188, z189, z190, z191, z192, z193, z194, z195, z196, z197, z198, z199, z200, z201, z202, z203], []⟩ w := by
  have _used := And.intro hk1 (And.intro hk2 (And.intro hC1 (And.intro hC2 hQ)))
  clear _used
  refine wpAnyH_ready (rs := [6]) (by kernel_rfl) (by simp) ?_
  refine AllReadyH.cons (o := opN ops11_12 6) (by kernel_rfl) (fun K hK => ?_) ?_
  · obtain ⟨o, e⟩ : ∃ o, o = opN ops11_12 6 := ⟨_, rfl⟩
    rw [← e]
    conv at e => rhs; whnf
    subst e
    go_simp
    have hL' := liveB_lit hL 1 #[.int .i64 i] 3 1 1 (by unfold maxLen; omega) rfl
    exact hK.out _ _ trivial (fun _ => st11_12_0_4_6 hk1 hk2 hC1 hC2 hQ hL')
  exact AllReadyH.nil

set_option maxRecDepth 1000000 in
set_option maxHeartbeats 2000000 in
theorem st11_12_0_6 {Q : Exit → Act → World → Prop} {V : World} {s1 s2 : Value} {k1 k2 i : Nat} {C1 C2 : List Value}
    {z0 z1 z2 z3 z4 z5 z6 z7 z8 z9 z10 z11 z12 z13 z14 z15 z16 z17 z18 z19 z20 z21 z22 z23 z24 z25 z26 z27 z28 z29 z30 z31 z32 z33 z34 z35 z36 z37 z38 z39 z40 z41 z42 z43 z44 z45 z46 z47 z48 z49 z50 z51 z52 z53 z54 z55 z56 z57 z58 z59 z60 z61 z62 z63 z64 z65 z66 z67 z68 z69 z70 z71 z72 z73 z74 z75 z76 z77 z78 z79 z80 z81 z82 z83 z84 z85 z86 z87 z88 z89 z90 z92 z94 z95 z96 z97 z99 z100 z101 z102 z103 z104 z105 z106 z107 z108 z109 z110 z111 z112 z113 z114 z115 z116 z117 z118 z119 z120 z121 z122 z123 z124 z125 z126 z127 z128 z129 z130 z131 z132 z133 z134 z135 z136 z137 z138 z139 z140 z141 z142 z143 z144 z145 z146 z147 z148 z149 z150 z151 z152 z153 z154 z155 z156 z157 z158 z159 z160 z161 z162 z163 z164 z165 z166 z167 z168 z169 z170 z171 z172 z173 z174 z175 z176 z177 z178 z179 z180 z181 z182 z183 z184 z185 z186 z187 z188 z189 z190 z191 z192 z193 z194 z195 z196 z197 z198 z199 z200 z201 z202 z203 : Value}
    (hk1 : k1 ≤ 9) (hk2 : k2 ≤ 9) (hC1 : Srcs V 1 s1 k1 C1) (hC2 : Srcs V 1 s2 k2 C2)
    (hQ : ∀ u88 u89 u90 u91 u92 u93 u94 u95 u96 u97 u98 u99 v' W', LiveB V W' [some ⟨v', 3, 1, 0 + k1 + 1 + k2, [] ++ C1 ++ [.int .i64 i] ++ C2⟩, none, none, none] → Q .normal ⟨#[z0, z1, z2, z3, z4, z5, z6, z7, z8, z9, v', z11, z12, z13, z14, z15, z16, z17, z18, z19, z20, z21, z22, z23, z24, z25, z26, z27, z28, z29, z30, z31, z32, z33, z34, z35, z36, z37, z38, z39, z40, z41, z42, z43, z44, z45, z46, z47, z48, z49, z50, z51, z52, z53, z54, z55, z56, z57, z58, z59, z60, z61, z62, z63, z64, z65, z66, z67, z68, z69, z70, z71, z72, z73, z74, z75, z76, z77, z78, z79, z80, z81, z82, z83, z84, z85, z86, z87, u88, u89, u90, u91, u92, u93, u94, u95, u96, u97, u98, u99, z100, z101, z102, z103, z104, z105, z106, z107, z108, z109, z110, z111, z112, z113, z114, z115, z116, z117, z118, z119, z120, z121, z122, z123, z124, z125, z126, z127, z128, z129, z130, z131, z132, z133, z134, z135, z136, z137, z138, z139, z140, z141, z142, z143, z144, z145, z146, z147, z148, z149, z150, z151, z152, z153, z154, z155, z156, z157, z158, z159, z160, z161, z162, z163, z164, z165, z166, z167, z168, z169, z170, z171, z172, z173, z174, z175, z176, z177, z178, z179, z180, z181, z182, z183, z184, z185, z186, z187, z188, z189, z190, z191, z192, z193, z194, z195, z196, z197, z198, z199, z200, z201, z202, z203], []⟩ W')
    {w : World} (hL : LiveB V w [some ⟨z88, 3, 1, 0, []⟩, some ⟨z94, 3, 1, 1, [.int .i64 i]⟩, none, none]) :
    wpAnyH Try.prog .any ops11_12 (NoPanic Q) (fun _ => True) 4 #[true, true, true, true, false, true, true, false, true, true, true, false, false] ⟨#[z0, z1, z2, z3, z4, z5, z6, z7, z8, z9, z10, z11, z12, z13, z14, z15, z16, z17, z18, z19, z20, z21, z22, z23, z24, z25, z26, z27, z28, z29, z30, z31, z32, z33, z34, z35, z36, z37, z38, z39, z40, z41, z42, z43, z44, z45, z46, z47, z48, z49, z50, z51, z52, z53, z54, z55, z56, z57, z58, z59, z60, z61, z62, z63, z64, z65, z66, z67, z68, z69, z70, z71, z72, z73, z74, z75, z76, z77, z78, z79, z80, z81, z82, z83, z84, z85, z86, z87, z88, z89, z90, s1, z92, .int .i64 i, z94, z95, z96, z97, s2, z99, z100, z101, z102, z103, z104, z105, z106, z107, z108, z109, z110, z111, z112, z113, z114, z115, z116, z117, z118, z119, z120, z121, z122, z123, z124, z125, z126, z127, z128, z129, z130, z131, z132, z133, z134, z135, z136, z137, z138, z139, z140, z141, z142, z143, z144, z145, z146, z147, z148, z149, z150, z151, z152, z153, z154, z155, z156, z157, z158, z159, z160, z161, z162, z163, z164, z165, z166, z167, z168, z169, z170, z171, z172, z173, z174, z175, z176, z177, z178, z179, z180, z181, z182, z183, z184, z185, z186, z187, z188, z189, z190, z191, z192, z193, z194, z195, z196, z197, z198, z199, z200, z201, z202, z203], []⟩ w := by
  have _used := And.intro hk1 (And.intro hk2 (And.intro hC1 (And.intro hC2 hQ)))
  clear _used
  refine wpAnyH_ready (rs := [4]) (by kernel_rfl) (by simp) ?_
  refine AllReadyH.cons (o := opN ops11_12 4) (by kernel_rfl) (fun K hK => ?_) ?_
  · obtain ⟨i4, hi4, hz40, hz41, hz42⟩ := info_parts Try.info3
    refine step_append_live (by rfl) _ _ 32 (by rfl) hL 0 _ rfl i4 _ 8 Try.underlying32 hi4 hz40 hz41 hz42 rfl (Nat.succ_pos _) (by rfl) s1 k1 _ (by rfl) (srcs_keep hL hC1) (by simp only []; unfold maxLen; omega) (by simp only []; omega) ?_
    intro v' w' hL'
    exact hK.out _ _ trivial (fun _ => st11_12_0_4_6 hk1 hk2 hC1 hC2 hQ hL')
  exact AllReadyH.nil

set_option maxRecDepth 1000000 in
set_option maxHeartbeats 2000000 in
theorem st11_12_0 {Q : Exit → Act → World → Prop} {V : World} {s1 s2 : Value} {k1 k2 i : Nat} {C1 C2 : List Value}
    {z0 z1 z2 z3 z4 z5 z6 z7 z8 z9 z10 z11 z12 z13 z14 z15 z16 z17 z18 z19 z20 z21 z22 z23 z24 z25 z26 z27 z28 z29 z30 z31 z32 z33 z34 z35 z36 z37 z38 z39 z40 z41 z42 z43 z44 z45 z46 z47 z48 z49 z50 z51 z52 z53 z54 z55 z56 z57 z58 z59 z60 z61 z62 z63 z64 z65 z66 z67 z68 z69 z70 z71 z72 z73 z74 z75 z76 z77 z78 z79 z80 z81 z82 z83 z84 z85 z86 z87 z88 z89 z90 z92 z94 z95 z96 z97 z99 z100 z101 z102 z103 z104 z105 z106 z107 z108 z109 z110 z111 z112 z113 z114 z115 z116 z117 z118 z119 z120 z121 z122 z123 z124 z125 z126 z127 z128 z129 z130 z131 z132 z133 z134 z135 z136 z137 z138 z139 z140 z141 z142 z143 z144 z145 z146 z147 z148 z149 z150 z151 z152 z153 z154 z155 z156 z157 z158 z159 z160 z161 z162 z163 z164 z165 z166 z167 z168 z169 z170 z171 z172 z173 z174 z175 z176 z177 z178 z179 z180 z181 z182 z183 z184 z185 z186 z187 z188 z189 z190 z191 z192 z193 z194 z195 z196 z197 z198 z199 z200 z201 z202 z203 : Value}
    (hk1 : k1 ≤ 9) (hk2 : k2 ≤ 9) (hC1 : Srcs V 1 s1 k1 C1) (hC2 : Srcs V 1 s2 k2 C2)
    (hQ : ∀ u88 u89 u90 u91 u92 u93 u94 u95 u96 u97 u98 u99 v' W', LiveB V W' [some ⟨v', 3, 1, 0 + k1 + 1 + k2, [] ++ C1 ++ [.int .i64 i] ++ C2⟩, none, none, none] → Q .normal ⟨#[z0, z1, z2, z3, z4, z5, z6, z7, z8, z9, v', z11, z12, z13, z14, z15, z16, z17, z18, z19, z20, z21, z22, z23, z24, z25, z26, z27, z28, z29, z30, z31, z32, z33, z34, z35, z36, z37, z38, z39, z40, z41, z42, z43, z44, z45, z46, z47, z48, z49, z50, z51, z52, z53, z54, z55, z56, z57, z58, z59, z60, z61, z62, z63, z64, z65, z66, z67, z68, z69, z70, z71, z72, z73, z74, z75, z76, z77, z78, z79, z80, z81, z82, z83, z84, z85, z86, z87, u88, u89, u90, u91, u92, u93, u94, u95, u96, u97, u98, u99, z100, z101, z102, z103, z104, z105, z106, z107, z108, z109, z110, z111, z112, z113, z114, z115, z116, z117, z118, z119, z120, z121, z122, z123, z124, z125, z126, z127, z128, z129, z130, z131, z132, z133, z134, z135, z136, z137, z138, z139, z140, z141, z142, z143, z144, z145, z146, z147, z148, z149, z150, z151, z152, z153, z154, z155, z156, z157, z158, z159, z160, z161, z162, z163, z164, z165, z166, z167, z168, z169, z170, z171, z172, z173, z174, z175, z176, z177, z178, z179, z180, z181, z182, z183, z184, z185, z186, z187, z188, z189, z190, z191, z192, z193, z194, z195, z196, z197, z198, z199, z200, z201, z202, z203], []⟩ W')
    {w : World} (hL : LiveB V w [some ⟨z88, 3, 1, 0, []⟩, none, none, none]) :
    wpAnyH Try.prog .any ops11_12 (NoPanic Q) (fun _ => True) 5 #[true, true, true, true, false, true, false, false, true, true, true, false, false] ⟨#[z0, z1, z2, z3, z4, z5, z6, z7, z8, z9, z10, z11, z12, z13, z14, z15, z16, z17, z18, z19, z20, z21, z22, z23, z24, z25, z26, z27, z28, z29, z30, z31, z32, z33, z34, z35, z36, z37, z38, z39, z40, z41, z42, z43, z44, z45, z46, z47, z48, z49, z50, z51, z52, z53, z54, z55, z56, z57, z58, z59, z60, z61, z62, z63, z64, z65, z66, z67, z68, z69, z70, z71, z72, z73, z74, z75, z76, z77, z78, z79, z80, z81, z82, z83, z84, z85, z86, z87, z88, z89, z90, s1, z92, .int .i64 i, z94, z95, z96, z97, s2, z99, z100, z101, z102, z103, z104, z105, z106, z107, z108, z109, z110, z111, z112, z113, z114, z115, z116, z117, z118, z119, z120, z121, z122, z123, z124, z125, z126, z127, z128, z129, z130, z131, z132, z133, z134, z135, z136, z137, z138, z139, z140, z141, z142, z143, z144, z145, z146, z147, z148, z149, z150, z151, z152, z153, z154, z155, z156, z157, z158, z159, z160, z161, z162, z163, z164, z165, z166, z167, z168, z169, z170, z171, z172, z173, z174, z175, z176, z177, z178, z179, z180, z181, z182, z183, z184, z185, z186, z187, z188, z189, z190, z191, z192, z193, z194, z195, z196, z197, z198, z199, z200, z201, z202, z203], []⟩ w := by
  have _used := And.intro hk1 (And.intro hk2 (And.intro hC1 (And.intro hC2 hQ)))
  clear _used
  refine wpAnyH_ready (rs := [4, 6]) (by kernel_rfl) (by simp) ?_
  refine AllReadyH.cons (o := opN ops11_12 4) (by kernel_rfl) (fun K hK => ?_) ?_
  · obtain ⟨i4, hi4, hz40, hz41, hz42⟩ := info_parts Try.info3
    refine step_append_live (by rfl) _ _ 32 (by rfl) hL 0 _ rfl i4 _ 8 Try.underlying32 hi4 hz40 hz41 hz42 rfl (Nat.succ_pos _) (by rfl) s1 k1 _ (by rfl) (srcs_keep hL hC1) (by simp only []; unfold maxLen; omega) (by simp only []; omega) ?_
    intro v' w' hL'
    exact hK.out _ _ trivial (fun _ => st11_12_0_4 hk1 hk2 hC1 hC2 hQ hL')
  refine AllReadyH.cons (o := opN ops11_12 6) (by kernel_rfl) (fun K hK => ?_) ?_
  · obtain ⟨o, e⟩ : ∃ o, o = opN ops11_12 6 := ⟨_, rfl⟩
    rw [← e]
    conv at e => rhs; whnf
    subst e
    go_simp
    have hL' := liveB_lit hL 1 #[.int .i64 i] 3 1 1 (by unfold maxLen; omega) rfl
    exact hK.out _ _ trivial (fun _ => st11_12_0_6 hk1 hk2 hC1 hC2 hQ hL')
  exact AllReadyH.nil

set_option maxRecDepth 1000000 in
set_option maxHeartbeats 2000000 in
theorem st11_12_6 {Q : Exit → Act → World → Prop} {V : World} {s1 s2 : Value} {k1 k2 i : Nat} {C1 C2 : List Value}
    {z0 z1 z2 z3 z4 z5 z6 z7 z8 z9 z10 z11 z12 z13 z14 z15 z16 z17 z18 z19 z20 z21 z22 z23 z24 z25 z26 z27 z28 z29 z30 z31 z32 z33 z34 z35 z36 z37 z38 z39 z40 z41 z42 z43 z44 z45 z46 z47 z48 z49 z50 z51 z52 z53 z54 z55 z56 z57 z58 z59 z60 z61 z62 z63 z64 z65 z66 z67 z68 z69 z70 z71 z72 z73 z74 z75 z76 z77 z78 z79 z80 z81 z82 z83 z84 z85 z86 z87 z88 z89 z90 z92 z94 z95 z96 z97 z99 z100 z101 z102 z103 z104 z105 z106 z107 z108 z109 z110 z111 z112 z113 z114 z115 z116 z117 z118 z119 z120 z121 z122 z123 z124 z125 z126 z127 z128 z129 z130 z131 z132 z133 z134 z135 z136 z137 z138 z139 z140 z141 z142 z143 z144 z145 z146 z147 z148 z149 z150 z151 z152 z153 z154 z155 z156 z157 z158 z159 z160 z161 z162 z163 z164 z165 z166 z167 z168 z169 z170 z171 z172 z173 z174 z175 z176 z177 z178 z179 z180 z181 z182 z183 z184 z185 z186 z187 z188 z189 z190 z191 z192 z193 z194 z195 z196 z197 z198 z199 z200 z201 z202 z203 : Value}
    (hk1 : k1 ≤ 9) (hk2 : k2 ≤ 9) (hC1 : Srcs V 1 s1 k1 C1) (hC2 : Srcs V 1 s2 k2 C2)
    (hQ : ∀ u88 u89 u90 u91 u92 u93 u94 u95 u96 u97 u98 u99 v' W', LiveB V W' [some ⟨v', 3, 1, 0 + k1 + 1 + k2, [] ++ C1 ++ [.int .i64 i] ++ C2⟩, none, none, none] → Q .normal ⟨#[z0, z1, z2, z3, z4, z5, z6, z7, z8, z9, v', z11, z12, z13, z14, z15, z16, z17, z18, z19, z20, z21, z22, z23, z24, z25, z26, z27, z28, z29, z30, z31, z32, z33, z34, z35, z36, z37, z38, z39, z40, z41, z42, z43, z44, z45, z46, z47, z48, z49, z50, z51, z52, z53, z54, z55, z56, z57, z58, z59, z60, z61, z62, z63, z64, z65, z66, z67, z68, z69, z70, z71, z72, z73, z74, z75, z76, z77, z78, z79, z80, z81, z82, z83, z84, z85, z86, z87, u88, u89, u90, u91, u92, u93, u94, u95, u96, u97, u98, u99, z100, z101, z102, z103, z104, z105, z106, z107, z108, z109, z110, z111, z112, z113, z114, z115, z116, z117, z118, z119, z120, z121, z122, z123, z124, z125, z126, z127, z128, z129, z130, z131, z132, z133, z134, z135, z136, z137, z138, z139, z140, z141, z142, z143, z144, z145, z146, z147, z148, z149, z150, z151, z152, z153, z154, z155, z156, z157, z158, z159, z160, z161, z162, z163, z164, z165, z166, z167, z168, z169, z170, z171, z172, z173, z174, z175, z176, z177, z178, z179, z180, z181, z182, z183, z184, z185, z186, z187, z188, z189, z190, z191, z192, z193, z194, z195, z196, z197, z198, z199, z200, z201, z202, z203], []⟩ W')
    {w : World} (hL : LiveB V w [none, some ⟨z94, 3, 1, 1, [.int .i64 i]⟩, none, none]) :
    wpAnyH Try.prog .any ops11_12 (NoPanic Q) (fun _ => True) 5 #[false, true, true, true, false, true, true, false, true, true, true, false, false] ⟨#[z0, z1, z2, z3, z4, z5, z6, z7, z8, z9, z10, z11, z12, z13, z14, z15, z16, z17, z18, z19, z20, z21, z22, z23, z24, z25, z26, z27, z28, z29, z30, z31, z32, z33, z34, z35, z36, z37, z38, z39, z40, z41, z42, z43, z44, z45, z46, z47, z48, z49, z50, z51, z52, z53, z54, z55, z56, z57, z58, z59, z60, z61, z62, z63, z64, z65, z66, z67, z68, z69, z70, z71, z72, z73, z74, z75, z76, z77, z78, z79, z80, z81, z82, z83, z84, z85, z86, z87, z88, z89, z90, s1, z92, .int .i64 i, z94, z95, z96, z97, s2, z99, z100, z101, z102, z103, z104, z105, z106, z107, z108, z109, z110, z111, z112, z113, z114, z115, z116, z117, z118, z119, z120, z121, z122, z123, z124, z125, z126, z127, z128, z129, z130, z131, z132, z133, z134, z135, z136, z137, z138, z139, z140, z141, z142, z143, z144, z145, z146, z147, z148, z149, z150, z151, z152, z153, z154, z155, z156, z157, z158, z159, z160, z161, z162, z163, z164, z165, z166, z167, z168, z169, z170, z171, z172, z173, z174, z175, z176, z177, z178, z179, z180, z181, z182, z183, z184, z185, z186, z187, z188, z189, z190, z191, z192, z193, z194, z195, z196, z197, z198, z199, z200, z201, z202, z203], []⟩ w := by
  have _used := And.intro hk1 (And.intro hk2 (And.intro hC1 (And.intro hC2 hQ)))
  clear _used
  refine wpAnyH_ready (rs := [0]) (by kernel_rfl) (by simp) ?_
  refine AllReadyH.cons (o := opN ops11_12 0) (by kernel_rfl) (fun K hK => ?_) ?_
  · obtain ⟨o, e⟩ : ∃ o, o = opN ops11_12 0 := ⟨_, rfl⟩
    rw [← e]
    conv at e => rhs; whnf
    subst e
    go_simp
    have hL' := liveB_lit hL 0 #[] 3 1 0 (by unfold maxLen; omega) rfl
    exact hK.out _ _ trivial (fun _ => st11_12_0_6 hk1 hk2 hC1 hC2 hQ hL')
  exact AllReadyH.nil

set_option maxRecDepth 1000000 in
set_option maxHeartbeats 2000000 in
theorem st11_12_e {Q : Exit → Act → World → Prop} {V : World} {s1 s2 : Value} {k1 k2 i : Nat} {C1 C2 : List Value}
    {z0 z1 z2 z3 z4 z5 z6 z7 z8 z9 z10 z11 z12 z13 z14 z15 z16 z17 z18 z19 z20 z21 z22 z23 z24 z25 z26 z27 z28 z29 z30 z31 z32 z33 z34 z35 z36 z37 z38 z39 z40 z41 z42 z43 z44 z45 z46 z47 z48 z49 z50 z51 z52 z53 z54 z55 z56 z57 z58 z59 z60 z61 z62 z63 z64 z65 z66 z67 z68 z69 z70 z71 z72 z73 z74 z75 z76 z77 z78 z79 z80 z81 z82 z83 z84 z85 z86 z87 z88 z89 z90 z92 z94 z95 z96 z97 z99 z100 z101 z102 z103 z104 z105 z106 z107 z108 z109 z110 z111 z112 z113 z114 z115 z116 z117 z118 z119 z120 z121 z122 z123 z124 z125 z126 z127 z128 z129 z130 z131 z132 z133 z134 z135 z136 z137 z138 z139 z140 z141 z142 z143 z144 z145 z146 z147 z148 z149 z150 z151 z152 z153 z154 z155 z156 z157 z158 z159 z160 z161 z162 z163 z164 z165 z166 z167 z168 z169 z170 z171 z172 z173 z174 z175 z176 z177 z178 z179 z180 z181 z182 z183 z184 z185 z186 z187 z188 z189 z190 z191 z192 z193 z194 z195 z196 z197 z198 z199 z200 z201 z202 z203 : Value}
    (hk1 : k1 ≤ 9) (hk2 : k2 ≤ 9) (hC1 : Srcs V 1 s1 k1 C1) (hC2 : Srcs V 1 s2 k2 C2)
    (hQ : ∀ u88 u89 u90 u91 u92 u93 u94 u95 u96 u97 u98 u99 v' W', LiveB V W' [some ⟨v', 3, 1, 0 + k1 + 1 + k2, [] ++ C1 ++ [.int .i64 i] ++ C2⟩, none, none, none] → Q .normal ⟨#[z0, z1, z2, z3, z4, z5, z6, z7, z8, z9, v', z11, z12, z13, z14, z15, z16, z17, z18, z19, z20, z21, z22, z23, z24, z25, z26, z27, z28, z29, z30, z31, z32, z33, z34, z35, z36, z37, z38, z39, z40, z41, z42, z43, z44, z45, z46, z47, z48, z49, z50, z51, z52, z53, z54, z55, z56, z57, z58, z59, z60, z61, z62, z63, z64, z65, z66, z67, z68, z69, z70, z71, z72, z73, z74, z75, z76, z77, z78, z79, z80, z81, z82, z83, z84, z85, z86, z87, u88, u89, u90, u91, u92, u93, u94, u95, u96, u97, u98, u99, z100, z101, z102, z103, z104, z105, z106, z107, z108, z109, z110, z111, z112, z113, z114, z115, z116, z117, z118, z119, z120, z121, z122, z123, z124, z125, z126, z127, z128, z129, z130, z131, z132, z133, z134, z135, z136, z137, z138, z139, z140, z141, z142, z143, z144, z145, z146, z147, z148, z149, z150, z151, z152, z153, z154, z155, z156, z157, z158, z159, z160, z161, z162, z163, z164, z165, z166, z167, z168, z169, z170, z171, z172, z173, z174, z175, z176, z177, z178, z179, z180, z181, z182, z183, z184, z185, z186, z187, z188, z189, z190, z191, z192, z193, z194, z195, z196, z197, z198, z199, z200, z201, z202, z203], []⟩ W')
    {w : World} (hL : LiveB V w [none, none, none, none]) :
    wpAnyH Try.prog .any ops11_12 (NoPanic Q) (fun _ => True) 6 #[false, true, true, true, false, true, false, false, true, true, true, false, false] ⟨#[z0, z1, z2, z3, z4, z5, z6, z7, z8, z9, z10, z11, z12, z13, z14, z15, z16, z17, z18, z19, z20, z21, z22, z23, z24, z25, z26, z27, z28, z29, z30, z31, z32, z33, z34, z35, z36, z37, z38, z39, z40, z41, z42, z43, z44, z45, z46, z47, z48, z49, z50, z51, z52, z53, z54, z55, z56, z57, z58, z59, z60, z61, z62, z63, z64, z65, z66, z67, z68, z69, z70, z71, z72, z73, z74, z75, z76, z77, z78, z79, z80, z81, z82, z83, z84, z85, z86, z87, z88, z89, z90, s1, z92, .int .i64 i, z94, z95, z96, z97, s2, z99, z100, z101, z102, z103, z104, z105, z106, z107, z108, z109, z110, z111, z112, z113, z114, z115, z116, z117, z118, z119, z120, z121, z122, z123, z124, z125, z126, z127, z128, z129, z130, z131, z132, z133, z134, z135, z136, z137, z138, z139, z140, z141, z142, z143, z144, z145, z146, z147, z148, z149, z150, z151, z152, z153, z154, z155, z156, z157, z158, z159, z160, z161, z162, z163, z164, z165, z166, z167, z168, z169, z170, z171, z172, z173, z174, z175, z176, z177, z178, z179, z180, z181, z182, z183, z184, z185, z186, z187, z188, z189, z190, z191, z192, z193, z194, z195, z196, z197, z198, z199, z200, z201, z202, z203], []⟩ w := by
  have _used := And.intro hk1 (And.intro hk2 (And.intro hC1 (And.intro hC2 hQ)))
  clear _used
  refine wpAnyH_ready (rs := [0, 6]) (by kernel_rfl) (by simp) ?_
  refine AllReadyH.cons (o := opN ops11_12 0) (by kernel_rfl) (fun K hK => ?_) ?_
  · obtain ⟨o, e⟩ : ∃ o, o = opN ops11_12 0 := ⟨_, rfl⟩
    rw [← e]
    conv at e => rhs; whnf
    subst e
    go_simp
    have hL' := liveB_lit hL 0 #[] 3 1 0 (by unfold maxLen; omega) rfl
    exact hK.out _ _ trivial (fun _ => st11_12_0 hk1 hk2 hC1 hC2 hQ hL')
  refine AllReadyH.cons (o := opN ops11_12 6) (by kernel_rfl) (fun K hK => ?_) ?_
  · obtain ⟨o, e⟩ : ∃ o, o = opN ops11_12 6 := ⟨_, rfl⟩
    rw [← e]
    conv at e => rhs; whnf
    subst e
    go_simp
    have hL' := liveB_lit hL 1 #[.int .i64 i] 3 1 1 (by unfold maxLen; omega) rfl
    exact hK.out _ _ trivial (fun _ => st11_12_6 hk1 hk2 hC1 hC2 hQ hL')
  exact AllReadyH.nil

set_option maxRecDepth 1000000 in
set_option maxHeartbeats 4000000 in
theorem reg11_12 {Q : Exit → Act → World → Prop} {V : World} {vO s1 s2 : Value} {at_ : Int} {k1 k2 i : Nat} {C1 C2 : List Value}
    {z0 z1 z2 z3 z4 z5 z6 z7 z8 z9 z13 z14 z15 z16 z17 z18 z19 z20 z21 z22 z23 z24 z25 z26 z27 z28 z29 z30 z31 z32 z33 z34 z35 z36 z37 z38 z39 z40 z41 z42 z43 z44 z45 z46 z47 z48 z49 z50 z51 z52 z53 z54 z55 z56 z57 z58 z59 z60 z61 z62 z63 z64 z65 z66 z67 z68 z69 z70 z71 z72 z73 z74 z75 z76 z77 z78 z79 z80 z81 z82 z83 z84 z85 z86 z87 z88 z89 z90 z91 z92 z93 z94 z95 z96 z97 z98 z99 z100 z101 z102 z103 z104 z105 z106 z107 z108 z109 z110 z111 z112 z113 z114 z115 z116 z117 z118 z119 z120 z121 z122 z123 z124 z125 z126 z127 z128 z129 z130 z131 z132 z133 z134 z135 z136 z137 z138 z139 z140 z141 z142 z143 z144 z145 z146 z147 z148 z149 z150 z151 z152 z153 z154 z155 z156 z157 z158 z159 z160 z161 z162 z163 z164 z165 z166 z167 z168 z169 z170 z171 z172 z173 z174 z175 z176 z177 z178 z179 z180 z181 z182 z183 z184 z185 z186 z187 z188 z189 z190 z191 z192 z193 z194 z195 z196 z197 z198 z199 z200 z201 z202 z203 : Value} (hk1 : k1 ≤ 9) (hk2 : k2 ≤ 9) (hC1 : Srcs V 1 s1 k1 C1) (hC2 : Srcs V 1 s2 k2 C2)
    (h3 : ∀ (a : Act) (w : World), a.eval (.tmp 89) = vO → a.eval (.tmp 90) = .int .i64 at_ → (execOp a.eval (opN ops11_12 3)).run Try.prog w = .ok (.value s1) w)
    (h10 : ∀ (a : Act) (w : World), a.eval (.tmp 96) = vO → a.eval (.tmp 97) = .int .i64 at_ → (execOp a.eval (opN ops11_12 10)).run Try.prog w = .ok (.value s2) w)
    (hQ : ∀ u88 u89 u90 u91 u92 u93 u94 u95 u96 u97 u98 u99 v' W', LiveB V W' [some ⟨v', 3, 1, 0 + k1 + 1 + k2, [] ++ C1 ++ [.int .i64 i] ++ C2⟩, none, none, none] → Q .normal ⟨#[z0, z1, z2, z3, z4, z5, z6, z7, z8, z9, v', .int .i64 i, .int .i64 at_, z13, z14, z15, z16, z17, z18, z19, z20, z21, z22, z23, z24, z25, z26, z27, z28, z29, z30, z31, z32, z33, z34, z35, z36, z37, z38, z39, z40, z41, z42, z43, z44, z45, z46, z47, z48, z49, z50, z51, z52, z53, z54, z55, z56, z57, z58, z59, z60, z61, z62, z63, z64, z65, z66, z67, z68, z69, z70, z71, z72, z73, z74, z75, z76, z77, z78, z79, z80, z81, z82, z83, z84, z85, z86, z87, u88, u89, u90, u91, u92, u93, u94, u95, u96, u97, u98, u99, z100, z101, z102, z103, z104, z105, z106, z107, z108, z109, z110, z111, z112, z113, z114, z115, z116, z117, z118, z119, z120, z121, z122, z123, z124, z125, z126, z127, z128, z129, z130, z131, z132, z133, z134, z135, z136, z137, z138, z139, z140, z141, z142, z143, z144, z145, z146, z147, z148, z149, z150, z151, z152, z153, z154, z155, z156, z157, z158, z159, z160, z161, z162, z163, z164, z165, z166, z167, z168, z169, z170, z171, z172, z173, z174, z175, z176, z177, z178, z179, z180, z181, z182, z183, z184, z185, z186, z187, z188, z189, z190, z191, z192, z193, z194, z195, z196, z197, z198, z199, z200, z201, z202, z203], []⟩ W') :
    (regionOf Try.f11 12).wp Try.prog Q ⟨#[z0, z1, z2, z3, z4, z5, z6, z7, z8, z9, vO, .int .i64 i, .int .i64 at_, z13, z14, z15, z16, z17, z18, z19, z20, z21, z22, z23, z24, z25, z26, z27, z28, z29, z30, z31, z32, z33, z34, z35, z36, z37, z38, z39, z40, z41, z42, z43, z44, z45, z46, z47, z48, z49, z50, z51, z52, z53, z54, z55, z56, z57, z58, z59, z60, z61, z62, z63, z64, z65, z66, z67, z68, z69, z70, z71, z72, z73, z74, z75, z76, z77, z78, z79, z80, z81, z82, z83, z84, z85, z86, z87, z88, z89, z90, z91, z92, z93, z94, z95, z96, z97, z98, z99, z100, z101, z102, z103, z104, z105, z106, z107, z108, z109, z110, z111, z112, z113, z114, z115, z116, z117, z118, z119, z120, z121, z122, z123, z124, z125, z126, z127, z128, z129, z130, z131, z132, z133, z134, z135, z136, z137, z138, z139, z140, z141, z142, z143, z144, z145, z146, z147, z148, z149, z150, z151, z152, z153, z154, z155, z156, z157, z158, z159, z160, z161, z162, z163, z164, z165, z166, z167, z168, z169, z170, z171, z172, z173, z174, z175, z176, z177, z178, z179, z180, z181, z182, z183, z184, z185, z186, z187, z188, z189, z190, z191, z192, z193, z194, z195, z196, z197, z198, z199, z200, z201, z202, z203], []⟩ V := by
  have e : regionOf Try.f11 12 = Code.region 12 ops11_12 true := by kernel_rfl
  rw [e]
  refine wp_region_noPanic ?_
  refine wp_region_held_drew (S := fun _ => True) (by kernel_rfl) trivial (fun hHeld => ?_)
  have hsz : ops11_12.size = 13 := by kernel_rfl
  have hrep : Array.replicate 13 false = #[false, false, false, false, false, false, false, false, false, false, false, false, false] := by kernel_rfl
  rw [hsz, hrep]
  obtain ⟨o, e0⟩ : ∃ o, o = opN ops11_12 1 := ⟨_, rfl⟩
  have e := e0
  conv at e => rhs; whnf
  refine wpAnyH_take (i := 1) (oi := o) (v := vO) (by rw [e0]; kernel_rfl) (by kernel_rfl) (by kernel_rfl) (by kernel_rfl) (fun _ _ _ h => h) (Or.inl ⟨by rw [e]; rfl, ?_⟩) (by assumption) ?_
  · clear e0
    subst e
    intro w hSw
    go_simp
  clear e0
  subst e
  (try simp only [Act.put, List.setIfInBounds_toArray, List.set_cons_zero, List.set_cons_succ])
  obtain ⟨o, e0⟩ : ∃ o, o = opN ops11_12 2 := ⟨_, rfl⟩
  have e := e0
  conv at e => rhs; whnf
  refine wpAnyH_take (i := 2) (oi := o) (v := .int .i64 at_) (by rw [e0]; kernel_rfl) (by kernel_rfl) (by kernel_rfl) (by kernel_rfl) (fun _ _ _ h => h) (Or.inl ⟨by rw [e]; rfl, ?_⟩) (by assumption) ?_
  · clear e0
    subst e
    intro w hSw
    go_simp
  clear e0
  subst e
  (try simp only [Act.put, List.setIfInBounds_toArray, List.set_cons_zero, List.set_cons_succ])
  obtain ⟨o, e0⟩ : ∃ o, o = opN ops11_12 3 := ⟨_, rfl⟩
  have e := e0
  conv at e => rhs; whnf
  refine wpAnyH_take (i := 3) (oi := o) (v := s1) (by rw [e0]; kernel_rfl) (by kernel_rfl) (by kernel_rfl) (by kernel_rfl) (fun _ _ _ h => h) (Or.inl ⟨by rw [e]; rfl, ?_⟩) (by assumption) ?_
  · intro w _
    rw [e0]
    exact h3 _ w rfl rfl
  clear e0
  subst e
  (try simp only [Act.put, List.setIfInBounds_toArray, List.set_cons_zero, List.set_cons_succ])
  obtain ⟨o, e0⟩ : ∃ o, o = opN ops11_12 5 := ⟨_, rfl⟩
  have e := e0
  conv at e => rhs; whnf
  refine wpAnyH_take (i := 5) (oi := o) (v := .int .i64 i) (by rw [e0]; kernel_rfl) (by kernel_rfl) (by kernel_rfl) (by kernel_rfl) (fun _ _ _ h => h) (Or.inl ⟨by rw [e]; rfl, ?_⟩) (by assumption) ?_
  · clear e0
    subst e
    intro w hSw
    go_simp
  clear e0
  subst e
  (try simp only [Act.put, List.setIfInBounds_toArray, List.set_cons_zero, List.set_cons_succ])
  obtain ⟨o, e0⟩ : ∃ o, o = opN ops11_12 8 := ⟨_, rfl⟩
  have e := e0
  conv at e => rhs; whnf
  refine wpAnyH_take (i := 8) (oi := o) (v := vO) (by rw [e0]; kernel_rfl) (by kernel_rfl) (by kernel_rfl) (by kernel_rfl) (fun _ _ _ h => h) (Or.inl ⟨by rw [e]; rfl, ?_⟩) (by assumption) ?_
  · clear e0
    subst e
    intro w hSw
    go_simp
  clear e0
  subst e
  (try simp only [Act.put, List.setIfInBounds_toArray, List.set_cons_zero, List.set_cons_succ])
  obtain ⟨o, e0⟩ : ∃ o, o = opN ops11_12 9 := ⟨_, rfl⟩
  have e := e0
  conv at e => rhs; whnf
  refine wpAnyH_take (i := 9) (oi := o) (v := .int .i64 at_) (by rw [e0]; kernel_rfl) (by kernel_rfl) (by kernel_rfl) (by kernel_rfl) (fun _ _ _ h => h) (Or.inl ⟨by rw [e]; rfl, ?_⟩) (by assumption) ?_
  · clear e0
    subst e
    intro w hSw
    go_simp
  clear e0
  subst e
  (try simp only [Act.put, List.setIfInBounds_toArray, List.set_cons_zero, List.set_cons_succ])
  obtain ⟨o, e0⟩ : ∃ o, o = opN ops11_12 10 := ⟨_, rfl⟩
  have e := e0
  conv at e => rhs; whnf
  refine wpAnyH_take (i := 10) (oi := o) (v := s2) (by rw [e0]; kernel_rfl) (by kernel_rfl) (by kernel_rfl) (by kernel_rfl) (fun _ _ _ h => h) (Or.inl ⟨by rw [e]; rfl, ?_⟩) (by assumption) ?_
  · intro w _
    rw [e0]
    exact h10 _ w rfl rfl
  clear e0
  subst e
  (try simp only [Act.put, List.setIfInBounds_toArray, List.set_cons_zero, List.set_cons_succ])
  exact st11_12_e hk1 hk2 hC1 hC2 hQ liveB_start
end Go.Proofs.Ytblbbhenmhkknaa
