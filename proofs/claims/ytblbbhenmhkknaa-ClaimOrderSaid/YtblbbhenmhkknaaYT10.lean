/- ClaimOrder: the region that puts a claim in its place. Printed by insreg.py. -/
import Derived.Deep.RegionHeld3
import Derived.Test.YtblbbhenmhkknaaZd5d273
import Derived.Test.YtblbbhenmhkknaaZe720a3
import Derived.Test.YtblbbhenmhkknaaZ6bda3e
namespace Go.Proofs.Ytblbbhenmhkknaa
open Go.RowKit

noncomputable def ops11_10 : Array Oper := opsOf (regionOf Try.f11 10)

set_option maxRecDepth 1000000 in
set_option maxHeartbeats 2000000 in
theorem st11_10_0_2_5_11_12_14 {Q : Exit → Act → World → Prop} {S : World → Prop} {V : World} {vO s1 s2 : Value} {at_ : Int} {k1 k2 g8 : Nat} {C1 C2 : List Value} {f : Clm}
    {z0 z1 z2 z3 z4 z5 z6 z7 z9 z10 z11 z12 z13 z14 z15 z16 z17 z18 z19 z20 z21 z22 z23 z24 z25 z26 z27 z28 z29 z30 z31 z32 z33 z34 z35 z36 z37 z38 z39 z40 z41 z42 z43 z44 z45 z46 z47 z48 z49 z50 z52 z55 z56 z57 z58 z59 z61 z62 z64 z67 z68 z69 z70 z71 z72 z73 z74 z75 z76 z77 z78 z79 z80 z81 z82 z83 z84 z85 z86 z87 z88 z89 z90 z91 z92 z93 z94 z95 z96 z97 z98 z99 z100 z101 z102 z103 z104 z105 z106 z107 z108 z109 z110 z111 z112 z113 z114 z115 z116 z117 z118 z119 z120 z121 z122 z123 z124 z125 z126 z127 z128 z129 z130 z131 z132 z133 z134 z135 z136 z137 z138 z139 z140 z141 z142 z143 z144 z145 z146 z147 z148 z149 z150 z151 z152 z153 z154 z155 z156 z157 z158 z159 z160 z161 z162 z163 z164 z165 z166 z167 z168 z169 z170 z171 z172 z173 z174 z175 z176 z177 z178 z179 z180 z181 z182 z183 z184 z185 z186 z187 z188 z189 z190 z191 z192 z193 z194 z195 z196 z197 z198 z199 z200 z201 z202 z203 : Value}
    (hS : ∀ W', Below V.heap.size V W' → S W') (hS' : ∀ W' u, Below V.heap.size V W' → S (W'.setCell ⟨g8, 2, none⟩ u)) (hk1 : k1 ≤ 9) (hk2 : k2 ≤ 9) (hC1 : Srcs V 4 s1 k1 C1) (hC2 : Srcs V 4 s2 k2 C2)
    (cg : V.cell? ⟨g8, 2, none⟩ = some vO) (fz : V.frozen? ⟨g8, 2, none⟩ = false)
    (h4 : ∀ (a : Act) (w : World), a.eval (.tmp 52) = vO → a.eval (.tmp 53) = .int .i64 at_ → (execOp a.eval (opN ops11_10 4)).run Try.prog w = .ok (.value s1) w)
    (h16 : ∀ (a : Act) (w : World), a.eval (.tmp 64) = vO → a.eval (.tmp 65) = .int .i64 at_ → (execOp a.eval (opN ops11_10 16)).run Try.prog w = .ok (.value s2) w)
    (hQ : ∀ u50 u51 u52 u53 u54 u55 u56 u57 u58 u59 u60 u61 u62 u63 u64 u65 u66 u67 u68 v' W', LiveB V W' [some ⟨v', 46, 4, 0 + k1 + 1 + k2, [] ++ C1 ++ [.string f.name, .int .i64 f.rank, .int .i64 f.lo, .int .i64 f.hi] ++ C2⟩, none, none, none] → Q .normal ⟨#[z0, z1, z2, z3, z4, z5, z6, z7, .pointer (some ⟨g8, 0, none⟩), z9, z10, z11, z12, z13, z14, z15, z16, z17, z18, z19, z20, z21, z22, z23, z24, z25, z26, z27, z28, z29, z30, z31, z32, z33, z34, z35, z36, z37, z38, z39, z40, z41, z42, z43, z44, z45, z46, z47, z48, z49, u50, u51, u52, u53, u54, u55, u56, u57, u58, u59, u60, u61, u62, u63, u64, u65, u66, u67, u68, z69, z70, z71, z72, z73, z74, z75, z76, z77, z78, z79, z80, z81, z82, z83, z84, z85, z86, z87, z88, z89, z90, z91, z92, z93, z94, z95, z96, z97, z98, z99, z100, z101, z102, z103, z104, z105, z106, z107, z108, z109, z110, z111, z112, z113, z114, z115, z116, z117, z118, z119, z120, z121, z122, z123, z124, z125, z126, z127, z128, z129, z130, z131, z132, z133, z134, z135, z136, z137, z138, z139, z140, z141, z142, z143, z144, z145, z146, z147, z148, z149, z150, z151, z152, z153, z154, z155, z156, z157, z158, z159, z160, z161, z162, z163, z164, z165, z166, z167, z168, z169, z170, z171, z172, z173, z174, z175, z176, z177, z178, z179, z180, z181, z182, z183, z184, z185, z186, z187, z188, z189, z190, z191, z192, z193, z194, z195, z196, z197, z198, z199, z200, z201, z202, z203], []⟩ (W'.setCell ⟨g8, 2, none⟩ v'))
    {w : World} (hL : LiveB V w [some ⟨z62, 46, 4, 0 + k1 + 1, [] ++ C1 ++ [.string f.name, .int .i64 f.rank, .int .i64 f.lo, .int .i64 f.hi]⟩, none, none, none]) :
    wpAnyH Try.prog .any ops11_10 (NoPanic Q) S 3 #[true, true, true, true, true, true, true, true, true, true, true, true, true, true, true, true, true, false, false, false] ⟨#[z0, z1, z2, z3, z4, z5, z6, z7, .pointer (some ⟨g8, 0, none⟩), z9, z10, z11, z12, z13, z14, z15, z16, z17, z18, z19, z20, z21, z22, z23, z24, z25, z26, z27, z28, z29, z30, z31, z32, z33, z34, z35, z36, z37, z38, z39, z40, z41, z42, z43, z44, z45, z46, z47, z48, z49, z50, .pointer (some ⟨g8, 2, none⟩), z52, .int .i64 at_, s1, z55, z56, z57, z58, z59, .agg #[.string f.name, .int .i64 f.rank, .int .i64 f.lo, .int .i64 f.hi], z61, z62, .pointer (some ⟨g8, 2, none⟩), z64, .int .i64 at_, s2, z67, z68, z69, z70, z71, z72, z73, z74, z75, z76, z77, z78, z79, z80, z81, z82, z83, z84, z85, z86, z87, z88, z89, z90, z91, z92, z93, z94, z95, z96, z97, z98, z99, z100, z101, z102, z103, z104, z105, z106, z107, z108, z109, z110, z111, z112, z113, z114, z115, z116, z117, z118, z119, z120, z121, z122, z123, z124, z125, z126, z127, z128, z129, z130, z131, z132, z133, z134, z135, z136, z137, z138, z139, z140, z141, z142, z143, z144, z145, z146, z147, z148, z149, z150, z151, z152, z153, z154, z155, z156, z157, z158, z159, z160, z161, z162, z163, z164, z165, z166, z167, z168, z169, z170, z171, z172, z173, z174, z175, z176, z177, z178, z179, z180, z181, z182, z183, z184, z185, z186, z187, z188, z189, z190, z191, z192, z193, z194, z195, z196, z197, z198, z199, z200, z201, z202, z203], []⟩ w := by
  have _used := And.intro hS (And.intro hS' (And.intro hk1 (And.intro hk2 (And.intro hC1 (And.intro hC2 (And.intro cg (And.intro fz (And.intro h4 (And.intro h16 hQ)))))))))
  clear _used
  refine wpAnyH_ready (rs := [17]) (by kernel_rfl) (by simp) ?_
  refine AllReadyH.cons (o := opN ops11_10 17) (by kernel_rfl) (fun K hK => ?_) ?_
  · obtain ⟨o, e⟩ : ∃ o, o = opN ops11_10 17 := ⟨_, rfl⟩
    rw [← e]
    conv at e => rhs; whnf
    subst e
    obtain ⟨i4, hi4, hz40, hz41, hz42⟩ := info_parts Try.info46
    refine step_append_live (by rfl) _ _ 40 (by rfl) hL 0 _ rfl i4 _ 40 Try.underlying40 hi4 hz40 hz41 hz42 rfl (Nat.succ_pos _) (by rfl) s2 k2 _ (by rfl) (srcs_keep hL hC2) (by simp only []; unfold maxLen; omega) (by simp only []; omega) ?_
    intro v' w' hL'
    refine hK.out _ _ (hS _ hL'.1) (fun hHeld => ?_)
    clear hK
    (try simp only [Act.put, List.setIfInBounds_toArray, List.set_cons_zero, List.set_cons_succ])
    obtain ⟨gg, capg, hv, _⟩ := own_form (live_own hL'.2 (i := 0) rfl) (Nat.lt_of_lt_of_le (Nat.succ_pos (0 + k1)) (Nat.le_add_right _ k2))
    have hv : v' = .slice (some ⟨gg, 0, none⟩) (0 + k1 + 1 + k2) capg := hv
    obtain ⟨N, hN⟩ : ∃ N, 0 + k1 + 1 + k2 = N := ⟨_, rfl⟩
    rw [hN] at hv
    clear hN
    subst hv
    obtain ⟨o, e0⟩ : ∃ o, o = opN ops11_10 18 := ⟨_, rfl⟩
    have e := e0
    conv at e => rhs; whnf
    refine wpAnyH_take (i := 18) (oi := o) (v := .pointer (some ⟨g8, 2, none⟩)) (by rw [e0]; kernel_rfl) (by kernel_rfl) (by kernel_rfl) (by kernel_rfl) (fun _ _ _ h => h) (Or.inl ⟨by rw [e]; rfl, ?_⟩) (by assumption) ?_
    · clear e0
      subst e
      intro w hSw
      go_simp
    clear e0
    subst e
    (try simp only [Act.put, List.setIfInBounds_toArray, List.set_cons_zero, List.set_cons_succ])
    refine wpAnyH_ready (rs := [19]) (by kernel_rfl) (by simp) ?_
    refine AllReadyH.cons (o := opN ops11_10 19) (by kernel_rfl) (fun K hK => ?_) ?_
    · obtain ⟨o, e⟩ : ∃ o, o = opN ops11_10 19 := ⟨_, rfl⟩
      rw [← e]
      conv at e => rhs; whnf
      subst e
      have hc := keepC hL'.1 cg
      have hf := (keepF hL'.1 cg).trans fz
      go_simp
      refine hK.out _ _ (hS' _ _ hL'.1) (fun _ => ?_)
      refine wpAnyH_done (by kernel_rfl) ?_ _
      exact NoPanic.normal (hQ _ _ _ _ _ _ _ _ _ _ _ _ _ _ _ _ _ _ _ _ _ hL')
    exact AllReadyH.nil
  exact AllReadyH.nil

set_option maxRecDepth 1000000 in
set_option maxHeartbeats 2000000 in
theorem st11_10_0_2_5_11_12 {Q : Exit → Act → World → Prop} {S : World → Prop} {V : World} {vO s1 s2 : Value} {at_ : Int} {k1 k2 g8 : Nat} {C1 C2 : List Value} {f : Clm}
    {z0 z1 z2 z3 z4 z5 z6 z7 z9 z10 z11 z12 z13 z14 z15 z16 z17 z18 z19 z20 z21 z22 z23 z24 z25 z26 z27 z28 z29 z30 z31 z32 z33 z34 z35 z36 z37 z38 z39 z40 z41 z42 z43 z44 z45 z46 z47 z48 z49 z50 z52 z55 z56 z57 z58 z59 z61 z62 z64 z66 z67 z68 z69 z70 z71 z72 z73 z74 z75 z76 z77 z78 z79 z80 z81 z82 z83 z84 z85 z86 z87 z88 z89 z90 z91 z92 z93 z94 z95 z96 z97 z98 z99 z100 z101 z102 z103 z104 z105 z106 z107 z108 z109 z110 z111 z112 z113 z114 z115 z116 z117 z118 z119 z120 z121 z122 z123 z124 z125 z126 z127 z128 z129 z130 z131 z132 z133 z134 z135 z136 z137 z138 z139 z140 z141 z142 z143 z144 z145 z146 z147 z148 z149 z150 z151 z152 z153 z154 z155 z156 z157 z158 z159 z160 z161 z162 z163 z164 z165 z166 z167 z168 z169 z170 z171 z172 z173 z174 z175 z176 z177 z178 z179 z180 z181 z182 z183 z184 z185 z186 z187 z188 z189 z190 z191 z192 z193 z194 z195 z196 z197 z198 z199 z200 z201 z202 z203 : Value}
    (hS : ∀ W', Below V.heap.size V W' → S W') (hS' : ∀ W' u, Below V.heap.size V W' → S (W'.setCell ⟨g8, 2, none⟩ u)) (hk1 : k1 ≤ 9) (hk2 : k2 ≤ 9) (hC1 : Srcs V 4 s1 k1 C1) (hC2 : Srcs V 4 s2 k2 C2)
    (cg : V.cell? ⟨g8, 2, none⟩ = some vO) (fz : V.frozen? ⟨g8, 2, none⟩ = false)
    (h4 : ∀ (a : Act) (w : World), a.eval (.tmp 52) = vO → a.eval (.tmp 53) = .int .i64 at_ → (execOp a.eval (opN ops11_10 4)).run Try.prog w = .ok (.value s1) w)
    (h16 : ∀ (a : Act) (w : World), a.eval (.tmp 64) = vO → a.eval (.tmp 65) = .int .i64 at_ → (execOp a.eval (opN ops11_10 16)).run Try.prog w = .ok (.value s2) w)
    (hQ : ∀ u50 u51 u52 u53 u54 u55 u56 u57 u58 u59 u60 u61 u62 u63 u64 u65 u66 u67 u68 v' W', LiveB V W' [some ⟨v', 46, 4, 0 + k1 + 1 + k2, [] ++ C1 ++ [.string f.name, .int .i64 f.rank, .int .i64 f.lo, .int .i64 f.hi] ++ C2⟩, none, none, none] → Q .normal ⟨#[z0, z1, z2, z3, z4, z5, z6, z7, .pointer (some ⟨g8, 0, none⟩), z9, z10, z11, z12, z13, z14, z15, z16, z17, z18, z19, z20, z21, z22, z23, z24, z25, z26, z27, z28, z29, z30, z31, z32, z33, z34, z35, z36, z37, z38, z39, z40, z41, z42, z43, z44, z45, z46, z47, z48, z49, u50, u51, u52, u53, u54, u55, u56, u57, u58, u59, u60, u61, u62, u63, u64, u65, u66, u67, u68, z69, z70, z71, z72, z73, z74, z75, z76, z77, z78, z79, z80, z81, z82, z83, z84, z85, z86, z87, z88, z89, z90, z91, z92, z93, z94, z95, z96, z97, z98, z99, z100, z101, z102, z103, z104, z105, z106, z107, z108, z109, z110, z111, z112, z113, z114, z115, z116, z117, z118, z119, z120, z121, z122, z123, z124, z125, z126, z127, z128, z129, z130, z131, z132, z133, z134, z135, z136, z137, z138, z139, z140, z141, z142, z143, z144, z145, z146, z147, z148, z149, z150, z151, z152, z153, z154, z155, z156, z157, z158, z159, z160, z161, z162, z163, z164, z165, z166, z167, z168, z169, z170, z171, z172, z173, z174, z175, z176, z177, z178, z179, z180, z181, z182, z183, z184, z185, z186, z187, z188, z189, z190, z191, z192, z193, z194, z195, z196, z197, z198, z199, z200, z201, z202, z203], []⟩ (W'.setCell ⟨g8, 2, none⟩ v'))
    {w : World} (hL : LiveB V w [some ⟨z62, 46, 4, 0 + k1 + 1, [] ++ C1 ++ [.string f.name, .int .i64 f.rank, .int .i64 f.lo, .int .i64 f.hi]⟩, none, none, none]) :
    wpAnyH Try.prog .any ops11_10 (NoPanic Q) S 5 #[true, true, true, true, true, true, true, true, true, true, true, true, true, true, false, true, false, false, false, false] ⟨#[z0, z1, z2, z3, z4, z5, z6, z7, .pointer (some ⟨g8, 0, none⟩), z9, z10, z11, z12, z13, z14, z15, z16, z17, z18, z19, z20, z21, z22, z23, z24, z25, z26, z27, z28, z29, z30, z31, z32, z33, z34, z35, z36, z37, z38, z39, z40, z41, z42, z43, z44, z45, z46, z47, z48, z49, z50, .pointer (some ⟨g8, 2, none⟩), z52, .int .i64 at_, s1, z55, z56, z57, z58, z59, .agg #[.string f.name, .int .i64 f.rank, .int .i64 f.lo, .int .i64 f.hi], z61, z62, .pointer (some ⟨g8, 2, none⟩), z64, .int .i64 at_, z66, z67, z68, z69, z70, z71, z72, z73, z74, z75, z76, z77, z78, z79, z80, z81, z82, z83, z84, z85, z86, z87, z88, z89, z90, z91, z92, z93, z94, z95, z96, z97, z98, z99, z100, z101, z102, z103, z104, z105, z106, z107, z108, z109, z110, z111, z112, z113, z114, z115, z116, z117, z118, z119, z120, z121, z122, z123, z124, z125, z126, z127, z128, z129, z130, z131, z132, z133, z134, z135, z136, z137, z138, z139, z140, z141, z142, z143, z144, z145, z146, z147, z148, z149, z150, z151, z152, z153, z154, z155, z156, z157, z158, z159, z160, z161, z162, z163, z164, z165, z166, z167, z168, z169, z170, z171, z172, z173, z174, z175, z176, z177, z178, z179, z180, z181, z182, z183, z184, z185, z186, z187, z188, z189, z190, z191, z192, z193, z194, z195, z196, z197, z198, z199, z200, z201, z202, z203], []⟩ w := by
  have _used := And.intro hS (And.intro hS' (And.intro hk1 (And.intro hk2 (And.intro hC1 (And.intro hC2 (And.intro cg (And.intro fz (And.intro h4 (And.intro h16 hQ)))))))))
  clear _used
  refine wpAnyH_ready (rs := [14]) (by kernel_rfl) (by simp) ?_
  refine AllReadyH.cons (o := opN ops11_10 14) (by kernel_rfl) (fun K hK => ?_) ?_
  · obtain ⟨o, e⟩ : ∃ o, o = opN ops11_10 14 := ⟨_, rfl⟩
    rw [← e]
    conv at e => rhs; whnf
    subst e
    have hc := keepC hL.1 cg
    go_simp
    refine hK.out _ _ (hS _ hL.1) (fun hHeld => ?_)
    clear hK hc
    (try simp only [List.setIfInBounds_toArray, List.set_cons_zero, List.set_cons_succ])
    obtain ⟨o, e0⟩ : ∃ o, o = opN ops11_10 16 := ⟨_, rfl⟩
    have e := e0
    conv at e => rhs; whnf
    refine wpAnyH_take (i := 16) (oi := o) (v := s2) (by rw [e0]; kernel_rfl) (by kernel_rfl) (by kernel_rfl) (by kernel_rfl) (fun _ _ _ h => h) (Or.inl ⟨by rw [e]; rfl, ?_⟩) (by assumption) ?_
    · intro w _
      rw [e0]
      exact h16 _ w rfl rfl
    clear e0
    subst e
    (try simp only [Act.put, List.setIfInBounds_toArray, List.set_cons_zero, List.set_cons_succ])
    exact st11_10_0_2_5_11_12_14 hS hS' hk1 hk2 hC1 hC2 cg fz h4 h16 hQ hL
  exact AllReadyH.nil

set_option maxRecDepth 1000000 in
set_option maxHeartbeats 2000000 in
theorem st11_10_0_2_5_11_14 {Q : Exit → Act → World → Prop} {S : World → Prop} {V : World} {vO s1 s2 : Value} {at_ : Int} {k1 k2 g8 : Nat} {C1 C2 : List Value} {f : Clm}
    {z0 z1 z2 z3 z4 z5 z6 z7 z9 z10 z11 z12 z13 z14 z15 z16 z17 z18 z19 z20 z21 z22 z23 z24 z25 z26 z27 z28 z29 z30 z31 z32 z33 z34 z35 z36 z37 z38 z39 z40 z41 z42 z43 z44 z45 z46 z47 z48 z49 z50 z52 z55 z56 z57 z58 z59 z61 z62 z64 z67 z68 z69 z70 z71 z72 z73 z74 z75 z76 z77 z78 z79 z80 z81 z82 z83 z84 z85 z86 z87 z88 z89 z90 z91 z92 z93 z94 z95 z96 z97 z98 z99 z100 z101 z102 z103 z104 z105 z106 z107 z108 z109 z110 z111 z112 z113 z114 z115 z116 z117 z118 z119 z120 z121 z122 z123 z124 z125 z126 z127 z128 z129 z130 z131 z132 z133 z134 z135 z136 z137 z138 z139 z140 z141 z142 z143 z144 z145 z146 z147 z148 z149 z150 z151 z152 z153 z154 z155 z156 z157 z158 z159 z160 z161 z162 z163 z164 z165 z166 z167 z168 z169 z170 z171 z172 z173 z174 z175 z176 z177 z178 z179 z180 z181 z182 z183 z184 z185 z186 z187 z188 z189 z190 z191 z192 z193 z194 z195 z196 z197 z198 z199 z200 z201 z202 z203 : Value}
    (hS : ∀ W', Below V.heap.size V W' → S W') (hS' : ∀ W' u, Below V.heap.size V W' → S (W'.setCell ⟨g8, 2, none⟩ u)) (hk1 : k1 ≤ 9) (hk2 : k2 ≤ 9) (hC1 : Srcs V 4 s1 k1 C1) (hC2 : Srcs V 4 s2 k2 C2)
    (cg : V.cell? ⟨g8, 2, none⟩ = some vO) (fz : V.frozen? ⟨g8, 2, none⟩ = false)
    (h4 : ∀ (a : Act) (w : World), a.eval (.tmp 52) = vO → a.eval (.tmp 53) = .int .i64 at_ → (execOp a.eval (opN ops11_10 4)).run Try.prog w = .ok (.value s1) w)
    (h16 : ∀ (a : Act) (w : World), a.eval (.tmp 64) = vO → a.eval (.tmp 65) = .int .i64 at_ → (execOp a.eval (opN ops11_10 16)).run Try.prog w = .ok (.value s2) w)
    (hQ : ∀ u50 u51 u52 u53 u54 u55 u56 u57 u58 u59 u60 u61 u62 u63 u64 u65 u66 u67 u68 v' W', LiveB V W' [some ⟨v', 46, 4, 0 + k1 + 1 + k2, [] ++ C1 ++ [.string f.name, .int .i64 f.rank, .int .i64 f.lo, .int .i64 f.hi] ++ C2⟩, none, none, none] → Q .normal ⟨#[z0, z1, z2, z3, z4, z5, z6, z7, .pointer (some ⟨g8, 0, none⟩), z9, z10, z11, z12, z13, z14, z15, z16, z17, z18, z19, z20, z21, z22, z23, z24, z25, z26, z27, z28, z29, z30, z31, z32, z33, z34, z35, z36, z37, z38, z39, z40, z41, z42, z43, z44, z45, z46, z47, z48, z49, u50, u51, u52, u53, u54, u55, u56, u57, u58, u59, u60, u61, u62, u63, u64, u65, u66, u67, u68, z69, z70, z71, z72, z73, z74, z75, z76, z77, z78, z79, z80, z81, z82, z83, z84, z85, z86, z87, z88, z89, z90, z91, z92, z93, z94, z95, z96, z97, z98, z99, z100, z101, z102, z103, z104, z105, z106, z107, z108, z109, z110, z111, z112, z113, z114, z115, z116, z117, z118, z119, z120, z121, z122, z123, z124, z125, z126, z127, z128, z129, z130, z131, z132, z133, z134, z135, z136, z137, z138, z139, z140, z141, z142, z143, z144, z145, z146, z147, z148, z149, z150, z151, z152, z153, z154, z155, z156, z157, z158, z159, z160, z161, z162, z163, z164, z165, z166, z167, z168, z169, z170, z171, z172, z173, z174, z175, z176, z177, z178, z179, z180, z181, z182, z183, z184, z185, z186, z187, z188, z189, z190, z191, z192, z193, z194, z195, z196, z197, z198, z199, z200, z201, z202, z203], []⟩ (W'.setCell ⟨g8, 2, none⟩ v'))
    {w : World} (hL : LiveB V w [some ⟨z55, 46, 4, 0 + k1, [] ++ C1⟩, some ⟨z61, 46, 4, 1, [.string f.name, .int .i64 f.rank, .int .i64 f.lo, .int .i64 f.hi]⟩, none, none]) :
    wpAnyH Try.prog .any ops11_10 (NoPanic Q) S 4 #[true, true, true, true, true, true, true, true, true, true, true, true, false, true, true, true, true, false, false, false] ⟨#[z0, z1, z2, z3, z4, z5, z6, z7, .pointer (some ⟨g8, 0, none⟩), z9, z10, z11, z12, z13, z14, z15, z16, z17, z18, z19, z20, z21, z22, z23, z24, z25, z26, z27, z28, z29, z30, z31, z32, z33, z34, z35, z36, z37, z38, z39, z40, z41, z42, z43, z44, z45, z46, z47, z48, z49, z50, .pointer (some ⟨g8, 2, none⟩), z52, .int .i64 at_, s1, z55, z56, z57, z58, z59, .agg #[.string f.name, .int .i64 f.rank, .int .i64 f.lo, .int .i64 f.hi], z61, z62, .pointer (some ⟨g8, 2, none⟩), z64, .int .i64 at_, s2, z67, z68, z69, z70, z71, z72, z73, z74, z75, z76, z77, z78, z79, z80, z81, z82, z83, z84, z85, z86, z87, z88, z89, z90, z91, z92, z93, z94, z95, z96, z97, z98, z99, z100, z101, z102, z103, z104, z105, z106, z107, z108, z109, z110, z111, z112, z113, z114, z115, z116, z117, z118, z119, z120, z121, z122, z123, z124, z125, z126, z127, z128, z129, z130, z131, z132, z133, z134, z135, z136, z137, z138, z139, z140, z141, z142, z143, z144, z145, z146, z147, z148, z149, z150, z151, z152, z153, z154, z155, z156, z157, z158, z159, z160, z161, z162, z163, z164, z165, z166, z167, z168, z169, z170, z171, z172, z173, z174, z175, z176, z177, z178, z179, z180, z181, z182, z183, z184, z185, z186, z187, z188, z189, z190, z191, z192, z193, z194, z195, z196, z197, z198, z199, z200, z201, z202, z203], []⟩ w := by
  have _used := And.intro hS (And.intro hS' (And.intro hk1 (And.intro hk2 (And.intro hC1 (And.intro hC2 (And.intro cg (And.intro fz (And.intro h4 (And.intro h16 hQ)))))))))
  clear _used
  refine wpAnyH_ready (rs := [12]) (by kernel_rfl) (by simp) ?_
  refine AllReadyH.cons (o := opN ops11_10 12) (by kernel_rfl) (fun K hK => ?_) ?_
  · obtain ⟨i4, hi4, hz40, hz41, hz42⟩ := info_parts Try.info46
    have hsrc := live_src hL.2 (k := 1) rfl (by simp [Value.oneCell'])
    refine step_append_live (by rfl) _ _ 40 (by rfl) hL 0 _ rfl i4 _ 40 Try.underlying40 hi4 hz40 hz41 hz42 rfl (Nat.succ_pos _) (by rfl) _ 1 _ (by rfl) hsrc (by simp only []; unfold maxLen; omega) (by simp only []; omega) ?_
    intro v' w' hL'
    have hL' := liveB_drop hL' 1
    exact hK.out _ _ (hS _ hL'.1) (fun _ => st11_10_0_2_5_11_12_14 hS hS' hk1 hk2 hC1 hC2 cg fz h4 h16 hQ hL')
  exact AllReadyH.nil

set_option maxRecDepth 1000000 in
set_option maxHeartbeats 2000000 in
theorem st11_10_0_2_5_11 {Q : Exit → Act → World → Prop} {S : World → Prop} {V : World} {vO s1 s2 : Value} {at_ : Int} {k1 k2 g8 : Nat} {C1 C2 : List Value} {f : Clm}
    {z0 z1 z2 z3 z4 z5 z6 z7 z9 z10 z11 z12 z13 z14 z15 z16 z17 z18 z19 z20 z21 z22 z23 z24 z25 z26 z27 z28 z29 z30 z31 z32 z33 z34 z35 z36 z37 z38 z39 z40 z41 z42 z43 z44 z45 z46 z47 z48 z49 z50 z52 z55 z56 z57 z58 z59 z61 z62 z64 z66 z67 z68 z69 z70 z71 z72 z73 z74 z75 z76 z77 z78 z79 z80 z81 z82 z83 z84 z85 z86 z87 z88 z89 z90 z91 z92 z93 z94 z95 z96 z97 z98 z99 z100 z101 z102 z103 z104 z105 z106 z107 z108 z109 z110 z111 z112 z113 z114 z115 z116 z117 z118 z119 z120 z121 z122 z123 z124 z125 z126 z127 z128 z129 z130 z131 z132 z133 z134 z135 z136 z137 z138 z139 z140 z141 z142 z143 z144 z145 z146 z147 z148 z149 z150 z151 z152 z153 z154 z155 z156 z157 z158 z159 z160 z161 z162 z163 z164 z165 z166 z167 z168 z169 z170 z171 z172 z173 z174 z175 z176 z177 z178 z179 z180 z181 z182 z183 z184 z185 z186 z187 z188 z189 z190 z191 z192 z193 z194 z195 z196 z197 z198 z199 z200 z201 z202 z203 : Value}
    (hS : ∀ W', Below V.heap.size V W' → S W') (hS' : ∀ W' u, Below V.heap.size V W' → S (W'.setCell ⟨g8, 2, none⟩ u)) (hk1 : k1 ≤ 9) (hk2 : k2 ≤ 9) (hC1 : Srcs V 4 s1 k1 C1) (hC2 : Srcs V 4 s2 k2 C2)
    (cg : V.cell? ⟨g8, 2, none⟩ = some vO) (fz : V.frozen? ⟨g8, 2, none⟩ = false)
    (h4 : ∀ (a : Act) (w : World), a.eval (.tmp 52) = vO → a.eval (.tmp 53) = .int .i64 at_ → (execOp a.eval (opN ops11_10 4)).run Try.prog w = .ok (.value s1) w)
    (h16 : ∀ (a : Act) (w : World), a.eval (.tmp 64) = vO → a.eval (.tmp 65) = .int .i64 at_ → (execOp a.eval (opN ops11_10 16)).run Try.prog w = .ok (.value s2) w)
    (hQ : ∀ u50 u51 u52 u53 u54 u55 u56 u57 u58 u59 u60 u61 u62 u63 u64 u65 u66 u67 u68 v' W', LiveB V W' [some ⟨v', 46, 4, 0 + k1 + 1 + k2, [] ++ C1 ++ [.string f.name, .int .i64 f.rank, .int .i64 f.lo, .int .i64 f.hi] ++ C2⟩, none, none, none] → Q .normal ⟨#[z0, z1, z2, z3, z4, z5, z6, z7, .pointer (some ⟨g8, 0, none⟩), z9, z10, z11, z12, z13, z14, z15, z16, z17, z18, z19, z20, z21, z22, z23, z24, z25, z26, z27, z28, z29, z30, z31, z32, z33, z34, z35, z36, z37, z38, z39, z40, z41, z42, z43, z44, z45, z46, z47, z48, z49, u50, u51, u52, u53, u54, u55, u56, u57, u58, u59, u60, u61, u62, u63, u64, u65, u66, u67, u68, z69, z70, z71, z72, z73, z74, z75, z76, z77, z78, z79, z80, z81, z82, z83, z84, z85, z86, z87, z88, z89, z90, z91, z92, z93, z94, z95, z96, z97, z98, z99, z100, z101, z102, z103, z104, z105, z106, z107, z108, z109, z110, z111, z112, z113, z114, z115, z116, z117, z118, z119, z120, z121, z122, z123, z124, z125, z126, z127, z128, z129, z130, z131, z132, z133, z134, z135, z136, z137, z138, z139, z140, z141, z142, z143, z144, z145, z146, z147, z148, z149, z150, z151, z152, z153, z154, z155, z156, z157, z158, z159, z160, z161, z162, z163, z164, z165, z166, z167, z168, z169, z170, z171, z172, z173, z174, z175, z176, z177, z178, z179, z180, z181, z182, z183, z184, z185, z186, z187, z188, z189, z190, z191, z192, z193, z194, z195, z196, z197, z198, z199, z200, z201, z202, z203], []⟩ (W'.setCell ⟨g8, 2, none⟩ v'))
    {w : World} (hL : LiveB V w [some ⟨z55, 46, 4, 0 + k1, [] ++ C1⟩, some ⟨z61, 46, 4, 1, [.string f.name, .int .i64 f.rank, .int .i64 f.lo, .int .i64 f.hi]⟩, none, none]) :
    wpAnyH Try.prog .any ops11_10 (NoPanic Q) S 6 #[true, true, true, true, true, true, true, true, true, true, true, true, false, true, false, true, false, false, false, false] ⟨#[z0, z1, z2, z3, z4, z5, z6, z7, .pointer (some ⟨g8, 0, none⟩), z9, z10, z11, z12, z13, z14, z15, z16, z17, z18, z19, z20, z21, z22, z23, z24, z25, z26, z27, z28, z29, z30, z31, z32, z33, z34, z35, z36, z37, z38, z39, z40, z41, z42, z43, z44, z45, z46, z47, z48, z49, z50, .pointer (some ⟨g8, 2, none⟩), z52, .int .i64 at_, s1, z55, z56, z57, z58, z59, .agg #[.string f.name, .int .i64 f.rank, .int .i64 f.lo, .int .i64 f.hi], z61, z62, .pointer (some ⟨g8, 2, none⟩), z64, .int .i64 at_, z66, z67, z68, z69, z70, z71, z72, z73, z74, z75, z76, z77, z78, z79, z80, z81, z82, z83, z84, z85, z86, z87, z88, z89, z90, z91, z92, z93, z94, z95, z96, z97, z98, z99, z100, z101, z102, z103, z104, z105, z106, z107, z108, z109, z110, z111, z112, z113, z114, z115, z116, z117, z118, z119, z120, z121, z122, z123, z124, z125, z126, z127, z128, z129, z130, z131, z132, z133, z134, z135, z136, z137, z138, z139, z140, z141, z142, z143, z144, z145, z146, z147, z148, z149, z150, z151, z152, z153, z154, z155, z156, z157, z158, z159, z160, z161, z162, z163, z164, z165, z166, z167, z168, z169, z170, z171, z172, z173, z174, z175, z176, z177, z178, z179, z180, z181, z182, z183, z184, z185, z186, z187, z188, z189, z190, z191, z192, z193, z194, z195, z196, z197, z198, z199, z200, z201, z202, z203], []⟩ w := by
  have _used := And.intro hS (And.intro hS' (And.intro hk1 (And.intro hk2 (And.intro hC1 (And.intro hC2 (And.intro cg (And.intro fz (And.intro h4 (And.intro h16 hQ)))))))))
  clear _used
  refine wpAnyH_ready (rs := [12, 14]) (by kernel_rfl) (by simp) ?_
  refine AllReadyH.cons (o := opN ops11_10 12) (by kernel_rfl) (fun K hK => ?_) ?_
  · obtain ⟨i4, hi4, hz40, hz41, hz42⟩ := info_parts Try.info46
    have hsrc := live_src hL.2 (k := 1) rfl (by simp [Value.oneCell'])
    refine step_append_live (by rfl) _ _ 40 (by rfl) hL 0 _ rfl i4 _ 40 Try.underlying40 hi4 hz40 hz41 hz42 rfl (Nat.succ_pos _) (by rfl) _ 1 _ (by rfl) hsrc (by simp only []; unfold maxLen; omega) (by simp only []; omega) ?_
    intro v' w' hL'
    have hL' := liveB_drop hL' 1
    exact hK.out _ _ (hS _ hL'.1) (fun _ => st11_10_0_2_5_11_12 hS hS' hk1 hk2 hC1 hC2 cg fz h4 h16 hQ hL')
  refine AllReadyH.cons (o := opN ops11_10 14) (by kernel_rfl) (fun K hK => ?_) ?_
  · obtain ⟨o, e⟩ : ∃ o, o = opN ops11_10 14 := ⟨_, rfl⟩
    rw [← e]
    conv at e => rhs; whnf
    subst e
    have hc := keepC hL.1 cg
    go_simp
    refine hK.out _ _ (hS _ hL.1) (fun hHeld => ?_)
    clear hK hc
    (try simp only [List.setIfInBounds_toArray, List.set_cons_zero, List.set_cons_succ])
    obtain ⟨o, e0⟩ : ∃ o, o = opN ops11_10 16 := ⟨_, rfl⟩
    have e := e0
    conv at e => rhs; whnf
    refine wpAnyH_take (i := 16) (oi := o) (v := s2) (by rw [e0]; kernel_rfl) (by kernel_rfl) (by kernel_rfl) (by kernel_rfl) (fun _ _ _ h => h) (Or.inl ⟨by rw [e]; rfl, ?_⟩) (by assumption) ?_
    · intro w _
      rw [e0]
      exact h16 _ w rfl rfl
    clear e0
    subst e
    (try simp only [Act.put, List.setIfInBounds_toArray, List.set_cons_zero, List.set_cons_succ])
    exact st11_10_0_2_5_11_14 hS hS' hk1 hk2 hC1 hC2 cg fz h4 h16 hQ hL
  exact AllReadyH.nil

set_option maxRecDepth 1000000 in
set_option maxHeartbeats 2000000 in
theorem st11_10_0_2_5_14 {Q : Exit → Act → World → Prop} {S : World → Prop} {V : World} {vO s1 s2 : Value} {at_ : Int} {k1 k2 g8 : Nat} {C1 C2 : List Value} {f : Clm}
    {z0 z1 z2 z3 z4 z5 z6 z7 z9 z10 z11 z12 z13 z14 z15 z16 z17 z18 z19 z20 z21 z22 z23 z24 z25 z26 z27 z28 z29 z30 z31 z32 z33 z34 z35 z36 z37 z38 z39 z40 z41 z42 z43 z44 z45 z46 z47 z48 z49 z50 z52 z55 z56 z57 z58 z59 z61 z62 z64 z67 z68 z69 z70 z71 z72 z73 z74 z75 z76 z77 z78 z79 z80 z81 z82 z83 z84 z85 z86 z87 z88 z89 z90 z91 z92 z93 z94 z95 z96 z97 z98 z99 z100 z101 z102 z103 z104 z105 z106 z107 z108 z109 z110 z111 z112 z113 z114 z115 z116 z117 z118 z119 z120 z121 z122 z123 z124 z125 z126 z127 z128 z129 z130 z131 z132 z133 z134 z135 z136 z137 z138 z139 z140 z141 z142 z143 z144 z145 z146 z147 z148 z149 z150 z151 z152 z153 z154 z155 z156 z157 z158 z159 z160 z161 z162 z163 z164 z165 z166 z167 z168 z169 z170 z171 z172 z173 z174 z175 z176 z177 z178 z179 z180 z181 z182 z183 z184 z185 z186 z187 z188 z189 z190 z191 z192 z193 z194 z195 z196 z197 z198 z199 z200 z201 z202 z203 : Value}
    (hS : ∀ W', Below V.heap.size V W' → S W') (hS' : ∀ W' u, Below V.heap.size V W' → S (W'.setCell ⟨g8, 2, none⟩ u)) (hk1 : k1 ≤ 9) (hk2 : k2 ≤ 9) (hC1 : Srcs V 4 s1 k1 C1) (hC2 : Srcs V 4 s2 k2 C2)
    (cg : V.cell? ⟨g8, 2, none⟩ = some vO) (fz : V.frozen? ⟨g8, 2, none⟩ = false)
    (h4 : ∀ (a : Act) (w : World), a.eval (.tmp 52) = vO → a.eval (.tmp 53) = .int .i64 at_ → (execOp a.eval (opN ops11_10 4)).run Try.prog w = .ok (.value s1) w)
    (h16 : ∀ (a : Act) (w : World), a.eval (.tmp 64) = vO → a.eval (.tmp 65) = .int .i64 at_ → (execOp a.eval (opN ops11_10 16)).run Try.prog w = .ok (.value s2) w)
    (hQ : ∀ u50 u51 u52 u53 u54 u55 u56 u57 u58 u59 u60 u61 u62 u63 u64 u65 u66 u67 u68 v' W', LiveB V W' [some ⟨v', 46, 4, 0 + k1 + 1 + k2, [] ++ C1 ++ [.string f.name, .int .i64 f.rank, .int .i64 f.lo, .int .i64 f.hi] ++ C2⟩, none, none, none] → Q .normal ⟨#[z0, z1, z2, z3, z4, z5, z6, z7, .pointer (some ⟨g8, 0, none⟩), z9, z10, z11, z12, z13, z14, z15, z16, z17, z18, z19, z20, z21, z22, z23, z24, z25, z26, z27, z28, z29, z30, z31, z32, z33, z34, z35, z36, z37, z38, z39, z40, z41, z42, z43, z44, z45, z46, z47, z48, z49, u50, u51, u52, u53, u54, u55, u56, u57, u58, u59, u60, u61, u62, u63, u64, u65, u66, u67, u68, z69, z70, z71, z72, z73, z74, z75, z76, z77, z78, z79, z80, z81, z82, z83, z84, z85, z86, z87, z88, z89, z90, z91, z92, z93, z94, z95, z96, z97, z98, z99, z100, z101, z102, z103, z104, z105, z106, z107, z108, z109, z110, z111, z112, z113, z114, z115, z116, z117, z118, z119, z120, z121, z122, z123, z124, z125, z126, z127, z128, z129, z130, z131, z132, z133, z134, z135, z136, z137, z138, z139, z140, z141, z142, z143, z144, z145, z146, z147, z148, z149, z150, z151, z152, z153, z154, z155, z156, z157, z158, z159, z160, z161, z162, z163, z164, z165, z166, z167, z168, z169, z170, z171, z172, z173, z174, z175, z176, z177, z178, z179, z180, z181, z182, z183, z184, z185, z186, z187, z188, z189, z190, z191, z192, z193, z194, z195, z196, z197, z198, z199, z200, z201, z202, z203], []⟩ (W'.setCell ⟨g8, 2, none⟩ v'))
    {w : World} (hL : LiveB V w [some ⟨z55, 46, 4, 0 + k1, [] ++ C1⟩, none, none, none]) :
    wpAnyH Try.prog .any ops11_10 (NoPanic Q) S 5 #[true, true, true, true, true, true, true, true, true, true, true, false, false, true, true, true, true, false, false, false] ⟨#[z0, z1, z2, z3, z4, z5, z6, z7, .pointer (some ⟨g8, 0, none⟩), z9, z10, z11, z12, z13, z14, z15, z16, z17, z18, z19, z20, z21, z22, z23, z24, z25, z26, z27, z28, z29, z30, z31, z32, z33, z34, z35, z36, z37, z38, z39, z40, z41, z42, z43, z44, z45, z46, z47, z48, z49, z50, .pointer (some ⟨g8, 2, none⟩), z52, .int .i64 at_, s1, z55, z56, z57, z58, z59, .agg #[.string f.name, .int .i64 f.rank, .int .i64 f.lo, .int .i64 f.hi], z61, z62, .pointer (some ⟨g8, 2, none⟩), z64, .int .i64 at_, s2, z67, z68, z69, z70, z71, z72, z73, z74, z75, z76, z77, z78, z79, z80, z81, z82, z83, z84, z85, z86, z87, z88, z89, z90, z91, z92, z93, z94, z95, z96, z97, z98, z99, z100, z101, z102, z103, z104, z105, z106, z107, z108, z109, z110, z111, z112, z113, z114, z115, z116, z117, z118, z119, z120, z121, z122, z123, z124, z125, z126, z127, z128, z129, z130, z131, z132, z133, z134, z135, z136, z137, z138, z139, z140, z141, z142, z143, z144, z145, z146, z147, z148, z149, z150, z151, z152, z153, z154, z155, z156, z157, z158, z159, z160, z161, z162, z163, z164, z165, z166, z167, z168, z169, z170, z171, z172, z173, z174, z175, z176, z177, z178, z179, z180, z181, z182, z183, z184, z185, z186, z187, z188, z189, z190, z191, z192, z193, z194, z195, z196, z197, z198, z199, z200, z201, z202, z203], []⟩ w := by
  have _used := And.intro hS (And.intro hS' (And.intro hk1 (And.intro hk2 (And.intro hC1 (And.intro hC2 (And.intro cg (And.intro fz (And.intro h4 (And.intro h16 hQ)))))))))
  clear _used
  refine wpAnyH_ready (rs := [11]) (by kernel_rfl) (by simp) ?_
  refine AllReadyH.cons (o := opN ops11_10 11) (by kernel_rfl) (fun K hK => ?_) ?_
  · obtain ⟨o, e⟩ : ∃ o, o = opN ops11_10 11 := ⟨_, rfl⟩
    rw [← e]
    conv at e => rhs; whnf
    subst e
    go_simp
    have hL' := liveB_lit hL 1 #[.string f.name, .int .i64 f.rank, .int .i64 f.lo, .int .i64 f.hi] 46 4 1 (by unfold maxLen; omega) rfl
    exact hK.out _ _ (hS _ hL'.1) (fun _ => st11_10_0_2_5_11_14 hS hS' hk1 hk2 hC1 hC2 cg fz h4 h16 hQ hL')
  exact AllReadyH.nil

set_option maxRecDepth 1000000 in
set_option maxHeartbeats 2000000 in
theorem st11_10_0_2_11_14 {Q : Exit → Act → World → Prop} {S : World → Prop} {V : World} {vO s1 s2 : Value} {at_ : Int} {k1 k2 g8 : Nat} {C1 C2 : List Value} {f : Clm}
    {z0 z1 z2 z3 z4 z5 z6 z7 z9 z10 z11 z12 z13 z14 z15 z16 z17 z18 z19 z20 z21 z22 z23 z24 z25 z26 z27 z28 z29 z30 z31 z32 z33 z34 z35 z36 z37 z38 z39 z40 z41 z42 z43 z44 z45 z46 z47 z48 z49 z50 z52 z55 z56 z57 z58 z59 z61 z62 z64 z67 z68 z69 z70 z71 z72 z73 z74 z75 z76 z77 z78 z79 z80 z81 z82 z83 z84 z85 z86 z87 z88 z89 z90 z91 z92 z93 z94 z95 z96 z97 z98 z99 z100 z101 z102 z103 z104 z105 z106 z107 z108 z109 z110 z111 z112 z113 z114 z115 z116 z117 z118 z119 z120 z121 z122 z123 z124 z125 z126 z127 z128 z129 z130 z131 z132 z133 z134 z135 z136 z137 z138 z139 z140 z141 z142 z143 z144 z145 z146 z147 z148 z149 z150 z151 z152 z153 z154 z155 z156 z157 z158 z159 z160 z161 z162 z163 z164 z165 z166 z167 z168 z169 z170 z171 z172 z173 z174 z175 z176 z177 z178 z179 z180 z181 z182 z183 z184 z185 z186 z187 z188 z189 z190 z191 z192 z193 z194 z195 z196 z197 z198 z199 z200 z201 z202 z203 : Value}
    (hS : ∀ W', Below V.heap.size V W' → S W') (hS' : ∀ W' u, Below V.heap.size V W' → S (W'.setCell ⟨g8, 2, none⟩ u)) (hk1 : k1 ≤ 9) (hk2 : k2 ≤ 9) (hC1 : Srcs V 4 s1 k1 C1) (hC2 : Srcs V 4 s2 k2 C2)
    (cg : V.cell? ⟨g8, 2, none⟩ = some vO) (fz : V.frozen? ⟨g8, 2, none⟩ = false)
    (h4 : ∀ (a : Act) (w : World), a.eval (.tmp 52) = vO → a.eval (.tmp 53) = .int .i64 at_ → (execOp a.eval (opN ops11_10 4)).run Try.prog w = .ok (.value s1) w)
    (h16 : ∀ (a : Act) (w : World), a.eval (.tmp 64) = vO → a.eval (.tmp 65) = .int .i64 at_ → (execOp a.eval (opN ops11_10 16)).run Try.prog w = .ok (.value s2) w)
    (hQ : ∀ u50 u51 u52 u53 u54 u55 u56 u57 u58 u59 u60 u61 u62 u63 u64 u65 u66 u67 u68 v' W', LiveB V W' [some ⟨v', 46, 4, 0 + k1 + 1 + k2, [] ++ C1 ++ [.string f.name, .int .i64 f.rank, .int .i64 f.lo, .int .i64 f.hi] ++ C2⟩, none, none, none] → Q .normal ⟨#[z0, z1, z2, z3, z4, z5, z6, z7, .pointer (some ⟨g8, 0, none⟩), z9, z10, z11, z12, z13, z14, z15, z16, z17, z18, z19, z20, z21, z22, z23, z24, z25, z26, z27, z28, z29, z30, z31, z32, z33, z34, z35, z36, z37, z38, z39, z40, z41, z42, z43, z44, z45, z46, z47, z48, z49, u50, u51, u52, u53, u54, u55, u56, u57, u58, u59, u60, u61, u62, u63, u64, u65, u66, u67, u68, z69, z70, z71, z72, z73, z74, z75, z76, z77, z78, z79, z80, z81, z82, z83, z84, z85, z86, z87, z88, z89, z90, z91, z92, z93, z94, z95, z96, z97, z98, z99, z100, z101, z102, z103, z104, z105, z106, z107, z108, z109, z110, z111, z112, z113, z114, z115, z116, z117, z118, z119, z120, z121, z122, z123, z124, z125, z126, z127, z128, z129, z130, z131, z132, z133, z134, z135, z136, z137, z138, z139, z140, z141, z142, z143, z144, z145, z146, z147, z148, z149, z150, z151, z152, z153, z154, z155, z156, z157, z158, z159, z160, z161, z162, z163, z164, z165, z166, z167, z168, z169, z170, z171, z172, z173, z174, z175, z176, z177, z178, z179, z180, z181, z182, z183, z184, z185, z186, z187, z188, z189, z190, z191, z192, z193, z194, z195, z196, z197, z198, z199, z200, z201, z202, z203], []⟩ (W'.setCell ⟨g8, 2, none⟩ v'))
    {w : World} (hL : LiveB V w [some ⟨z50, 46, 4, 0, []⟩, some ⟨z61, 46, 4, 1, [.string f.name, .int .i64 f.rank, .int .i64 f.lo, .int .i64 f.hi]⟩, none, none]) :
    wpAnyH Try.prog .any ops11_10 (NoPanic Q) S 5 #[true, true, true, true, true, false, true, true, true, true, true, true, false, true, true, true, true, false, false, false] ⟨#[z0, z1, z2, z3, z4, z5, z6, z7, .pointer (some ⟨g8, 0, none⟩), z9, z10, z11, z12, z13, z14, z15, z16, z17, z18, z19, z20, z21, z22, z23, z24, z25, z26, z27, z28, z29, z30, z31, z32, z33, z34, z35, z36, z37, z38, z39, z40, z41, z42, z43, z44, z45, z46, z47, z48, z49, z50, .pointer (some ⟨g8, 2, none⟩), z52, .int .i64 at_, s1, z55, z56, z57, z58, z59, .agg #[.string f.name, .int .i64 f.rank, .int .i64 f.lo, .int .i64 f.hi], z61, z62, .pointer (some ⟨g8, 2, none⟩), z64, .int .i64 at_, s2, z67, z68, z69, z70, z71, z72, z73, z74, z75, z76, z77, z78, z79, z80, z81, z82, z83, z84, z85, z86, z87, z88, z89, z90, z91, z92, z93, z94, z95, z96, z97, z98, z99, z100, z101, z102, z103, z104, z105, z106, z107, z108, z109, z110, z111, z112, z113, z114, z115, z116, z117, z118, z119, z120, z121, z122, z123, z124, z125, z126, z127, z128, z129, z130, z131, z132, z133, z134, z135, z136, z137, z138, z139, z140, z141, z142, z143, z144, z145, z146, z147, z148, z149, z150, z151, z152, z153, z154, z155, z156, z157, z158, z159, z160, z161, z162, z163, z164, z165, z166, z167, z168, z169, z170, z171, z172, z173, z174, z175, z176, z177, z178, z179, z180, z181, z182, z183, z184, z185, z186, z187, z188, z189, z190, z191, z192, z193, z194, z195, z196, z197, z198, z199, z200, z201, z202, z203], []⟩ w := by
  have _used := And.intro hS (And.intro hS' (And.intro hk1 (And.intro hk2 (And.intro hC1 (And.intro hC2 (And.intro cg (And.intro fz (And.intro h4 (And.intro h16 hQ)))))))))
  clear _used
  refine wpAnyH_ready (rs := [5]) (by kernel_rfl) (by simp) ?_
  refine AllReadyH.cons (o := opN ops11_10 5) (by kernel_rfl) (fun K hK => ?_) ?_
  · obtain ⟨i4, hi4, hz40, hz41, hz42⟩ := info_parts Try.info46
    refine step_append_live (by rfl) _ _ 40 (by rfl) hL 0 _ rfl i4 _ 40 Try.underlying40 hi4 hz40 hz41 hz42 rfl (Nat.succ_pos _) (by rfl) s1 k1 _ (by rfl) (srcs_keep hL hC1) (by simp only []; unfold maxLen; omega) (by simp only []; omega) ?_
    intro v' w' hL'
    exact hK.out _ _ (hS _ hL'.1) (fun _ => st11_10_0_2_5_11_14 hS hS' hk1 hk2 hC1 hC2 cg fz h4 h16 hQ hL')
  exact AllReadyH.nil

set_option maxRecDepth 1000000 in
set_option maxHeartbeats 2000000 in
theorem st11_10_0_2_5 {Q : Exit → Act → World → Prop} {S : World → Prop} {V : World} {vO s1 s2 : Value} {at_ : Int} {k1 k2 g8 : Nat} {C1 C2 : List Value} {f : Clm}
    {z0 z1 z2 z3 z4 z5 z6 z7 z9 z10 z11 z12 z13 z14 z15 z16 z17 z18 z19 z20 z21 z22 z23 z24 z25 z26 z27 z28 z29 z30 z31 z32 z33 z34 z35 z36 z37 z38 z39 z40 z41 z42 z43 z44 z45 z46 z47 z48 z49 z50 z52 z55 z56 z57 z58 z59 z61 z62 z64 z66 z67 z68 z69 z70 z71 z72 z73 z74 z75 z76 z77 z78 z79 z80 z81 z82 z83 z84 z85 z86 z87 z88 z89 z90 z91 z92 z93 z94 z95 z96 z97 z98 z99 z100 z101 z102 z103 z104 z105 z106 z107 z108 z109 z110 z111 z112 z113 z114 z115 z116 z117 z118 z119 z120 z121 z122 z123 z124 z125 z126 z127 z128 z129 z130 z131 z132 z133 z134 z135 z136 z137 z138 z139 z140 z141 z142 z143 z144 z145 z146 z147 z148 z149 z150 z151 z152 z153 z154 z155 z156 z157 z158 z159 z160 z161 z162 z163 z164 z165 z166 z167 z168 z169 z170 z171 z172 z173 z174 z175 z176 z177 z178 z179 z180 z181 z182 z183 z184 z185 z186 z187 z188 z189 z190 z191 z192 z193 z194 z195 z196 z197 z198 z199 z200 z201 z202 z203 : Value}
    (hS : ∀ W', Below V.heap.size V W' → S W') (hS' : ∀ W' u, Below V.heap.size V W' → S (W'.setCell ⟨g8, 2, none⟩ u)) (hk1 : k1 ≤ 9) (hk2 : k2 ≤ 9) (hC1 : Srcs V 4 s1 k1 C1) (hC2 : Srcs V 4 s2 k2 C2)
    (cg : V.cell? ⟨g8, 2, none⟩ = some vO) (fz : V.frozen? ⟨g8, 2, none⟩ = false)
    (h4 : ∀ (a : Act) (w : World), a.eval (.tmp 52) = vO → a.eval (.tmp 53) = .int .i64 at_ → (execOp a.eval (opN ops11_10 4)).run Try.prog w = .ok (.value s1) w)
    (h16 : ∀ (a : Act) (w : World), a.eval (.tmp 64) = vO → a.eval (.tmp 65) = .int .i64 at_ → (execOp a.eval (opN ops11_10 16)).run Try.prog w = .ok (.value s2) w)
    (hQ : ∀ u50 u51 u52 u53 u54 u55 u56 u57 u58 u59 u60 u61 u62 u63 u64 u65 u66 u67 u68 v' W', LiveB V W' [some ⟨v', 46, 4, 0 + k1 + 1 + k2, [] ++ C1 ++ [.string f.name, .int .i64 f.rank, .int .i64 f.lo, .int .i64 f.hi] ++ C2⟩, none, none, none] → Q .normal ⟨#[z0, z1, z2, z3, z4, z5, z6, z7, .pointer (some ⟨g8, 0, none⟩), z9, z10, z11, z12, z13, z14, z15, z16, z17, z18, z19, z20, z21, z22, z23, z24, z25, z26, z27, z28, z29, z30, z31, z32, z33, z34, z35, z36, z37, z38, z39, z40, z41, z42, z43, z44, z45, z46, z47, z48, z49, u50, u51, u52, u53, u54, u55, u56, u57, u58, u59, u60, u61, u62, u63, u64, u65, u66, u67, u68, z69, z70, z71, z72, z73, z74, z75, z76, z77, z78, z79, z80, z81, z82, z83, z84, z85, z86, z87, z88, z89, z90, z91, z92, z93, z94, z95, z96, z97, z98, z99, z100, z101, z102, z103, z104, z105, z106, z107, z108, z109, z110, z111, z112, z113, z114, z115, z116, z117, z118, z119, z120, z121, z122, z123, z124, z125, z126, z127, z128, z129, z130, z131, z132, z133, z134, z135, z136, z137, z138, z139, z140, z141, z142, z143, z144, z145, z146, z147, z148, z149, z150, z151, z152, z153, z154, z155, z156, z157, z158, z159, z160, z161, z162, z163, z164, z165, z166, z167, z168, z169, z170, z171, z172, z173, z174, z175, z176, z177, z178, z179, z180, z181, z182, z183, z184, z185, z186, z187, z188, z189, z190, z191, z192, z193, z194, z195, z196, z197, z198, z199, z200, z201, z202, z203], []⟩ (W'.setCell ⟨g8, 2, none⟩ v'))
    {w : World} (hL : LiveB V w [some ⟨z55, 46, 4, 0 + k1, [] ++ C1⟩, none, none, none]) :
    wpAnyH Try.prog .any ops11_10 (NoPanic Q) S 7 #[true, true, true, true, true, true, true, true, true, true, true, false, false, true, false, true, false, false, false, false] ⟨#[z0, z1, z2, z3, z4, z5, z6, z7, .pointer (some ⟨g8, 0, none⟩), z9, z10, z11, z12, z13, z14, z15, z16, z17, z18, z19, z20, z21, z22, z23, z24, z25, z26, z27, z28, z29, z30, z31, z32, z33, z34, z35, z36, z37, z38, z39, z40, z41, z42, z43, z44, z45, z46, z47, z48, z49, z50, .pointer (some ⟨g8, 2, none⟩), z52, .int .i64 at_, s1, z55, z56, z57, z58, z59, .agg #[.string f.name, .int .i64 f.rank, .int .i64 f.lo, .int .i64 f.hi], z61, z62, .pointer (some ⟨g8, 2, none⟩), z64, .int .i64 at_, z66, z67, z68, z69, z70, z71, z72, z73, z74, z75, z76, z77, z78, z79, z80, z81, z82, z83, z84, z85, z86, z87, z88, z89, z90, z91, z92, z93, z94, z95, z96, z97, z98, z99, z100, z101, z102, z103, z104, z105, z106, z107, z108, z109, z110, z111, z112, z113, z114, z115, z116, z117, z118, z119, z120, z121, z122, z123, z124, z125, z126, z127, z128, z129, z130, z131, z132, z133, z134, z135, z136, z137, z138, z139, z140, z141, z142, z143, z144, z145, z146, z147, z148, z149, z150, z151, z152, z153, z154, z155, z156, z157, z158, z159, z160, z161, z162, z163, z164, z165, z166, z167, z168, z169, z170, z171, z172, z173, z174, z175, z176, z177, z178, z179, z180, z181, z182, z183, z184, z185, z186, z187, z188, z189, z190, z191, z192, z193, z194, z195, z196, z197, z198, z199, z200, z201, z202, z203], []⟩ w := by
  have _used := And.intro hS (And.intro hS' (And.intro hk1 (And.intro hk2 (And.intro hC1 (And.intro hC2 (And.intro cg (And.intro fz (And.intro h4 (And.intro h16 hQ)))))))))
  clear _used
  refine wpAnyH_ready (rs := [11, 14]) (by kernel_rfl) (by simp) ?_
  refine AllReadyH.cons (o := opN ops11_10 11) (by kernel_rfl) (fun K hK => ?_) ?_
  · obtain ⟨o, e⟩ : ∃ o, o = opN ops11_10 11 := ⟨_, rfl⟩
    rw [← e]
    conv at e => rhs; whnf
    subst e
    go_simp
    have hL' := liveB_lit hL 1 #[.string f.name, .int .i64 f.rank, .int .i64 f.lo, .int .i64 f.hi] 46 4 1 (by unfold maxLen; omega) rfl
    exact hK.out _ _ (hS _ hL'.1) (fun _ => st11_10_0_2_5_11 hS hS' hk1 hk2 hC1 hC2 cg fz h4 h16 hQ hL')
  refine AllReadyH.cons (o := opN ops11_10 14) (by kernel_rfl) (fun K hK => ?_) ?_
  · obtain ⟨o, e⟩ : ∃ o, o = opN ops11_10 14 := ⟨_, rfl⟩
    rw [← e]
    conv at e => rhs; whnf
    subst e
    have hc := keepC hL.1 cg
    go_simp
    refine hK.out _ _ (hS _ hL.1) (fun hHeld => ?_)
    clear hK hc
    (try simp only [List.setIfInBounds_toArray, List.set_cons_zero, List.set_cons_succ])
    obtain ⟨o, e0⟩ : ∃ o, o = opN ops11_10 16 := ⟨_, rfl⟩
    have e := e0
    conv at e => rhs; whnf
    refine wpAnyH_take (i := 16) (oi := o) (v := s2) (by rw [e0]; kernel_rfl) (by kernel_rfl) (by kernel_rfl) (by kernel_rfl) (fun _ _ _ h => h) (Or.inl ⟨by rw [e]; rfl, ?_⟩) (by assumption) ?_
    · intro w _
      rw [e0]
      exact h16 _ w rfl rfl
    clear e0
    subst e
    (try simp only [Act.put, List.setIfInBounds_toArray, List.set_cons_zero, List.set_cons_succ])
    exact st11_10_0_2_5_14 hS hS' hk1 hk2 hC1 hC2 cg fz h4 h16 hQ hL
  exact AllReadyH.nil

set_option maxRecDepth 1000000 in
set_option maxHeartbeats 2000000 in
theorem st11_10_0_2_11 {Q : Exit → Act → World → Prop} {S : World → Prop} {V : World} {vO s1 s2 : Value} {at_ : Int} {k1 k2 g8 : Nat} {C1 C2 : List Value} {f : Clm}
    {z0 z1 z2 z3 z4 z5 z6 z7 z9 z10 z11 z12 z13 z14 z15 z16 z17 z18 z19 z20 z21 z22 z23 z24 z25 z26 z27 z28 z29 z30 z31 z32 z33 z34 z35 z36 z37 z38 z39 z40 z41 z42 z43 z44 z45 z46 z47 z48 z49 z50 z52 z55 z56 z57 z58 z59 z61 z62 z64 z66 z67 z68 z69 z70 z71 z72 z73 z74 z75 z76 z77 z78 z79 z80 z81 z82 z83 z84 z85 z86 z87 z88 z89 z90 z91 z92 z93 z94 z95 z96 z97 z98 z99 z100 z101 z102 z103 z104 z105 z106 z107 z108 z109 z110 z111 z112 z113 z114 z115 z116 z117 z118 z119 z120 z121 z122 z123 z124 z125 z126 z127 z128 z129 z130 z131 z132 z133 z134 z135 z136 z137 z138 z139 z140 z141 z142 z143 z144 z145 z146 z147 z148 z149 z150 z151 z152 z153 z154 z155 z156 z157 z158 z159 z160 z161 z162 z163 z164 z165 z166 z167 z168 z169 z170 z171 z172 z173 z174 z175 z176 z177 z178 z179 z180 z181 z182 z183 z184 z185 z186 z187 z188 z189 z190 z191 z192 z193 z194 z195 z196 z197 z198 z199 z200 z201 z202 z203 : Value}
    (hS : ∀ W', Below V.heap.size V W' → S W') (hS' : ∀ W' u, Below V.heap.size V W' → S (W'.setCell ⟨g8, 2, none⟩ u)) (hk1 : k1 ≤ 9) (hk2 : k2 ≤ 9) (hC1 : Srcs V 4 s1 k1 C1) (hC2 : Srcs V 4 s2 k2 C2)
    (cg : V.cell? ⟨g8, 2, none⟩ = some vO) (fz : V.frozen? ⟨g8, 2, none⟩ = false)
    (h4 : ∀ (a : Act) (w : World), a.eval (.tmp 52) = vO → a.eval (.tmp 53) = .int .i64 at_ → (execOp a.eval (opN ops11_10 4)).run Try.prog w = .ok (.value s1) w)
    (h16 : ∀ (a : Act) (w : World), a.eval (.tmp 64) = vO → a.eval (.tmp 65) = .int .i64 at_ → (execOp a.eval (opN ops11_10 16)).run Try.prog w = .ok (.value s2) w)
    (hQ : ∀ u50 u51 u52 u53 u54 u55 u56 u57 u58 u59 u60 u61 u62 u63 u64 u65 u66 u67 u68 v' W', LiveB V W' [some ⟨v', 46, 4, 0 + k1 + 1 + k2, [] ++ C1 ++ [.string f.name, .int .i64 f.rank, .int .i64 f.lo, .int .i64 f.hi] ++ C2⟩, none, none, none] → Q .normal ⟨#[z0, z1, z2, z3, z4, z5, z6, z7, .pointer (some ⟨g8, 0, none⟩), z9, z10, z11, z12, z13, z14, z15, z16, z17, z18, z19, z20, z21, z22, z23, z24, z25, z26, z27, z28, z29, z30, z31, z32, z33, z34, z35, z36, z37, z38, z39, z40, z41, z42, z43, z44, z45, z46, z47, z48, z49, u50, u51, u52, u53, u54, u55, u56, u57, u58, u59, u60, u61, u62, u63, u64, u65, u66, u67, u68, z69, z70, z71, z72, z73, z74, z75, z76, z77, z78, z79, z80, z81, z82, z83, z84, z85, z86, z87, z88, z89, z90, z91, z92, z93, z94, z95, z96, z97, z98, z99, z100, z101, z102, z103, z104, z105, z106, z107, z108, z109, z110, z111, z112, z113, z114, z115, z116, z117, z118, z119, z120, z121, z122, z123, z124, z125, z126, z127, z128, z129, z130, z131, z132, z133, z134, z135, z136, z137, z138, z139, z140, z141, z142, z143, z144, z145, z146, z147, z148, z149, z150, z151, z152, z153, z154, z155, z156, z157, z158, z159, z160, z161, z162, z163, z164, z165, z166, z167, z168, z169, z170, z171, z172, z173, z174, z175, z176, z177, z178, z179, z180, z181, z182, z183, z184, z185, z186, z187, z188, z189, z190, z191, z192, z193, z194, z195, z196, z197, z198, z199, z200, z201, z202, z203], []⟩ (W'.setCell ⟨g8, 2, none⟩ v'))
    {w : World} (hL : LiveB V w [some ⟨z50, 46, 4, 0, []⟩, some ⟨z61, 46, 4, 1, [.string f.name, .int .i64 f.rank, .int .i64 f.lo, .int .i64 f.hi]⟩, none, none]) :
    wpAnyH Try.prog .any ops11_10 (NoPanic Q) S 7 #[true, true, true, true, true, false, true, true, true, true, true, true, false, true, false, true, false, false, false, false] ⟨#[z0, z1, z2, z3, z4, z5, z6, z7, .pointer (some ⟨g8, 0, none⟩), z9, z10, z11, z12, z13, z14, z15, z16, z17, z18, z19, z20, z21, z22, z23, z24, z25, z26, z27, z28, z29, z30, z31, z32, z33, z34, z35, z36, z37, z38, z39, z40, z41, z42, z43, z44, z45, z46, z47, z48, z49, z50, .pointer (some ⟨g8, 2, none⟩), z52, .int .i64 at_, s1, z55, z56, z57, z58, z59, .agg #[.string f.name, .int .i64 f.rank, .int .i64 f.lo, .int .i64 f.hi], z61, z62, .pointer (some ⟨g8, 2, none⟩), z64, .int .i64 at_, z66, z67, z68, z69, z70, z71, z72, z73, z74, z75, z76, z77, z78, z79, z80, z81, z82, z83, z84, z85, z86, z87, z88, z89, z90, z91, z92, z93, z94, z95, z96, z97, z98, z99, z100, z101, z102, z103, z104, z105, z106, z107, z108, z109, z110, z111, z112, z113, z114, z115, z116, z117, z118, z119, z120, z121, z122, z123, z124, z125, z126, z127, z128, z129, z130, z131, z132, z133, z134, z135, z136, z137, z138, z139, z140, z141, z142, z143, z144, z145, z146, z147, z148, z149, z150, z151, z152, z153, z154, z155, z156, z157, z158, z159, z160, z161, z162, z163, z164, z165, z166, z167, z168, z169, z170, z171, z172, z173, z174, z175, z176, z177, z178, z179, z180, z181, z182, z183, z184, z185, z186, z187, z188, z189, z190, z191, z192, z193, z194, z195, z196, z197, z198, z199, z200, z201, z202, z203], []⟩ w := by
  have _used := And.intro hS (And.intro hS' (And.intro hk1 (And.intro hk2 (And.intro hC1 (And.intro hC2 (And.intro cg (And.intro fz (And.intro h4 (And.intro h16 hQ)))))))))
  clear _used
  refine wpAnyH_ready (rs := [5, 14]) (by kernel_rfl) (by simp) ?_
  refine AllReadyH.cons (o := opN ops11_10 5) (by kernel_rfl) (fun K hK => ?_) ?_
  · obtain ⟨i4, hi4, hz40, hz41, hz42⟩ := info_parts Try.info46
    refine step_append_live (by rfl) _ _ 40 (by rfl) hL 0 _ rfl i4 _ 40 Try.underlying40 hi4 hz40 hz41 hz42 rfl (Nat.succ_pos _) (by rfl) s1 k1 _ (by rfl) (srcs_keep hL hC1) (by simp only []; unfold maxLen; omega) (by simp only []; omega) ?_
    intro v' w' hL'
    exact hK.out _ _ (hS _ hL'.1) (fun _ => st11_10_0_2_5_11 hS hS' hk1 hk2 hC1 hC2 cg fz h4 h16 hQ hL')
  refine AllReadyH.cons (o := opN ops11_10 14) (by kernel_rfl) (fun K hK => ?_) ?_
  · obtain ⟨o, e⟩ : ∃ o, o = opN ops11_10 14 := ⟨_, rfl⟩
    rw [← e]
    conv at e => rhs; whnf
    subst e
    have hc := keepC hL.1 cg
    go_simp
    refine hK.out _ _ (hS _ hL.1) (fun hHeld => ?_)
    clear hK hc
    (try simp only [List.setIfInBounds_toArray, List.set_cons_zero, List.set_cons_succ])
    obtain ⟨o, e0⟩ : ∃ o, o = opN ops11_10 16 := ⟨_, rfl⟩
    have e := e0
    conv at e => rhs; whnf
    refine wpAnyH_take (i := 16) (oi := o) (v := s2) (by rw [e0]; kernel_rfl) (by kernel_rfl) (by kernel_rfl) (by kernel_rfl) (fun _ _ _ h => h) (Or.inl ⟨by rw [e]; rfl, ?_⟩) (by assumption) ?_
    · intro w _
      rw [e0]
      exact h16 _ w rfl rfl
    clear e0
    subst e
    (try simp only [Act.put, List.setIfInBounds_toArray, List.set_cons_zero, List.set_cons_succ])
    exact st11_10_0_2_11_14 hS hS' hk1 hk2 hC1 hC2 cg fz h4 h16 hQ hL
  exact AllReadyH.nil

set_option maxRecDepth 1000000 in
set_option maxHeartbeats 2000000 in
theorem st11_10_0_2_14 {Q : Exit → Act → World → Prop} {S : World → Prop} {V : World} {vO s1 s2 : Value} {at_ : Int} {k1 k2 g8 : Nat} {C1 C2 : List Value} {f : Clm}
    {z0 z1 z2 z3 z4 z5 z6 z7 z9 z10 z11 z12 z13 z14 z15 z16 z17 z18 z19 z20 z21 z22 z23 z24 z25 z26 z27 z28 z29 z30 z31 z32 z33 z34 z35 z36 z37 z38 z39 z40 z41 z42 z43 z44 z45 z46 z47 z48 z49 z50 z52 z55 z56 z57 z58 z59 z61 z62 z64 z67 z68 z69 z70 z71 z72 z73 z74 z75 z76 z77 z78 z79 z80 z81 z82 z83 z84 z85 z86 z87 z88 z89 z90 z91 z92 z93 z94 z95 z96 z97 z98 z99 z100 z101 z102 z103 z104 z105 z106 z107 z108 z109 z110 z111 z112 z113 z114 z115 z116 z117 z118 z119 z120 z121 z122 z123 z124 z125 z126 z127 z128 z129 z130 z131 z132 z133 z134 z135 z136 z137 z138 z139 z140 z141 z142 z143 z144 z145 z146 z147 z148 z149 z150 z151 z152 z153 z154 z155 z156 z157 z158 z159 z160 z161 z162 z163 z164 z165 z166 z167 z168 z169 z170 z171 z172 z173 z174 z175 z176 z177 z178 z179 z180 z181 z182 z183 z184 z185 z186 z187 z188 z189 z190 z191 z192 z193 z194 z195 z196 z197 z198 z199 z200 z201 z202 z203 : Value}
    (hS : ∀ W', Below V.heap.size V W' → S W') (hS' : ∀ W' u, Below V.heap.size V W' → S (W'.setCell ⟨g8, 2, none⟩ u)) (hk1 : k1 ≤ 9) (hk2 : k2 ≤ 9) (hC1 : Srcs V 4 s1 k1 C1) (hC2 : Srcs V 4 s2 k2 C2)
    (cg : V.cell? ⟨g8, 2, none⟩ = some vO) (fz : V.frozen? ⟨g8, 2, none⟩ = false)
    (h4 : ∀ (a : Act) (w : World), a.eval (.tmp 52) = vO → a.eval (.tmp 53) = .int .i64 at_ → (execOp a.eval (opN ops11_10 4)).run Try.prog w = .ok (.value s1) w)
    (h16 : ∀ (a : Act) (w : World), a.eval (.tmp 64) = vO → a.eval (.tmp 65) = .int .i64 at_ → (execOp a.eval (opN ops11_10 16)).run Try.prog w = .ok (.value s2) w)
    (hQ : ∀ u50 u51 u52 u53 u54 u55 u56 u57 u58 u59 u60 u61 u62 u63 u64 u65 u66 u67 u68 v' W', LiveB V W' [some ⟨v', 46, 4, 0 + k1 + 1 + k2, [] ++ C1 ++ [.string f.name, .int .i64 f.rank, .int .i64 f.lo, .int .i64 f.hi] ++ C2⟩, none, none, none] → Q .normal ⟨#[z0, z1, z2, z3, z4, z5, z6, z7, .pointer (some ⟨g8, 0, none⟩), z9, z10, z11, z12, z13, z14, z15, z16, z17, z18, z19, z20, z21, z22, z23, z24, z25, z26, z27, z28, z29, z30, z31, z32, z33, z34, z35, z36, z37, z38, z39, z40, z41, z42, z43, z44, z45, z46, z47, z48, z49, u50, u51, u52, u53, u54, u55, u56, u57, u58, u59, u60, u61, u62, u63, u64, u65, u66, u67, u68, z69, z70, z71, z72, z73, z74, z75, z76, z77, z78, z79, z80, z81, z82, z83, z84, z85, z86, z87, z88, z89, z90, z91, z92, z93, z94, z95, z96, z97, z98, z99, z100, z101, z102, z103, z104, z105, z106, z107, z108, z109, z110, z111, z112, z113, z114, z115, z116, z117, z118, z119, z120, z121, z122, z123, z124, z125, z126, z127, z128, z129, z130, z131, z132, z133, z134, z135, z136, z137, z138, z139, z140, z141, z142, z143, z144, z145, z146, z147, z148, z149, z150, z151, z152, z153, z154, z155, z156, z157, z158, z159, z160, z161, z162, z163, z164, z165, z166, z167, z168, z169, z170, z171, z172, z173, z174, z175, z176, z177, z178, z179, z180, z181, z182, z183, z184, z185, z186, z187, z188, z189, z190, z191, z192, z193, z194, z195, z196, z197, z198, z199, z200, z201, z202, z203], []⟩ (W'.setCell ⟨g8, 2, none⟩ v'))
    {w : World} (hL : LiveB V w [some ⟨z50, 46, 4, 0, []⟩, none, none, none]) :
    wpAnyH Try.prog .any ops11_10 (NoPanic Q) S 6 #[true, true, true, true, true, false, true, true, true, true, true, false, false, true, true, true, true, false, false, false] ⟨#[z0, z1, z2, z3, z4, z5, z6, z7, .pointer (some ⟨g8, 0, none⟩), z9, z10, z11, z12, z13, z14, z15, z16, z17, z18, z19, z20, z21, z22, z23, z24, z25, z26, z27, z28, z29, z30, z31, z32, z33, z34, z35, z36, z37, z38, z39, z40, z41, z42, z43, z44, z45, z46, z47, z48, z49, z50, .pointer (some ⟨g8, 2, none⟩), z52, .int .i64 at_, s1, z55, z56, z57, z58, z59, .agg #[.string f.name, .int .i64 f.rank, .int .i64 f.lo, .int .i64 f.hi], z61, z62, .pointer (some ⟨g8, 2, none⟩), z64, .int .i64 at_, s2, z67, z68, z69, z70, z71, z72, z73, z74, z75, z76, z77, z78, z79, z80, z81, z82, z83, z84, z85, z86, z87, z88, z89, z90, z91, z92, z93, z94, z95, z96, z97, z98, z99, z100, z101, z102, z103, z104, z105, z106, z107, z108, z109, z110, z111, z112, z113, z114, z115, z116, z117, z118, z119, z120, z121, z122, z123, z124, z125, z126, z127, z128, z129, z130, z131, z132, z133, z134, z135, z136, z137, z138, z139, z140, z141, z142, z143, z144, z145, z146, z147, z148, z149, z150, z151, z152, z153, z154, z155, z156, z157, z158, z159, z160, z161, z162, z163, z164, z165, z166, z167, z168, z169, z170, z171, z172, z173, z174, z175, z176, z177, z178, z179, z180, z181, z182, z183, z184, z185, z186, z187, z188, z189, z190, z191, z192, z193, z194, z195, z196, z197, z198, z199, z200, z201, z202, z203], []⟩ w := by
  have _used := And.intro hS (And.intro hS' (And.intro hk1 (And.intro hk2 (And.intro hC1 (And.intro hC2 (And.intro cg (And.intro fz (And.intro h4 (And.intro h16 hQ)))))))))
  clear _used
  refine wpAnyH_ready (rs := [5, 11]) (by kernel_rfl) (by simp) ?_
  refine AllReadyH.cons (o := opN ops11_10 5) (by kernel_rfl) (fun K hK => ?_) ?_
  · obtain ⟨i4, hi4, hz40, hz41, hz42⟩ := info_parts Try.info46
    refine step_append_live (by rfl) _ _ 40 (by rfl) hL 0 _ rfl i4 _ 40 Try.underlying40 hi4 hz40 hz41 hz42 rfl (Nat.succ_pos _) (by rfl) s1 k1 _ (by rfl) (srcs_keep hL hC1) (by simp only []; unfold maxLen; omega) (by simp only []; omega) ?_
    intro v' w' hL'
    exact hK.out _ _ (hS _ hL'.1) (fun _ => st11_10_0_2_5_14 hS hS' hk1 hk2 hC1 hC2 cg fz h4 h16 hQ hL')
  refine AllReadyH.cons (o := opN ops11_10 11) (by kernel_rfl) (fun K hK => ?_) ?_
  · obtain ⟨o, e⟩ : ∃ o, o = opN ops11_10 11 := ⟨_, rfl⟩
    rw [← e]
    conv at e => rhs; whnf
    subst e
    go_simp
    have hL' := liveB_lit hL 1 #[.string f.name, .int .i64 f.rank, .int .i64 f.lo, .int .i64 f.hi] 46 4 1 (by unfold maxLen; omega) rfl
    exact hK.out _ _ (hS _ hL'.1) (fun _ => st11_10_0_2_11_14 hS hS' hk1 hk2 hC1 hC2 cg fz h4 h16 hQ hL')
  exact AllReadyH.nil

set_option maxRecDepth 1000000 in
set_option maxHeartbeats 2000000 in
theorem st11_10_0_11_14 {Q : Exit → Act → World → Prop} {S : World → Prop} {V : World} {vO s1 s2 : Value} {at_ : Int} {k1 k2 g8 : Nat} {C1 C2 : List Value} {f : Clm}
    {z0 z1 z2 z3 z4 z5 z6 z7 z9 z10 z11 z12 z13 z14 z15 z16 z17 z18 z19 z20 z21 z22 z23 z24 z25 z26 z27 z28 z29 z30 z31 z32 z33 z34 z35 z36 z37 z38 z39 z40 z41 z42 z43 z44 z45 z46 z47 z48 z49 z50 z52 z54 z55 z56 z57 z58 z59 z61 z62 z64 z67 z68 z69 z70 z71 z72 z73 z74 z75 z76 z77 z78 z79 z80 z81 z82 z83 z84 z85 z86 z87 z88 z89 z90 z91 z92 z93 z94 z95 z96 z97 z98 z99 z100 z101 z102 z103 z104 z105 z106 z107 z108 z109 z110 z111 z112 z113 z114 z115 z116 z117 z118 z119 z120 z121 z122 z123 z124 z125 z126 z127 z128 z129 z130 z131 z132 z133 z134 z135 z136 z137 z138 z139 z140 z141 z142 z143 z144 z145 z146 z147 z148 z149 z150 z151 z152 z153 z154 z155 z156 z157 z158 z159 z160 z161 z162 z163 z164 z165 z166 z167 z168 z169 z170 z171 z172 z173 z174 z175 z176 z177 z178 z179 z180 z181 z182 z183 z184 z185 z186 z187 z188 z189 z190 z191 z192 z193 z194 z195 z196 z197 z198 z199 z200 z201 z202 z203 : Value}
    (hS : ∀ W', Below V.heap.size V W' → S W') (hS' : ∀ W' u, Below V.heap.size V W' → S (W'.setCell ⟨g8, 2, none⟩ u)) (hk1 : k1 ≤ 9) (hk2 : k2 ≤ 9) (hC1 : Srcs V 4 s1 k1 C1) (hC2 : Srcs V 4 s2 k2 C2)
    (cg : V.cell? ⟨g8, 2, none⟩ = some vO) (fz : V.frozen? ⟨g8, 2, none⟩ = false)
    (h4 : ∀ (a : Act) (w : World), a.eval (.tmp 52) = vO → a.eval (.tmp 53) = .int .i64 at_ → (execOp a.eval (opN ops11_10 4)).run Try.prog w = .ok (.value s1) w)
    (h16 : ∀ (a : Act) (w : World), a.eval (.tmp 64) = vO → a.eval (.tmp 65) = .int .i64 at_ → (execOp a.eval (opN ops11_10 16)).run Try.prog w = .ok (.value s2) w)
    (hQ : ∀ u50 u51 u52 u53 u54 u55 u56 u57 u58 u59 u60 u61 u62 u63 u64 u65 u66 u67 u68 v' W', LiveB V W' [some ⟨v', 46, 4, 0 + k1 + 1 + k2, [] ++ C1 ++ [.string f.name, .int .i64 f.rank, .int .i64 f.lo, .int .i64 f.hi] ++ C2⟩, none, none, none] → Q .normal ⟨#[z0, z1, z2, z3, z4, z5, z6, z7, .pointer (some ⟨g8, 0, none⟩), z9, z10, z11, z12, z13, z14, z15, z16, z17, z18, z19, z20, z21, z22, z23, z24, z25, z26, z27, z28, z29, z30, z31, z32, z33, z34, z35, z36, z37, z38, z39, z40, z41, z42, z43, z44, z45, z46, z47, z48, z49, u50, u51, u52, u53, u54, u55, u56, u57, u58, u59, u60, u61, u62, u63, u64, u65, u66, u67, u68, z69, z70, z71, z72, z73, z74, z75, z76, z77, z78, z79, z80, z81, z82, z83, z84, z85, z86, z87, z88, z89, z90, z91, z92, z93, z94, z95, z96, z97, z98, z99, z100, z101, z102, z103, z104, z105, z106, z107, z108, z109, z110, z111, z112, z113, z114, z115, z116, z117, z118, z119, z120, z121, z122, z123, z124, z125, z126, z127, z128, z129, z130, z131, z132, z133, z134, z135, z136, z137, z138, z139, z140, z141, z142, z143, z144, z145, z146, z147, z148, z149, z150, z151, z152, z153, z154, z155, z156, z157, z158, z159, z160, z161, z162, z163, z164, z165, z166, z167, z168, z169, z170, z171, z172, z173, z174, z175, z176, z177, z178, z179, z180, z181, z182, z183, z184, z185, z186, z187, z188, z189, z190, z191, z192, z193, z194, z195, z196, z197, z198, z199, z200, z201, z202, z203], []⟩ (W'.setCell ⟨g8, 2, none⟩ v'))
    {w : World} (hL : LiveB V w [some ⟨z50, 46, 4, 0, []⟩, some ⟨z61, 46, 4, 1, [.string f.name, .int .i64 f.rank, .int .i64 f.lo, .int .i64 f.hi]⟩, none, none]) :
    wpAnyH Try.prog .any ops11_10 (NoPanic Q) S 7 #[true, true, false, true, false, false, true, true, true, true, true, true, false, true, true, true, true, false, false, false] ⟨#[z0, z1, z2, z3, z4, z5, z6, z7, .pointer (some ⟨g8, 0, none⟩), z9, z10, z11, z12, z13, z14, z15, z16, z17, z18, z19, z20, z21, z22, z23, z24, z25, z26, z27, z28, z29, z30, z31, z32, z33, z34, z35, z36, z37, z38, z39, z40, z41, z42, z43, z44, z45, z46, z47, z48, z49, z50, .pointer (some ⟨g8, 2, none⟩), z52, .int .i64 at_, z54, z55, z56, z57, z58, z59, .agg #[.string f.name, .int .i64 f.rank, .int .i64 f.lo, .int .i64 f.hi], z61, z62, .pointer (some ⟨g8, 2, none⟩), z64, .int .i64 at_, s2, z67, z68, z69, z70, z71, z72, z73, z74, z75, z76, z77, z78, z79, z80, z81, z82, z83, z84, z85, z86, z87, z88, z89, z90, z91, z92, z93, z94, z95, z96, z97, z98, z99, z100, z101, z102, z103, z104, z105, z106, z107, z108, z109, z110, z111, z112, z113, z114, z115, z116, z117, z118, z119, z120, z121, z122, z123, z124, z125, z126, z127, z128, z129, z130, z131, z132, z133, z134, z135, z136, z137, z138, z139, z140, z141, z142, z143, z144, z145, z146, z147, z148, z149, z150, z151, z152, z153, z154, z155, z156, z157, z158, z159, z160, z161, z162, z163, z164, z165, z166, z167, z168, z169, z170, z171, z172, z173, z174, z175, z176, z177, z178, z179, z180, z181, z182, z183, z184, z185, z186, z187, z188, z189, z190, z191, z192, z193, z194, z195, z196, z197, z198, z199, z200, z201, z202, z203], []⟩ w := by
  have _used := And.intro hS (And.intro hS' (And.intro hk1 (And.intro hk2 (And.intro hC1 (And.intro hC2 (And.intro cg (And.intro fz (And.intro h4 (And.intro h16 hQ)))))))))
  clear _used
  refine wpAnyH_ready (rs := [2]) (by kernel_rfl) (by simp) ?_
  refine AllReadyH.cons (o := opN ops11_10 2) (by kernel_rfl) (fun K hK => ?_) ?_
  · obtain ⟨o, e⟩ : ∃ o, o = opN ops11_10 2 := ⟨_, rfl⟩
    rw [← e]
    conv at e => rhs; whnf
    subst e
    have hc := keepC hL.1 cg
    go_simp
    refine hK.out _ _ (hS _ hL.1) (fun hHeld => ?_)
    clear hK hc
    (try simp only [List.setIfInBounds_toArray, List.set_cons_zero, List.set_cons_succ])
    obtain ⟨o, e0⟩ : ∃ o, o = opN ops11_10 4 := ⟨_, rfl⟩
    have e := e0
    conv at e => rhs; whnf
    refine wpAnyH_take (i := 4) (oi := o) (v := s1) (by rw [e0]; kernel_rfl) (by kernel_rfl) (by kernel_rfl) (by kernel_rfl) (fun _ _ _ h => h) (Or.inl ⟨by rw [e]; rfl, ?_⟩) (by assumption) ?_
    · intro w _
      rw [e0]
      exact h4 _ w rfl rfl
    clear e0
    subst e
    (try simp only [Act.put, List.setIfInBounds_toArray, List.set_cons_zero, List.set_cons_succ])
    exact st11_10_0_2_11_14 hS hS' hk1 hk2 hC1 hC2 cg fz h4 h16 hQ hL
  exact AllReadyH.nil

set_option maxRecDepth 1000000 in
set_option maxHeartbeats 2000000 in
theorem st11_10_2_11_14 {Q : Exit → Act → World → Prop} {S : World → Prop} {V : World} {vO s1 s2 : Value} {at_ : Int} {k1 k2 g8 : Nat} {C1 C2 : List Value} {f : Clm}
    {z0 z1 z2 z3 z4 z5 z6 z7 z9 z10 z11 z12 z13 z14 z15 z16 z17 z18 z19 z20 z21 z22 z23 z24 z25 z26 z27 z28 z29 z30 z31 z32 z33 z34 z35 z36 z37 z38 z39 z40 z41 z42 z43 z44 z45 z46 z47 z48 z49 z50 z52 z55 z56 z57 z58 z59 z61 z62 z64 z67 z68 z69 z70 z71 z72 z73 z74 z75 z76 z77 z78 z79 z80 z81 z82 z83 z84 z85 z86 z87 z88 z89 z90 z91 z92 z93 z94 z95 z96 z97 z98 z99 z100 z101 z102 z103 z104 z105 z106 z107 z108 z109 z110 z111 z112 z113 z114 z115 z116 z117 z118 z119 z120 z121 z122 z123 z124 z125 z126 z127 z128 z129 z130 z131 z132 z133 z134 z135 z136 z137 z138 z139 z140 z141 z142 z143 z144 z145 z146 z147 z148 z149 z150 z151 z152 z153 z154 z155 z156 z157 z158 z159 z160 z161 z162 z163 z164 z165 z166 z167 z168 z169 z170 z171 z172 z173 z174 z175 z176 z177 z178 z179 z180 z181 z182 z183 z184 z185 z186 z187 z188 z189 z190 z191 z192 z193 z194 z195 z196 z197 z198 z199 z200 z201 z202 z203 : Value}
    (hS : ∀ W', Below V.heap.size V W' → S W') (hS' : ∀ W' u, Below V.heap.size V W' → S (W'.setCell ⟨g8, 2, none⟩ u)) (hk1 : k1 ≤ 9) (hk2 : k2 ≤ 9) (hC1 : Srcs V 4 s1 k1 C1) (hC2 : Srcs V 4 s2 k2 C2)
    (cg : V.cell? ⟨g8, 2, none⟩ = some vO) (fz : V.frozen? ⟨g8, 2, none⟩ = false)
    (h4 : ∀ (a : Act) (w : World), a.eval (.tmp 52) = vO → a.eval (.tmp 53) = .int .i64 at_ → (execOp a.eval (opN ops11_10 4)).run Try.prog w = .ok (.value s1) w)
    (h16 : ∀ (a : Act) (w : World), a.eval (.tmp 64) = vO → a.eval (.tmp 65) = .int .i64 at_ → (execOp a.eval (opN ops11_10 16)).run Try.prog w = .ok (.value s2) w)
    (hQ : ∀ u50 u51 u52 u53 u54 u55 u56 u57 u58 u59 u60 u61 u62 u63 u64 u65 u66 u67 u68 v' W', LiveB V W' [some ⟨v', 46, 4, 0 + k1 + 1 + k2, [] ++ C1 ++ [.string f.name, .int .i64 f.rank, .int .i64 f.lo, .int .i64 f.hi] ++ C2⟩, none, none, none] → Q .normal ⟨#[z0, z1, z2, z3, z4, z5, z6, z7, .pointer (some ⟨g8, 0, none⟩), z9, z10, z11, z12, z13, z14, z15, z16, z17, z18, z19, z20, z21, z22, z23, z24, z25, z26, z27, z28, z29, z30, z31, z32, z33, z34, z35, z36, z37, z38, z39, z40, z41, z42, z43, z44, z45, z46, z47, z48, z49, u50, u51, u52, u53, u54, u55, u56, u57, u58, u59, u60, u61, u62, u63, u64, u65, u66, u67, u68, z69, z70, z71, z72, z73, z74, z75, z76, z77, z78, z79, z80, z81, z82, z83, z84, z85, z86, z87, z88, z89, z90, z91, z92, z93, z94, z95, z96, z97, z98, z99, z100, z101, z102, z103, z104, z105, z106, z107, z108, z109, z110, z111, z112, z113, z114, z115, z116, z117, z118, z119, z120, z121, z122, z123, z124, z125, z126, z127, z128, z129, z130, z131, z132, z133, z134, z135, z136, z137, z138, z139, z140, z141, z142, z143, z144, z145, z146, z147, z148, z149, z150, z151, z152, z153, z154, z155, z156, z157, z158, z159, z160, z161, z162, z163, z164, z165, z166, z167, z168, z169, z170, z171, z172, z173, z174, z175, z176, z177, z178, z179, z180, z181, z182, z183, z184, z185, z186, z187, z188, z189, z190, z191, z192, z193, z194, z195, z196, z197, z198, z199, z200, z201, z202, z203], []⟩ (W'.setCell ⟨g8, 2, none⟩ v'))
    {w : World} (hL : LiveB V w [none, some ⟨z61, 46, 4, 1, [.string f.name, .int .i64 f.rank, .int .i64 f.lo, .int .i64 f.hi]⟩, none, none]) :
    wpAnyH Try.prog .any ops11_10 (NoPanic Q) S 6 #[false, true, true, true, true, false, true, true, true, true, true, true, false, true, true, true, true, false, false, false] ⟨#[z0, z1, z2, z3, z4, z5, z6, z7, .pointer (some ⟨g8, 0, none⟩), z9, z10, z11, z12, z13, z14, z15, z16, z17, z18, z19, z20, z21, z22, z23, z24, z25, z26, z27, z28, z29, z30, z31, z32, z33, z34, z35, z36, z37, z38, z39, z40, z41, z42, z43, z44, z45, z46, z47, z48, z49, z50, .pointer (some ⟨g8, 2, none⟩), z52, .int .i64 at_, s1, z55, z56, z57, z58, z59, .agg #[.string f.name, .int .i64 f.rank, .int .i64 f.lo, .int .i64 f.hi], z61, z62, .pointer (some ⟨g8, 2, none⟩), z64, .int .i64 at_, s2, z67, z68, z69, z70, z71, z72, z73, z74, z75, z76, z77, z78, z79, z80, z81, z82, z83, z84, z85, z86, z87, z88, z89, z90, z91, z92, z93, z94, z95, z96, z97, z98, z99, z100, z101, z102, z103, z104, z105, z106, z107, z108, z109, z110, z111, z112, z113, z114, z115, z116, z117, z118, z119, z120, z121, z122, z123, z124, z125, z126, z127, z128, z129, z130, z131, z132, z133, z134, z135, z136, z137, z138, z139, z140, z141, z142, z143, z144, z145, z146, z147, z148, z149, z150, z151, z152, z153, z154, z155, z156, z157, z158, z159, z160, z161, z162, z163, z164, z165, z166, z167, z168, z169, z170, z171, z172, z173, z174, z175, z176, z177, z178, z179, z180, z181, z182, z183, z184, z185, z186, z187, z188, z189, z190, z191, z192, z193, z194, z195, z196, z197, z198, z199, z200, z201, z202, z203], []⟩ w := by
  have _used := And.intro hS (And.intro hS' (And.intro hk1 (And.intro hk2 (And.intro hC1 (And.intro hC2 (And.intro cg (And.intro fz (And.intro h4 (And.intro h16 hQ)))))))))
  clear _used
  refine wpAnyH_ready (rs := [0]) (by kernel_rfl) (by simp) ?_
  refine AllReadyH.cons (o := opN ops11_10 0) (by kernel_rfl) (fun K hK => ?_) ?_
  · obtain ⟨o, e⟩ : ∃ o, o = opN ops11_10 0 := ⟨_, rfl⟩
    rw [← e]
    conv at e => rhs; whnf
    subst e
    go_simp
    have hL' := liveB_lit hL 0 #[] 46 4 0 (Nat.zero_le _) rfl
    exact hK.out _ _ (hS _ hL'.1) (fun _ => st11_10_0_2_11_14 hS hS' hk1 hk2 hC1 hC2 cg fz h4 h16 hQ hL')
  exact AllReadyH.nil

set_option maxRecDepth 1000000 in
set_option maxHeartbeats 2000000 in
theorem st11_10_0_2 {Q : Exit → Act → World → Prop} {S : World → Prop} {V : World} {vO s1 s2 : Value} {at_ : Int} {k1 k2 g8 : Nat} {C1 C2 : List Value} {f : Clm}
    {z0 z1 z2 z3 z4 z5 z6 z7 z9 z10 z11 z12 z13 z14 z15 z16 z17 z18 z19 z20 z21 z22 z23 z24 z25 z26 z27 z28 z29 z30 z31 z32 z33 z34 z35 z36 z37 z38 z39 z40 z41 z42 z43 z44 z45 z46 z47 z48 z49 z50 z52 z55 z56 z57 z58 z59 z61 z62 z64 z66 z67 z68 z69 z70 z71 z72 z73 z74 z75 z76 z77 z78 z79 z80 z81 z82 z83 z84 z85 z86 z87 z88 z89 z90 z91 z92 z93 z94 z95 z96 z97 z98 z99 z100 z101 z102 z103 z104 z105 z106 z107 z108 z109 z110 z111 z112 z113 z114 z115 z116 z117 z118 z119 z120 z121 z122 z123 z124 z125 z126 z127 z128 z129 z130 z131 z132 z133 z134 z135 z136 z137 z138 z139 z140 z141 z142 z143 z144 z145 z146 z147 z148 z149 z150 z151 z152 z153 z154 z155 z156 z157 z158 z159 z160 z161 z162 z163 z164 z165 z166 z167 z168 z169 z170 z171 z172 z173 z174 z175 z176 z177 z178 z179 z180 z181 z182 z183 z184 z185 z186 z187 z188 z189 z190 z191 z192 z193 z194 z195 z196 z197 z198 z199 z200 z201 z202 z203 : Value}
    (hS : ∀ W', Below V.heap.size V W' → S W') (hS' : ∀ W' u, Below V.heap.size V W' → S (W'.setCell ⟨g8, 2, none⟩ u)) (hk1 : k1 ≤ 9) (hk2 : k2 ≤ 9) (hC1 : Srcs V 4 s1 k1 C1) (hC2 : Srcs V 4 s2 k2 C2)
    (cg : V.cell? ⟨g8, 2, none⟩ = some vO) (fz : V.frozen? ⟨g8, 2, none⟩ = false)
    (h4 : ∀ (a : Act) (w : World), a.eval (.tmp 52) = vO → a.eval (.tmp 53) = .int .i64 at_ → (execOp a.eval (opN ops11_10 4)).run Try.prog w = .ok (.value s1) w)
    (h16 : ∀ (a : Act) (w : World), a.eval (.tmp 64) = vO → a.eval (.tmp 65) = .int .i64 at_ → (execOp a.eval (opN ops11_10 16)).run Try.prog w = .ok (.value s2) w)
    (hQ : ∀ u50 u51 u52 u53 u54 u55 u56 u57 u58 u59 u60 u61 u62 u63 u64 u65 u66 u67 u68 v' W', LiveB V W' [some ⟨v', 46, 4, 0 + k1 + 1 + k2, [] ++ C1 ++ [.string f.name, .int .i64 f.rank, .int .i64 f.lo, .int .i64 f.hi] ++ C2⟩, none, none, none] → Q .normal ⟨#[z0, z1, z2, z3, z4, z5, z6, z7, .pointer (some ⟨g8, 0, none⟩), z9, z10, z11, z12, z13, z14, z15, z16, z17, z18, z19, z20, z21, z22, z23, z24, z25, z26, z27, z28, z29, z30, z31, z32, z33, z34, z35, z36, z37, z38, z39, z40, z41, z42, z43, z44, z45, z46, z47, z48, z49, u50, u51, u52, u53, u54, u55, u56, u57, u58, u59, u60, u61, u62, u63, u64, u65, u66, u67, u68, z69, z70, z71, z72, z73, z74, z75, z76, z77, z78, z79, z80, z81, z82, z83, z84, z85, z86, z87, z88, z89, z90, z91, z92, z93, z94, z95, z96, z97, z98, z99, z100, z101, z102, z103, z104, z105, z106, z107, z108, z109, z110, z111, z112, z113, z114, z115, z116, z117, z118, z119, z120, z121, z122, z123, z124, z125, z126, z127, z128, z129, z130, z131, z132, z133, z134, z135, z136, z137, z138, z139, z140, z141, z142, z143, z144, z145, z146, z147, z148, z149, z150, z151, z152, z153, z154, z155, z156, z157, z158, z159, z160, z161, z162, z163, z164, z165, z166, z167, z168, z169, z170, z171, z172, z173, z174, z175, z176, z177, z178, z179, z180, z181, z182, z183, z184, z185, z186, z187, z188, z189, z190, z191, z192, z193, z194, z195, z196, z197, z198, z199, z200, z201, z202, z203], []⟩ (W'.setCell ⟨g8, 2, none⟩ v'))
    {w : World} (hL : LiveB V w [some ⟨z50, 46, 4, 0, []⟩, none, none, none]) :
    wpAnyH Try.prog .any ops11_10 (NoPanic Q) S 8 #[true, true, true, true, true, false, true, true, true, true, true, false, false, true, false, true, false, false, false, false] ⟨#[z0, z1, z2, z3, z4, z5, z6, z7, .pointer (some ⟨g8, 0, none⟩), z9, z10, z11, z12, z13, z14, z15, z16, z17, z18, z19, z20, z21, z22, z23, z24, z25, z26, z27, z28, z29, z30, z31, z32, z33, z34, z35, z36, z37, z38, z39, z40, z41, z42, z43, z44, z45, z46, z47, z48, z49, z50, .pointer (some ⟨g8, 2, none⟩), z52, .int .i64 at_, s1, z55, z56, z57, z58, z59, .agg #[.string f.name, .int .i64 f.rank, .int .i64 f.lo, .int .i64 f.hi], z61, z62, .pointer (some ⟨g8, 2, none⟩), z64, .int .i64 at_, z66, z67, z68, z69, z70, z71, z72, z73, z74, z75, z76, z77, z78, z79, z80, z81, z82, z83, z84, z85, z86, z87, z88, z89, z90, z91, z92, z93, z94, z95, z96, z97, z98, z99, z100, z101, z102, z103, z104, z105, z106, z107, z108, z109, z110, z111, z112, z113, z114, z115, z116, z117, z118, z119, z120, z121, z122, z123, z124, z125, z126, z127, z128, z129, z130, z131, z132, z133, z134, z135, z136, z137, z138, z139, z140, z141, z142, z143, z144, z145, z146, z147, z148, z149, z150, z151, z152, z153, z154, z155, z156, z157, z158, z159, z160, z161, z162, z163, z164, z165, z166, z167, z168, z169, z170, z171, z172, z173, z174, z175, z176, z177, z178, z179, z180, z181, z182, z183, z184, z185, z186, z187, z188, z189, z190, z191, z192, z193, z194, z195, z196, z197, z198, z199, z200, z201, z202, z203], []⟩ w := by
  have _used := And.intro hS (And.intro hS' (And.intro hk1 (And.intro hk2 (And.intro hC1 (And.intro hC2 (And.intro cg (And.intro fz (And.intro h4 (And.intro h16 hQ)))))))))
  clear _used
  refine wpAnyH_ready (rs := [5, 11, 14]) (by kernel_rfl) (by simp) ?_
  refine AllReadyH.cons (o := opN ops11_10 5) (by kernel_rfl) (fun K hK => ?_) ?_
  · obtain ⟨i4, hi4, hz40, hz41, hz42⟩ := info_parts Try.info46
    refine step_append_live (by rfl) _ _ 40 (by rfl) hL 0 _ rfl i4 _ 40 Try.underlying40 hi4 hz40 hz41 hz42 rfl (Nat.succ_pos _) (by rfl) s1 k1 _ (by rfl) (srcs_keep hL hC1) (by simp only []; unfold maxLen; omega) (by simp only []; omega) ?_
    intro v' w' hL'
    exact hK.out _ _ (hS _ hL'.1) (fun _ => st11_10_0_2_5 hS hS' hk1 hk2 hC1 hC2 cg fz h4 h16 hQ hL')
  refine AllReadyH.cons (o := opN ops11_10 11) (by kernel_rfl) (fun K hK => ?_) ?_
  · obtain ⟨o, e⟩ : ∃ o, o = opN ops11_10 11 := ⟨_, rfl⟩
    rw [← e]
    conv at e => rhs; whnf
    subst e
    go_simp
    have hL' := liveB_lit hL 1 #[.string f.name, .int .i64 f.rank, .int .i64 f.lo, .int .i64 f.hi] 46 4 1 (by unfold maxLen; omega) rfl
    exact hK.out _ _ (hS _ hL'.1) (fun _ => st11_10_0_2_11 hS hS' hk1 hk2 hC1 hC2 cg fz h4 h16 hQ hL')
  refine AllReadyH.cons (o := opN ops11_10 14) (by kernel_rfl) (fun K hK => ?_) ?_
  · obtain ⟨o, e⟩ : ∃ o, o = opN ops11_10 14 := ⟨_, rfl⟩
    rw [← e]
    conv at e => rhs; whnf
    subst e
    have hc := keepC hL.1 cg
    go_simp
    refine hK.out _ _ (hS _ hL.1) (fun hHeld => ?_)
    clear hK hc
    (try simp only [List.setIfInBounds_toArray, List.set_cons_zero, List.set_cons_succ])
    obtain ⟨o, e0⟩ : ∃ o, o = opN ops11_10 16 := ⟨_, rfl⟩
    have e := e0
    conv at e => rhs; whnf
    refine wpAnyH_take (i := 16) (oi := o) (v := s2) (by rw [e0]; kernel_rfl) (by kernel_rfl) (by kernel_rfl) (by kernel_rfl) (fun _ _ _ h => h) (Or.inl ⟨by rw [e]; rfl, ?_⟩) (by assumption) ?_
    · intro w _
      rw [e0]
      exact h16 _ w rfl rfl
    clear e0
    subst e
    (try simp only [Act.put, List.setIfInBounds_toArray, List.set_cons_zero, List.set_cons_succ])
    exact st11_10_0_2_14 hS hS' hk1 hk2 hC1 hC2 cg fz h4 h16 hQ hL
  exact AllReadyH.nil

set_option maxRecDepth 1000000 in
set_option maxHeartbeats 2000000 in
theorem st11_10_0_11 {Q : Exit → Act → World → Prop} {S : World → Prop} {V : World} {vO s1 s2 : Value} {at_ : Int} {k1 k2 g8 : Nat} {C1 C2 : List Value} {f : Clm}
    {z0 z1 z2 z3 z4 z5 z6 z7 z9 z10 z11 z12 z13 z14 z15 z16 z17 z18 z19 z20 z21 z22 z23 z24 z25 z26 z27 z28 z29 z30 z31 z32 z33 z34 z35 z36 z37 z38 z39 z40 z41 z42 z43 z44 z45 z46 z47 z48 z49 z50 z52 z54 z55 z56 z57 z58 z59 z61 z62 z64 z66 z67 z68 z69 z70 z71 z72 z73 z74 z75 z76 z77 z78 z79 z80 z81 z82 z83 z84 z85 z86 z87 z88 z89 z90 z91 z92 z93 z94 z95 z96 z97 z98 z99 z100 z101 z102 z103 z104 z105 z106 z107 z108 z109 z110 z111 z112 z113 z114 z115 z116 z117 z118 z119 z120 z121 z122 z123 z124 z125 z126 z127 z128 z129 z130 z131 z132 z133 z134 z135 z136 z137 z138 z139 z140 z141 z142 z143 z144 z145 z146 z147 z148 z149 z150 z151 z152 z153 z154 z155 z156 z157 z158 z159 z160 z161 z162 z163 z164 z165 z166 z167 z168 z169 z170 z171 z172 z173 z174 z175 z176 z177 z178 z179 z180 z181 z182 z183 z184 z185 z186 z187 z188 z189 z190 z191 z192 z193 z194 z195 z196 z197 z198 z199 z200 z201 z202 z203 : Value}
    (hS : ∀ W', Below V.heap.size V W' → S W') (hS' : ∀ W' u, Below V.heap.size V W' → S (W'.setCell ⟨g8, 2, none⟩ u)) (hk1 : k1 ≤ 9) (hk2 : k2 ≤ 9) (hC1 : Srcs V 4 s1 k1 C1) (hC2 : Srcs V 4 s2 k2 C2)
    (cg : V.cell? ⟨g8, 2, none⟩ = some vO) (fz : V.frozen? ⟨g8, 2, none⟩ = false)
    (h4 : ∀ (a : Act) (w : World), a.eval (.tmp 52) = vO → a.eval (.tmp 53) = .int .i64 at_ → (execOp a.eval (opN ops11_10 4)).run Try.prog w = .ok (.value s1) w)
    (h16 : ∀ (a : Act) (w : World), a.eval (.tmp 64) = vO → a.eval (.tmp 65) = .int .i64 at_ → (execOp a.eval (opN ops11_10 16)).run Try.prog w = .ok (.value s2) w)
    (hQ : ∀ u50 u51 u52 u53 u54 u55 u56 u57 u58 u59 u60 u61 u62 u63 u64 u65 u66 u67 u68 v' W', LiveB V W' [some ⟨v', 46, 4, 0 + k1 + 1 + k2, [] ++ C1 ++ [.string f.name, .int .i64 f.rank, .int .i64 f.lo, .int .i64 f.hi] ++ C2⟩, none, none, none] → Q .normal ⟨#[z0, z1, z2, z3, z4, z5, z6, z7, .pointer (some ⟨g8, 0, none⟩), z9, z10, z11, z12, z13, z14, z15, z16, z17, z18, z19, z20, z21, z22, z23, z24, z25, z26, z27, z28, z29, z30, z31, z32, z33, z34, z35, z36, z37, z38, z39, z40, z41, z42, z43, z44, z45, z46, z47, z48, z49, u50, u51, u52, u53, u54, u55, u56, u57, u58, u59, u60, u61, u62, u63, u64, u65, u66, u67, u68, z69, z70, z71, z72, z73, z74, z75, z76, z77, z78, z79, z80, z81, z82, z83, z84, z85, z86, z87, z88, z89, z90, z91, z92, z93, z94, z95, z96, z97, z98, z99, z100, z101, z102, z103, z104, z105, z106, z107, z108, z109, z110, z111, z112, z113, z114, z115, z116, z117, z118, z119, z120, z121, z122, z123, z124, z125, z126, z127, z128, z129, z130, z131, z132, z133, z134, z135, z136, z137, z138, z139, z140, z141, z142, z143, z144, z145, z146, z147, z148, z149, z150, z151, z152, z153, z154, z155, z156, z157, z158, z159, z160, z161, z162, z163, z164, z165, z166, z167, z168, z169, z170, z171, z172, z173, z174, z175, z176, z177, z178, z179, z180, z181, z182, z183, z184, z185, z186, z187, z188, z189, z190, z191, z192, z193, z194, z195, z196, z197, z198, z199, z200, z201, z202, z203], []⟩ (W'.setCell ⟨g8, 2, none⟩ v'))
    {w : World} (hL : LiveB V w [some ⟨z50, 46, 4, 0, []⟩, some ⟨z61, 46, 4, 1, [.string f.name, .int .i64 f.rank, .int .i64 f.lo, .int .i64 f.hi]⟩, none, none]) :
    wpAnyH Try.prog .any ops11_10 (NoPanic Q) S 9 #[true, true, false, true, false, false, true, true, true, true, true, true, false, true, false, true, false, false, false, false] ⟨#[z0, z1, z2, z3, z4, z5, z6, z7, .pointer (some ⟨g8, 0, none⟩), z9, z10, z11, z12, z13, z14, z15, z16, z17, z18, z19, z20, z21, z22, z23, z24, z25, z26, z27, z28, z29, z30, z31, z32, z33, z34, z35, z36, z37, z38, z39, z40, z41, z42, z43, z44, z45, z46, z47, z48, z49, z50, .pointer (some ⟨g8, 2, none⟩), z52, .int .i64 at_, z54, z55, z56, z57, z58, z59, .agg #[.string f.name, .int .i64 f.rank, .int .i64 f.lo, .int .i64 f.hi], z61, z62, .pointer (some ⟨g8, 2, none⟩), z64, .int .i64 at_, z66, z67, z68, z69, z70, z71, z72, z73, z74, z75, z76, z77, z78, z79, z80, z81, z82, z83, z84, z85, z86, z87, z88, z89, z90, z91, z92, z93, z94, z95, z96, z97, z98, z99, z100, z101, z102, z103, z104, z105, z106, z107, z108, z109, z110, z111, z112, z113, z114, z115, z116, z117, z118, z119, z120, z121, z122, z123, z124, z125, z126, z127, z128, z129, z130, z131, z132, z133, z134, z135, z136, z137, z138, z139, z140, z141, z142, z143, z144, z145, z146, z147, z148, z149, z150, z151, z152, z153, z154, z155, z156, z157, z158, z159, z160, z161, z162, z163, z164, z165, z166, z167, z168, z169, z170, z171, z172, z173, z174, z175, z176, z177, z178, z179, z180, z181, z182, z183, z184, z185, z186, z187, z188, z189, z190, z191, z192, z193, z194, z195, z196, z197, z198, z199, z200, z201, z202, z203], []⟩ w := by
  have _used := And.intro hS (And.intro hS' (And.intro hk1 (And.intro hk2 (And.intro hC1 (And.intro hC2 (And.intro cg (And.intro fz (And.intro h4 (And.intro h16 hQ)))))))))
  clear _used
  refine wpAnyH_ready (rs := [2, 14]) (by kernel_rfl) (by simp) ?_
  refine AllReadyH.cons (o := opN ops11_10 2) (by kernel_rfl) (fun K hK => ?_) ?_
  · obtain ⟨o, e⟩ : ∃ o, o = opN ops11_10 2 := ⟨_, rfl⟩
    rw [← e]
    conv at e => rhs; whnf
    subst e
    have hc := keepC hL.1 cg
    go_simp
    refine hK.out _ _ (hS _ hL.1) (fun hHeld => ?_)
    clear hK hc
    (try simp only [List.setIfInBounds_toArray, List.set_cons_zero, List.set_cons_succ])
    obtain ⟨o, e0⟩ : ∃ o, o = opN ops11_10 4 := ⟨_, rfl⟩
    have e := e0
    conv at e => rhs; whnf
    refine wpAnyH_take (i := 4) (oi := o) (v := s1) (by rw [e0]; kernel_rfl) (by kernel_rfl) (by kernel_rfl) (by kernel_rfl) (fun _ _ _ h => h) (Or.inl ⟨by rw [e]; rfl, ?_⟩) (by assumption) ?_
    · intro w _
      rw [e0]
      exact h4 _ w rfl rfl
    clear e0
    subst e
    (try simp only [Act.put, List.setIfInBounds_toArray, List.set_cons_zero, List.set_cons_succ])
    exact st11_10_0_2_11 hS hS' hk1 hk2 hC1 hC2 cg fz h4 h16 hQ hL
  refine AllReadyH.cons (o := opN ops11_10 14) (by kernel_rfl) (fun K hK => ?_) ?_
  · obtain ⟨o, e⟩ : ∃ o, o = opN ops11_10 14 := ⟨_, rfl⟩
    rw [← e]
    conv at e => rhs; whnf
    subst e
    have hc := keepC hL.1 cg
    go_simp
    refine hK.out _ _ (hS _ hL.1) (fun hHeld => ?_)
    clear hK hc
    (try simp only [List.setIfInBounds_toArray, List.set_cons_zero, List.set_cons_succ])
    obtain ⟨o, e0⟩ : ∃ o, o = opN ops11_10 16 := ⟨_, rfl⟩
    have e := e0
    conv at e => rhs; whnf
    refine wpAnyH_take (i := 16) (oi := o) (v := s2) (by rw [e0]; kernel_rfl) (by kernel_rfl) (by kernel_rfl) (by kernel_rfl) (fun _ _ _ h => h) (Or.inl ⟨by rw [e]; rfl, ?_⟩) (by assumption) ?_
    · intro w _
      rw [e0]
      exact h16 _ w rfl rfl
    clear e0
    subst e
    (try simp only [Act.put, List.setIfInBounds_toArray, List.set_cons_zero, List.set_cons_succ])
    exact st11_10_0_11_14 hS hS' hk1 hk2 hC1 hC2 cg fz h4 h16 hQ hL
  exact AllReadyH.nil

set_option maxRecDepth 1000000 in
set_option maxHeartbeats 2000000 in
theorem st11_10_0_14 {Q : Exit → Act → World → Prop} {S : World → Prop} {V : World} {vO s1 s2 : Value} {at_ : Int} {k1 k2 g8 : Nat} {C1 C2 : List Value} {f : Clm}
    {z0 z1 z2 z3 z4 z5 z6 z7 z9 z10 z11 z12 z13 z14 z15 z16 z17 z18 z19 z20 z21 z22 z23 z24 z25 z26 z27 z28 z29 z30 z31 z32 z33 z34 z35 z36 z37 z38 z39 z40 z41 z42 z43 z44 z45 z46 z47 z48 z49 z50 z52 z54 z55 z56 z57 z58 z59 z61 z62 z64 z67 z68 z69 z70 z71 z72 z73 z74 z75 z76 z77 z78 z79 z80 z81 z82 z83 z84 z85 z86 z87 z88 z89 z90 z91 z92 z93 z94 z95 z96 z97 z98 z99 z100 z101 z102 z103 z104 z105 z106 z107 z108 z109 z110 z111 z112 z113 z114 z115 z116 z117 z118 z119 z120 z121 z122 z123 z124 z125 z126 z127 z128 z129 z130 z131 z132 z133 z134 z135 z136 z137 z138 z139 z140 z141 z142 z143 z144 z145 z146 z147 z148 z149 z150 z151 z152 z153 z154 z155 z156 z157 z158 z159 z160 z161 z162 z163 z164 z165 z166 z167 z168 z169 z170 z171 z172 z173 z174 z175 z176 z177 z178 z179 z180 z181 z182 z183 z184 z185 z186 z187 z188 z189 z190 z191 z192 z193 z194 z195 z196 z197 z198 z199 z200 z201 z202 z203 : Value}
    (hS : ∀ W', Below V.heap.size V W' → S W') (hS' : ∀ W' u, Below V.heap.size V W' → S (W'.setCell ⟨g8, 2, none⟩ u)) (hk1 : k1 ≤ 9) (hk2 : k2 ≤ 9) (hC1 : Srcs V 4 s1 k1 C1) (hC2 : Srcs V 4 s2 k2 C2)
    (cg : V.cell? ⟨g8, 2, none⟩ = some vO) (fz : V.frozen? ⟨g8, 2, none⟩ = false)
    (h4 : ∀ (a : Act) (w : World), a.eval (.tmp 52) = vO → a.eval (.tmp 53) = .int .i64 at_ → (execOp a.eval (opN ops11_10 4)).run Try.prog w = .ok (.value s1) w)
    (h16 : ∀ (a : Act) (w : World), a.eval (.tmp 64) = vO → a.eval (.tmp 65) = .int .i64 at_ → (execOp a.eval (opN ops11_10 16)).run Try.prog w = .ok (.value s2) w)
    (hQ : ∀ u50 u51 u52 u53 u54 u55 u56 u57 u58 u59 u60 u61 u62 u63 u64 u65 u66 u67 u68 v' W', LiveB V W' [some ⟨v', 46, 4, 0 + k1 + 1 + k2, [] ++ C1 ++ [.string f.name, .int .i64 f.rank, .int .i64 f.lo, .int .i64 f.hi] ++ C2⟩, none, none, none] → Q .normal ⟨#[z0, z1, z2, z3, z4, z5, z6, z7, .pointer (some ⟨g8, 0, none⟩), z9, z10, z11, z12, z13, z14, z15, z16, z17, z18, z19, z20, z21, z22, z23, z24, z25, z26, z27, z28, z29, z30, z31, z32, z33, z34, z35, z36, z37, z38, z39, z40, z41, z42, z43, z44, z45, z46, z47, z48, z49, u50, u51, u52, u53, u54, u55, u56, u57, u58, u59, u60, u61, u62, u63, u64, u65, u66, u67, u68, z69, z70, z71, z72, z73, z74, z75, z76, z77, z78, z79, z80, z81, z82, z83, z84, z85, z86, z87, z88, z89, z90, z91, z92, z93, z94, z95, z96, z97, z98, z99, z100, z101, z102, z103, z104, z105, z106, z107, z108, z109, z110, z111, z112, z113, z114, z115, z116, z117, z118, z119, z120, z121, z122, z123, z124, z125, z126, z127, z128, z129, z130, z131, z132, z133, z134, z135, z136, z137, z138, z139, z140, z141, z142, z143, z144, z145, z146, z147, z148, z149, z150, z151, z152, z153, z154, z155, z156, z157, z158, z159, z160, z161, z162, z163, z164, z165, z166, z167, z168, z169, z170, z171, z172, z173, z174, z175, z176, z177, z178, z179, z180, z181, z182, z183, z184, z185, z186, z187, z188, z189, z190, z191, z192, z193, z194, z195, z196, z197, z198, z199, z200, z201, z202, z203], []⟩ (W'.setCell ⟨g8, 2, none⟩ v'))
    {w : World} (hL : LiveB V w [some ⟨z50, 46, 4, 0, []⟩, none, none, none]) :
    wpAnyH Try.prog .any ops11_10 (NoPanic Q) S 8 #[true, true, false, true, false, false, true, true, true, true, true, false, false, true, true, true, true, false, false, false] ⟨#[z0, z1, z2, z3, z4, z5, z6, z7, .pointer (some ⟨g8, 0, none⟩), z9, z10, z11, z12, z13, z14, z15, z16, z17, z18, z19, z20, z21, z22, z23, z24, z25, z26, z27, z28, z29, z30, z31, z32, z33, z34, z35, z36, z37, z38, z39, z40, z41, z42, z43, z44, z45, z46, z47, z48, z49, z50, .pointer (some ⟨g8, 2, none⟩), z52, .int .i64 at_, z54, z55, z56, z57, z58, z59, .agg #[.string f.name, .int .i64 f.rank, .int .i64 f.lo, .int .i64 f.hi], z61, z62, .pointer (some ⟨g8, 2, none⟩), z64, .int .i64 at_, s2, z67, z68, z69, z70, z71, z72, z73, z74, z75, z76, z77, z78, z79, z80, z81, z82, z83, z84, z85, z86, z87, z88, z89, z90, z91, z92, z93, z94, z95, z96, z97, z98, z99, z100, z101, z102, z103, z104, z105, z106, z107, z108, z109, z110, z111, z112, z113, z114, z115, z116, z117, z118, z119, z120, z121, z122, z123, z124, z125, z126, z127, z128, z129, z130, z131, z132, z133, z134, z135, z136, z137, z138, z139, z140, z141, z142, z143, z144, z145, z146, z147, z148, z149, z150, z151, z152, z153, z154, z155, z156, z157, z158, z159, z160, z161, z162, z163, z164, z165, z166, z167, z168, z169, z170, z171, z172, z173, z174, z175, z176, z177, z178, z179, z180, z181, z182, z183, z184, z185, z186, z187, z188, z189, z190, z191, z192, z193, z194, z195, z196, z197, z198, z199, z200, z201, z202, z203], []⟩ w := by
  have _used := And.intro hS (And.intro hS' (And.intro hk1 (And.intro hk2 (And.intro hC1 (And.intro hC2 (And.intro cg (And.intro fz (And.intro h4 (And.intro h16 hQ)))))))))
  clear _used
  refine wpAnyH_ready (rs := [2, 11]) (by kernel_rfl) (by simp) ?_
  refine AllReadyH.cons (o := opN ops11_10 2) (by kernel_rfl) (fun K hK => ?_) ?_
  · obtain ⟨o, e⟩ : ∃ o, o = opN ops11_10 2 := ⟨_, rfl⟩
    rw [← e]
    conv at e => rhs; whnf
    subst e
    have hc := keepC hL.1 cg
    go_simp
    refine hK.out _ _ (hS _ hL.1) (fun hHeld => ?_)
    clear hK hc
    (try simp only [List.setIfInBounds_toArray, List.set_cons_zero, List.set_cons_succ])
    obtain ⟨o, e0⟩ : ∃ o, o = opN ops11_10 4 := ⟨_, rfl⟩
    have e := e0
    conv at e => rhs; whnf
    refine wpAnyH_take (i := 4) (oi := o) (v := s1) (by rw [e0]; kernel_rfl) (by kernel_rfl) (by kernel_rfl) (by kernel_rfl) (fun _ _ _ h => h) (Or.inl ⟨by rw [e]; rfl, ?_⟩) (by assumption) ?_
    · intro w _
      rw [e0]
      exact h4 _ w rfl rfl
    clear e0
    subst e
    (try simp only [Act.put, List.setIfInBounds_toArray, List.set_cons_zero, List.set_cons_succ])
    exact st11_10_0_2_14 hS hS' hk1 hk2 hC1 hC2 cg fz h4 h16 hQ hL
  refine AllReadyH.cons (o := opN ops11_10 11) (by kernel_rfl) (fun K hK => ?_) ?_
  · obtain ⟨o, e⟩ : ∃ o, o = opN ops11_10 11 := ⟨_, rfl⟩
    rw [← e]
    conv at e => rhs; whnf
    subst e
    go_simp
    have hL' := liveB_lit hL 1 #[.string f.name, .int .i64 f.rank, .int .i64 f.lo, .int .i64 f.hi] 46 4 1 (by unfold maxLen; omega) rfl
    exact hK.out _ _ (hS _ hL'.1) (fun _ => st11_10_0_11_14 hS hS' hk1 hk2 hC1 hC2 cg fz h4 h16 hQ hL')
  exact AllReadyH.nil

set_option maxRecDepth 1000000 in
set_option maxHeartbeats 2000000 in
theorem st11_10_2_11 {Q : Exit → Act → World → Prop} {S : World → Prop} {V : World} {vO s1 s2 : Value} {at_ : Int} {k1 k2 g8 : Nat} {C1 C2 : List Value} {f : Clm}
    {z0 z1 z2 z3 z4 z5 z6 z7 z9 z10 z11 z12 z13 z14 z15 z16 z17 z18 z19 z20 z21 z22 z23 z24 z25 z26 z27 z28 z29 z30 z31 z32 z33 z34 z35 z36 z37 z38 z39 z40 z41 z42 z43 z44 z45 z46 z47 z48 z49 z50 z52 z55 z56 z57 z58 z59 z61 z62 z64 z66 z67 z68 z69 z70 z71 z72 z73 z74 z75 z76 z77 z78 z79 z80 z81 z82 z83 z84 z85 z86 z87 z88 z89 z90 z91 z92 z93 z94 z95 z96 z97 z98 z99 z100 z101 z102 z103 z104 z105 z106 z107 z108 z109 z110 z111 z112 z113 z114 z115 z116 z117 z118 z119 z120 z121 z122 z123 z124 z125 z126 z127 z128 z129 z130 z131 z132 z133 z134 z135 z136 z137 z138 z139 z140 z141 z142 z143 z144 z145 z146 z147 z148 z149 z150 z151 z152 z153 z154 z155 z156 z157 z158 z159 z160 z161 z162 z163 z164 z165 z166 z167 z168 z169 z170 z171 z172 z173 z174 z175 z176 z177 z178 z179 z180 z181 z182 z183 z184 z185 z186 z187 z188 z189 z190 z191 z192 z193 z194 z195 z196 z197 z198 z199 z200 z201 z202 z203 : Value}
    (hS : ∀ W', Below V.heap.size V W' → S W') (hS' : ∀ W' u, Below V.heap.size V W' → S (W'.setCell ⟨g8, 2, none⟩ u)) (hk1 : k1 ≤ 9) (hk2 : k2 ≤ 9) (hC1 : Srcs V 4 s1 k1 C1) (hC2 : Srcs V 4 s2 k2 C2)
    (cg : V.cell? ⟨g8, 2, none⟩ = some vO) (fz : V.frozen? ⟨g8, 2, none⟩ = false)
    (h4 : ∀ (a : Act) (w : World), a.eval (.tmp 52) = vO → a.eval (.tmp 53) = .int .i64 at_ → (execOp a.eval (opN ops11_10 4)).run Try.prog w = .ok (.value s1) w)
    (h16 : ∀ (a : Act) (w : World), a.eval (.tmp 64) = vO → a.eval (.tmp 65) = .int .i64 at_ → (execOp a.eval (opN ops11_10 16)).run Try.prog w = .ok (.value s2) w)
    (hQ : ∀ u50 u51 u52 u53 u54 u55 u56 u57 u58 u59 u60 u61 u62 u63 u64 u65 u66 u67 u68 v' W', LiveB V W' [some ⟨v', 46, 4, 0 + k1 + 1 + k2, [] ++ C1 ++ [.string f.name, .int .i64 f.rank, .int .i64 f.lo, .int .i64 f.hi] ++ C2⟩, none, none, none] → Q .normal ⟨#[z0, z1, z2, z3, z4, z5, z6, z7, .pointer (some ⟨g8, 0, none⟩), z9, z10, z11, z12, z13, z14, z15, z16, z17, z18, z19, z20, z21, z22, z23, z24, z25, z26, z27, z28, z29, z30, z31, z32, z33, z34, z35, z36, z37, z38, z39, z40, z41, z42, z43, z44, z45, z46, z47, z48, z49, u50, u51, u52, u53, u54, u55, u56, u57, u58, u59, u60, u61, u62, u63, u64, u65, u66, u67, u68, z69, z70, z71, z72, z73, z74, z75, z76, z77, z78, z79, z80, z81, z82, z83, z84, z85, z86, z87, z88, z89, z90, z91, z92, z93, z94, z95, z96, z97, z98, z99, z100, z101, z102, z103, z104, z105, z106, z107, z108, z109, z110, z111, z112, z113, z114, z115, z116, z117, z118, z119, z120, z121, z122, z123, z124, z125, z126, z127, z128, z129, z130, z131, z132, z133, z134, z135, z136, z137, z138, z139, z140, z141, z142, z143, z144, z145, z146, z147, z148, z149, z150, z151, z152, z153, z154, z155, z156, z157, z158, z159, z160, z161, z162, z163, z164, z165, z166, z167, z168, z169, z170, z171, z172, z173, z174, z175, z176, z177, z178, z179, z180, z181, z182, z183, z184, z185, z186, z187, z188, z189, z190, z191, z192, z193, z194, z195, z196, z197, z198, z199, z200, z201, z202, z203], []⟩ (W'.setCell ⟨g8, 2, none⟩ v'))
    {w : World} (hL : LiveB V w [none, some ⟨z61, 46, 4, 1, [.string f.name, .int .i64 f.rank, .int .i64 f.lo, .int .i64 f.hi]⟩, none, none]) :
    wpAnyH Try.prog .any ops11_10 (NoPanic Q) S 8 #[false, true, true, true, true, false, true, true, true, true, true, true, false, true, false, true, false, false, false, false] ⟨#[z0, z1, z2, z3, z4, z5, z6, z7, .pointer (some ⟨g8, 0, none⟩), z9, z10, z11, z12, z13, z14, z15, z16, z17, z18, z19, z20, z21, z22, z23, z24, z25, z26, z27, z28, z29, z30, z31, z32, z33, z34, z35, z36, z37, z38, z39, z40, z41, z42, z43, z44, z45, z46, z47, z48, z49, z50, .pointer (some ⟨g8, 2, none⟩), z52, .int .i64 at_, s1, z55, z56, z57, z58, z59, .agg #[.string f.name, .int .i64 f.rank, .int .i64 f.lo, .int .i64 f.hi], z61, z62, .pointer (some ⟨g8, 2, none⟩), z64, .int .i64 at_, z66, z67, z68, z69, z70, z71, z72, z73, z74, z75, z76, z77, z78, z79, z80, z81, z82, z83, z84, z85, z86, z87, z88, z89, z90, z91, z92, z93, z94, z95, z96, z97, z98, z99, z100, z101, z102, z103, z104, z105, z106, z107, z108, z109, z110, z111, z112, z113, z114, z115, z116, z117, z118, z119, z120, z121, z122, z123, z124, z125, z126, z127, z128, z129, z130, z131, z132, z133, z134, z135, z136, z137, z138, z139, z140, z141, z142, z143, z144, z145, z146, z147, z148, z149, z150, z151, z152, z153, z154, z155, z156, z157, z158, z159, z160, z161, z162, z163, z164, z165, z166, z167, z168, z169, z170, z171, z172, z173, z174, z175, z176, z177, z178, z179, z180, z181, z182, z183, z184, z185, z186, z187, z188, z189, z190, z191, z192, z193, z194, z195, z196, z197, z198, z199, z200, z201, z202, z203], []⟩ w := by
  have _used := And.intro hS (And.intro hS' (And.intro hk1 (And.intro hk2 (And.intro hC1 (And.intro hC2 (And.intro cg (And.intro fz (And.intro h4 (And.intro h16 hQ)))))))))
  clear _used
  refine wpAnyH_ready (rs := [0, 14]) (by kernel_rfl) (by simp) ?_
  refine AllReadyH.cons (o := opN ops11_10 0) (by kernel_rfl) (fun K hK => ?_) ?_
  · obtain ⟨o, e⟩ : ∃ o, o = opN ops11_10 0 := ⟨_, rfl⟩
    rw [← e]
    conv at e => rhs; whnf
    subst e
    go_simp
    have hL' := liveB_lit hL 0 #[] 46 4 0 (Nat.zero_le _) rfl
    exact hK.out _ _ (hS _ hL'.1) (fun _ => st11_10_0_2_11 hS hS' hk1 hk2 hC1 hC2 cg fz h4 h16 hQ hL')
  refine AllReadyH.cons (o := opN ops11_10 14) (by kernel_rfl) (fun K hK => ?_) ?_
  · obtain ⟨o, e⟩ : ∃ o, o = opN ops11_10 14 := ⟨_, rfl⟩
    rw [← e]
    conv at e => rhs; whnf
    subst e
    have hc := keepC hL.1 cg
    go_simp
    refine hK.out _ _ (hS _ hL.1) (fun hHeld => ?_)
    clear hK hc
    (try simp only [List.setIfInBounds_toArray, List.set_cons_zero, List.set_cons_succ])
    obtain ⟨o, e0⟩ : ∃ o, o = opN ops11_10 16 := ⟨_, rfl⟩
    have e := e0
    conv at e => rhs; whnf
    refine wpAnyH_take (i := 16) (oi := o) (v := s2) (by rw [e0]; kernel_rfl) (by kernel_rfl) (by kernel_rfl) (by kernel_rfl) (fun _ _ _ h => h) (Or.inl ⟨by rw [e]; rfl, ?_⟩) (by assumption) ?_
    · intro w _
      rw [e0]
      exact h16 _ w rfl rfl
    clear e0
    subst e
    (try simp only [Act.put, List.setIfInBounds_toArray, List.set_cons_zero, List.set_cons_succ])
    exact st11_10_2_11_14 hS hS' hk1 hk2 hC1 hC2 cg fz h4 h16 hQ hL
  exact AllReadyH.nil

set_option maxRecDepth 1000000 in
set_option maxHeartbeats 2000000 in
theorem st11_10_2_14 {Q : Exit → Act → World → Prop} {S : World → Prop} {V : World} {vO s1 s2 : Value} {at_ : Int} {k1 k2 g8 : Nat} {C1 C2 : List Value} {f : Clm}
    {z0 z1 z2 z3 z4 z5 z6 z7 z9 z10 z11 z12 z13 z14 z15 z16 z17 z18 z19 z20 z21 z22 z23 z24 z25 z26 z27 z28 z29 z30 z31 z32 z33 z34 z35 z36 z37 z38 z39 z40 z41 z42 z43 z44 z45 z46 z47 z48 z49 z50 z52 z55 z56 z57 z58 z59 z61 z62 z64 z67 z68 z69 z70 z71 z72 z73 z74 z75 z76 z77 z78 z79 z80 z81 z82 z83 z84 z85 z86 z87 z88 z89 z90 z91 z92 z93 z94 z95 z96 z97 z98 z99 z100 z101 z102 z103 z104 z105 z106 z107 z108 z109 z110 z111 z112 z113 z114 z115 z116 z117 z118 z119 z120 z121 z122 z123 z124 z125 z126 z127 z128 z129 z130 z131 z132 z133 z134 z135 z136 z137 z138 z139 z140 z141 z142 z143 z144 z145 z146 z147 z148 z149 z150 z151 z152 z153 z154 z155 z156 z157 z158 z159 z160 z161 z162 z163 z164 z165 z166 z167 z168 z169 z170 z171 z172 z173 z174 z175 z176 z177 z178 z179 z180 z181 z182 z183 z184 z185 z186 z187 z188 z189 z190 z191 z192 z193 z194 z195 z196 z197 z198 z199 z200 z201 z202 z203 : Value}
    (hS : ∀ W', Below V.heap.size V W' → S W') (hS' : ∀ W' u, Below V.heap.size V W' → S (W'.setCell ⟨g8, 2, none⟩ u)) (hk1 : k1 ≤ 9) (hk2 : k2 ≤ 9) (hC1 : Srcs V 4 s1 k1 C1) (hC2 : Srcs V 4 s2 k2 C2)
    (cg : V.cell? ⟨g8, 2, none⟩ = some vO) (fz : V.frozen? ⟨g8, 2, none⟩ = false)
    (h4 : ∀ (a : Act) (w : World), a.eval (.tmp 52) = vO → a.eval (.tmp 53) = .int .i64 at_ → (execOp a.eval (opN ops11_10 4)).run Try.prog w = .ok (.value s1) w)
    (h16 : ∀ (a : Act) (w : World), a.eval (.tmp 64) = vO → a.eval (.tmp 65) = .int .i64 at_ → (execOp a.eval (opN ops11_10 16)).run Try.prog w = .ok (.value s2) w)
    (hQ : ∀ u50 u51 u52 u53 u54 u55 u56 u57 u58 u59 u60 u61 u62 u63 u64 u65 u66 u67 u68 v' W', LiveB V W' [some ⟨v', 46, 4, 0 + k1 + 1 + k2, [] ++ C1 ++ [.string f.name, .int .i64 f.rank, .int .i64 f.lo, .int .i64 f.hi] ++ C2⟩, none, none, none] → Q .normal ⟨#[z0, z1, z2, z3, z4, z5, z6, z7, .pointer (some ⟨g8, 0, none⟩), z9, z10, z11, z12, z13, z14, z15, z16, z17, z18, z19, z20, z21, z22, z23, z24, z25, z26, z27, z28, z29, z30, z31, z32, z33, z34, z35, z36, z37, z38, z39, z40, z41, z42, z43, z44, z45, z46, z47, z48, z49, u50, u51, u52, u53, u54, u55, u56, u57, u58, u59, u60, u61, u62, u63, u64, u65, u66, u67, u68, z69, z70, z71, z72, z73, z74, z75, z76, z77, z78, z79, z80, z81, z82, z83, z84, z85, z86, z87, z88, z89, z90, z91, z92, z93, z94, z95, z96, z97, z98, z99, z100, z101, z102, z103, z104, z105, z106, z107, z108, z109, z110, z111, z112, z113, z114, z115, z116, z117, z118, z119, z120, z121, z122, z123, z124, z125, z126, z127, z128, z129, z130, z131, z132, z133, z134, z135, z136, z137, z138, z139, z140, z141, z142, z143, z144, z145, z146, z147, z148, z149, z150, z151, z152, z153, z154, z155, z156, z157, z158, z159, z160, z161, z162, z163, z164, z165, z166, z167, z168, z169, z170, z171, z172, z173, z174, z175, z176, z177, z178, z179, z180, z181, z182, z183, z184, z185, z186, z187, z188, z189, z190, z191, z192, z193, z194, z195, z196, z197, z198, z199, z200, z201, z202, z203], []⟩ (W'.setCell ⟨g8, 2, none⟩ v'))
    {w : World} (hL : LiveB V w [none, none, none, none]) :
    wpAnyH Try.prog .any ops11_10 (NoPanic Q) S 7 #[false, true, true, true, true, false, true, true, true, true, true, false, false, true, true, true, true, false, false, false] ⟨#[z0, z1, z2, z3, z4, z5, z6, z7, .pointer (some ⟨g8, 0, none⟩), z9, z10, z11, z12, z13, z14, z15, z16, z17, z18, z19, z20, z21, z22, z23, z24, z25, z26, z27, z28, z29, z30, z31, z32, z33, z34, z35, z36, z37, z38, z39, z40, z41, z42, z43, z44, z45, z46, z47, z48, z49, z50, .pointer (some ⟨g8, 2, none⟩), z52, .int .i64 at_, s1, z55, z56, z57, z58, z59, .agg #[.string f.name, .int .i64 f.rank, .int .i64 f.lo, .int .i64 f.hi], z61, z62, .pointer (some ⟨g8, 2, none⟩), z64, .int .i64 at_, s2, z67, z68, z69, z70, z71, z72, z73, z74, z75, z76, z77, z78, z79, z80, z81, z82, z83, z84, z85, z86, z87, z88, z89, z90, z91, z92, z93, z94, z95, z96, z97, z98, z99, z100, z101, z102, z103, z104, z105, z106, z107, z108, z109, z110, z111, z112, z113, z114, z115, z116, z117, z118, z119, z120, z121, z122, z123, z124, z125, z126, z127, z128, z129, z130, z131, z132, z133, z134, z135, z136, z137, z138, z139, z140, z141, z142, z143, z144, z145, z146, z147, z148, z149, z150, z151, z152, z153, z154, z155, z156, z157, z158, z159, z160, z161, z162, z163, z164, z165, z166, z167, z168, z169, z170, z171, z172, z173, z174, z175, z176, z177, z178, z179, z180, z181, z182, z183, z184, z185, z186, z187, z188, z189, z190, z191, z192, z193, z194, z195, z196, z197, z198, z199, z200, z201, z202, z203], []⟩ w := by
  have _used := And.intro hS (And.intro hS' (And.intro hk1 (And.intro hk2 (And.intro hC1 (And.intro hC2 (And.intro cg (And.intro fz (And.intro h4 (And.intro h16 hQ)))))))))
  clear _used
  refine wpAnyH_ready (rs := [0, 11]) (by kernel_rfl) (by simp) ?_
  refine AllReadyH.cons (o := opN ops11_10 0) (by kernel_rfl) (fun K hK => ?_) ?_
  · obtain ⟨o, e⟩ : ∃ o, o = opN ops11_10 0 := ⟨_, rfl⟩
    rw [← e]
    conv at e => rhs; whnf
    subst e
    go_simp
    have hL' := liveB_lit hL 0 #[] 46 4 0 (Nat.zero_le _) rfl
    exact hK.out _ _ (hS _ hL'.1) (fun _ => st11_10_0_2_14 hS hS' hk1 hk2 hC1 hC2 cg fz h4 h16 hQ hL')
  refine AllReadyH.cons (o := opN ops11_10 11) (by kernel_rfl) (fun K hK => ?_) ?_
  · obtain ⟨o, e⟩ : ∃ o, o = opN ops11_10 11 := ⟨_, rfl⟩
    rw [← e]
    conv at e => rhs; whnf
    subst e
    go_simp
    have hL' := liveB_lit hL 1 #[.string f.name, .int .i64 f.rank, .int .i64 f.lo, .int .i64 f.hi] 46 4 1 (by unfold maxLen; omega) rfl
    exact hK.out _ _ (hS _ hL'.1) (fun _ => st11_10_2_11_14 hS hS' hk1 hk2 hC1 hC2 cg fz h4 h16 hQ hL')
  exact AllReadyH.nil

set_option maxRecDepth 1000000 in
set_option maxHeartbeats 2000000 in
theorem st11_10_11_14 {Q : Exit → Act → World → Prop} {S : World → Prop} {V : World} {vO s1 s2 : Value} {at_ : Int} {k1 k2 g8 : Nat} {C1 C2 : List Value} {f : Clm}
    {z0 z1 z2 z3 z4 z5 z6 z7 z9 z10 z11 z12 z13 z14 z15 z16 z17 z18 z19 z20 z21 z22 z23 z24 z25 z26 z27 z28 z29 z30 z31 z32 z33 z34 z35 z36 z37 z38 z39 z40 z41 z42 z43 z44 z45 z46 z47 z48 z49 z50 z52 z54 z55 z56 z57 z58 z59 z61 z62 z64 z67 z68 z69 z70 z71 z72 z73 z74 z75 z76 z77 z78 z79 z80 z81 z82 z83 z84 z85 z86 z87 z88 z89 z90 z91 z92 z93 z94 z95 z96 z97 z98 z99 z100 z101 z102 z103 z104 z105 z106 z107 z108 z109 z110 z111 z112 z113 z114 z115 z116 z117 z118 z119 z120 z121 z122 z123 z124 z125 z126 z127 z128 z129 z130 z131 z132 z133 z134 z135 z136 z137 z138 z139 z140 z141 z142 z143 z144 z145 z146 z147 z148 z149 z150 z151 z152 z153 z154 z155 z156 z157 z158 z159 z160 z161 z162 z163 z164 z165 z166 z167 z168 z169 z170 z171 z172 z173 z174 z175 z176 z177 z178 z179 z180 z181 z182 z183 z184 z185 z186 z187 z188 z189 z190 z191 z192 z193 z194 z195 z196 z197 z198 z199 z200 z201 z202 z203 : Value}
    (hS : ∀ W', Below V.heap.size V W' → S W') (hS' : ∀ W' u, Below V.heap.size V W' → S (W'.setCell ⟨g8, 2, none⟩ u)) (hk1 : k1 ≤ 9) (hk2 : k2 ≤ 9) (hC1 : Srcs V 4 s1 k1 C1) (hC2 : Srcs V 4 s2 k2 C2)
    (cg : V.cell? ⟨g8, 2, none⟩ = some vO) (fz : V.frozen? ⟨g8, 2, none⟩ = false)
    (h4 : ∀ (a : Act) (w : World), a.eval (.tmp 52) = vO → a.eval (.tmp 53) = .int .i64 at_ → (execOp a.eval (opN ops11_10 4)).run Try.prog w = .ok (.value s1) w)
    (h16 : ∀ (a : Act) (w : World), a.eval (.tmp 64) = vO → a.eval (.tmp 65) = .int .i64 at_ → (execOp a.eval (opN ops11_10 16)).run Try.prog w = .ok (.value s2) w)
    (hQ : ∀ u50 u51 u52 u53 u54 u55 u56 u57 u58 u59 u60 u61 u62 u63 u64 u65 u66 u67 u68 v' W', LiveB V W' [some ⟨v', 46, 4, 0 + k1 + 1 + k2, [] ++ C1 ++ [.string f.name, .int .i64 f.rank, .int .i64 f.lo, .int .i64 f.hi] ++ C2⟩, none, none, none] → Q .normal ⟨#[z0, z1, z2, z3, z4, z5, z6, z7, .pointer (some ⟨g8, 0, none⟩), z9, z10, z11, z12, z13, z14, z15, z16, z17, z18, z19, z20, z21, z22, z23, z24, z25, z26, z27, z28, z29, z30, z31, z32, z33, z34, z35, z36, z37, z38, z39, z40, z41, z42, z43, z44, z45, z46, z47, z48, z49, u50, u51, u52, u53, u54, u55, u56, u57, u58, u59, u60, u61, u62, u63, u64, u65, u66, u67, u68, z69, z70, z71, z72, z73, z74, z75, z76, z77, z78, z79, z80, z81, z82, z83, z84, z85, z86, z87, z88, z89, z90, z91, z92, z93, z94, z95, z96, z97, z98, z99, z100, z101, z102, z103, z104, z105, z106, z107, z108, z109, z110, z111, z112, z113, z114, z115, z116, z117, z118, z119, z120, z121, z122, z123, z124, z125, z126, z127, z128, z129, z130, z131, z132, z133, z134, z135, z136, z137, z138, z139, z140, z141, z142, z143, z144, z145, z146, z147, z148, z149, z150, z151, z152, z153, z154, z155, z156, z157, z158, z159, z160, z161, z162, z163, z164, z165, z166, z167, z168, z169, z170, z171, z172, z173, z174, z175, z176, z177, z178, z179, z180, z181, z182, z183, z184, z185, z186, z187, z188, z189, z190, z191, z192, z193, z194, z195, z196, z197, z198, z199, z200, z201, z202, z203], []⟩ (W'.setCell ⟨g8, 2, none⟩ v'))
    {w : World} (hL : LiveB V w [none, some ⟨z61, 46, 4, 1, [.string f.name, .int .i64 f.rank, .int .i64 f.lo, .int .i64 f.hi]⟩, none, none]) :
    wpAnyH Try.prog .any ops11_10 (NoPanic Q) S 8 #[false, true, false, true, false, false, true, true, true, true, true, true, false, true, true, true, true, false, false, false] ⟨#[z0, z1, z2, z3, z4, z5, z6, z7, .pointer (some ⟨g8, 0, none⟩), z9, z10, z11, z12, z13, z14, z15, z16, z17, z18, z19, z20, z21, z22, z23, z24, z25, z26, z27, z28, z29, z30, z31, z32, z33, z34, z35, z36, z37, z38, z39, z40, z41, z42, z43, z44, z45, z46, z47, z48, z49, z50, .pointer (some ⟨g8, 2, none⟩), z52, .int .i64 at_, z54, z55, z56, z57, z58, z59, .agg #[.string f.name, .int .i64 f.rank, .int .i64 f.lo, .int .i64 f.hi], z61, z62, .pointer (some ⟨g8, 2, none⟩), z64, .int .i64 at_, s2, z67, z68, z69, z70, z71, z72, z73, z74, z75, z76, z77, z78, z79, z80, z81, z82, z83, z84, z85, z86, z87, z88, z89, z90, z91, z92, z93, z94, z95, z96, z97, z98, z99, z100, z101, z102, z103, z104, z105, z106, z107, z108, z109, z110, z111, z112, z113, z114, z115, z116, z117, z118, z119, z120, z121, z122, z123, z124, z125, z126, z127, z128, z129, z130, z131, z132, z133, z134, z135, z136, z137, z138, z139, z140, z141, z142, z143, z144, z145, z146, z147, z148, z149, z150, z151, z152, z153, z154, z155, z156, z157, z158, z159, z160, z161, z162, z163, z164, z165, z166, z167, z168, z169, z170, z171, z172, z173, z174, z175, z176, z177, z178, z179, z180, z181, z182, z183, z184, z185, z186, z187, z188, z189, z190, z191, z192, z193, z194, z195, z196, z197, z198, z199, z200, z201, z202, z203], []⟩ w := by
  have _used := And.intro hS (And.intro hS' (And.intro hk1 (And.intro hk2 (And.intro hC1 (And.intro hC2 (And.intro cg (And.intro fz (And.intro h4 (And.intro h16 hQ)))))))))
  clear _used
  refine wpAnyH_ready (rs := [0, 2]) (by kernel_rfl) (by simp) ?_
  refine AllReadyH.cons (o := opN ops11_10 0) (by kernel_rfl) (fun K hK => ?_) ?_
  · obtain ⟨o, e⟩ : ∃ o, o = opN ops11_10 0 := ⟨_, rfl⟩
    rw [← e]
    conv at e => rhs; whnf
    subst e
    go_simp
    have hL' := liveB_lit hL 0 #[] 46 4 0 (Nat.zero_le _) rfl
    exact hK.out _ _ (hS _ hL'.1) (fun _ => st11_10_0_11_14 hS hS' hk1 hk2 hC1 hC2 cg fz h4 h16 hQ hL')
  refine AllReadyH.cons (o := opN ops11_10 2) (by kernel_rfl) (fun K hK => ?_) ?_
  · obtain ⟨o, e⟩ : ∃ o, o = opN ops11_10 2 := ⟨_, rfl⟩
    rw [← e]
    conv at e => rhs; whnf
    subst e
    have hc := keepC hL.1 cg
    go_simp
    refine hK.out _ _ (hS _ hL.1) (fun hHeld => ?_)
    clear hK hc
    (try simp only [List.setIfInBounds_toArray, List.set_cons_zero, List.set_cons_succ])
    obtain ⟨o, e0⟩ : ∃ o, o = opN ops11_10 4 := ⟨_, rfl⟩
    have e := e0
    conv at e => rhs; whnf
    refine wpAnyH_take (i := 4) (oi := o) (v := s1) (by rw [e0]; kernel_rfl) (by kernel_rfl) (by kernel_rfl) (by kernel_rfl) (fun _ _ _ h => h) (Or.inl ⟨by rw [e]; rfl, ?_⟩) (by assumption) ?_
    · intro w _
      rw [e0]
      exact h4 _ w rfl rfl
    clear e0
    subst e
    (try simp only [Act.put, List.setIfInBounds_toArray, List.set_cons_zero, List.set_cons_succ])
    exact st11_10_2_11_14 hS hS' hk1 hk2 hC1 hC2 cg fz h4 h16 hQ hL
  exact AllReadyH.nil

set_option maxRecDepth 1000000 in
set_option maxHeartbeats 2000000 in
theorem st11_10_0 {Q : Exit → Act → World → Prop} {S : World → Prop} {V : World} {vO s1 s2 : Value} {at_ : Int} {k1 k2 g8 : Nat} {C1 C2 : List Value} {f : Clm}
    {z0 z1 z2 z3 z4 z5 z6 z7 z9 z10 z11 z12 z13 z14 z15 z16 z17 z18 z19 z20 z21 z22 z23 z24 z25 z26 z27 z28 z29 z30 z31 z32 z33 z34 z35 z36 z37 z38 z39 z40 z41 z42 z43 z44 z45 z46 z47 z48 z49 z50 z52 z54 z55 z56 z57 z58 z59 z61 z62 z64 z66 z67 z68 z69 z70 z71 z72 z73 z74 z75 z76 z77 z78 z79 z80 z81 z82 z83 z84 z85 z86 z87 z88 z89 z90 z91 z92 z93 z94 z95 z96 z97 z98 z99 z100 z101 z102 z103 z104 z105 z106 z107 z108 z109 z110 z111 z112 z113 z114 z115 z116 z117 z118 z119 z120 z121 z122 z123 z124 z125 z126 z127 z128 z129 z130 z131 z132 z133 z134 z135 z136 z137 z138 z139 z140 z141 z142 z143 z144 z145 z146 z147 z148 z149 z150 z151 z152 z153 z154 z155 z156 z157 z158 z159 z160 z161 z162 z163 z164 z165 z166 z167 z168 z169 z170 z171 z172 z173 z174 z175 z176 z177 z178 z179 z180 z181 z182 z183 z184 z185 z186 z187 z188 z189 z190 z191 z192 z193 z194 z195 z196 z197 z198 z199 z200 z201 z202 z203 : Value}
    (hS : ∀ W', Below V.heap.size V W' → S W') (hS' : ∀ W' u, Below V.heap.size V W' → S (W'.setCell ⟨g8, 2, none⟩ u)) (hk1 : k1 ≤ 9) (hk2 : k2 ≤ 9) (hC1 : Srcs V 4 s1 k1 C1) (hC2 : Srcs V 4 s2 k2 C2)
    (cg : V.cell? ⟨g8, 2, none⟩ = some vO) (fz : V.frozen? ⟨g8, 2, none⟩ = false)
    (h4 : ∀ (a : Act) (w : World), a.eval (.tmp 52) = vO → a.eval (.tmp 53) = .int .i64 at_ → (execOp a.eval (opN ops11_10 4)).run Try.prog w = .ok (.value s1) w)
    (h16 : ∀ (a : Act) (w : World), a.eval (.tmp 64) = vO → a.eval (.tmp 65) = .int .i64 at_ → (execOp a.eval (opN ops11_10 16)).run Try.prog w = .ok (.value s2) w)
    (hQ : ∀ u50 u51 u52 u53 u54 u55 u56 u57 u58 u59 u60 u61 u62 u63 u64 u65 u66 u67 u68 v' W', LiveB V W' [some ⟨v', 46, 4, 0 + k1 + 1 + k2, [] ++ C1 ++ [.string f.name, .int .i64 f.rank, .int .i64 f.lo, .int .i64 f.hi] ++ C2⟩, none, none, none] → Q .normal ⟨#[z0, z1, z2, z3, z4, z5, z6, z7, .pointer (some ⟨g8, 0, none⟩), z9, z10, z11, z12, z13, z14, z15, z16, z17, z18, z19, z20, z21, z22, z23, z24, z25, z26, z27, z28, z29, z30, z31, z32, z33, z34, z35, z36, z37, z38, z39, z40, z41, z42, z43, z44, z45, z46, z47, z48, z49, u50, u51, u52, u53, u54, u55, u56, u57, u58, u59, u60, u61, u62, u63, u64, u65, u66, u67, u68, z69, z70, z71, z72, z73, z74, z75, z76, z77, z78, z79, z80, z81, z82, z83, z84, z85, z86, z87, z88, z89, z90, z91, z92, z93, z94, z95, z96, z97, z98, z99, z100, z101, z102, z103, z104, z105, z106, z107, z108, z109, z110, z111, z112, z113, z114, z115, z116, z117, z118, z119, z120, z121, z122, z123, z124, z125, z126, z127, z128, z129, z130, z131, z132, z133, z134, z135, z136, z137, z138, z139, z140, z141, z142, z143, z144, z145, z146, z147, z148, z149, z150, z151, z152, z153, z154, z155, z156, z157, z158, z159, z160, z161, z162, z163, z164, z165, z166, z167, z168, z169, z170, z171, z172, z173, z174, z175, z176, z177, z178, z179, z180, z181, z182, z183, z184, z185, z186, z187, z188, z189, z190, z191, z192, z193, z194, z195, z196, z197, z198, z199, z200, z201, z202, z203], []⟩ (W'.setCell ⟨g8, 2, none⟩ v'))
    {w : World} (hL : LiveB V w [some ⟨z50, 46, 4, 0, []⟩, none, none, none]) :
    wpAnyH Try.prog .any ops11_10 (NoPanic Q) S 10 #[true, true, false, true, false, false, true, true, true, true, true, false, false, true, false, true, false, false, false, false] ⟨#[z0, z1, z2, z3, z4, z5, z6, z7, .pointer (some ⟨g8, 0, none⟩), z9, z10, z11, z12, z13, z14, z15, z16, z17, z18, z19, z20, z21, z22, z23, z24, z25, z26, z27, z28, z29, z30, z31, z32, z33, z34, z35, z36, z37, z38, z39, z40, z41, z42, z43, z44, z45, z46, z47, z48, z49, z50, .pointer (some ⟨g8, 2, none⟩), z52, .int .i64 at_, z54, z55, z56, z57, z58, z59, .agg #[.string f.name, .int .i64 f.rank, .int .i64 f.lo, .int .i64 f.hi], z61, z62, .pointer (some ⟨g8, 2, none⟩), z64, .int .i64 at_, z66, z67, z68, z69, z70, z71, z72, z73, z74, z75, z76, z77, z78, z79, z80, z81, z82, z83, z84, z85, z86, z87, z88, z89, z90, z91, z92, z93, z94, z95, z96, z97, z98, z99, z100, z101, z102, z103, z104, z105, z106, z107, z108, z109, z110, z111, z112, z113, z114, z115, z116, z117, z118, z119, z120, z121, z122, z123, z124, z125, z126, z127, z128, z129, z130, z131, z132, z133, z134, z135, z136, z137, z138, z139, z140, z141, z142, z143, z144, z145, z146, z147, z148, z149, z150, z151, z152, z153, z154, z155, z156, z157, z158, z159, z160, z161, z162, z163, z164, z165, z166, z167, z168, z169, z170, z171, z172, z173, z174, z175, z176, z177, z178, z179, z180, z181, z182, z183, z184, z185, z186, z187, z188, z189, z190, z191, z192, z193, z194, z195, z196, z197, z198, z199, z200, z201, z202, z203], []⟩ w := by
  have _used := And.intro hS (And.intro hS' (And.intro hk1 (And.intro hk2 (And.intro hC1 (And.intro hC2 (And.intro cg (And.intro fz (And.intro h4 (And.intro h16 hQ)))))))))
  clear _used
  refine wpAnyH_ready (rs := [2, 11, 14]) (by kernel_rfl) (by simp) ?_
  refine AllReadyH.cons (o := opN ops11_10 2) (by kernel_rfl) (fun K hK => ?_) ?_
  · obtain ⟨o, e⟩ : ∃ o, o = opN ops11_10 2 := ⟨_, rfl⟩
    rw [← e]
    conv at e => rhs; whnf
    subst e
    have hc := keepC hL.1 cg
    go_simp
    refine hK.out _ _ (hS _ hL.1) (fun hHeld => ?_)
    clear hK hc
    (try simp only [List.setIfInBounds_toArray, List.set_cons_zero, List.set_cons_succ])
    obtain ⟨o, e0⟩ : ∃ o, o = opN ops11_10 4 := ⟨_, rfl⟩
    have e := e0
    conv at e => rhs; whnf
    refine wpAnyH_take (i := 4) (oi := o) (v := s1) (by rw [e0]; kernel_rfl) (by kernel_rfl) (by kernel_rfl) (by kernel_rfl) (fun _ _ _ h => h) (Or.inl ⟨by rw [e]; rfl, ?_⟩) (by assumption) ?_
    · intro w _
      rw [e0]
      exact h4 _ w rfl rfl
    clear e0
    subst e
    (try simp only [Act.put, List.setIfInBounds_toArray, List.set_cons_zero, List.set_cons_succ])
    exact st11_10_0_2 hS hS' hk1 hk2 hC1 hC2 cg fz h4 h16 hQ hL
  refine AllReadyH.cons (o := opN ops11_10 11) (by kernel_rfl) (fun K hK => ?_) ?_
  · obtain ⟨o, e⟩ : ∃ o, o = opN ops11_10 11 := ⟨_, rfl⟩
    rw [← e]
    conv at e => rhs; whnf
    subst e
    go_simp
    have hL' := liveB_lit hL 1 #[.string f.name, .int .i64 f.rank, .int .i64 f.lo, .int .i64 f.hi] 46 4 1 (by unfold maxLen; omega) rfl
    exact hK.out _ _ (hS _ hL'.1) (fun _ => st11_10_0_11 hS hS' hk1 hk2 hC1 hC2 cg fz h4 h16 hQ hL')
  refine AllReadyH.cons (o := opN ops11_10 14) (by kernel_rfl) (fun K hK => ?_) ?_
  · obtain ⟨o, e⟩ : ∃ o, o = opN ops11_10 14 := ⟨_, rfl⟩
    rw [← e]
    conv at e => rhs; whnf
    subst e
    have hc := keepC hL.1 cg
    go_simp
    refine hK.out _ _ (hS _ hL.1) (fun hHeld => ?_)
    clear hK hc
    (try simp only [List.setIfInBounds_toArray, List.set_cons_zero, List.set_cons_succ])
    obtain ⟨o, e0⟩ : ∃ o, o = opN ops11_10 16 := ⟨_, rfl⟩
    have e := e0
    conv at e => rhs; whnf
    refine wpAnyH_take (i := 16) (oi := o) (v := s2) (by rw [e0]; kernel_rfl) (by kernel_rfl) (by kernel_rfl) (by kernel_rfl) (fun _ _ _ h => h) (Or.inl ⟨by rw [e]; rfl, ?_⟩) (by assumption) ?_
    · intro w _
      rw [e0]
      exact h16 _ w rfl rfl
    clear e0
    subst e
    (try simp only [Act.put, List.setIfInBounds_toArray, List.set_cons_zero, List.set_cons_succ])
    exact st11_10_0_14 hS hS' hk1 hk2 hC1 hC2 cg fz h4 h16 hQ hL
  exact AllReadyH.nil

set_option maxRecDepth 1000000 in
set_option maxHeartbeats 2000000 in
theorem st11_10_2 {Q : Exit → Act → World → Prop} {S : World → Prop} {V : World} {vO s1 s2 : Value} {at_ : Int} {k1 k2 g8 : Nat} {C1 C2 : List Value} {f : Clm}
    {z0 z1 z2 z3 z4 z5 z6 z7 z9 z10 z11 z12 z13 z14 z15 z16 z17 z18 z19 z20 z21 z22 z23 z24 z25 z26 z27 z28 z29 z30 z31 z32 z33 z34 z35 z36 z37 z38 z39 z40 z41 z42 z43 z44 z45 z46 z47 z48 z49 z50 z52 z55 z56 z57 z58 z59 z61 z62 z64 z66 z67 z68 z69 z70 z71 z72 z73 z74 z75 z76 z77 z78 z79 z80 z81 z82 z83 z84 z85 z86 z87 z88 z89 z90 z91 z92 z93 z94 z95 z96 z97 z98 z99 z100 z101 z102 z103 z104 z105 z106 z107 z108 z109 z110 z111 z112 z113 z114 z115 z116 z117 z118 z119 z120 z121 z122 z123 z124 z125 z126 z127 z128 z129 z130 z131 z132 z133 z134 z135 z136 z137 z138 z139 z140 z141 z142 z143 z144 z145 z146 z147 z148 z149 z150 z151 z152 z153 z154 z155 z156 z157 z158 z159 z160 z161 z162 z163 z164 z165 z166 z167 z168 z169 z170 z171 z172 z173 z174 z175 z176 z177 z178 z179 z180 z181 z182 z183 z184 z185 z186 z187 z188 z189 z190 z191 z192 z193 z194 z195 z196 z197 z198 z199 z200 z201 z202 z203 : Value}
    (hS : ∀ W', Below V.heap.size V W' → S W') (hS' : ∀ W' u, Below V.heap.size V W' → S (W'.setCell ⟨g8, 2, none⟩ u)) (hk1 : k1 ≤ 9) (hk2 : k2 ≤ 9) (hC1 : Srcs V 4 s1 k1 C1) (hC2 : Srcs V 4 s2 k2 C2)
    (cg : V.cell? ⟨g8, 2, none⟩ = some vO) (fz : V.frozen? ⟨g8, 2, none⟩ = false)
    (h4 : ∀ (a : Act) (w : World), a.eval (.tmp 52) = vO → a.eval (.tmp 53) = .int .i64 at_ → (execOp a.eval (opN ops11_10 4)).run Try.prog w = .ok (.value s1) w)
    (h16 : ∀ (a : Act) (w : World), a.eval (.tmp 64) = vO → a.eval (.tmp 65) = .int .i64 at_ → (execOp a.eval (opN ops11_10 16)).run Try.prog w = .ok (.value s2) w)
    (hQ : ∀ u50 u51 u52 u53 u54 u55 u56 u57 u58 u59 u60 u61 u62 u63 u64 u65 u66 u67 u68 v' W', LiveB V W' [some ⟨v', 46, 4, 0 + k1 + 1 + k2, [] ++ C1 ++ [.string f.name, .int .i64 f.rank, .int .i64 f.lo, .int .i64 f.hi] ++ C2⟩, none, none, none] → Q .normal ⟨#[z0, z1, z2, z3, z4, z5, z6, z7, .pointer (some ⟨g8, 0, none⟩), z9, z10, z11, z12, z13, z14, z15, z16, z17, z18, z19, z20, z21, z22, z23, z24, z25, z26, z27, z28, z29, z30, z31, z32, z33, z34, z35, z36, z37, z38, z39, z40, z41, z42, z43, z44, z45, z46, z47, z48, z49, u50, u51, u52, u53, u54, u55, u56, u57, u58, u59, u60, u61, u62, u63, u64, u65, u66, u67, u68, z69, z70, z71, z72, z73, z74, z75, z76, z77, z78, z79, z80, z81, z82, z83, z84, z85, z86, z87, z88, z89, z90, z91, z92, z93, z94, z95, z96, z97, z98, z99, z100, z101, z102, z103, z104, z105, z106, z107, z108, z109, z110, z111, z112, z113, z114, z115, z116, z117, z118, z119, z120, z121, z122, z123, z124, z125, z126, z127, z128, z129, z130, z131, z132, z133, z134, z135, z136, z137, z138, z139, z140, z141, z142, z143, z144, z145, z146, z147, z148, z149, z150, z151, z152, z153, z154, z155, z156, z157, z158, z159, z160, z161, z162, z163, z164, z165, z166, z167, z168, z169, z170, z171, z172, z173, z174, z175, z176, z177, z178, z179, z180, z181, z182, z183, z184, z185, z186, z187, z188, z189, z190, z191, z192, z193, z194, z195, z196, z197, z198, z199, z200, z201, z202, z203], []⟩ (W'.setCell ⟨g8, 2, none⟩ v'))
    {w : World} (hL : LiveB V w [none, none, none, none]) :
    wpAnyH Try.prog .any ops11_10 (NoPanic Q) S 9 #[false, true, true, true, true, false, true, true, true, true, true, false, false, true, false, true, false, false, false, false] ⟨#[z0, z1, z2, z3, z4, z5, z6, z7, .pointer (some ⟨g8, 0, none⟩), z9, z10, z11, z12, z13, z14, z15, z16, z17, z18, z19, z20, z21, z22, z23, z24, z25, z26, z27, z28, z29, z30, z31, z32, z33, z34, z35, z36, z37, z38, z39, z40, z41, z42, z43, z44, z45, z46, z47, z48, z49, z50, .pointer (some ⟨g8, 2, none⟩), z52, .int .i64 at_, s1, z55, z56, z57, z58, z59, .agg #[.string f.name, .int .i64 f.rank, .int .i64 f.lo, .int .i64 f.hi], z61, z62, .pointer (some ⟨g8, 2, none⟩), z64, .int .i64 at_, z66, z67, z68, z69, z70, z71, z72, z73, z74, z75, z76, z77, z78, z79, z80, z81, z82, z83, z84, z85, z86, z87, z88, z89, z90, z91, z92, z93, z94, z95, z96, z97, z98, z99, z100, z101, z102, z103, z104, z105, z106, z107, z108, z109, z110, z111, z112, z113, z114, z115, z116, z117, z118, z119, z120, z121, z122, z123, z124, z125, z126, z127, z128, z129, z130, z131, z132, z133, z134, z135, z136, z137, z138, z139, z140, z141, z142, z143, z144, z145, z146, z147, z148, z149, z150, z151, z152, z153, z154, z155, z156, z157, z158, z159, z160, z161, z162, z163, z164, z165, z166, z167, z168, z169, z170, z171, z172, z173, z174, z175, z176, z177, z178, z179, z180, z181, z182, z183, z184, z185, z186, z187, z188, z189, z190, z191, z192, z193, z194, z195, z196, z197, z198, z199, z200, z201, z202, z203], []⟩ w := by
  have _used := And.intro hS (And.intro hS' (And.intro hk1 (And.intro hk2 (And.intro hC1 (And.intro hC2 (And.intro cg (And.intro fz (And.intro h4 (And.intro h16 hQ)))))))))
  clear _used
  refine wpAnyH_ready (rs := [0, 11, 14]) (by kernel_rfl) (by simp) ?_
  refine AllReadyH.cons (o := opN ops11_10 0) (by kernel_rfl) (fun K hK => ?_) ?_
  · obtain ⟨o, e⟩ : ∃ o, o = opN ops11_10 0 := ⟨_, rfl⟩
    rw [← e]
    conv at e => rhs; whnf
    subst e
    go_simp
    have hL' := liveB_lit hL 0 #[] 46 4 0 (Nat.zero_le _) rfl
    exact hK.out _ _ (hS _ hL'.1) (fun _ => st11_10_0_2 hS hS' hk1 hk2 hC1 hC2 cg fz h4 h16 hQ hL')
  refine AllReadyH.cons (o := opN ops11_10 11) (by kernel_rfl) (fun K hK => ?_) ?_
  · obtain ⟨o, e⟩ : ∃ o, o = opN ops11_10 11 := ⟨_, rfl⟩
    rw [← e]
    conv at e => rhs; whnf
    subst e
    go_simp
    have hL' := liveB_lit hL 1 #[.string f.name, .int .i64 f.rank, .int .i64 f.lo, .int .i64 f.hi] 46 4 1 (by unfold maxLen; omega) rfl
    exact hK.out _ _ (hS _ hL'.1) (fun _ => st11_10_2_11 hS hS' hk1 hk2 hC1 hC2 cg fz h4 h16 hQ hL')
  refine AllReadyH.cons (o := opN ops11_10 14) (by kernel_rfl) (fun K hK => ?_) ?_
  · obtain ⟨o, e⟩ : ∃ o, o = opN ops11_10 14 := ⟨_, rfl⟩
    rw [← e]
    conv at e => rhs; whnf
    subst e
    have hc := keepC hL.1 cg
    go_simp
    refine hK.out _ _ (hS _ hL.1) (fun hHeld => ?_)
    clear hK hc
    (try simp only [List.setIfInBounds_toArray, List.set_cons_zero, List.set_cons_succ])
    obtain ⟨o, e0⟩ : ∃ o, o = opN ops11_10 16 := ⟨_, rfl⟩
    have e := e0
    conv at e => rhs; whnf
    refine wpAnyH_take (i := 16) (oi := o) (v := s2) (by rw [e0]; kernel_rfl) (by kernel_rfl) (by kernel_rfl) (by kernel_rfl) (fun _ _ _ h => h) (Or.inl ⟨by rw [e]; rfl, ?_⟩) (by assumption) ?_
    · intro w _
      rw [e0]
      exact h16 _ w rfl rfl
    clear e0
    subst e
    (try simp only [Act.put, List.setIfInBounds_toArray, List.set_cons_zero, List.set_cons_succ])
    exact st11_10_2_14 hS hS' hk1 hk2 hC1 hC2 cg fz h4 h16 hQ hL
  exact AllReadyH.nil

set_option maxRecDepth 1000000 in
set_option maxHeartbeats 2000000 in
theorem st11_10_11 {Q : Exit → Act → World → Prop} {S : World → Prop} {V : World} {vO s1 s2 : Value} {at_ : Int} {k1 k2 g8 : Nat} {C1 C2 : List Value} {f : Clm}
    {z0 z1 z2 z3 z4 z5 z6 z7 z9 z10 z11 z12 z13 z14 z15 z16 z17 z18 z19 z20 z21 z22 z23 z24 z25 z26 z27 z28 z29 z30 z31 z32 z33 z34 z35 z36 z37 z38 z39 z40 z41 z42 z43 z44 z45 z46 z47 z48 z49 z50 z52 z54 z55 z56 z57 z58 z59 z61 z62 z64 z66 z67 z68 z69 z70 z71 z72 z73 z74 z75 z76 z77 z78 z79 z80 z81 z82 z83 z84 z85 z86 z87 z88 z89 z90 z91 z92 z93 z94 z95 z96 z97 z98 z99 z100 z101 z102 z103 z104 z105 z106 z107 z108 z109 z110 z111 z112 z113 z114 z115 z116 z117 z118 z119 z120 z121 z122 z123 z124 z125 z126 z127 z128 z129 z130 z131 z132 z133 z134 z135 z136 z137 z138 z139 z140 z141 z142 z143 z144 z145 z146 z147 z148 z149 z150 z151 z152 z153 z154 z155 z156 z157 z158 z159 z160 z161 z162 z163 z164 z165 z166 z167 z168 z169 z170 z171 z172 z173 z174 z175 z176 z177 z178 z179 z180 z181 z182 z183 z184 z185 z186 z187 z188 z189 z190 z191 z192 z193 z194 z195 z196 z197 z198 z199 z200 z201 z202 z203 : Value}
    (hS : ∀ W', Below V.heap.size V W' → S W') (hS' : ∀ W' u, Below V.heap.size V W' → S (W'.setCell ⟨g8, 2, none⟩ u)) (hk1 : k1 ≤ 9) (hk2 : k2 ≤ 9) (hC1 : Srcs V 4 s1 k1 C1) (hC2 : Srcs V 4 s2 k2 C2)
    (cg : V.cell? ⟨g8, 2, none⟩ = some vO) (fz : V.frozen? ⟨g8, 2, none⟩ = false)
    (h4 : ∀ (a : Act) (w : World), a.eval (.tmp 52) = vO → a.eval (.tmp 53) = .int .i64 at_ → (execOp a.eval (opN ops11_10 4)).run Try.prog w = .ok (.value s1) w)
    (h16 : ∀ (a : Act) (w : World), a.eval (.tmp 64) = vO → a.eval (.tmp 65) = .int .i64 at_ → (execOp a.eval (opN ops11_10 16)).run Try.prog w = .ok (.value s2) w)
    (hQ : ∀ u50 u51 u52 u53 u54 u55 u56 u57 u58 u59 u60 u61 u62 u63 u64 u65 u66 u67 u68 v' W', LiveB V W' [some ⟨v', 46, 4, 0 + k1 + 1 + k2, [] ++ C1 ++ [.string f.name, .int .i64 f.rank, .int .i64 f.lo, .int .i64 f.hi] ++ C2⟩, none, none, none] → Q .normal ⟨#[z0, z1, z2, z3, z4, z5, z6, z7, .pointer (some ⟨g8, 0, none⟩), z9, z10, z11, z12, z13, z14, z15, z16, z17, z18, z19, z20, z21, z22, z23, z24, z25, z26, z27, z28, z29, z30, z31, z32, z33, z34, z35, z36, z37, z38, z39, z40, z41, z42, z43, z44, z45, z46, z47, z48, z49, u50, u51, u52, u53, u54, u55, u56, u57, u58, u59, u60, u61, u62, u63, u64, u65, u66, u67, u68, z69, z70, z71, z72, z73, z74, z75, z76, z77, z78, z79, z80, z81, z82, z83, z84, z85, z86, z87, z88, z89, z90, z91, z92, z93, z94, z95, z96, z97, z98, z99, z100, z101, z102, z103, z104, z105, z106, z107, z108, z109, z110, z111, z112, z113, z114, z115, z116, z117, z118, z119, z120, z121, z122, z123, z124, z125, z126, z127, z128, z129, z130, z131, z132, z133, z134, z135, z136, z137, z138, z139, z140, z141, z142, z143, z144, z145, z146, z147, z148, z149, z150, z151, z152, z153, z154, z155, z156, z157, z158, z159, z160, z161, z162, z163, z164, z165, z166, z167, z168, z169, z170, z171, z172, z173, z174, z175, z176, z177, z178, z179, z180, z181, z182, z183, z184, z185, z186, z187, z188, z189, z190, z191, z192, z193, z194, z195, z196, z197, z198, z199, z200, z201, z202, z203], []⟩ (W'.setCell ⟨g8, 2, none⟩ v'))
    {w : World} (hL : LiveB V w [none, some ⟨z61, 46, 4, 1, [.string f.name, .int .i64 f.rank, .int .i64 f.lo, .int .i64 f.hi]⟩, none, none]) :
    wpAnyH Try.prog .any ops11_10 (NoPanic Q) S 10 #[false, true, false, true, false, false, true, true, true, true, true, true, false, true, false, true, false, false, false, false] ⟨#[z0, z1, z2, z3, z4, z5, z6, z7, .pointer (some ⟨g8, 0, none⟩), z9, z10, z11, z12, z13, z14, z15, z16, z17, z18, z19, z20, z21, z22, z23, z24, z25, z26, z27, z28, z29, z30, z31, z32, z33, z34, z35, z36, z37, z38, z39, z40, z41, z42, z43, z44, z45, z46, z47, z48, z49, z50, .pointer (some ⟨g8, 2, none⟩), z52, .int .i64 at_, z54, z55, z56, z57, z58, z59, .agg #[.string f.name, .int .i64 f.rank, .int .i64 f.lo, .int .i64 f.hi], z61, z62, .pointer (some ⟨g8, 2, none⟩), z64, .int .i64 at_, z66, z67, z68, z69, z70, z71, z72, z73, z74, z75, z76, z77, z78, z79, z80, z81, z82, z83, z84, z85, z86, z87, z88, z89, z90, z91, z92, z93, z94, z95, z96, z97, z98, z99, z100, z101, z102, z103, z104, z105, z106, z107, z108, z109, z110, z111, z112, z113, z114, z115, z116, z117, z118, z119, z120, z121, z122, z123, z124, z125, z126, z127, z128, z129, z130, z131, z132, z133, z134, z135, z136, z137, z138, z139, z140, z141, z142, z143, z144, z145, z146, z147, z148, z149, z150, z151, z152, z153, z154, z155, z156, z157, z158, z159, z160, z161, z162, z163, z164, z165, z166, z167, z168, z169, z170, z171, z172, z173, z174, z175, z176, z177, z178, z179, z180, z181, z182, z183, z184, z185, z186, z187, z188, z189, z190, z191, z192, z193, z194, z195, z196, z197, z198, z199, z200, z201, z202, z203], []⟩ w := by
  have _used := And.intro hS (And.intro hS' (And.intro hk1 (And.intro hk2 (And.intro hC1 (And.intro hC2 (And.intro cg (And.intro fz (And.intro h4 (And.intro h16 hQ)))))))))
  clear _used
  refine wpAnyH_ready (rs := [0, 2, 14]) (by kernel_rfl) (by simp) ?_
  refine AllReadyH.cons (o := opN ops11_10 0) (by kernel_rfl) (fun K hK => ?_) ?_
  · obtain ⟨o, e⟩ : ∃ o, o = opN ops11_10 0 := ⟨_, rfl⟩
    rw [← e]
    conv at e => rhs; whnf
    subst e
    go_simp
    have hL' := liveB_lit hL 0 #[] 46 4 0 (Nat.zero_le _) rfl
    exact hK.out _ _ (hS _ hL'.1) (fun _ => st11_10_0_11 hS hS' hk1 hk2 hC1 hC2 cg fz h4 h16 hQ hL')
  refine AllReadyH.cons (o := opN ops11_10 2) (by kernel_rfl) (fun K hK => ?_) ?_
  · obtain ⟨o, e⟩ : ∃ o, o = opN ops11_10 2 := ⟨_, rfl⟩
    rw [← e]
    conv at e => rhs; whnf
    subst e
    have hc := keepC hL.1 cg
    go_simp
    refine hK.out _ _ (hS _ hL.1) (fun hHeld => ?_)
    clear hK hc
    (try simp only [List.setIfInBounds_toArray, List.set_cons_zero, List.set_cons_succ])
    obtain ⟨o, e0⟩ : ∃ o, o = opN ops11_10 4 := ⟨_, rfl⟩
    have e := e0
    conv at e => rhs; whnf
    refine wpAnyH_take (i := 4) (oi := o) (v := s1) (by rw [e0]; kernel_rfl) (by kernel_rfl) (by kernel_rfl) (by kernel_rfl) (fun _ _ _ h => h) (Or.inl ⟨by rw [e]; rfl, ?_⟩) (by assumption) ?_
    · intro w _
      rw [e0]
      exact h4 _ w rfl rfl
    clear e0
    subst e
    (try simp only [Act.put, List.setIfInBounds_toArray, List.set_cons_zero, List.set_cons_succ])
    exact st11_10_2_11 hS hS' hk1 hk2 hC1 hC2 cg fz h4 h16 hQ hL
  refine AllReadyH.cons (o := opN ops11_10 14) (by kernel_rfl) (fun K hK => ?_) ?_
  · obtain ⟨o, e⟩ : ∃ o, o = opN ops11_10 14 := ⟨_, rfl⟩
    rw [← e]
    conv at e => rhs; whnf
    subst e
    have hc := keepC hL.1 cg
    go_simp
    refine hK.out _ _ (hS _ hL.1) (fun hHeld => ?_)
    clear hK hc
    (try simp only [List.setIfInBounds_toArray, List.set_cons_zero, List.set_cons_succ])
    obtain ⟨o, e0⟩ : ∃ o, o = opN ops11_10 16 := ⟨_, rfl⟩
    have e := e0
    conv at e => rhs; whnf
    refine wpAnyH_take (i := 16) (oi := o) (v := s2) (by rw [e0]; kernel_rfl) (by kernel_rfl) (by kernel_rfl) (by kernel_rfl) (fun _ _ _ h => h) (Or.inl ⟨by rw [e]; rfl, ?_⟩) (by assumption) ?_
    · intro w _
      rw [e0]
      exact h16 _ w rfl rfl
    clear e0
    subst e
    (try simp only [Act.put, List.setIfInBounds_toArray, List.set_cons_zero, List.set_cons_succ])
    exact st11_10_11_14 hS hS' hk1 hk2 hC1 hC2 cg fz h4 h16 hQ hL
  exact AllReadyH.nil

set_option maxRecDepth 1000000 in
set_option maxHeartbeats 2000000 in
theorem st11_10_14 {Q : Exit → Act → World → Prop} {S : World → Prop} {V : World} {vO s1 s2 : Value} {at_ : Int} {k1 k2 g8 : Nat} {C1 C2 : List Value} {f : Clm}
    {z0 z1 z2 z3 z4 z5 z6 z7 z9 z10 z11 z12 z13 z14 z15 z16 z17 z18 z19 z20 z21 z22 z23 z24 z25 z26 z27 z28 z29 z30 z31 z32 z33 z34 z35 z36 z37 z38 z39 z40 z41 z42 z43 z44 z45 z46 z47 z48 z49 z50 z52 z54 z55 z56 z57 z58 z59 z61 z62 z64 z67 z68 z69 z70 z71 z72 z73 z74 z75 z76 z77 z78 z79 z80 z81 z82 z83 z84 z85 z86 z87 z88 z89 z90 z91 z92 z93 z94 z95 z96 z97 z98 z99 z100 z101 z102 z103 z104 z105 z106 z107 z108 z109 z110 z111 z112 z113 z114 z115 z116 z117 z118 z119 z120 z121 z122 z123 z124 z125 z126 z127 z128 z129 z130 z131 z132 z133 z134 z135 z136 z137 z138 z139 z140 z141 z142 z143 z144 z145 z146 z147 z148 z149 z150 z151 z152 z153 z154 z155 z156 z157 z158 z159 z160 z161 z162 z163 z164 z165 z166 z167 z168 z169 z170 z171 z172 z173 z174 z175 z176 z177 z178 z179 z180 z181 z182 z183 z184 z185 z186 z187 z188 z189 z190 z191 z192 z193 z194 z195 z196 z197 z198 z199 z200 z201 z202 z203 : Value}
    (hS : ∀ W', Below V.heap.size V W' → S W') (hS' : ∀ W' u, Below V.heap.size V W' → S (W'.setCell ⟨g8, 2, none⟩ u)) (hk1 : k1 ≤ 9) (hk2 : k2 ≤ 9) (hC1 : Srcs V 4 s1 k1 C1) (hC2 : Srcs V 4 s2 k2 C2)
    (cg : V.cell? ⟨g8, 2, none⟩ = some vO) (fz : V.frozen? ⟨g8, 2, none⟩ = false)
    (h4 : ∀ (a : Act) (w : World), a.eval (.tmp 52) = vO → a.eval (.tmp 53) = .int .i64 at_ → (execOp a.eval (opN ops11_10 4)).run Try.prog w = .ok (.value s1) w)
    (h16 : ∀ (a : Act) (w : World), a.eval (.tmp 64) = vO → a.eval (.tmp 65) = .int .i64 at_ → (execOp a.eval (opN ops11_10 16)).run Try.prog w = .ok (.value s2) w)
    (hQ : ∀ u50 u51 u52 u53 u54 u55 u56 u57 u58 u59 u60 u61 u62 u63 u64 u65 u66 u67 u68 v' W', LiveB V W' [some ⟨v', 46, 4, 0 + k1 + 1 + k2, [] ++ C1 ++ [.string f.name, .int .i64 f.rank, .int .i64 f.lo, .int .i64 f.hi] ++ C2⟩, none, none, none] → Q .normal ⟨#[z0, z1, z2, z3, z4, z5, z6, z7, .pointer (some ⟨g8, 0, none⟩), z9, z10, z11, z12, z13, z14, z15, z16, z17, z18, z19, z20, z21, z22, z23, z24, z25, z26, z27, z28, z29, z30, z31, z32, z33, z34, z35, z36, z37, z38, z39, z40, z41, z42, z43, z44, z45, z46, z47, z48, z49, u50, u51, u52, u53, u54, u55, u56, u57, u58, u59, u60, u61, u62, u63, u64, u65, u66, u67, u68, z69, z70, z71, z72, z73, z74, z75, z76, z77, z78, z79, z80, z81, z82, z83, z84, z85, z86, z87, z88, z89, z90, z91, z92, z93, z94, z95, z96, z97, z98, z99, z100, z101, z102, z103, z104, z105, z106, z107, z108, z109, z110, z111, z112, z113, z114, z115, z116, z117, z118, z119, z120, z121, z122, z123, z124, z125, z126, z127, z128, z129, z130, z131, z132, z133, z134, z135, z136, z137, z138, z139, z140, z141, z142, z143, z144, z145, z146, z147, z148, z149, z150, z151, z152, z153, z154, z155, z156, z157, z158, z159, z160, z161, z162, z163, z164, z165, z166, z167, z168, z169, z170, z171, z172, z173, z174, z175, z176, z177, z178, z179, z180, z181, z182, z183, z184, z185, z186, z187, z188, z189, z190, z191, z192, z193, z194, z195, z196, z197, z198, z199, z200, z201, z202, z203], []⟩ (W'.setCell ⟨g8, 2, none⟩ v'))
    {w : World} (hL : LiveB V w [none, none, none, none]) :
    wpAnyH Try.prog .any ops11_10 (NoPanic Q) S 9 #[false, true, false, true, false, false, true, true, true, true, true, false, false, true, true, true, true, false, false, false] ⟨#[z0, z1, z2, z3, z4, z5, z6, z7, .pointer (some ⟨g8, 0, none⟩), z9, z10, z11, z12, z13, z14, z15, z16, z17, z18, z19, z20, z21, z22, z23, z24, z25, z26, z27, z28, z29, z30, z31, z32, z33, z34, z35, z36, z37, z38, z39, z40, z41, z42, z43, z44, z45, z46, z47, z48, z49, z50, .pointer (some ⟨g8, 2, none⟩), z52, .int .i64 at_, z54, z55, z56, z57, z58, z59, .agg #[.string f.name, .int .i64 f.rank, .int .i64 f.lo, .int .i64 f.hi], z61, z62, .pointer (some ⟨g8, 2, none⟩), z64, .int .i64 at_, s2, z67, z68, z69, z70, z71, z72, z73, z74, z75, z76, z77, z78, z79, z80, z81, z82, z83, z84, z85, z86, z87, z88, z89, z90, z91, z92, z93, z94, z95, z96, z97, z98, z99, z100, z101, z102, z103, z104, z105, z106, z107, z108, z109, z110, z111, z112, z113, z114, z115, z116, z117, z118, z119, z120, z121, z122, z123, z124, z125, z126, z127, z128, z129, z130, z131, z132, z133, z134, z135, z136, z137, z138, z139, z140, z141, z142, z143, z144, z145, z146, z147, z148, z149, z150, z151, z152, z153, z154, z155, z156, z157, z158, z159, z160, z161, z162, z163, z164, z165, z166, z167, z168, z169, z170, z171, z172, z173, z174, z175, z176, z177, z178, z179, z180, z181, z182, z183, z184, z185, z186, z187, z188, z189, z190, z191, z192, z193, z194, z195, z196, z197, z198, z199, z200, z201, z202, z203], []⟩ w := by
  have _used := And.intro hS (And.intro hS' (And.intro hk1 (And.intro hk2 (And.intro hC1 (And.intro hC2 (And.intro cg (And.intro fz (And.intro h4 (And.intro h16 hQ)))))))))
  clear _used
  refine wpAnyH_ready (rs := [0, 2, 11]) (by kernel_rfl) (by simp) ?_
  refine AllReadyH.cons (o := opN ops11_10 0) (by kernel_rfl) (fun K hK => ?_) ?_
  · obtain ⟨o, e⟩ : ∃ o, o = opN ops11_10 0 := ⟨_, rfl⟩
    rw [← e]
    conv at e => rhs; whnf
    subst e
    go_simp
    have hL' := liveB_lit hL 0 #[] 46 4 0 (Nat.zero_le _) rfl
    exact hK.out _ _ (hS _ hL'.1) (fun _ => st11_10_0_14 hS hS' hk1 hk2 hC1 hC2 cg fz h4 h16 hQ hL')
  refine AllReadyH.cons (o := opN ops11_10 2) (by kernel_rfl) (fun K hK => ?_) ?_
  · obtain ⟨o, e⟩ : ∃ o, o = opN ops11_10 2 := ⟨_, rfl⟩
    rw [← e]
    conv at e => rhs; whnf
    subst e
    have hc := keepC hL.1 cg
    go_simp
    refine hK.out _ _ (hS _ hL.1) (fun hHeld => ?_)
    clear hK hc
    (try simp only [List.setIfInBounds_toArray, List.set_cons_zero, List.set_cons_succ])
    obtain ⟨o, e0⟩ : ∃ o, o = opN ops11_10 4 := ⟨_, rfl⟩
    have e := e0
    conv at e => rhs; whnf
    refine wpAnyH_take (i := 4) (oi := o) (v := s1) (by rw [e0]; kernel_rfl) (by kernel_rfl) (by kernel_rfl) (by kernel_rfl) (fun _ _ _ h => h) (Or.inl ⟨by rw [e]; rfl, ?_⟩) (by assumption) ?_
    · intro w _
      rw [e0]
      exact h4 _ w rfl rfl
    clear e0
    subst e
    (try simp only [Act.put, List.setIfInBounds_toArray, List.set_cons_zero, List.set_cons_succ])
    exact st11_10_2_14 hS hS' hk1 hk2 hC1 hC2 cg fz h4 h16 hQ hL
  refine AllReadyH.cons (o := opN ops11_10 11) (by kernel_rfl) (fun K hK => ?_) ?_
  · obtain ⟨o, e⟩ : ∃ o, o = opN ops11_10 11 := ⟨_, rfl⟩
    rw [← e]
    conv at e => rhs; whnf
    subst e
    go_simp
    have hL' := liveB_lit hL 1 #[.string f.name, .int .i64 f.rank, .int .i64 f.lo, .int .i64 f.hi] 46 4 1 (by unfold maxLen; omega) rfl
    exact hK.out _ _ (hS _ hL'.1) (fun _ => st11_10_11_14 hS hS' hk1 hk2 hC1 hC2 cg fz h4 h16 hQ hL')
  exact AllReadyH.nil

set_option maxRecDepth 1000000 in
set_option maxHeartbeats 2000000 in
theorem st11_10_e {Q : Exit → Act → World → Prop} {S : World → Prop} {V : World} {vO s1 s2 : Value} {at_ : Int} {k1 k2 g8 : Nat} {C1 C2 : List Value} {f : Clm}
    {z0 z1 z2 z3 z4 z5 z6 z7 z9 z10 z11 z12 z13 z14 z15 z16 z17 z18 z19 z20 z21 z22 z23 z24 z25 z26 z27 z28 z29 z30 z31 z32 z33 z34 z35 z36 z37 z38 z39 z40 z41 z42 z43 z44 z45 z46 z47 z48 z49 z50 z52 z54 z55 z56 z57 z58 z59 z61 z62 z64 z66 z67 z68 z69 z70 z71 z72 z73 z74 z75 z76 z77 z78 z79 z80 z81 z82 z83 z84 z85 z86 z87 z88 z89 z90 z91 z92 z93 z94 z95 z96 z97 z98 z99 z100 z101 z102 z103 z104 z105 z106 z107 z108 z109 z110 z111 z112 z113 z114 z115 z116 z117 z118 z119 z120 z121 z122 z123 z124 z125 z126 z127 z128 z129 z130 z131 z132 z133 z134 z135 z136 z137 z138 z139 z140 z141 z142 z143 z144 z145 z146 z147 z148 z149 z150 z151 z152 z153 z154 z155 z156 z157 z158 z159 z160 z161 z162 z163 z164 z165 z166 z167 z168 z169 z170 z171 z172 z173 z174 z175 z176 z177 z178 z179 z180 z181 z182 z183 z184 z185 z186 z187 z188 z189 z190 z191 z192 z193 z194 z195 z196 z197 z198 z199 z200 z201 z202 z203 : Value}
    (hS : ∀ W', Below V.heap.size V W' → S W') (hS' : ∀ W' u, Below V.heap.size V W' → S (W'.setCell ⟨g8, 2, none⟩ u)) (hk1 : k1 ≤ 9) (hk2 : k2 ≤ 9) (hC1 : Srcs V 4 s1 k1 C1) (hC2 : Srcs V 4 s2 k2 C2)
    (cg : V.cell? ⟨g8, 2, none⟩ = some vO) (fz : V.frozen? ⟨g8, 2, none⟩ = false)
    (h4 : ∀ (a : Act) (w : World), a.eval (.tmp 52) = vO → a.eval (.tmp 53) = .int .i64 at_ → (execOp a.eval (opN ops11_10 4)).run Try.prog w = .ok (.value s1) w)
    (h16 : ∀ (a : Act) (w : World), a.eval (.tmp 64) = vO → a.eval (.tmp 65) = .int .i64 at_ → (execOp a.eval (opN ops11_10 16)).run Try.prog w = .ok (.value s2) w)
    (hQ : ∀ u50 u51 u52 u53 u54 u55 u56 u57 u58 u59 u60 u61 u62 u63 u64 u65 u66 u67 u68 v' W', LiveB V W' [some ⟨v', 46, 4, 0 + k1 + 1 + k2, [] ++ C1 ++ [.string f.name, .int .i64 f.rank, .int .i64 f.lo, .int .i64 f.hi] ++ C2⟩, none, none, none] → Q .normal ⟨#[z0, z1, z2, z3, z4, z5, z6, z7, .pointer (some ⟨g8, 0, none⟩), z9, z10, z11, z12, z13, z14, z15, z16, z17, z18, z19, z20, z21, z22, z23, z24, z25, z26, z27, z28, z29, z30, z31, z32, z33, z34, z35, z36, z37, z38, z39, z40, z41, z42, z43, z44, z45, z46, z47, z48, z49, u50, u51, u52, u53, u54, u55, u56, u57, u58, u59, u60, u61, u62, u63, u64, u65, u66, u67, u68, z69, z70, z71, z72, z73, z74, z75, z76, z77, z78, z79, z80, z81, z82, z83, z84, z85, z86, z87, z88, z89, z90, z91, z92, z93, z94, z95, z96, z97, z98, z99, z100, z101, z102, z103, z104, z105, z106, z107, z108, z109, z110, z111, z112, z113, z114, z115, z116, z117, z118, z119, z120, z121, z122, z123, z124, z125, z126, z127, z128, z129, z130, z131, z132, z133, z134, z135, z136, z137, z138, z139, z140, z141, z142, z143, z144, z145, z146, z147, z148, z149, z150, z151, z152, z153, z154, z155, z156, z157, z158, z159, z160, z161, z162, z163, z164, z165, z166, z167, z168, z169, z170, z171, z172, z173, z174, z175, z176, z177, z178, z179, z180, z181, z182, z183, z184, z185, z186, z187, z188, z189, z190, z191, z192, z193, z194, z195, z196, z197, z198, z199, z200, z201, z202, z203], []⟩ (W'.setCell ⟨g8, 2, none⟩ v'))
    {w : World} (hL : LiveB V w [none, none, none, none]) :
    wpAnyH Try.prog .any ops11_10 (NoPanic Q) S 11 #[false, true, false, true, false, false, true, true, true, true, true, false, false, true, false, true, false, false, false, false] ⟨#[z0, z1, z2, z3, z4, z5, z6, z7, .pointer (some ⟨g8, 0, none⟩), z9, z10, z11, z12, z13, z14, z15, z16, z17, z18, z19, z20, z21, z22, z23, z24, z25, z26, z27, z28, z29, z30, z31, z32, z33, z34, z35, z36, z37, z38, z39, z40, z41, z42, z43, z44, z45, z46, z47, z48, z49, z50, .pointer (some ⟨g8, 2, none⟩), z52, .int .i64 at_, z54, z55, z56, z57, z58, z59, .agg #[.string f.name, .int .i64 f.rank, .int .i64 f.lo, .int .i64 f.hi], z61, z62, .pointer (some ⟨g8, 2, none⟩), z64, .int .i64 at_, z66, z67, z68, z69, z70, z71, z72, z73, z74, z75, z76, z77, z78, z79, z80, z81, z82, z83, z84, z85, z86, z87, z88, z89, z90, z91, z92, z93, z94, z95, z96, z97, z98, z99, z100, z101, z102, z103, z104, z105, z106, z107, z108, z109, z110, z111, z112, z113, z114, z115, z116, z117, z118, z119, z120, z121, z122, z123, z124, z125, z126, z127, z128, z129, z130, z131, z132, z133, z134, z135, z136, z137, z138, z139, z140, z141, z142, z143, z144, z145, z146, z147, z148, z149, z150, z151, z152, z153, z154, z155, z156, z157, z158, z159, z160, z161, z162, z163, z164, z165, z166, z167, z168, z169, z170, z171, z172, z173, z174, z175, z176, z177, z178, z179, z180, z181, z182, z183, z184, z185, z186, z187, z188, z189, z190, z191, z192, z193, z194, z195, z196, z197, z198, z199, z200, z201, z202, z203], []⟩ w := by
  have _used := And.intro hS (And.intro hS' (And.intro hk1 (And.intro hk2 (And.intro hC1 (And.intro hC2 (And.intro cg (And.intro fz (And.intro h4 (And.intro h16 hQ)))))))))
  clear _used
  refine wpAnyH_ready (rs := [0, 2, 11, 14]) (by kernel_rfl) (by simp) ?_
  refine AllReadyH.cons (o := opN ops11_10 0) (by kernel_rfl) (fun K hK => ?_) ?_
  · obtain ⟨o, e⟩ : ∃ o, o = opN ops11_10 0 := ⟨_, rfl⟩
    rw [← e]
    conv at e => rhs; whnf
    subst e
    go_simp
    have hL' := liveB_lit hL 0 #[] 46 4 0 (Nat.zero_le _) rfl
    exact hK.out _ _ (hS _ hL'.1) (fun _ => st11_10_0 hS hS' hk1 hk2 hC1 hC2 cg fz h4 h16 hQ hL')
  refine AllReadyH.cons (o := opN ops11_10 2) (by kernel_rfl) (fun K hK => ?_) ?_
  · obtain ⟨o, e⟩ : ∃ o, o = opN ops11_10 2 := ⟨_, rfl⟩
    rw [← e]
    conv at e => rhs; whnf
    subst e
    have hc := keepC hL.1 cg
    go_simp
    refine hK.out _ _ (hS _ hL.1) (fun hHeld => ?_)
    clear hK hc
    (try simp only [List.setIfInBounds_toArray, List.set_cons_zero, List.set_cons_succ])
    obtain ⟨o, e0⟩ : ∃ o, o = opN ops11_10 4 := ⟨_, rfl⟩
    have e := e0
    conv at e => rhs; whnf
    refine wpAnyH_take (i := 4) (oi := o) (v := s1) (by rw [e0]; kernel_rfl) (by kernel_rfl) (by kernel_rfl) (by kernel_rfl) (fun _ _ _ h => h) (Or.inl ⟨by rw [e]; rfl, ?_⟩) (by assumption) ?_
    · intro w _
      rw [e0]
      exact h4 _ w rfl rfl
    clear e0
    subst e
    (try simp only [Act.put, List.setIfInBounds_toArray, List.set_cons_zero, List.set_cons_succ])
    exact st11_10_2 hS hS' hk1 hk2 hC1 hC2 cg fz h4 h16 hQ hL
  refine AllReadyH.cons (o := opN ops11_10 11) (by kernel_rfl) (fun K hK => ?_) ?_
  · obtain ⟨o, e⟩ : ∃ o, o = opN ops11_10 11 := ⟨_, rfl⟩
    rw [← e]
    conv at e => rhs; whnf
    subst e
    go_simp
    have hL' := liveB_lit hL 1 #[.string f.name, .int .i64 f.rank, .int .i64 f.lo, .int .i64 f.hi] 46 4 1 (by unfold maxLen; omega) rfl
    exact hK.out _ _ (hS _ hL'.1) (fun _ => st11_10_11 hS hS' hk1 hk2 hC1 hC2 cg fz h4 h16 hQ hL')
  refine AllReadyH.cons (o := opN ops11_10 14) (by kernel_rfl) (fun K hK => ?_) ?_
  · obtain ⟨o, e⟩ : ∃ o, o = opN ops11_10 14 := ⟨_, rfl⟩
    rw [← e]
    conv at e => rhs; whnf
    subst e
    have hc := keepC hL.1 cg
    go_simp
    refine hK.out _ _ (hS _ hL.1) (fun hHeld => ?_)
    clear hK hc
    (try simp only [List.setIfInBounds_toArray, List.set_cons_zero, List.set_cons_succ])
    obtain ⟨o, e0⟩ : ∃ o, o = opN ops11_10 16 := ⟨_, rfl⟩
    have e := e0
    conv at e => rhs; whnf
    refine wpAnyH_take (i := 16) (oi := o) (v := s2) (by rw [e0]; kernel_rfl) (by kernel_rfl) (by kernel_rfl) (by kernel_rfl) (fun _ _ _ h => h) (Or.inl ⟨by rw [e]; rfl, ?_⟩) (by assumption) ?_
    · intro w _
      rw [e0]
      exact h16 _ w rfl rfl
    clear e0
    subst e
    (try simp only [Act.put, List.setIfInBounds_toArray, List.set_cons_zero, List.set_cons_succ])
    exact st11_10_14 hS hS' hk1 hk2 hC1 hC2 cg fz h4 h16 hQ hL
  exact AllReadyH.nil

set_option maxRecDepth 1000000 in
set_option maxHeartbeats 4000000 in
theorem reg11_10 {Q : Exit → Act → World → Prop} {V : World} {vO s1 s2 : Value} {at_ : Int} {k1 k2 g8 hA bc oc i nA capA : Nat} {C1 C2 : List Value} {f : Clm}
    {z0 z1 z2 z4 z5 z6 z7 z9 z10 z13 z14 z15 z16 z17 z18 z19 z20 z21 z22 z23 z24 z25 z26 z27 z28 z29 z30 z31 z32 z33 z34 z35 z36 z37 z38 z39 z40 z41 z42 z43 z44 z45 z46 z47 z48 z49 z50 z51 z52 z53 z54 z55 z56 z57 z58 z59 z60 z61 z62 z63 z64 z65 z66 z67 z68 z69 z70 z71 z72 z73 z74 z75 z76 z77 z78 z79 z80 z81 z82 z83 z84 z85 z86 z87 z88 z89 z90 z91 z92 z93 z94 z95 z96 z97 z98 z99 z100 z101 z102 z103 z104 z105 z106 z107 z108 z109 z110 z111 z112 z113 z114 z115 z116 z117 z118 z119 z120 z121 z122 z123 z124 z125 z126 z127 z128 z129 z130 z131 z132 z133 z134 z135 z136 z137 z138 z139 z140 z141 z142 z143 z144 z145 z146 z147 z148 z149 z150 z151 z152 z153 z154 z155 z156 z157 z158 z159 z160 z161 z162 z163 z164 z165 z166 z167 z168 z169 z170 z171 z172 z173 z174 z175 z176 z177 z178 z179 z180 z181 z182 z183 z184 z185 z186 z187 z188 z189 z190 z191 z192 z193 z194 z195 z196 z197 z198 z199 z200 z201 z202 z203 : Value} (hi0 : (0 : Int) ≤ (i : Int)) (hi : (i : Int) < (nA : Int)) (hk1 : k1 ≤ 9) (hk2 : k2 ≤ 9) (hC1 : Srcs V 4 s1 k1 C1) (hC2 : Srcs V 4 s2 k2 C2)
    (s1' : V.cell? ⟨hA, 2, none⟩ = some (.slice (some ⟨bc, oc, none⟩) nA capA)) (s2' : V.cell? ⟨bc, oc + i * 4, none⟩ = some (.string f.name)) (s3' : V.cell? ⟨bc, oc + i * 4 + 1, none⟩ = some (.int .i64 f.rank)) (s4' : V.cell? ⟨bc, oc + i * 4 + 2, none⟩ = some (.int .i64 f.lo)) (s5' : V.cell? ⟨bc, oc + i * 4 + 3, none⟩ = some (.int .i64 f.hi))
    (cg : V.cell? ⟨g8, 2, none⟩ = some vO) (fz : V.frozen? ⟨g8, 2, none⟩ = false) (hne : hA ≠ g8) (hne2 : bc ≠ g8)
    (h4 : ∀ (a : Act) (w : World), a.eval (.tmp 52) = vO → a.eval (.tmp 53) = .int .i64 at_ → (execOp a.eval (opN ops11_10 4)).run Try.prog w = .ok (.value s1) w)
    (h16 : ∀ (a : Act) (w : World), a.eval (.tmp 64) = vO → a.eval (.tmp 65) = .int .i64 at_ → (execOp a.eval (opN ops11_10 16)).run Try.prog w = .ok (.value s2) w)
    (hQ : ∀ u50 u51 u52 u53 u54 u55 u56 u57 u58 u59 u60 u61 u62 u63 u64 u65 u66 u67 u68 v' W', LiveB V W' [some ⟨v', 46, 4, 0 + k1 + 1 + k2, [] ++ C1 ++ [.string f.name, .int .i64 f.rank, .int .i64 f.lo, .int .i64 f.hi] ++ C2⟩, none, none, none] → Q .normal ⟨#[z0, z1, z2, .pointer (some ⟨hA, 0, none⟩), z4, z5, z6, z7, .pointer (some ⟨g8, 0, none⟩), z9, z10, .int .i64 i, .int .i64 at_, z13, z14, z15, z16, z17, z18, z19, z20, z21, z22, z23, z24, z25, z26, z27, z28, z29, z30, z31, z32, z33, z34, z35, z36, z37, z38, z39, z40, z41, z42, z43, z44, z45, z46, z47, z48, z49, u50, u51, u52, u53, u54, u55, u56, u57, u58, u59, u60, u61, u62, u63, u64, u65, u66, u67, u68, z69, z70, z71, z72, z73, z74, z75, z76, z77, z78, z79, z80, z81, z82, z83, z84, z85, z86, z87, z88, z89, z90, z91, z92, z93, z94, z95, z96, z97, z98, z99, z100, z101, z102, z103, z104, z105, z106, z107, z108, z109, z110, z111, z112, z113, z114, z115, z116, z117, z118, z119, z120, z121, z122, z123, z124, z125, z126, z127, z128, z129, z130, z131, z132, z133, z134, z135, z136, z137, z138, z139, z140, z141, z142, z143, z144, z145, z146, z147, z148, z149, z150, z151, z152, z153, z154, z155, z156, z157, z158, z159, z160, z161, z162, z163, z164, z165, z166, z167, z168, z169, z170, z171, z172, z173, z174, z175, z176, z177, z178, z179, z180, z181, z182, z183, z184, z185, z186, z187, z188, z189, z190, z191, z192, z193, z194, z195, z196, z197, z198, z199, z200, z201, z202, z203], []⟩ (W'.setCell ⟨g8, 2, none⟩ v')) :
    (regionOf Try.f11 10).wp Try.prog Q ⟨#[z0, z1, z2, .pointer (some ⟨hA, 0, none⟩), z4, z5, z6, z7, .pointer (some ⟨g8, 0, none⟩), z9, z10, .int .i64 i, .int .i64 at_, z13, z14, z15, z16, z17, z18, z19, z20, z21, z22, z23, z24, z25, z26, z27, z28, z29, z30, z31, z32, z33, z34, z35, z36, z37, z38, z39, z40, z41, z42, z43, z44, z45, z46, z47, z48, z49, z50, z51, z52, z53, z54, z55, z56, z57, z58, z59, z60, z61, z62, z63, z64, z65, z66, z67, z68, z69, z70, z71, z72, z73, z74, z75, z76, z77, z78, z79, z80, z81, z82, z83, z84, z85, z86, z87, z88, z89, z90, z91, z92, z93, z94, z95, z96, z97, z98, z99, z100, z101, z102, z103, z104, z105, z106, z107, z108, z109, z110, z111, z112, z113, z114, z115, z116, z117, z118, z119, z120, z121, z122, z123, z124, z125, z126, z127, z128, z129, z130, z131, z132, z133, z134, z135, z136, z137, z138, z139, z140, z141, z142, z143, z144, z145, z146, z147, z148, z149, z150, z151, z152, z153, z154, z155, z156, z157, z158, z159, z160, z161, z162, z163, z164, z165, z166, z167, z168, z169, z170, z171, z172, z173, z174, z175, z176, z177, z178, z179, z180, z181, z182, z183, z184, z185, z186, z187, z188, z189, z190, z191, z192, z193, z194, z195, z196, z197, z198, z199, z200, z201, z202, z203], []⟩ V := by
  have e : regionOf Try.f11 10 = Code.region 10 ops11_10 true := by kernel_rfl
  rw [e]
  refine wp_region_noPanic ?_
  obtain ⟨S, hSe⟩ : ∃ S : World → Prop, S = fun w' => w'.cell? ⟨hA, 2, none⟩ = some (.slice (some ⟨bc, oc, none⟩) nA capA) ∧ w'.cell? ⟨bc, oc + i * 4, none⟩ = some (.string f.name) ∧ w'.cell? ⟨bc, oc + i * 4 + 1, none⟩ = some (.int .i64 f.rank) ∧ w'.cell? ⟨bc, oc + i * 4 + 2, none⟩ = some (.int .i64 f.lo) ∧ w'.cell? ⟨bc, oc + i * 4 + 3, none⟩ = some (.int .i64 f.hi) := ⟨_, rfl⟩
  have hS : ∀ W', Below V.heap.size V W' → S W' := by
    intro W' hb
    rw [hSe]
    exact ⟨keepC hb s1', keepC hb s2', keepC hb s3', keepC hb s4', keepC hb s5'⟩
  have hS' : ∀ W' u, Below V.heap.size V W' → S (W'.setCell ⟨g8, 2, none⟩ u) := by
    intro W' u hb
    rw [hSe]
    exact ⟨keepSet (keepC hb s1') (by assumption), keepSet (keepC hb s2') (by assumption), keepSet (keepC hb s3') (by assumption), keepSet (keepC hb s4') (by assumption), keepSet (keepC hb s5') (by assumption)⟩
  refine wp_region_held_drew (S := S) (by kernel_rfl) (hS _ liveB_start.1) (fun hHeld => ?_)
  have hsz : ops11_10.size = 20 := by kernel_rfl
  have hrep : Array.replicate 20 false = #[false, false, false, false, false, false, false, false, false, false, false, false, false, false, false, false, false, false, false, false] := by kernel_rfl
  rw [hsz, hrep]
  have hSe' : ∀ w', S w' → w'.cell? ⟨hA, 2, none⟩ = some (.slice (some ⟨bc, oc, none⟩) nA capA) ∧ w'.cell? ⟨bc, oc + i * 4, none⟩ = some (.string f.name) ∧ w'.cell? ⟨bc, oc + i * 4 + 1, none⟩ = some (.int .i64 f.rank) ∧ w'.cell? ⟨bc, oc + i * 4 + 2, none⟩ = some (.int .i64 f.lo) ∧ w'.cell? ⟨bc, oc + i * 4 + 3, none⟩ = some (.int .i64 f.hi) := by
    intro w' h
    rw [hSe] at h
    exact h
  obtain ⟨o, e0⟩ : ∃ o, o = opN ops11_10 1 := ⟨_, rfl⟩
  have e := e0
  conv at e => rhs; whnf
  refine wpAnyH_take (i := 1) (oi := o) (v := .pointer (some ⟨g8, 2, none⟩)) (by rw [e0]; kernel_rfl) (by kernel_rfl) (by kernel_rfl) (by kernel_rfl) (fun _ _ _ h => h) (Or.inl ⟨by rw [e]; rfl, ?_⟩) (by assumption) ?_
  · clear e0
    subst e
    intro w hSw
    have hSw := hSe' _ hSw
    obtain ⟨c0, c1, c2, c3, c4⟩ := hSw
    go_simp
  clear e0
  subst e
  (try simp only [Act.put, List.setIfInBounds_toArray, List.set_cons_zero, List.set_cons_succ])
  obtain ⟨o, e0⟩ : ∃ o, o = opN ops11_10 3 := ⟨_, rfl⟩
  have e := e0
  conv at e => rhs; whnf
  refine wpAnyH_take (i := 3) (oi := o) (v := .int .i64 at_) (by rw [e0]; kernel_rfl) (by kernel_rfl) (by kernel_rfl) (by kernel_rfl) (fun _ _ _ h => h) (Or.inl ⟨by rw [e]; rfl, ?_⟩) (by assumption) ?_
  · clear e0
    subst e
    intro w hSw
    have hSw := hSe' _ hSw
    obtain ⟨c0, c1, c2, c3, c4⟩ := hSw
    go_simp
  clear e0
  subst e
  (try simp only [Act.put, List.setIfInBounds_toArray, List.set_cons_zero, List.set_cons_succ])
  obtain ⟨o, e0⟩ : ∃ o, o = opN ops11_10 6 := ⟨_, rfl⟩
  have e := e0
  conv at e => rhs; whnf
  refine wpAnyH_take (i := 6) (oi := o) (v := .pointer (some ⟨hA, 2, none⟩)) (by rw [e0]; kernel_rfl) (by kernel_rfl) (by kernel_rfl) (by kernel_rfl) (fun _ _ _ h => h) (Or.inl ⟨by rw [e]; rfl, ?_⟩) (by assumption) ?_
  · clear e0
    subst e
    intro w hSw
    have hSw := hSe' _ hSw
    obtain ⟨c0, c1, c2, c3, c4⟩ := hSw
    go_simp
  clear e0
  subst e
  (try simp only [Act.put, List.setIfInBounds_toArray, List.set_cons_zero, List.set_cons_succ])
  obtain ⟨o, e0⟩ : ∃ o, o = opN ops11_10 7 := ⟨_, rfl⟩
  have e := e0
  conv at e => rhs; whnf
  refine wpAnyH_take (i := 7) (oi := o) (v := .slice (some ⟨bc, oc, none⟩) nA capA) (by rw [e0]; kernel_rfl) (by kernel_rfl) (by kernel_rfl) (by kernel_rfl) (fun _ _ _ h => h) (Or.inl ⟨by rw [e]; rfl, ?_⟩) (by assumption) ?_
  · clear e0
    subst e
    intro w hSw
    have hSw := hSe' _ hSw
    obtain ⟨c0, c1, c2, c3, c4⟩ := hSw
    go_simp
  clear e0
  subst e
  (try simp only [Act.put, List.setIfInBounds_toArray, List.set_cons_zero, List.set_cons_succ])
  obtain ⟨o, e0⟩ : ∃ o, o = opN ops11_10 8 := ⟨_, rfl⟩
  have e := e0
  conv at e => rhs; whnf
  refine wpAnyH_take (i := 8) (oi := o) (v := .int .i64 i) (by rw [e0]; kernel_rfl) (by kernel_rfl) (by kernel_rfl) (by kernel_rfl) (fun _ _ _ h => h) (Or.inl ⟨by rw [e]; rfl, ?_⟩) (by assumption) ?_
  · clear e0
    subst e
    intro w hSw
    have hSw := hSe' _ hSw
    obtain ⟨c0, c1, c2, c3, c4⟩ := hSw
    go_simp
  clear e0
  subst e
  (try simp only [Act.put, List.setIfInBounds_toArray, List.set_cons_zero, List.set_cons_succ])
  obtain ⟨o, e0⟩ : ∃ o, o = opN ops11_10 9 := ⟨_, rfl⟩
  have e := e0
  conv at e => rhs; whnf
  refine wpAnyH_take (i := 9) (oi := o) (v := .pointer (some ⟨bc, oc + i * 4, none⟩)) (by rw [e0]; kernel_rfl) (by kernel_rfl) (by kernel_rfl) (by kernel_rfl) (fun _ _ _ h => h) (Or.inl ⟨by rw [e]; rfl, ?_⟩) (by assumption) ?_
  · clear e0
    subst e
    intro w hSw
    have hSw := hSe' _ hSw
    obtain ⟨c0, c1, c2, c3, c4⟩ := hSw
    go_simp
  clear e0
  subst e
  (try simp only [Act.put, List.setIfInBounds_toArray, List.set_cons_zero, List.set_cons_succ])
  obtain ⟨o, e0⟩ : ∃ o, o = opN ops11_10 10 := ⟨_, rfl⟩
  have e := e0
  conv at e => rhs; whnf
  refine wpAnyH_take (i := 10) (oi := o) (v := .agg #[.string f.name, .int .i64 f.rank, .int .i64 f.lo, .int .i64 f.hi]) (by rw [e0]; kernel_rfl) (by kernel_rfl) (by kernel_rfl) (by kernel_rfl) (fun _ _ _ h => h) (Or.inl ⟨by rw [e]; rfl, ?_⟩) (by assumption) ?_
  · clear e0
    subst e
    intro w hSw
    have hSw := hSe' _ hSw
    obtain ⟨c0, c1, c2, c3, c4⟩ := hSw
    go_simp
  clear e0
  subst e
  (try simp only [Act.put, List.setIfInBounds_toArray, List.set_cons_zero, List.set_cons_succ])
  obtain ⟨o, e0⟩ : ∃ o, o = opN ops11_10 13 := ⟨_, rfl⟩
  have e := e0
  conv at e => rhs; whnf
  refine wpAnyH_take (i := 13) (oi := o) (v := .pointer (some ⟨g8, 2, none⟩)) (by rw [e0]; kernel_rfl) (by kernel_rfl) (by kernel_rfl) (by kernel_rfl) (fun _ _ _ h => h) (Or.inl ⟨by rw [e]; rfl, ?_⟩) (by assumption) ?_
  · clear e0
    subst e
    intro w hSw
    have hSw := hSe' _ hSw
    obtain ⟨c0, c1, c2, c3, c4⟩ := hSw
    go_simp
  clear e0
  subst e
  (try simp only [Act.put, List.setIfInBounds_toArray, List.set_cons_zero, List.set_cons_succ])
  obtain ⟨o, e0⟩ : ∃ o, o = opN ops11_10 15 := ⟨_, rfl⟩
  have e := e0
  conv at e => rhs; whnf
  refine wpAnyH_take (i := 15) (oi := o) (v := .int .i64 at_) (by rw [e0]; kernel_rfl) (by kernel_rfl) (by kernel_rfl) (by kernel_rfl) (fun _ _ _ h => h) (Or.inl ⟨by rw [e]; rfl, ?_⟩) (by assumption) ?_
  · clear e0
    subst e
    intro w hSw
    have hSw := hSe' _ hSw
    obtain ⟨c0, c1, c2, c3, c4⟩ := hSw
    go_simp
  clear e0
  subst e
  (try simp only [Act.put, List.setIfInBounds_toArray, List.set_cons_zero, List.set_cons_succ])
  exact st11_10_e hS hS' hk1 hk2 hC1 hC2 cg fz h4 h16 hQ liveB_start
end Go.Proofs.Ytblbbhenmhkknaa
