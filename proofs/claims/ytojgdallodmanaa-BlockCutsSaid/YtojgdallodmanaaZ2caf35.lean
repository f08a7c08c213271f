/- The copy of weighings. BlockOrder: the region that puts a weighing in its place. Printed by mkT8.py. -/
import Derived.Shelf.SlicesE.Clone
import Derived.Deep.RegionHeld3
import Derived.Test.YtojgdallodmanaaZ244535
import Derived.Test.YtojgdallodmanaaZf22f08
import Derived.Test.YtojgdallodmanaaZ8049c1
import Derived.Test.YtojgdallodmanaaYB13
namespace Go.Proofs.Ytojgdallodmanaa
open Go.RowKit Go.Shelf

def Try.laysC122_ren : Go.Shelf.Ren := ⟨fun | 41 => 122 | n => n, fun | 22 => 28 | 23 => 82 | 4 => 4 | n => n, fun | n => n⟩
theorem Try.laysC122 : Go.Proofs.SlLaysE0.n41 Try.prog Try.laysC122_ren := {
  mixed := by kernel_rfl
  f41 := ⟨Try.f122.name, by decide, Try.func122.trans (congrArg some (by kernel_rfl))⟩
  t4 := Try.underlying4
  a4 := Try.isAgg4
  z4 := Try.sizeOf4
  v4 := Try.zeroValue4
  t22 := Try.underlying28
  a22 := Try.isAgg28
  z22 := Try.sizeOf28
  v22 := Try.zeroValue28 }

theorem Try.info82 : (Try.prog.info? 82).map (fun i => (i.zero, i.size, i.bytes)) = some (some (.agg #[.int .i64 0, .int .i64 0, .int .i64 0]), 3, 24) := by kernel_rfl
theorem Try.info153 : (Try.prog.info? 102).map (fun i => (i.zero, i.size, i.bytes)) = some (some (.pointer none), 1, 8) := by kernel_rfl
theorem encWgh_len (c : Wgh) : (encWgh c).length = 3 := rfl
theorem info_parts {t : TypeId} {z : Option Value} {s b : Nat} (h : (Try.prog.info? t).map (fun i => (i.zero, i.size, i.bytes)) = some (z, s, b)) : ∃ i0, Try.prog.info? t = some i0 ∧ i0.zero = z ∧ i0.size = s ∧ i0.bytes = b := by
  rcases hi : Try.prog.info? t with _ | i0
  · rw [hi] at h; cases h
  · rw [hi] at h
    simp only [Option.map_some, Option.some.injEq, Prod.mk.injEq] at h
    exact ⟨i0, rfl, h.1, h.2.1, h.2.2⟩

theorem flat_cells {α : Type} {k : Nat} (hk : 0 < k) {encs : α → List Value} (he : ∀ x, (encs x).length = k) {w : World} {B b off : Nat} {xs : List α} (hR : RdN k encs w B (some ⟨b, off, none⟩) xs) : ∀ j u, (xs.flatMap encs)[j]? = some u → w.cell? ⟨b, off + j, none⟩ = some u := by
  intro j u hu
  have hj : j < xs.length * k := by rw [← flat_len he]; exact (List.getElem?_eq_some_iff.1 hu).1
  have hi : j / k < xs.length := Nat.div_lt_of_lt_mul (by rw [Nat.mul_comm]; exact hj)
  have hr : j % k < k := Nat.mod_lt _ hk
  obtain ⟨x, hx⟩ : ∃ x, xs[j / k]? = some x := ⟨_, List.getElem?_eq_getElem hi⟩
  obtain ⟨v, hv⟩ : ∃ v, (encs x)[j % k]? = some v := ⟨_, List.getElem?_eq_getElem (by rw [he]; exact hr)⟩
  have hf := flat_get he xs _ x hx _ v hv
  have e : j / k * k + j % k = j := by rw [Nat.mul_comm]; exact Nat.div_add_mod j k
  rw [e, hu] at hf
  injection hf with hf
  subst hf
  obtain ⟨b', off', eA, _, hc⟩ := hR _ x hx
  injection eA with eA
  injection eA with e1 e2
  subst e1 e2
  have := hc _ _ hv
  rwa [Nat.add_assoc, e] at this

set_option maxRecDepth 100000 in
theorem clone0_any (ad : Addr) (cap : Nat) (w : World) :
    Calls Try.prog 122 #[.slice (some ad) 0 cap] w fun e w' => ∃ v', e = .returned v' ∧ w'.ownsRow w.heap.size 82 3 v' 0 [] ∧ Below w.heap.size w w' := by
  obtain ⟨i0, hi, hz0, hz1, hz2⟩ := info_parts Try.info82
  have hlit := World.ownsRow_lit (e := 82) (size := 3) (base := w.heap.size) w #[] 0 (Nat.le_refl _) (by decide) (by simp)
  have HL := Lib.hid hlit
  clear hlit
  have q28 : ∀ (w : World) (a : Option Addr) (n c n' c' : Nat), (binOp .eql 28 (.slice a n c) (.slice none n' c')).run Try.prog w = .ok (.bool a.isNone) w := fun w a n c n' c' => Lib.run_eql_slice_nil w _ _ a n c n' c' Try.underlying28
  go_enter Try.func122, Try.ntmps122
  go_wp2_with (at_builtin; refine wpList_append_own _ rfl _ _ 28 rfl w.heap.size 82 i0 (.agg #[.int .i64 0, .int .i64 0, .int .i64 0]) 3 24 Try.underlying28 hi hz0 hz1 hz2 rfl (by decide) _ _ _ rfl HL.out ad 0 cap [] rfl rfl ?d1 ?d2 ?d3 ?d4 ?d5 ?_)
  intro v' w3 hown hg _
  have hb := grownB HL.out hg (Nat.le_refl _) (belowA (belowR w) _)
  have HO := Lib.hid hown
  have HB := Lib.hid hb
  clear hown hg hb HL
  go_wp2
  go_ret
  exact ⟨v', rfl, HO.out, HB.out⟩
theorem cloneWgh_any (A : Option Addr) (l : List Wgh) (B cap : Nat) (w : World) (hm : l.length ≤ 6) (hR : RdN 3 encWgh w B A l) :
    Calls Try.prog 122 #[.slice A l.length cap] w fun e w' => ∃ v', e = .returned v' ∧ w'.ownsRow w.heap.size 82 3 v' l.length (l.flatMap encWgh) ∧ Below w.heap.size w w' := by
  rcases Nat.eq_zero_or_pos l.length with h0 | h0
  · have : l = [] := List.length_eq_zero_iff.1 h0
    subst this
    cases A with
    | none =>
      refine (AnyE.slices_Clone_nil Try.laysC122 0 cap w).mono ?_
      rintro e w' ⟨rfl, rfl⟩
      exact ⟨_, rfl, World.ownsRow_nil _ _ _ _, belowR _⟩
    | some ad => exact clone0_any ad cap w
  · obtain ⟨i0, hi, hz0, hz1, hz2⟩ := info_parts Try.info82
    obtain ⟨b, off, rfl, _, _⟩ := hR 0 _ (List.getElem?_eq_getElem h0)
    refine (AnyE.slices_Clone Try.laysC122 i0 _ 3 24 hi hz0 hz1 hz2 rfl (by decide) Try.sizeOf82 b off l.length cap (l.flatMap encWgh) w (flat_len encWgh_len l) (by unfold maxLen; omega) (by omega) (flat_cells (by decide) encWgh_len hR) ?_).mono ?_
    · intro u hu
      obtain ⟨c, _, hc⟩ := List.mem_flatMap.1 hu
      simp [encWgh] at hc
      rcases hc with rfl | rfl | rfl <;> rfl
    · rintro e w' ⟨v', rfl, h1, _, h3⟩
      exact ⟨v', rfl, h1, h3⟩
end Go.Proofs.Ytojgdallodmanaa

namespace Go.Proofs.Ytojgdallodmanaa
open Go.RowKit

noncomputable def ops16_8 : Array Oper := opsOf (regionOf Try.f16 8)

set_option maxRecDepth 1000000 in
set_option maxHeartbeats 2000000 in
theorem st16_8_0_4_9_10 {Q : Exit → Act → World → Prop} {V : World} {s1 s2 : Value} {k1 k2 : Nat} {C1 C2 : List Value} {x : Wgh}
    {z0 z1 z2 z3 z4 z5 z6 z7 z8 z9 z10 z11 z12 z13 z14 z15 z16 z17 z18 z19 z20 z21 z22 z23 z24 z25 z26 z27 z28 z29 z30 z31 z32 z33 z34 z35 z36 z37 z38 z39 z40 z41 z42 z43 z45 z46 z47 z48 z50 z51 z52 z53 z55 z56 z57 z58 z59 z60 z61 z62 z63 z64 z65 z66 z67 z68 z69 z70 z71 z72 z73 z74 z75 z76 z77 z78 z79 z80 z81 z82 z83 z84 z85 z86 z87 z88 z89 z90 z91 z92 z93 z94 z95 z96 z97 z98 z99 z100 z101 z102 z103 z104 z105 z106 z107 z108 z109 z110 z111 z112 z113 z114 z115 z116 z117 z118 z119 z120 z121 z122 z123 z124 z125 z126 z127 z128 z129 z130 z131 z132 z133 z134 z135 z136 z137 z138 z139 z140 z141 z142 z143 z144 z145 z146 z147 z148 : Value}
    (hk1 : k1 ≤ 9) (hk2 : k2 ≤ 9) (hC1 : Srcs V 3 s1 k1 C1) (hC2 : Srcs V 3 s2 k2 C2)
    (hQ : ∀ u41 u42 u43 u44 u45 u46 u47 u48 u49 u50 u51 u52 u53 u54 u55 v' W', LiveB V W' [some ⟨v', 82, 3, 0 + k1 + 1 + k2, [] ++ C1 ++ [iv x.set, iv x.lo, iv x.hi] ++ C2⟩, none, none, none] → Q .normal ⟨#[z0, z1, z2, z3, z4, z5, z6, v', z8, z9, z10, z11, z12, z13, z14, z15, z16, z17, z18, z19, z20, z21, z22, z23, z24, z25, z26, z27, z28, z29, z30, z31, z32, z33, z34, z35, z36, z37, z38, z39, z40, u41, u42, u43, u44, u45, u46, u47, u48, u49, u50, u51, u52, u53, u54, u55, z56, z57, z58, z59, z60, z61, z62, z63, z64, z65, z66, z67, z68, z69, z70, z71, z72, z73, z74, z75, z76, z77, z78, z79, z80, z81, z82, z83, z84, z85, z86, z87, z88, z89, z90, z91, z92, z93, z94, z95, z96, z97, z98, z99, z100, z101, z102, z103, z104, z105, z106, z107, z108, z109, z110, z111, z112, z113, z114, z115, z116, z117, z118, z119, z120, z121, z122, z123, z124, z125, z126, z127, z128, z129, z130, z131, z132, z133, z134, z135, z136, z137, z138, z139, z140, z141, z142, z143, z144, z145, z146, z147, z148], []⟩ W')
    {w : World} (hL : LiveB V w [some ⟨z51, 82, 3, 0 + k1 + 1, [] ++ C1 ++ [iv x.set, iv x.lo, iv x.hi]⟩, none, none, none]) :
    wpAnyH Try.prog .any ops16_8 (NoPanic Q) (fun W => Below V.heap.size V W) 2 #[true, true, true, true, true, true, true, true, true, true, true, true, true, true, false, false] ⟨#[z0, z1, z2, z3, z4, z5, z6, z7, z8, z9, z10, z11, z12, z13, z14, z15, z16, z17, z18, z19, z20, z21, z22, z23, z24, z25, z26, z27, z28, z29, z30, z31, z32, z33, z34, z35, z36, z37, z38, z39, z40, z41, z42, z43, s1, z45, z46, z47, z48, .agg #[iv x.set, iv x.lo, iv x.hi], z50, z51, z52, z53, s2, z55, z56, z57, z58, z59, z60, z61, z62, z63, z64, z65, z66, z67, z68, z69, z70, z71, z72, z73, z74, z75, z76, z77, z78, z79, z80, z81, z82, z83, z84, z85, z86, z87, z88, z89, z90, z91, z92, z93, z94, z95, z96, z97, z98, z99, z100, z101, z102, z103, z104, z105, z106, z107, z108, z109, z110, z111, z112, z113, z114, z115, z116, z117, z118, z119, z120, z121, z122, z123, z124, z125, z126, z127, z128, z129, z130, z131, z132, z133, z134, z135, z136, z137, z138, z139, z140, z141, z142, z143, z144, z145, z146, z147, z148], []⟩ w := by
  have _used := And.intro hk1 (And.intro hk2 (And.intro hC1 (And.intro hC2 hQ)))
  clear _used
  refine wpAnyH_ready (rs := [14]) (by kernel_rfl) (by simp) ?_
  refine AllReadyH.cons (o := opN ops16_8 14) (by kernel_rfl) (fun K hK => ?_) ?_
  · obtain ⟨o, e⟩ : ∃ o, o = opN ops16_8 14 := ⟨_, rfl⟩
    rw [← e]
    conv at e => rhs; whnf
    subst e
    obtain ⟨i4, hi4, hz40, hz41, hz42⟩ := info_parts Try.info82
    refine step_append_live (by rfl) _ _ 28 (by rfl) hL 0 _ rfl i4 _ 24 Try.underlying28 hi4 hz40 hz41 hz42 rfl (Nat.succ_pos _) (by rfl) s2 k2 _ (by rfl) (srcs_keep hL hC2) (by simp only []; unfold maxLen; omega) (by simp only []; omega) ?_
    intro v' w' hL'
    refine hK.out _ _ hL'.1 (fun hHeld => ?_)
    clear hK
    (try simp only [Act.put, List.setIfInBounds_toArray, List.set_cons_zero, List.set_cons_succ])
    obtain ⟨o, e0⟩ : ∃ o, o = opN ops16_8 15 := ⟨_, rfl⟩
    have e := e0
    conv at e => rhs; whnf
    refine wpAnyH_take (i := 15) (oi := o) (v := v') (by rw [e0]; kernel_rfl) (by kernel_rfl) (by kernel_rfl) (by kernel_rfl) (fun _ _ _ h => h) (Or.inl ⟨by rw [e]; rfl, ?_⟩) (by assumption) ?_
    · clear e0
      subst e
      intro w hSw
      go_simp
    clear e0
    subst e
    (try simp only [Act.put, List.setIfInBounds_toArray, List.set_cons_zero, List.set_cons_succ])
    refine wpAnyH_done (by kernel_rfl) ?_ _
    exact NoPanic.normal (hQ _ _ _ _ _ _ _ _ _ _ _ _ _ _ _ _ _ hL')
  exact AllReadyH.nil

set_option maxRecDepth 1000000 in
set_option maxHeartbeats 2000000 in
theorem st16_8_0_4_9 {Q : Exit → Act → World → Prop} {V : World} {s1 s2 : Value} {k1 k2 : Nat} {C1 C2 : List Value} {x : Wgh}
    {z0 z1 z2 z3 z4 z5 z6 z7 z8 z9 z10 z11 z12 z13 z14 z15 z16 z17 z18 z19 z20 z21 z22 z23 z24 z25 z26 z27 z28 z29 z30 z31 z32 z33 z34 z35 z36 z37 z38 z39 z40 z41 z42 z43 z45 z46 z47 z48 z50 z51 z52 z53 z55 z56 z57 z58 z59 z60 z61 z62 z63 z64 z65 z66 z67 z68 z69 z70 z71 z72 z73 z74 z75 z76 z77 z78 z79 z80 z81 z82 z83 z84 z85 z86 z87 z88 z89 z90 z91 z92 z93 z94 z95 z96 z97 z98 z99 z100 z101 z102 z103 z104 z105 z106 z107 z108 z109 z110 z111 z112 z113 z114 z115 z116 z117 z118 z119 z120 z121 z122 z123 z124 z125 z126 z127 z128 z129 z130 z131 z132 z133 z134 z135 z136 z137 z138 z139 z140 z141 z142 z143 z144 z145 z146 z147 z148 : Value}
    (hk1 : k1 ≤ 9) (hk2 : k2 ≤ 9) (hC1 : Srcs V 3 s1 k1 C1) (hC2 : Srcs V 3 s2 k2 C2)
    (hQ : ∀ u41 u42 u43 u44 u45 u46 u47 u48 u49 u50 u51 u52 u53 u54 u55 v' W', LiveB V W' [some ⟨v', 82, 3, 0 + k1 + 1 + k2, [] ++ C1 ++ [iv x.set, iv x.lo, iv x.hi] ++ C2⟩, none, none, none] → Q .normal ⟨#[z0, z1, z2, z3, z4, z5, z6, v', z8, z9, z10, z11, z12, z13, z14, z15, z16, z17, z18, z19, z20, z21, z22, z23, z24, z25, z26, z27, z28, z29, z30, z31, z32, z33, z34, z35, z36, z37, z38, z39, z40, u41, u42, u43, u44, u45, u46, u47, u48, u49, u50, u51, u52, u53, u54, u55, z56, z57, z58, z59, z60, z61, z62, z63, z64, z65, z66, z67, z68, z69, z70, z71, z72, z73, z74, z75, z76, z77, z78, z79, z80, z81, z82, z83, z84, z85, z86, z87, z88, z89, z90, z91, z92, z93, z94, z95, z96, z97, z98, z99, z100, z101, z102, z103, z104, z105, z106, z107, z108, z109, z110, z111, z112, z113, z114, z115, z116, z117, z118, z119, z120, z121, z122, z123, z124, z125, z126, z127, z128, z129, z130, z131, z132, z133, z134, z135, z136, z137, z138, z139, z140, z141, z142, z143, z144, z145, z146, z147, z148], []⟩ W')
    {w : World} (hL : LiveB V w [some ⟨z45, 82, 3, 0 + k1, [] ++ C1⟩, some ⟨z50, 82, 3, 1, [iv x.set, iv x.lo, iv x.hi]⟩, none, none]) :
    wpAnyH Try.prog .any ops16_8 (NoPanic Q) (fun W => Below V.heap.size V W) 3 #[true, true, true, true, true, true, true, true, true, true, false, true, true, true, false, false] ⟨#[z0, z1, z2, z3, z4, z5, z6, z7, z8, z9, z10, z11, z12, z13, z14, z15, z16, z17, z18, z19, z20, z21, z22, z23, z24, z25, z26, z27, z28, z29, z30, z31, z32, z33, z34, z35, z36, z37, z38, z39, z40, z41, z42, z43, s1, z45, z46, z47, z48, .agg #[iv x.set, iv x.lo, iv x.hi], z50, z51, z52, z53, s2, z55, z56, z57, z58, z59, z60, z61, z62, z63, z64, z65, z66, z67, z68, z69, z70, z71, z72, z73, z74, z75, z76, z77, z78, z79, z80, z81, z82, z83, z84, z85, z86, z87, z88, z89, z90, z91, z92, z93, z94, z95, z96, z97, z98, z99, z100, z101, z102, z103, z104, z105, z106, z107, z108, z109, z110, z111, z112, z113, z114, z115, z116, z117, z118, z119, z120, z121, z122, z123, z124, z125, z126, z127, z128, z129, z130, z131, z132, z133, z134, z135, z136, z137, z138, z139, z140, z141, z142, z143, z144, z145, z146, z147, z148], []⟩ w := by
  have _used := And.intro hk1 (And.intro hk2 (And.intro hC1 (And.intro hC2 hQ)))
  clear _used
  refine wpAnyH_ready (rs := [10]) (by kernel_rfl) (by simp) ?_
  refine AllReadyH.cons (o := opN ops16_8 10) (by kernel_rfl) (fun K hK => ?_) ?_
  · obtain ⟨i4, hi4, hz40, hz41, hz42⟩ := info_parts Try.info82
    have hsrc := live_src hL.2 (k := 1) rfl (by simp [Value.oneCell'])
    refine step_append_live (by rfl) _ _ 28 (by rfl) hL 0 _ rfl i4 _ 24 Try.underlying28 hi4 hz40 hz41 hz42 rfl (Nat.succ_pos _) (by rfl) _ 1 _ (by rfl) hsrc (by simp only []; unfold maxLen; omega) (by simp only []; omega) ?_
    intro v' w' hL'
    have hL' := liveB_drop hL' 1
    exact hK.out _ _ hL'.1 (fun _ => st16_8_0_4_9_10 hk1 hk2 hC1 hC2 hQ hL')
  exact AllReadyH.nil

set_option maxRecDepth 1000000 in
set_option maxHeartbeats 2000000 in
theorem st16_8_0_4 {Q : Exit → Act → World → Prop} {V : World} {s1 s2 : Value} {k1 k2 : Nat} {C1 C2 : List Value} {x : Wgh}
    {z0 z1 z2 z3 z4 z5 z6 z7 z8 z9 z10 z11 z12 z13 z14 z15 z16 z17 z18 z19 z20 z21 z22 z23 z24 z25 z26 z27 z28 z29 z30 z31 z32 z33 z34 z35 z36 z37 z38 z39 z40 z41 z42 z43 z45 z46 z47 z48 z50 z51 z52 z53 z55 z56 z57 z58 z59 z60 z61 z62 z63 z64 z65 z66 z67 z68 z69 z70 z71 z72 z73 z74 z75 z76 z77 z78 z79 z80 z81 z82 z83 z84 z85 z86 z87 z88 z89 z90 z91 z92 z93 z94 z95 z96 z97 z98 z99 z100 z101 z102 z103 z104 z105 z106 z107 z108 z109 z110 z111 z112 z113 z114 z115 z116 z117 z118 z119 z120 z121 z122 z123 z124 z125 z126 z127 z128 z129 z130 z131 z132 z133 z134 z135 z136 z137 z138 z139 z140 z141 z142 z143 z144 z145 z146 z147 z148 : Value}
    (hk1 : k1 ≤ 9) (hk2 : k2 ≤ 9) (hC1 : Srcs V 3 s1 k1 C1) (hC2 : Srcs V 3 s2 k2 C2)
    (hQ : ∀ u41 u42 u43 u44 u45 u46 u47 u48 u49 u50 u51 u52 u53 u54 u55 v' W', LiveB V W' [some ⟨v', 82, 3, 0 + k1 + 1 + k2, [] ++ C1 ++ [iv x.set, iv x.lo, iv x.hi] ++ C2⟩, none, none, none] → Q .normal ⟨#[z0, z1, z2, z3, z4, z5, z6, v', z8, z9, z10, z11, z12, z13, z14, z15, z16, z17, z18, z19, z20, z21, z22, z23, z24, z25, z26, z27, z28, z29, z30, z31, z32, z33, z34, z35, z36, z37, z38, z39, z40, u41, u42, u43, u44, u45, u46, u47, u48, u49, u50, u51, u52, u53, u54, u55, z56, z57, z58, z59, z60, z61, z62, z63, z64, z65, z66, z67, z68, z69, z70, z71, z72, z73, z74, z75, z76, z77, z78, z79, z80, z81, z82, z83, z84, z85, z86, z87, z88, z89, z90, z91, z92, z93, z94, z95, z96, z97, z98, z99, z100, z101, z102, z103, z104, z105, z106, z107, z108, z109, z110, z111, z112, z113, z114, z115, z116, z117, z118, z119, z120, z121, z122, z123, z124, z125, z126, z127, z128, z129, z130, z131, z132, z133, z134, z135, z136, z137, z138, z139, z140, z141, z142, z143, z144, z145, z146, z147, z148], []⟩ W')
    {w : World} (hL : LiveB V w [some ⟨z45, 82, 3, 0 + k1, [] ++ C1⟩, none, none, none]) :
    wpAnyH Try.prog .any ops16_8 (NoPanic Q) (fun W => Below V.heap.size V W) 4 #[true, true, true, true, true, true, true, true, true, false, false, true, true, true, false, false] ⟨#[z0, z1, z2, z3, z4, z5, z6, z7, z8, z9, z10, z11, z12, z13, z14, z15, z16, z17, z18, z19, z20, z21, z22, z23, z24, z25, z26, z27, z28, z29, z30, z31, z32, z33, z34, z35, z36, z37, z38, z39, z40, z41, z42, z43, s1, z45, z46, z47, z48, .agg #[iv x.set, iv x.lo, iv x.hi], z50, z51, z52, z53, s2, z55, z56, z57, z58, z59, z60, z61, z62, z63, z64, z65, z66, z67, z68, z69, z70, z71, z72, z73, z74, z75, z76, z77, z78, z79, z80, z81, z82, z83, z84, z85, z86, z87, z88, z89, z90, z91, z92, z93, z94, z95, z96, z97, z98, z99, z100, z101, z102, z103, z104, z105, z106, z107, z108, z109, z110, z111, z112, z113, z114, z115, z116, z117, z118, z119, z120, z121, z122, z123, z124, z125, z126, z127, z128, z129, z130, z131, z132, z133, z134, z135, z136, z137, z138, z139, z140, z141, z142, z143, z144, z145, z146, z147, z148], []⟩ w := by
  have _used := And.intro hk1 (And.intro hk2 (And.intro hC1 (And.intro hC2 hQ)))
  clear _used
  refine wpAnyH_ready (rs := [9]) (by kernel_rfl) (by simp) ?_
  refine AllReadyH.cons (o := opN ops16_8 9) (by kernel_rfl) (fun K hK => ?_) ?_
  · obtain ⟨o, e⟩ : ∃ o, o = opN ops16_8 9 := ⟨_, rfl⟩
    rw [← e]
    conv at e => rhs; whnf
    subst e
    go_simp
    have hL' := liveB_lit hL 1 #[iv x.set, iv x.lo, iv x.hi] 82 3 1 (by unfold maxLen; omega) rfl
    exact hK.out _ _ hL'.1 (fun _ => st16_8_0_4_9 hk1 hk2 hC1 hC2 hQ hL')
  exact AllReadyH.nil

set_option maxRecDepth 1000000 in
set_option maxHeartbeats 2000000 in
theorem st16_8_0_9 {Q : Exit → Act → World → Prop} {V : World} {s1 s2 : Value} {k1 k2 : Nat} {C1 C2 : List Value} {x : Wgh}
    {z0 z1 z2 z3 z4 z5 z6 z7 z8 z9 z10 z11 z12 z13 z14 z15 z16 z17 z18 z19 z20 z21 z22 z23 z24 z25 z26 z27 z28 z29 z30 z31 z32 z33 z34 z35 z36 z37 z38 z39 z40 z41 z42 z43 z45 z46 z47 z48 z50 z51 z52 z53 z55 z56 z57 z58 z59 z60 z61 z62 z63 z64 z65 z66 z67 z68 z69 z70 z71 z72 z73 z74 z75 z76 z77 z78 z79 z80 z81 z82 z83 z84 z85 z86 z87 z88 z89 z90 z91 z92 z93 z94 z95 z96 z97 z98 z99 z100 z101 z102 z103 z104 z105 z106 z107 z108 z109 z110 z111 z112 z113 z114 z115 z116 z117 z118 z119 z120 z121 z122 z123 z124 z125 z126 z127 z128 z129 z130 z131 z132 z133 z134 z135 z136 z137 z138 z139 z140 z141 z142 z143 z144 z145 z146 z147 z148 : Value}
    (hk1 : k1 ≤ 9) (hk2 : k2 ≤ 9) (hC1 : Srcs V 3 s1 k1 C1) (hC2 : Srcs V 3 s2 k2 C2)
    (hQ : ∀ u41 u42 u43 u44 u45 u46 u47 u48 u49 u50 u51 u52 u53 u54 u55 v' W', LiveB V W' [some ⟨v', 82, 3, 0 + k1 + 1 + k2, [] ++ C1 ++ [iv x.set, iv x.lo, iv x.hi] ++ C2⟩, none, none, none] → Q .normal ⟨#[z0, z1, z2, z3, z4, z5, z6, v', z8, z9, z10, z11, z12, z13, z14, z15, z16, z17, z18, z19, z20, z21, z22, z23, z24, z25, z26, z27, z28, z29, z30, z31, z32, z33, z34, z35, z36, z37, z38, z39, z40, u41, u42, u43, u44, u45, u46, u47, u48, u49, u50, u51, u52, u53, u54, u55, z56, z57, z58, z59, z60, z61, z62, z63, z64, z65, z66, z67, z68, z69, z70, z71, z72, z73, z74, z75, z76, z77, z78, z79, z80, z81, z82, z83, z84, z85, z86, z87, z88, z89, z90, z91, z92, z93, z94, z95, z96, z97, z98, z99, z100, z101, z102, z103, z104, z105, z106, z107, z108, z109, z110, z111, z112, z113, z114, z115, z116, z117, z118, z119, z120, z121, z122, z123, z124, z125, z126, z127, z128, z129, z130, z131, z132, z133, z134, z135, z136, z137, z138, z139, z140, z141, z142, z143, z144, z145, z146, z147, z148], []⟩ W')
    {w : World} (hL : LiveB V w [some ⟨z41, 82, 3, 0, []⟩, some ⟨z50, 82, 3, 1, [iv x.set, iv x.lo, iv x.hi]⟩, none, none]) :
    wpAnyH Try.prog .any ops16_8 (NoPanic Q) (fun W => Below V.heap.size V W) 4 #[true, true, true, true, false, true, true, true, true, true, false, true, true, true, false, false] ⟨#[z0, z1, z2, z3, z4, z5, z6, z7, z8, z9, z10, z11, z12, z13, z14, z15, z16, z17, z18, z19, z20, z21, z22, z23, z24, z25, z26, z27, z28, z29, z30, z31, z32, z33, z34, z35, z36, z37, z38, z39, z40, z41, z42, z43, s1, z45, z46, z47, z48, .agg #[iv x.set, iv x.lo, iv x.hi], z50, z51, z52, z53, s2, z55, z56, z57, z58, z59, z60, z61, z62, z63, z64, z65, z66, z67, z68, z69, z70, z71, z72, z73, z74, z75, z76, z77, z78, z79, z80, z81, z82, z83, z84, z85, z86, z87, z88, z89, z90, z91, z92, z93, z94, z95, z96, z97, z98, z99, z100, z101, z102, z103, z104, z105, z106, z107, z108, z109, z110, z111, z112, z113, z114, z115, z116, z117, z118, z119, z120, z121, z122, z123, z124, z125, z126, z127, z128, z129, z130, z131, z132, z133, z134, z135, z136, z137, z138, z139, z140, z141, z142, z143, z144, z145, z146, z147, z148], []⟩ w := by
  have _used := And.intro hk1 (And.intro hk2 (And.intro hC1 (And.intro hC2 hQ)))
  clear _used
  refine wpAnyH_ready (rs := [4]) (by kernel_rfl) (by simp) ?_
  refine AllReadyH.cons (o := opN ops16_8 4) (by kernel_rfl) (fun K hK => ?_) ?_
  · obtain ⟨i4, hi4, hz40, hz41, hz42⟩ := info_parts Try.info82
    refine step_append_live (by rfl) _ _ 28 (by rfl) hL 0 _ rfl i4 _ 24 Try.underlying28 hi4 hz40 hz41 hz42 rfl (Nat.succ_pos _) (by rfl) s1 k1 _ (by rfl) (srcs_keep hL hC1) (by simp only []; unfold maxLen; omega) (by simp only []; omega) ?_
    intro v' w' hL'
    exact hK.out _ _ hL'.1 (fun _ => st16_8_0_4_9 hk1 hk2 hC1 hC2 hQ hL')
  exact AllReadyH.nil

set_option maxRecDepth 1000000 in
set_option maxHeartbeats 2000000 in
theorem st16_8_0 {Q : Exit → Act → World → Prop} {V : World} {s1 s2 : Value} {k1 k2 : Nat} {C1 C2 : List Value} {x : Wgh}
    {z0 z1 z2 z3 z4 z5 z6 z7 z8 z9 z10 z11 z12 z13 z14 z15 z16 z17 z18 z19 z20 z21 z22 z23 z24 z25 z26 z27 z28 z29 z30 z31 z32 z33 z34 z35 z36 z37 z38 z39 z40 z41 z42 z43 z45 z46 z47 z48 z50 z51 z52 z53 z55 z56 z57 z58 z59 z60 z61 z62 z63 z64 z65 z66 z67 z68 z69 z70 z71 z72 z73 z74 z75 z76 z77 z78 z79 z80 z81 z82 z83 z84 z85 z86 z87 z88 z89 z90 z91 z92 z93 z94 z95 z96 z97 z98 z99 z100 z101 z102 z103 z104 z105 z106 z107 z108 z109 z110 z111 z112 z113 z114 z115 z116 z117 z118 z119 z120 z121 z122 z123 z124 z125 z126 z127 z128 z129 z130 z131 z132 z133 z134 z135 z136 z137 z138 z139 z140 z141 z142 z143 z144 z145 z146 z147 z148 : Value}
    (hk1 : k1 ≤ 9) (hk2 : k2 ≤ 9) (hC1 : Srcs V 3 s1 k1 C1) (hC2 : Srcs V 3 s2 k2 C2)
    (hQ : ∀ u41 u42 u43 u44 u45 u46 u47 u48 u49 u50 u51 u52 u53 u54 u55 v' W', LiveB V W' [some ⟨v', 82, 3, 0 + k1 + 1 + k2, [] ++ C1 ++ [iv x.set, iv x.lo, iv x.hi] ++ C2⟩, none, none, none] → Q .normal ⟨#[z0, z1, z2, z3, z4, z5, z6, v', z8, z9, z10, z11, z12, z13, z14, z15, z16, z17, z18, z19, z20, z21, z22, z23, z24, z25, z26, z27, z28, z29, z30, z31, z32, z33, z34, z35, z36, z37, z38, z39, z40, u41, u42, u43, u44, u45, u46, u47, u48, u49, u50, u51, u52, u53, u54, u55, z56, z57, z58, z59, z60, z61, z62, z63, z64, z65, z66, z67, z68, z69, z70, z71, z72, z73, z74, z75, z76, z77, z78, z79, z80, z81, z82, z83, z84, z85, z86, z87, z88, z89, z90, z91, z92, z93, z94, z95, z96, z97, z98, z99, z100, z101, z102, z103, z104, z105, z106, z107, z108, z109, z110, z111, z112, z113, z114, z115, z116, z117, z118, z119, z120, z121, z122, z123, z124, z125, z126, z127, z128, z129, z130, z131, z132, z133, z134, z135, z136, z137, z138, z139, z140, z141, z142, z143, z144, z145, z146, z147, z148], []⟩ W')
    {w : World} (hL : LiveB V w [some ⟨z41, 82, 3, 0, []⟩, none, none, none]) :
    wpAnyH Try.prog .any ops16_8 (NoPanic Q) (fun W => Below V.heap.size V W) 5 #[true, true, true, true, false, true, true, true, true, false, false, true, true, true, false, false] ⟨#[z0, z1, z2, z3, z4, z5, z6, z7, z8, z9, z10, z11, z12, z13, z14, z15, z16, z17, z18, z19, z20, z21, z22, z23, z24, z25, z26, z27, z28, z29, z30, z31, z32, z33, z34, z35, z36, z37, z38, z39, z40, z41, z42, z43, s1, z45, z46, z47, z48, .agg #[iv x.set, iv x.lo, iv x.hi], z50, z51, z52, z53, s2, z55, z56, z57, z58, z59, z60, z61, z62, z63, z64, z65, z66, z67, z68, z69, z70, z71, z72, z73, z74, z75, z76, z77, z78, z79, z80, z81, z82, z83, z84, z85, z86, z87, z88, z89, z90, z91, z92, z93, z94, z95, z96, z97, z98, z99, z100, z101, z102, z103, z104, z105, z106, z107, z108, z109, z110, z111, z112, z113, z114, z115, z116, z117, z118, z119, z120, z121, z122, z123, z124, z125, z126, z127, z128, z129, z130, z131, z132, z133, z134, z135, z136, z137, z138, z139, z140, z141, z142, z143, z144, z145, z146, z147, z148], []⟩ w := by
  have _used := And.intro hk1 (And.intro hk2 (And.intro hC1 (And.intro hC2 hQ)))
  clear _used
  refine wpAnyH_ready (rs := [4, 9]) (by kernel_rfl) (by simp) ?_
  refine AllReadyH.cons (o := opN ops16_8 4) (by kernel_rfl) (fun K hK => ?_) ?_
  · obtain ⟨i4, hi4, hz40, hz41, hz42⟩ := info_parts Try.info82
    refine step_append_live (by rfl) _ _ 28 (by rfl) hL 0 _ rfl i4 _ 24 Try.underlying28 hi4 hz40 hz41 hz42 rfl (Nat.succ_pos _) (by rfl) s1 k1 _ (by rfl) (srcs_keep hL hC1) (by simp only []; unfold maxLen; omega) (by simp only []; omega) ?_
    intro v' w' hL'
    exact hK.out _ _ hL'.1 (fun _ => st16_8_0_4 hk1 hk2 hC1 hC2 hQ hL')
  refine AllReadyH.cons (o := opN ops16_8 9) (by kernel_rfl) (fun K hK => ?_) ?_
  · obtain ⟨o, e⟩ : ∃ o, o = opN ops16_8 9 := ⟨_, rfl⟩
    rw [← e]
    conv at e => rhs; whnf
    subst e
    go_simp
    have hL' := liveB_lit hL 1 #[iv x.set, iv x.lo, iv x.hi] 82 3 1 (by unfold maxLen; omega) rfl
    exact hK.out _ _ hL'.1 (fun _ => st16_8_0_9 hk1 hk2 hC1 hC2 hQ hL')
  exact AllReadyH.nil

set_option maxRecDepth 1000000 in
set_option maxHeartbeats 2000000 in
theorem st16_8_9 {Q : Exit → Act → World → Prop} {V : World} {s1 s2 : Value} {k1 k2 : Nat} {C1 C2 : List Value} {x : Wgh}
    {z0 z1 z2 z3 z4 z5 z6 z7 z8 z9 z10 z11 z12 z13 z14 z15 z16 z17 z18 z19 z20 z21 z22 z23 z24 z25 z26 z27 z28 z29 z30 z31 z32 z33 z34 z35 z36 z37 z38 z39 z40 z41 z42 z43 z45 z46 z47 z48 z50 z51 z52 z53 z55 z56 z57 z58 z59 z60 z61 z62 z63 z64 z65 z66 z67 z68 z69 z70 z71 z72 z73 z74 z75 z76 z77 z78 z79 z80 z81 z82 z83 z84 z85 z86 z87 z88 z89 z90 z91 z92 z93 z94 z95 z96 z97 z98 z99 z100 z101 z102 z103 z104 z105 z106 z107 z108 z109 z110 z111 z112 z113 z114 z115 z116 z117 z118 z119 z120 z121 z122 z123 z124 z125 z126 z127 z128 z129 z130 z131 z132 z133 z134 z135 z136 z137 z138 z139 z140 z141 z142 z143 z144 z145 z146 z147 z148 : Value}
    (hk1 : k1 ≤ 9) (hk2 : k2 ≤ 9) (hC1 : Srcs V 3 s1 k1 C1) (hC2 : Srcs V 3 s2 k2 C2)
    (hQ : ∀ u41 u42 u43 u44 u45 u46 u47 u48 u49 u50 u51 u52 u53 u54 u55 v' W', LiveB V W' [some ⟨v', 82, 3, 0 + k1 + 1 + k2, [] ++ C1 ++ [iv x.set, iv x.lo, iv x.hi] ++ C2⟩, none, none, none] → Q .normal ⟨#[z0, z1, z2, z3, z4, z5, z6, v', z8, z9, z10, z11, z12, z13, z14, z15, z16, z17, z18, z19, z20, z21, z22, z23, z24, z25, z26, z27, z28, z29, z30, z31, z32, z33, z34, z35, z36, z37, z38, z39, z40, u41, u42, u43, u44, u45, u46, u47, u48, u49, u50, u51, u52, u53, u54, u55, z56, z57, z58, z59, z60, z61, z62, z63, z64, z65, z66, z67, z68, z69, z70, z71, z72, z73, z74, z75, z76, z77, z78, z79, z80, z81, z82, z83, z84, z85, z86, z87, z88, z89, z90, z91, z92, z93, z94, z95, z96, z97, z98, z99, z100, z101, z102, z103, z104, z105, z106, z107, z108, z109, z110, z111, z112, z113, z114, z115, z116, z117, z118, z119, z120, z121, z122, z123, z124, z125, z126, z127, z128, z129, z130, z131, z132, z133, z134, z135, z136, z137, z138, z139, z140, z141, z142, z143, z144, z145, z146, z147, z148], []⟩ W')
    {w : World} (hL : LiveB V w [none, some ⟨z50, 82, 3, 1, [iv x.set, iv x.lo, iv x.hi]⟩, none, none]) :
    wpAnyH Try.prog .any ops16_8 (NoPanic Q) (fun W => Below V.heap.size V W) 5 #[false, true, true, true, false, true, true, true, true, true, false, true, true, true, false, false] ⟨#[z0, z1, z2, z3, z4, z5, z6, z7, z8, z9, z10, z11, z12, z13, z14, z15, z16, z17, z18, z19, z20, z21, z22, z23, z24, z25, z26, z27, z28, z29, z30, z31, z32, z33, z34, z35, z36, z37, z38, z39, z40, z41, z42, z43, s1, z45, z46, z47, z48, .agg #[iv x.set, iv x.lo, iv x.hi], z50, z51, z52, z53, s2, z55, z56, z57, z58, z59, z60, z61, z62, z63, z64, z65, z66, z67, z68, z69, z70, z71, z72, z73, z74, z75, z76, z77, z78, z79, z80, z81, z82, z83, z84, z85, z86, z87, z88, z89, z90, z91, z92, z93, z94, z95, z96, z97, z98, z99, z100, z101, z102, z103, z104, z105, z106, z107, z108, z109, z110, z111, z112, z113, z114, z115, z116, z117, z118, z119, z120, z121, z122, z123, z124, z125, z126, z127, z128, z129, z130, z131, z132, z133, z134, z135, z136, z137, z138, z139, z140, z141, z142, z143, z144, z145, z146, z147, z148], []⟩ w := by
  have _used := And.intro hk1 (And.intro hk2 (And.intro hC1 (And.intro hC2 hQ)))
  clear _used
  refine wpAnyH_ready (rs := [0]) (by kernel_rfl) (by simp) ?_
  refine AllReadyH.cons (o := opN ops16_8 0) (by kernel_rfl) (fun K hK => ?_) ?_
  · obtain ⟨o, e⟩ : ∃ o, o = opN ops16_8 0 := ⟨_, rfl⟩
    rw [← e]
    conv at e => rhs; whnf
    subst e
    go_simp
    have hL' := liveB_lit hL 0 #[] 82 3 0 (by unfold maxLen; omega) rfl
    exact hK.out _ _ hL'.1 (fun _ => st16_8_0_9 hk1 hk2 hC1 hC2 hQ hL')
  exact AllReadyH.nil

set_option maxRecDepth 1000000 in
set_option maxHeartbeats 2000000 in
theorem st16_8_e {Q : Exit → Act → World → Prop} {V : World} {s1 s2 : Value} {k1 k2 : Nat} {C1 C2 : List Value} {x : Wgh}
    {z0 z1 z2 z3 z4 z5 z6 z7 z8 z9 z10 z11 z12 z13 z14 z15 z16 z17 z18 z19 z20 z21 z22 z23 z24 z25 z26 z27 z28 z29 z30 z31 z32 z33 z34 z35 z36 z37 z38 z39 z40 z41 z42 z43 z45 z46 z47 z48 z50 z51 z52 z53 z55 z56 z57 z58 z59 z60 z61 z62 z63 z64 z65 z66 z67 z68 z69 z70 z71 z72 z73 z74 z75 z76 z77 z78 z79 z80 z81 z82 z83 z84 z85 z86 z87 z88 z89 z90 z91 z92 z93 z94 z95 z96 z97 z98 z99 z100 z101 z102 z103 z104 z105 z106 z107 z108 z109 z110 z111 z112 z113 z114 z115 z116 z117 z118 z119 z120 z121 z122 z123 z124 z125 z126 z127 z128 z129 z130 z131 z132 z133 z134 z135 z136 z137 z138 z139 z140 z141 z142 z143 z144 z145 z146 z147 z148 : Value}
    (hk1 : k1 ≤ 9) (hk2 : k2 ≤ 9) (hC1 : Srcs V 3 s1 k1 C1) (hC2 : Srcs V 3 s2 k2 C2)
    (hQ : ∀ u41 u42 u43 u44 u45 u46 u47 u48 u49 u50 u51 u52 u53 u54 u55 v' W', LiveB V W' [some ⟨v', 82, 3, 0 + k1 + 1 + k2, [] ++ C1 ++ [iv x.set, iv x.lo, iv x.hi] ++ C2⟩, none, none, none] → Q .normal ⟨#[z0, z1, z2, z3, z4, z5, z6, v', z8, z9, z10, z11, z12, z13, z14, z15, z16, z17, z18, z19, z20, z21, z22, z23, z24, z25, z26, z27, z28, z29, z30, z31, z32, z33, z34, z35, z36, z37, z38, z39, z40, u41, u42, u43, u44, u45, u46, u47, u48, u49, u50, u51, u52, u53, u54, u55, z56, z57, z58, z59, z60, z61, z62, z63, z64, z65, z66, z67, z68, z69, z70, z71, z72, z73, z74, z75, z76, z77, z78, z79, z80, z81, z82, z83, z84, z85, z86, z87, z88, z89, z90, z91, z92, z93, z94, z95, z96, z97, z98, z99, z100, z101, z102, z103, z104, z105, z106, z107, z108, z109, z110, z111, z112, z113, z114, z115, z116, z117, z118, z119, z120, z121, z122, z123, z124, z125, z126, z127, z128, z129, z130, z131, z132, z133, z134, z135, z136, z137, z138, z139, z140, z141, z142, z143, z144, z145, z146, z147, z148], []⟩ W')
    {w : World} (hL : LiveB V w [none, none, none, none]) :
    wpAnyH Try.prog .any ops16_8 (NoPanic Q) (fun W => Below V.heap.size V W) 6 #[false, true, true, true, false, true, true, true, true, false, false, true, true, true, false, false] ⟨#[z0, z1, z2, z3, z4, z5, z6, z7, z8, z9, z10, z11, z12, z13, z14, z15, z16, z17, z18, z19, z20, z21, z22, z23, z24, z25, z26, z27, z28, z29, z30, z31, z32, z33, z34, z35, z36, z37, z38, z39, z40, z41, z42, z43, s1, z45, z46, z47, z48, .agg #[iv x.set, iv x.lo, iv x.hi], z50, z51, z52, z53, s2, z55, z56, z57, z58, z59, z60, z61, z62, z63, z64, z65, z66, z67, z68, z69, z70, z71, z72, z73, z74, z75, z76, z77, z78, z79, z80, z81, z82, z83, z84, z85, z86, z87, z88, z89, z90, z91, z92, z93, z94, z95, z96, z97, z98, z99, z100, z101, z102, z103, z104, z105, z106, z107, z108, z109, z110, z111, z112, z113, z114, z115, z116, z117, z118, z119, z120, z121, z122, z123, z124, z125, z126, z127, z128, z129, z130, z131, z132, z133, z134, z135, z136, z137, z138, z139, z140, z141, z142, z143, z144, z145, z146, z147, z148], []⟩ w := by
  have _used := And.intro hk1 (And.intro hk2 (And.intro hC1 (And.intro hC2 hQ)))
  clear _used
  refine wpAnyH_ready (rs := [0, 9]) (by kernel_rfl) (by simp) ?_
  refine AllReadyH.cons (o := opN ops16_8 0) (by kernel_rfl) (fun K hK => ?_) ?_
  · obtain ⟨o, e⟩ : ∃ o, o = opN ops16_8 0 := ⟨_, rfl⟩
    rw [← e]
    conv at e => rhs; whnf
    subst e
    go_simp
    have hL' := liveB_lit hL 0 #[] 82 3 0 (by unfold maxLen; omega) rfl
    exact hK.out _ _ hL'.1 (fun _ => st16_8_0 hk1 hk2 hC1 hC2 hQ hL')
  refine AllReadyH.cons (o := opN ops16_8 9) (by kernel_rfl) (fun K hK => ?_) ?_
  · obtain ⟨o, e⟩ : ∃ o, o = opN ops16_8 9 := ⟨_, rfl⟩
    rw [← e]
    conv at e => rhs; whnf
    subst e
    go_simp
    have hL' := liveB_lit hL 1 #[iv x.set, iv x.lo, iv x.hi] 82 3 1 (by unfold maxLen; omega) rfl
    exact hK.out _ _ hL'.1 (fun _ => st16_8_9 hk1 hk2 hC1 hC2 hQ hL')
  exact AllReadyH.nil

set_option maxRecDepth 1000000 in
set_option maxHeartbeats 4000000 in
theorem reg16_8 {Q : Exit → Act → World → Prop} {V : World} {vO s1 s2 : Value} {at_ : Int} {k1 k2 i bc oc nA capA : Nat} {C1 C2 : List Value} {x : Wgh}
    {z0 z2 z3 z4 z5 z6 z10 z11 z12 z13 z14 z15 z16 z17 z18 z19 z20 z21 z22 z23 z24 z25 z26 z27 z28 z29 z30 z31 z32 z33 z34 z35 z36 z37 z38 z39 z40 z41 z42 z43 z44 z45 z46 z47 z48 z49 z50 z51 z52 z53 z54 z55 z56 z57 z58 z59 z60 z61 z62 z63 z64 z65 z66 z67 z68 z69 z70 z71 z72 z73 z74 z75 z76 z77 z78 z79 z80 z81 z82 z83 z84 z85 z86 z87 z88 z89 z90 z91 z92 z93 z94 z95 z96 z97 z98 z99 z100 z101 z102 z103 z104 z105 z106 z107 z108 z109 z110 z111 z112 z113 z114 z115 z116 z117 z118 z119 z120 z121 z122 z123 z124 z125 z126 z127 z128 z129 z130 z131 z132 z133 z134 z135 z136 z137 z138 z139 z140 z141 z142 z143 z144 z145 z146 z147 z148 : Value} (hk1 : k1 ≤ 9) (hk2 : k2 ≤ 9) (hC1 : Srcs V 3 s1 k1 C1) (hC2 : Srcs V 3 s2 k2 C2) (hin : i < nA)
    (q0 : V.cell? ⟨bc, oc + i * 3, none⟩ = some (iv x.set)) (q1 : V.cell? ⟨bc, oc + i * 3 + 1, none⟩ = some (iv x.lo)) (q2 : V.cell? ⟨bc, oc + i * 3 + 2, none⟩ = some (iv x.hi))
    (h3 : ∀ (a : Act) (w : World), a.eval (.tmp 42) = vO → a.eval (.tmp 43) = .int .i64 at_ → (execOp a.eval (opN ops16_8 3)).run Try.prog w = .ok (.value s1) w)
    (h13 : ∀ (a : Act) (w : World), a.eval (.tmp 52) = vO → a.eval (.tmp 53) = .int .i64 at_ → (execOp a.eval (opN ops16_8 13)).run Try.prog w = .ok (.value s2) w)
    (hQ : ∀ u41 u42 u43 u44 u45 u46 u47 u48 u49 u50 u51 u52 u53 u54 u55 v' W', LiveB V W' [some ⟨v', 82, 3, 0 + k1 + 1 + k2, [] ++ C1 ++ [iv x.set, iv x.lo, iv x.hi] ++ C2⟩, none, none, none] → Q .normal ⟨#[z0, .slice (some ⟨bc, oc, none⟩) nA capA, z2, z3, z4, z5, z6, v', .int .i64 i, .int .i64 at_, z10, z11, z12, z13, z14, z15, z16, z17, z18, z19, z20, z21, z22, z23, z24, z25, z26, z27, z28, z29, z30, z31, z32, z33, z34, z35, z36, z37, z38, z39, z40, u41, u42, u43, u44, u45, u46, u47, u48, u49, u50, u51, u52, u53, u54, u55, z56, z57, z58, z59, z60, z61, z62, z63, z64, z65, z66, z67, z68, z69, z70, z71, z72, z73, z74, z75, z76, z77, z78, z79, z80, z81, z82, z83, z84, z85, z86, z87, z88, z89, z90, z91, z92, z93, z94, z95, z96, z97, z98, z99, z100, z101, z102, z103, z104, z105, z106, z107, z108, z109, z110, z111, z112, z113, z114, z115, z116, z117, z118, z119, z120, z121, z122, z123, z124, z125, z126, z127, z128, z129, z130, z131, z132, z133, z134, z135, z136, z137, z138, z139, z140, z141, z142, z143, z144, z145, z146, z147, z148], []⟩ W') :
    (regionOf Try.f16 8).wp Try.prog Q ⟨#[z0, .slice (some ⟨bc, oc, none⟩) nA capA, z2, z3, z4, z5, z6, vO, .int .i64 i, .int .i64 at_, z10, z11, z12, z13, z14, z15, z16, z17, z18, z19, z20, z21, z22, z23, z24, z25, z26, z27, z28, z29, z30, z31, z32, z33, z34, z35, z36, z37, z38, z39, z40, z41, z42, z43, z44, z45, z46, z47, z48, z49, z50, z51, z52, z53, z54, z55, z56, z57, z58, z59, z60, z61, z62, z63, z64, z65, z66, z67, z68, z69, z70, z71, z72, z73, z74, z75, z76, z77, z78, z79, z80, z81, z82, z83, z84, z85, z86, z87, z88, z89, z90, z91, z92, z93, z94, z95, z96, z97, z98, z99, z100, z101, z102, z103, z104, z105, z106, z107, z108, z109, z110, z111, z112, z113, z114, z115, z116, z117, z118, z119, z120, z121, z122, z123, z124, z125, z126, z127, z128, z129, z130, z131, z132, z133, z134, z135, z136, z137, z138, z139, z140, z141, z142, z143, z144, z145, z146, z147, z148], []⟩ V := by
  have e : regionOf Try.f16 8 = Code.region 8 ops16_8 true := by kernel_rfl
  rw [e]
  have hi0 : (0 : Int) ≤ (i : Int) := by omega
  have hiz : (i : Int) < (nA : Int) := by omega
  refine wp_region_noPanic ?_
  refine wp_region_held_drew (S := (fun W => Below V.heap.size V W)) (by kernel_rfl) (liveB_start.1) (fun hHeld => ?_)
  have hsz : ops16_8.size = 16 := by kernel_rfl
  have hrep : Array.replicate 16 false = #[false, false, false, false, false, false, false, false, false, false, false, false, false, false, false, false] := by kernel_rfl
  rw [hsz, hrep]
  obtain ⟨o, e0⟩ : ∃ o, o = opN ops16_8 1 := ⟨_, rfl⟩
  have e := e0
  conv at e => rhs; whnf
  refine wpAnyH_take (i := 1) (oi := o) (v := vO) (by rw [e0]; kernel_rfl) (by kernel_rfl) (by kernel_rfl) (by kernel_rfl) (fun _ _ _ h => h) (Or.inl ⟨by rw [e]; rfl, ?_⟩) (by assumption) ?_
  · clear e0
    subst e
    intro w hSw
    go_simp
  clear e0
  subst e
  (try simp only [Act.put, List.setIfInBounds_toArray, List.set_cons_zero, List.set_cons_succ])
  obtain ⟨o, e0⟩ : ∃ o, o = opN ops16_8 2 := ⟨_, rfl⟩
  have e := e0
  conv at e => rhs; whnf
  refine wpAnyH_take (i := 2) (oi := o) (v := .int .i64 at_) (by rw [e0]; kernel_rfl) (by kernel_rfl) (by kernel_rfl) (by kernel_rfl) (fun _ _ _ h => h) (Or.inl ⟨by rw [e]; rfl, ?_⟩) (by assumption) ?_
  · clear e0
    subst e
    intro w hSw
    go_simp
  clear e0
  subst e
  (try simp only [Act.put, List.setIfInBounds_toArray, List.set_cons_zero, List.set_cons_succ])
  obtain ⟨o, e0⟩ : ∃ o, o = opN ops16_8 3 := ⟨_, rfl⟩
  have e := e0
  conv at e => rhs; whnf
  refine wpAnyH_take (i := 3) (oi := o) (v := s1) (by rw [e0]; kernel_rfl) (by kernel_rfl) (by kernel_rfl) (by kernel_rfl) (fun _ _ _ h => h) (Or.inl ⟨by rw [e]; rfl, ?_⟩) (by assumption) ?_
  · intro w _
    rw [e0]
    exact h3 _ w rfl rfl
  clear e0
  subst e
  (try simp only [Act.put, List.setIfInBounds_toArray, List.set_cons_zero, List.set_cons_succ])
  obtain ⟨o, e0⟩ : ∃ o, o = opN ops16_8 5 := ⟨_, rfl⟩
  have e := e0
  conv at e => rhs; whnf
  refine wpAnyH_take (i := 5) (oi := o) (v := .slice (some ⟨bc, oc, none⟩) nA capA) (by rw [e0]; kernel_rfl) (by kernel_rfl) (by kernel_rfl) (by kernel_rfl) (fun _ _ _ h => h) (Or.inl ⟨by rw [e]; rfl, ?_⟩) (by assumption) ?_
  · clear e0
    subst e
    intro w hSw
    go_simp
  clear e0
  subst e
  (try simp only [Act.put, List.setIfInBounds_toArray, List.set_cons_zero, List.set_cons_succ])
  obtain ⟨o, e0⟩ : ∃ o, o = opN ops16_8 6 := ⟨_, rfl⟩
  have e := e0
  conv at e => rhs; whnf
  refine wpAnyH_take (i := 6) (oi := o) (v := .int .i64 i) (by rw [e0]; kernel_rfl) (by kernel_rfl) (by kernel_rfl) (by kernel_rfl) (fun _ _ _ h => h) (Or.inl ⟨by rw [e]; rfl, ?_⟩) (by assumption) ?_
  · clear e0
    subst e
    intro w hSw
    go_simp
  clear e0
  subst e
  (try simp only [Act.put, List.setIfInBounds_toArray, List.set_cons_zero, List.set_cons_succ])
  obtain ⟨o, e0⟩ : ∃ o, o = opN ops16_8 7 := ⟨_, rfl⟩
  have e := e0
  conv at e => rhs; whnf
  refine wpAnyH_take (i := 7) (oi := o) (v := .pointer (some ⟨bc, oc + i * 3, none⟩)) (by rw [e0]; kernel_rfl) (by kernel_rfl) (by kernel_rfl) (by kernel_rfl) (fun _ _ _ h => h) (Or.inl ⟨by rw [e]; rfl, ?_⟩) (by assumption) ?_
  · clear e0
    subst e
    intro w hSw
    go_simp
  clear e0
  subst e
  (try simp only [Act.put, List.setIfInBounds_toArray, List.set_cons_zero, List.set_cons_succ])
  obtain ⟨o, e0⟩ : ∃ o, o = opN ops16_8 8 := ⟨_, rfl⟩
  have e := e0
  conv at e => rhs; whnf
  refine wpAnyH_take (i := 8) (oi := o) (v := .agg #[iv x.set, iv x.lo, iv x.hi]) (by rw [e0]; kernel_rfl) (by kernel_rfl) (by kernel_rfl) (by kernel_rfl) (fun _ _ _ h => h) (Or.inl ⟨by rw [e]; rfl, ?_⟩) (by assumption) ?_
  · clear e0
    subst e
    intro w hSw
    have hSw : Below V.heap.size V w := hSw
    have k0 := keepC hSw q0
    have k1 := keepC hSw q1
    have k2 := keepC hSw q2
    go_simp
  clear e0
  subst e
  (try simp only [Act.put, List.setIfInBounds_toArray, List.set_cons_zero, List.set_cons_succ])
  obtain ⟨o, e0⟩ : ∃ o, o = opN ops16_8 11 := ⟨_, rfl⟩
  have e := e0
  conv at e => rhs; whnf
  refine wpAnyH_take (i := 11) (oi := o) (v := vO) (by rw [e0]; kernel_rfl) (by kernel_rfl) (by kernel_rfl) (by kernel_rfl) (fun _ _ _ h => h) (Or.inl ⟨by rw [e]; rfl, ?_⟩) (by assumption) ?_
  · clear e0
    subst e
    intro w hSw
    go_simp
  clear e0
  subst e
  (try simp only [Act.put, List.setIfInBounds_toArray, List.set_cons_zero, List.set_cons_succ])
  obtain ⟨o, e0⟩ : ∃ o, o = opN ops16_8 12 := ⟨_, rfl⟩
  have e := e0
  conv at e => rhs; whnf
  refine wpAnyH_take (i := 12) (oi := o) (v := .int .i64 at_) (by rw [e0]; kernel_rfl) (by kernel_rfl) (by kernel_rfl) (by kernel_rfl) (fun _ _ _ h => h) (Or.inl ⟨by rw [e]; rfl, ?_⟩) (by assumption) ?_
  · clear e0
    subst e
    intro w hSw
    go_simp
  clear e0
  subst e
  (try simp only [Act.put, List.setIfInBounds_toArray, List.set_cons_zero, List.set_cons_succ])
  obtain ⟨o, e0⟩ : ∃ o, o = opN ops16_8 13 := ⟨_, rfl⟩
  have e := e0
  conv at e => rhs; whnf
  refine wpAnyH_take (i := 13) (oi := o) (v := s2) (by rw [e0]; kernel_rfl) (by kernel_rfl) (by kernel_rfl) (by kernel_rfl) (fun _ _ _ h => h) (Or.inl ⟨by rw [e]; rfl, ?_⟩) (by assumption) ?_
  · intro w _
    rw [e0]
    exact h13 _ w rfl rfl
  clear e0
  subst e
  (try simp only [Act.put, List.setIfInBounds_toArray, List.set_cons_zero, List.set_cons_succ])
  exact st16_8_e hk1 hk2 hC1 hC2 hQ liveB_start
end Go.Proofs.Ytojgdallodmanaa
