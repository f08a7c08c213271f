/- The copy of weighings. BlockMore: the region of the weighings and one more. Printed by mkN2.py. -/
import Derived.Shelf.SlicesE.Clone
import Derived.Deep.RegionHeld3
import Derived.Test.YtojgdallodmanaaZ244535
import Derived.Test.YtojgdallodmanaaZf22f08
import Derived.Test.YtojgdallodmanaaZ8049c1
import Derived.Test.YtojgdallodmanaaYB13
namespace Go.Proofs.Ytojgdallodmanaa
open Go.RowKit Go.Shelf

def Try.laysC122_ren : Go.Shelf.Ren := ⟨fun | 41 => 122 | n => n, fun | 22 => 28 | 23 => 82 | 4 => 4 | n => n, fun | n => n⟩
theorem Try.laysC122 : Go.Proofs.SlLaysE0.n41 Try.prog Try.laysC122_ren := {
  mixed := by kernel_rfl
  f41 := ⟨Try.f122.name, by decide, Try.func122.trans (congrArg some (by kernel_rfl))⟩
  t4 := Try.underlying4
  a4 := Try.isAgg4
  z4 := Try.sizeOf4
  v4 := Try.zeroValue4
  t22 := Try.underlying28
  a22 := Try.isAgg28
  z22 := Try.sizeOf28
  v22 := Try.zeroValue28 }

theorem Try.info82 : (Try.prog.info? 82).map (fun i => (i.zero, i.size, i.bytes)) = some (some (.agg #[.int .i64 0, .int .i64 0, .int .i64 0]), 3, 24) := by kernel_rfl
theorem Try.info153 : (Try.prog.info? 102).map (fun i => (i.zero, i.size, i.bytes)) = some (some (.pointer none), 1, 8) := by kernel_rfl
theorem encWgh_len (c : Wgh) : (encWgh c).length = 3 := rfl
theorem info_parts {t : TypeId} {z : Option Value} {s b : Nat} (h : (Try.prog.info? t).map (fun i => (i.zero, i.size, i.bytes)) = some (z, s, b)) : ∃ i0, Try.prog.info? t = some i0 ∧ i0.zero = z ∧ i0.size = s ∧ i0.bytes = b := by
  rcases hi : Try.prog.info? t with _ | i0
  · rw [hi] at h; cases h
  · rw [hi] at h
    simp only [Option.map_some, Option.some.injEq, Prod.mk.injEq] at h
    exact ⟨i0, rfl, h.1, h.2.1, h.2.2⟩

theorem flat_cells {α : Type} {k : Nat} (hk : 0 < k) {encs : α → List Value} (he : ∀ x, (encs x).length = k) {w : World} {B b off : Nat} {xs : List α} (hR : RdN k encs w B (some ⟨b, off, none⟩) xs) : ∀ j u, (xs.flatMap encs)[j]? = some u → w.cell? ⟨b, off + j, none⟩ = some u := by
  intro j u hu
  have hj : j < xs.length * k := by rw [← flat_len he]; exact (List.getElem?_eq_some_iff.1 hu).1
  have hi : j / k < xs.length := Nat.div_lt_of_lt_mul (by rw [Nat.mul_comm]; exact hj)
  have hr : j % k < k := Nat.mod_lt _ hk
  obtain ⟨x, hx⟩ : ∃ x, xs[j / k]? = some x := ⟨_, List.getElem?_eq_getElem hi⟩
  obtain ⟨v, hv⟩ : ∃ v, (encs x)[j % k]? = some v := ⟨_, List.getElem?_eq_getElem (by rw [he]; exact hr)⟩
  have hf := flat_get he xs _ x hx _ v hv
  have e : j / k * k + j % k = j := by rw [Nat.mul_comm]; exact Nat.div_add_mod j k
  rw [e, hu] at hf
  injection hf with hf
  subst hf
  obtain ⟨b', off', eA, _, hc⟩ := hR _ x hx
  injection eA with eA
  injection eA with e1 e2
  subst e1 e2
  have := hc _ _ hv
  rwa [Nat.add_assoc, e] at this

set_option maxRecDepth 100000 in
theorem clone0_any (ad : Addr) (cap : Nat) (w : World) :
    Calls Try.prog 122 #[.slice (some ad) 0 cap] w fun e w' => ∃ v', e = .returned v' ∧ w'.ownsRow w.heap.size 82 3 v' 0 [] ∧ Below w.heap.size w w' := by
  obtain ⟨i0, hi, hz0, hz1, hz2⟩ := info_parts Try.info82
  have hlit := World.ownsRow_lit (e := 82) (size := 3) (base := w.heap.size) w #[] 0 (Nat.le_refl _) (by decide) (by simp)
  have HL := Lib.hid hlit
  clear hlit
  have q28 : ∀ (w : World) (a : Option Addr) (n c n' c' : Nat), (binOp .eql 28 (.slice a n c) (.slice none n' c')).run Try.prog w = .ok (.bool a.isNone) w := fun w a n c n' c' => Lib.run_eql_slice_nil w _ _ a n c n' c' Try.underlying28
  go_enter Try.func122, Try.ntmps122
  go_wp2_with (at_builtin; refine wpList_append_own _ rfl _ _ 28 rfl w.heap.size 82 i0 (.agg #[.int .i64 0, .int .i64 0, .int .i64 0]) 3 24 Try.underlying28 hi hz0 hz1 hz2 rfl (by decide) _ _ _ rfl HL.out ad 0 cap [] rfl rfl ?d1 ?d2 ?d3 ?d4 ?d5 ?_)
  intro v' w3 hown hg _
  have hb := grownB HL.out hg (Nat.le_refl _) (belowA (belowR w) _)
  have HO := Lib.hid hown
  have HB := Lib.hid hb
  clear hown hg hb HL
  go_wp2
  go_ret
  exact ⟨v', rfl, HO.out, HB.out⟩
theorem cloneWgh_any (A : Option Addr) (l : List Wgh) (B cap : Nat) (w : World) (hm : l.length ≤ 6) (hR : RdN 3 encWgh w B A l) :
    Calls Try.prog 122 #[.slice A l.length cap] w fun e w' => ∃ v', e = .returned v' ∧ w'.ownsRow w.heap.size 82 3 v' l.length (l.flatMap encWgh) ∧ Below w.heap.size w w' := by
  rcases Nat.eq_zero_or_pos l.length with h0 | h0
  · have : l = [] := List.length_eq_zero_iff.1 h0
    subst this
    cases A with
    | none =>
      refine (AnyE.slices_Clone_nil Try.laysC122 0 cap w).mono ?_
      rintro e w' ⟨rfl, rfl⟩
      exact ⟨_, rfl, World.ownsRow_nil _ _ _ _, belowR _⟩
    | some ad => exact clone0_any ad cap w
  · obtain ⟨i0, hi, hz0, hz1, hz2⟩ := info_parts Try.info82
    obtain ⟨b, off, rfl, _, _⟩ := hR 0 _ (List.getElem?_eq_getElem h0)
    refine (AnyE.slices_Clone Try.laysC122 i0 _ 3 24 hi hz0 hz1 hz2 rfl (by decide) Try.sizeOf82 b off l.length cap (l.flatMap encWgh) w (flat_len encWgh_len l) (by unfold maxLen; omega) (by omega) (flat_cells (by decide) encWgh_len hR) ?_).mono ?_
    · intro u hu
      obtain ⟨c, _, hc⟩ := List.mem_flatMap.1 hu
      simp [encWgh] at hc
      rcases hc with rfl | rfl | rfl <;> rfl
    · rintro e w' ⟨v', rfl, h1, _, h3⟩
      exact ⟨v', rfl, h1, h3⟩
end Go.Proofs.Ytojgdallodmanaa

namespace Go.Proofs.Ytojgdallodmanaa
open Go.RowKit

noncomputable def ops13_1 : Array Oper := opsOf (regionOf Try.f13 1)

set_option maxRecDepth 1000000 in
set_option maxHeartbeats 2000000 in
theorem st13_1_0_2_5 {Q : Exit → Act → World → Prop} {V : World} {xb m capL : Nat} {L : Option Addr} {x : Wgh} {C : List Value} {z0 z2 z3 z4 z6 z7 z8 z9 z10 z11 z12 z13 z14 z15 z16 z17 z18 z19 z20 z21 z22 z24 z25 z27 z28 z29 z30 z31 z32 z33 z34 z35 z36 z37 z38 z39 z40 z41 z42 z43 z44 z45 z46 z47 z48 z49 z50 z51 z52 z53 z54 z55 z56 z57 z58 z59 z60 z61 z62 z63 z64 z65 z66 z67 z68 z69 z70 z71 z72 z73 z74 z75 z76 z77 z78 z79 z80 z81 z82 z83 z84 z85 z86 z87 z88 z89 z90 z91 z92 z93 z94 z95 z96 z97 z98 z99 z100 z101 z102 z103 z104 z105 z106 z107 z108 z109 z110 z111 z112 z113 z114 z115 z116 z117 z118 z119 z120 z121 z122 z123 z124 z125 z126 z127 z128 z129 z130 z131 z132 z133 z134 z135 z136 z137 z138 z139 z140 z141 z142 z143 z144 z145 z146 z147 z148 z149 z150 z151 z152 z153 z154 z155 z156 z157 z158 z159 z160 z161 z162 z163 z164 z165 z166 z167 z168 : Value}
    (hm : m + 1 ≤ maxLen) (hmb : (m + 1) * 24 ≤ 140737488355328) (hC : Srcs V 3 (.slice L m capL) m C) (hS : ∀ W, Below V.heap.size V W → W.cell? ⟨xb, 0, none⟩ = some (iv x.set) ∧ W.cell? ⟨xb, 1, none⟩ = some (iv x.lo) ∧ W.cell? ⟨xb, 2, none⟩ = some (iv x.hi))
    (hQ : ∀ u22 u23 u24 u25 u26 u27 u28 v' W', LiveB V W' [some ⟨v', 82, 3, m + 1, C ++ [iv x.set, iv x.lo, iv x.hi]⟩, none, none, none] → Q .normal ⟨#[z0, .slice L m capL, z2, z3, z4, .pointer (some ⟨xb, 0, none⟩), z6, v', z8, z9, z10, z11, z12, z13, z14, z15, z16, z17, z18, z19, z20, z21, u22, u23, u24, u25, u26, u27, u28, z29, z30, z31, z32, z33, z34, z35, z36, z37, z38, z39, z40, z41, z42, z43, z44, z45, z46, z47, z48, z49, z50, z51, z52, z53, z54, z55, z56, z57, z58, z59, z60, z61, z62, z63, z64, z65, z66, z67, z68, z69, z70, z71, z72, z73, z74, z75, z76, z77, z78, z79, z80, z81, z82, z83, z84, z85, z86, z87, z88, z89, z90, z91, z92, z93, z94, z95, z96, z97, z98, z99, z100, z101, z102, z103, z104, z105, z106, z107, z108, z109, z110, z111, z112, z113, z114, z115, z116, z117, z118, z119, z120, z121, z122, z123, z124, z125, z126, z127, z128, z129, z130, z131, z132, z133, z134, z135, z136, z137, z138, z139, z140, z141, z142, z143, z144, z145, z146, z147, z148, z149, z150, z151, z152, z153, z154, z155, z156, z157, z158, z159, z160, z161, z162, z163, z164, z165, z166, z167, z168], []⟩ W')
    {w : World} (hL : LiveB V w [some ⟨z24, 82, 3, 0 + m, [] ++ C⟩, some ⟨z27, 82, 3, 1, [iv x.set, iv x.lo, iv x.hi]⟩, none, none]) :
    wpAnyH Try.prog .any ops13_1 (NoPanic Q) (fun W => W.cell? ⟨xb, 0, none⟩ = some (iv x.set) ∧ W.cell? ⟨xb, 1, none⟩ = some (iv x.lo) ∧ W.cell? ⟨xb, 2, none⟩ = some (iv x.hi)) 2 #[true, true, true, true, true, true, false, false] ⟨#[z0, .slice L m capL, z2, z3, z4, .pointer (some ⟨xb, 0, none⟩), z6, z7, z8, z9, z10, z11, z12, z13, z14, z15, z16, z17, z18, z19, z20, z21, z22, .slice L m capL, z24, z25, .agg #[iv x.set, iv x.lo, iv x.hi], z27, z28, z29, z30, z31, z32, z33, z34, z35, z36, z37, z38, z39, z40, z41, z42, z43, z44, z45, z46, z47, z48, z49, z50, z51, z52, z53, z54, z55, z56, z57, z58, z59, z60, z61, z62, z63, z64, z65, z66, z67, z68, z69, z70, z71, z72, z73, z74, z75, z76, z77, z78, z79, z80, z81, z82, z83, z84, z85, z86, z87, z88, z89, z90, z91, z92, z93, z94, z95, z96, z97, z98, z99, z100, z101, z102, z103, z104, z105, z106, z107, z108, z109, z110, z111, z112, z113, z114, z115, z116, z117, z118, z119, z120, z121, z122, z123, z124, z125, z126, z127, z128, z129, z130, z131, z132, z133, z134, z135, z136, z137, z138, z139, z140, z141, z142, z143, z144, z145, z146, z147, z148, z149, z150, z151, z152, z153, z154, z155, z156, z157, z158, z159, z160, z161, z162, z163, z164, z165, z166, z167, z168], []⟩ w := by
  have _used := And.intro hm (And.intro hmb (And.intro hC (And.intro hS hQ)))
  clear _used
  refine wpAnyH_ready (rs := [6]) (by kernel_rfl) (by simp) ?_
  refine AllReadyH.cons (o := opN ops13_1 6) (by kernel_rfl) (fun K hK => ?_) ?_
  · obtain ⟨o, e⟩ : ∃ o, o = opN ops13_1 6 := ⟨_, rfl⟩
    rw [← e]
    conv at e => rhs; whnf
    subst e
    have hsrc := live_src hL.2 (k := 1) rfl (by simp [Value.oneCell'])
    obtain ⟨i4, hi4, hz40, hz41, hz42⟩ := info_parts Try.info82
    refine step_append_live (by rfl) _ _ 28 (by rfl) hL 0 _ rfl i4 _ 24 Try.underlying28 hi4 hz40 hz41 hz42 rfl (Nat.succ_pos _) (by rfl) _ 1 _ (by rfl) hsrc (by simp only [Nat.zero_add]; exact hm) (by simp only [Nat.zero_add]; exact hmb) ?_
    intro v' w' hL'
    have hL' := liveB_drop hL' 1
    simp only [Nat.zero_add, List.nil_append, List.set_cons_zero, List.set_cons_succ] at hL'
    refine hK.out _ _ (hS _ hL'.1) (fun hHeld => ?_)
    clear hK
    (try simp only [List.setIfInBounds_toArray, List.set_cons_zero, List.set_cons_succ])
    obtain ⟨o, e0⟩ : ∃ o, o = opN ops13_1 7 := ⟨_, rfl⟩
    have e := e0
    conv at e => rhs; whnf
    refine wpAnyH_take (i := 7) (oi := o) (v := v') (by rw [e0]; kernel_rfl) (by kernel_rfl) (by kernel_rfl) (by kernel_rfl) (fun _ _ _ h => h) (Or.inl ⟨by rw [e]; rfl, ?_⟩) (by assumption) ?_
    · clear e0
      subst e
      intro w hSw
      go_simp
    clear e0
    subst e
    (try simp only [Act.put, List.setIfInBounds_toArray, List.set_cons_zero, List.set_cons_succ])
    refine wpAnyH_done (by kernel_rfl) ?_ _
    exact NoPanic.normal (hQ _ _ _ _ _ _ _ _ _ hL')
  exact AllReadyH.nil


set_option maxRecDepth 1000000 in
set_option maxHeartbeats 2000000 in
theorem st13_1_0_2 {Q : Exit → Act → World → Prop} {V : World} {xb m capL : Nat} {L : Option Addr} {x : Wgh} {C : List Value} {z0 z2 z3 z4 z6 z7 z8 z9 z10 z11 z12 z13 z14 z15 z16 z17 z18 z19 z20 z21 z22 z24 z25 z27 z28 z29 z30 z31 z32 z33 z34 z35 z36 z37 z38 z39 z40 z41 z42 z43 z44 z45 z46 z47 z48 z49 z50 z51 z52 z53 z54 z55 z56 z57 z58 z59 z60 z61 z62 z63 z64 z65 z66 z67 z68 z69 z70 z71 z72 z73 z74 z75 z76 z77 z78 z79 z80 z81 z82 z83 z84 z85 z86 z87 z88 z89 z90 z91 z92 z93 z94 z95 z96 z97 z98 z99 z100 z101 z102 z103 z104 z105 z106 z107 z108 z109 z110 z111 z112 z113 z114 z115 z116 z117 z118 z119 z120 z121 z122 z123 z124 z125 z126 z127 z128 z129 z130 z131 z132 z133 z134 z135 z136 z137 z138 z139 z140 z141 z142 z143 z144 z145 z146 z147 z148 z149 z150 z151 z152 z153 z154 z155 z156 z157 z158 z159 z160 z161 z162 z163 z164 z165 z166 z167 z168 : Value}
    (hm : m + 1 ≤ maxLen) (hmb : (m + 1) * 24 ≤ 140737488355328) (hC : Srcs V 3 (.slice L m capL) m C) (hS : ∀ W, Below V.heap.size V W → W.cell? ⟨xb, 0, none⟩ = some (iv x.set) ∧ W.cell? ⟨xb, 1, none⟩ = some (iv x.lo) ∧ W.cell? ⟨xb, 2, none⟩ = some (iv x.hi))
    (hQ : ∀ u22 u23 u24 u25 u26 u27 u28 v' W', LiveB V W' [some ⟨v', 82, 3, m + 1, C ++ [iv x.set, iv x.lo, iv x.hi]⟩, none, none, none] → Q .normal ⟨#[z0, .slice L m capL, z2, z3, z4, .pointer (some ⟨xb, 0, none⟩), z6, v', z8, z9, z10, z11, z12, z13, z14, z15, z16, z17, z18, z19, z20, z21, u22, u23, u24, u25, u26, u27, u28, z29, z30, z31, z32, z33, z34, z35, z36, z37, z38, z39, z40, z41, z42, z43, z44, z45, z46, z47, z48, z49, z50, z51, z52, z53, z54, z55, z56, z57, z58, z59, z60, z61, z62, z63, z64, z65, z66, z67, z68, z69, z70, z71, z72, z73, z74, z75, z76, z77, z78, z79, z80, z81, z82, z83, z84, z85, z86, z87, z88, z89, z90, z91, z92, z93, z94, z95, z96, z97, z98, z99, z100, z101, z102, z103, z104, z105, z106, z107, z108, z109, z110, z111, z112, z113, z114, z115, z116, z117, z118, z119, z120, z121, z122, z123, z124, z125, z126, z127, z128, z129, z130, z131, z132, z133, z134, z135, z136, z137, z138, z139, z140, z141, z142, z143, z144, z145, z146, z147, z148, z149, z150, z151, z152, z153, z154, z155, z156, z157, z158, z159, z160, z161, z162, z163, z164, z165, z166, z167, z168], []⟩ W')
    {w : World} (hL : LiveB V w [some ⟨z24, 82, 3, 0 + m, [] ++ C⟩, none, none, none]) :
    wpAnyH Try.prog .any ops13_1 (NoPanic Q) (fun W => W.cell? ⟨xb, 0, none⟩ = some (iv x.set) ∧ W.cell? ⟨xb, 1, none⟩ = some (iv x.lo) ∧ W.cell? ⟨xb, 2, none⟩ = some (iv x.hi)) 3 #[true, true, true, true, true, false, false, false] ⟨#[z0, .slice L m capL, z2, z3, z4, .pointer (some ⟨xb, 0, none⟩), z6, z7, z8, z9, z10, z11, z12, z13, z14, z15, z16, z17, z18, z19, z20, z21, z22, .slice L m capL, z24, z25, .agg #[iv x.set, iv x.lo, iv x.hi], z27, z28, z29, z30, z31, z32, z33, z34, z35, z36, z37, z38, z39, z40, z41, z42, z43, z44, z45, z46, z47, z48, z49, z50, z51, z52, z53, z54, z55, z56, z57, z58, z59, z60, z61, z62, z63, z64, z65, z66, z67, z68, z69, z70, z71, z72, z73, z74, z75, z76, z77, z78, z79, z80, z81, z82, z83, z84, z85, z86, z87, z88, z89, z90, z91, z92, z93, z94, z95, z96, z97, z98, z99, z100, z101, z102, z103, z104, z105, z106, z107, z108, z109, z110, z111, z112, z113, z114, z115, z116, z117, z118, z119, z120, z121, z122, z123, z124, z125, z126, z127, z128, z129, z130, z131, z132, z133, z134, z135, z136, z137, z138, z139, z140, z141, z142, z143, z144, z145, z146, z147, z148, z149, z150, z151, z152, z153, z154, z155, z156, z157, z158, z159, z160, z161, z162, z163, z164, z165, z166, z167, z168], []⟩ w := by
  have _used := And.intro hm (And.intro hmb (And.intro hC (And.intro hS hQ)))
  clear _used
  refine wpAnyH_ready (rs := [5]) (by kernel_rfl) (by simp) ?_
  refine AllReadyH.cons (o := opN ops13_1 5) (by kernel_rfl) (fun K hK => ?_) ?_
  · obtain ⟨o, e⟩ : ∃ o, o = opN ops13_1 5 := ⟨_, rfl⟩
    rw [← e]
    conv at e => rhs; whnf
    subst e
    go_simp
    have hL' := liveB_lit hL 1 #[iv x.set, iv x.lo, iv x.hi] 82 3 1 (by unfold maxLen; omega) rfl
    exact hK.out _ _ (hS _ hL'.1) (fun _ => st13_1_0_2_5 hm hmb hC hS hQ hL')
  exact AllReadyH.nil


set_option maxRecDepth 1000000 in
set_option maxHeartbeats 2000000 in
theorem st13_1_0_5 {Q : Exit → Act → World → Prop} {V : World} {xb m capL : Nat} {L : Option Addr} {x : Wgh} {C : List Value} {z0 z2 z3 z4 z6 z7 z8 z9 z10 z11 z12 z13 z14 z15 z16 z17 z18 z19 z20 z21 z22 z24 z25 z27 z28 z29 z30 z31 z32 z33 z34 z35 z36 z37 z38 z39 z40 z41 z42 z43 z44 z45 z46 z47 z48 z49 z50 z51 z52 z53 z54 z55 z56 z57 z58 z59 z60 z61 z62 z63 z64 z65 z66 z67 z68 z69 z70 z71 z72 z73 z74 z75 z76 z77 z78 z79 z80 z81 z82 z83 z84 z85 z86 z87 z88 z89 z90 z91 z92 z93 z94 z95 z96 z97 z98 z99 z100 z101 z102 z103 z104 z105 z106 z107 z108 z109 z110 z111 z112 z113 z114 z115 z116 z117 z118 z119 z120 z121 z122 z123 z124 z125 z126 z127 z128 z129 z130 z131 z132 z133 z134 z135 z136 z137 z138 z139 z140 z141 z142 z143 z144 z145 z146 z147 z148 z149 z150 z151 z152 z153 z154 z155 z156 z157 z158 z159 z160 z161 z162 z163 z164 z165 z166 z167 z168 : Value}
    (hm : m + 1 ≤ maxLen) (hmb : (m + 1) * 24 ≤ 140737488355328) (hC : Srcs V 3 (.slice L m capL) m C) (hS : ∀ W, Below V.heap.size V W → W.cell? ⟨xb, 0, none⟩ = some (iv x.set) ∧ W.cell? ⟨xb, 1, none⟩ = some (iv x.lo) ∧ W.cell? ⟨xb, 2, none⟩ = some (iv x.hi))
    (hQ : ∀ u22 u23 u24 u25 u26 u27 u28 v' W', LiveB V W' [some ⟨v', 82, 3, m + 1, C ++ [iv x.set, iv x.lo, iv x.hi]⟩, none, none, none] → Q .normal ⟨#[z0, .slice L m capL, z2, z3, z4, .pointer (some ⟨xb, 0, none⟩), z6, v', z8, z9, z10, z11, z12, z13, z14, z15, z16, z17, z18, z19, z20, z21, u22, u23, u24, u25, u26, u27, u28, z29, z30, z31, z32, z33, z34, z35, z36, z37, z38, z39, z40, z41, z42, z43, z44, z45, z46, z47, z48, z49, z50, z51, z52, z53, z54, z55, z56, z57, z58, z59, z60, z61, z62, z63, z64, z65, z66, z67, z68, z69, z70, z71, z72, z73, z74, z75, z76, z77, z78, z79, z80, z81, z82, z83, z84, z85, z86, z87, z88, z89, z90, z91, z92, z93, z94, z95, z96, z97, z98, z99, z100, z101, z102, z103, z104, z105, z106, z107, z108, z109, z110, z111, z112, z113, z114, z115, z116, z117, z118, z119, z120, z121, z122, z123, z124, z125, z126, z127, z128, z129, z130, z131, z132, z133, z134, z135, z136, z137, z138, z139, z140, z141, z142, z143, z144, z145, z146, z147, z148, z149, z150, z151, z152, z153, z154, z155, z156, z157, z158, z159, z160, z161, z162, z163, z164, z165, z166, z167, z168], []⟩ W')
    {w : World} (hL : LiveB V w [some ⟨z22, 82, 3, 0, []⟩, some ⟨z27, 82, 3, 1, [iv x.set, iv x.lo, iv x.hi]⟩, none, none]) :
    wpAnyH Try.prog .any ops13_1 (NoPanic Q) (fun W => W.cell? ⟨xb, 0, none⟩ = some (iv x.set) ∧ W.cell? ⟨xb, 1, none⟩ = some (iv x.lo) ∧ W.cell? ⟨xb, 2, none⟩ = some (iv x.hi)) 3 #[true, true, false, true, true, true, false, false] ⟨#[z0, .slice L m capL, z2, z3, z4, .pointer (some ⟨xb, 0, none⟩), z6, z7, z8, z9, z10, z11, z12, z13, z14, z15, z16, z17, z18, z19, z20, z21, z22, .slice L m capL, z24, z25, .agg #[iv x.set, iv x.lo, iv x.hi], z27, z28, z29, z30, z31, z32, z33, z34, z35, z36, z37, z38, z39, z40, z41, z42, z43, z44, z45, z46, z47, z48, z49, z50, z51, z52, z53, z54, z55, z56, z57, z58, z59, z60, z61, z62, z63, z64, z65, z66, z67, z68, z69, z70, z71, z72, z73, z74, z75, z76, z77, z78, z79, z80, z81, z82, z83, z84, z85, z86, z87, z88, z89, z90, z91, z92, z93, z94, z95, z96, z97, z98, z99, z100, z101, z102, z103, z104, z105, z106, z107, z108, z109, z110, z111, z112, z113, z114, z115, z116, z117, z118, z119, z120, z121, z122, z123, z124, z125, z126, z127, z128, z129, z130, z131, z132, z133, z134, z135, z136, z137, z138, z139, z140, z141, z142, z143, z144, z145, z146, z147, z148, z149, z150, z151, z152, z153, z154, z155, z156, z157, z158, z159, z160, z161, z162, z163, z164, z165, z166, z167, z168], []⟩ w := by
  have _used := And.intro hm (And.intro hmb (And.intro hC (And.intro hS hQ)))
  clear _used
  refine wpAnyH_ready (rs := [2]) (by kernel_rfl) (by simp) ?_
  refine AllReadyH.cons (o := opN ops13_1 2) (by kernel_rfl) (fun K hK => ?_) ?_
  · obtain ⟨i4, hi4, hz40, hz41, hz42⟩ := info_parts Try.info82
    refine step_append_live (by rfl) _ _ 28 (by rfl) hL 0 _ rfl i4 _ 24 Try.underlying28 hi4 hz40 hz41 hz42 rfl (Nat.succ_pos _) (by rfl) (.slice L m capL) m _ (by rfl) (srcs_keep hL hC) (by simp only [Nat.zero_add]; exact Nat.le_of_succ_le hm) (by simp only [Nat.zero_add]; exact Nat.le_trans (Nat.mul_le_mul_right 24 (Nat.le_succ m)) hmb) ?_
    intro v' w' hL'
    exact hK.out _ _ (hS _ hL'.1) (fun _ => st13_1_0_2_5 hm hmb hC hS hQ hL')
  exact AllReadyH.nil


set_option maxRecDepth 1000000 in
set_option maxHeartbeats 2000000 in
theorem st13_1_0 {Q : Exit → Act → World → Prop} {V : World} {xb m capL : Nat} {L : Option Addr} {x : Wgh} {C : List Value} {z0 z2 z3 z4 z6 z7 z8 z9 z10 z11 z12 z13 z14 z15 z16 z17 z18 z19 z20 z21 z22 z24 z25 z27 z28 z29 z30 z31 z32 z33 z34 z35 z36 z37 z38 z39 z40 z41 z42 z43 z44 z45 z46 z47 z48 z49 z50 z51 z52 z53 z54 z55 z56 z57 z58 z59 z60 z61 z62 z63 z64 z65 z66 z67 z68 z69 z70 z71 z72 z73 z74 z75 z76 z77 z78 z79 z80 z81 z82 z83 z84 z85 z86 z87 z88 z89 z90 z91 z92 z93 z94 z95 z96 z97 z98 z99 z100 z101 z102 z103 z104 z105 z106 z107 z108 z109 z110 z111 z112 z113 z114 z115 z116 z117 z118 z119 z120 z121 z122 z123 z124 z125 z126 z127 z128 z129 z130 z131 z132 z133 z134 z135 z136 z137 z138 z139 z140 z141 z142 z143 z144 z145 z146 z147 z148 z149 z150 z151 z152 z153 z154 z155 z156 z157 z158 z159 z160 z161 z162 z163 z164 z165 z166 z167 z168 : Value}
    (hm : m + 1 ≤ maxLen) (hmb : (m + 1) * 24 ≤ 140737488355328) (hC : Srcs V 3 (.slice L m capL) m C) (hS : ∀ W, Below V.heap.size V W → W.cell? ⟨xb, 0, none⟩ = some (iv x.set) ∧ W.cell? ⟨xb, 1, none⟩ = some (iv x.lo) ∧ W.cell? ⟨xb, 2, none⟩ = some (iv x.hi))
    (hQ : ∀ u22 u23 u24 u25 u26 u27 u28 v' W', LiveB V W' [some ⟨v', 82, 3, m + 1, C ++ [iv x.set, iv x.lo, iv x.hi]⟩, none, none, none] → Q .normal ⟨#[z0, .slice L m capL, z2, z3, z4, .pointer (some ⟨xb, 0, none⟩), z6, v', z8, z9, z10, z11, z12, z13, z14, z15, z16, z17, z18, z19, z20, z21, u22, u23, u24, u25, u26, u27, u28, z29, z30, z31, z32, z33, z34, z35, z36, z37, z38, z39, z40, z41, z42, z43, z44, z45, z46, z47, z48, z49, z50, z51, z52, z53, z54, z55, z56, z57, z58, z59, z60, z61, z62, z63, z64, z65, z66, z67, z68, z69, z70, z71, z72, z73, z74, z75, z76, z77, z78, z79, z80, z81, z82, z83, z84, z85, z86, z87, z88, z89, z90, z91, z92, z93, z94, z95, z96, z97, z98, z99, z100, z101, z102, z103, z104, z105, z106, z107, z108, z109, z110, z111, z112, z113, z114, z115, z116, z117, z118, z119, z120, z121, z122, z123, z124, z125, z126, z127, z128, z129, z130, z131, z132, z133, z134, z135, z136, z137, z138, z139, z140, z141, z142, z143, z144, z145, z146, z147, z148, z149, z150, z151, z152, z153, z154, z155, z156, z157, z158, z159, z160, z161, z162, z163, z164, z165, z166, z167, z168], []⟩ W')
    {w : World} (hL : LiveB V w [some ⟨z22, 82, 3, 0, []⟩, none, none, none]) :
    wpAnyH Try.prog .any ops13_1 (NoPanic Q) (fun W => W.cell? ⟨xb, 0, none⟩ = some (iv x.set) ∧ W.cell? ⟨xb, 1, none⟩ = some (iv x.lo) ∧ W.cell? ⟨xb, 2, none⟩ = some (iv x.hi)) 4 #[true, true, false, true, true, false, false, false] ⟨#[z0, .slice L m capL, z2, z3, z4, .pointer (some ⟨xb, 0, none⟩), z6, z7, z8, z9, z10, z11, z12, z13, z14, z15, z16, z17, z18, z19, z20, z21, z22, .slice L m capL, z24, z25, .agg #[iv x.set, iv x.lo, iv x.hi], z27, z28, z29, z30, z31, z32, z33, z34, z35, z36, z37, z38, z39, z40, z41, z42, z43, z44, z45, z46, z47, z48, z49, z50, z51, z52, z53, z54, z55, z56, z57, z58, z59, z60, z61, z62, z63, z64, z65, z66, z67, z68, z69, z70, z71, z72, z73, z74, z75, z76, z77, z78, z79, z80, z81, z82, z83, z84, z85, z86, z87, z88, z89, z90, z91, z92, z93, z94, z95, z96, z97, z98, z99, z100, z101, z102, z103, z104, z105, z106, z107, z108, z109, z110, z111, z112, z113, z114, z115, z116, z117, z118, z119, z120, z121, z122, z123, z124, z125, z126, z127, z128, z129, z130, z131, z132, z133, z134, z135, z136, z137, z138, z139, z140, z141, z142, z143, z144, z145, z146, z147, z148, z149, z150, z151, z152, z153, z154, z155, z156, z157, z158, z159, z160, z161, z162, z163, z164, z165, z166, z167, z168], []⟩ w := by
  have _used := And.intro hm (And.intro hmb (And.intro hC (And.intro hS hQ)))
  clear _used
  refine wpAnyH_ready (rs := [2, 5]) (by kernel_rfl) (by simp) ?_
  refine AllReadyH.cons (o := opN ops13_1 2) (by kernel_rfl) (fun K hK => ?_) ?_
  · obtain ⟨i4, hi4, hz40, hz41, hz42⟩ := info_parts Try.info82
    refine step_append_live (by rfl) _ _ 28 (by rfl) hL 0 _ rfl i4 _ 24 Try.underlying28 hi4 hz40 hz41 hz42 rfl (Nat.succ_pos _) (by rfl) (.slice L m capL) m _ (by rfl) (srcs_keep hL hC) (by simp only [Nat.zero_add]; exact Nat.le_of_succ_le hm) (by simp only [Nat.zero_add]; exact Nat.le_trans (Nat.mul_le_mul_right 24 (Nat.le_succ m)) hmb) ?_
    intro v' w' hL'
    exact hK.out _ _ (hS _ hL'.1) (fun _ => st13_1_0_2 hm hmb hC hS hQ hL')
  refine AllReadyH.cons (o := opN ops13_1 5) (by kernel_rfl) (fun K hK => ?_) ?_
  · obtain ⟨o, e⟩ : ∃ o, o = opN ops13_1 5 := ⟨_, rfl⟩
    rw [← e]
    conv at e => rhs; whnf
    subst e
    go_simp
    have hL' := liveB_lit hL 1 #[iv x.set, iv x.lo, iv x.hi] 82 3 1 (by unfold maxLen; omega) rfl
    exact hK.out _ _ (hS _ hL'.1) (fun _ => st13_1_0_5 hm hmb hC hS hQ hL')
  exact AllReadyH.nil


set_option maxRecDepth 1000000 in
set_option maxHeartbeats 2000000 in
theorem st13_1_5 {Q : Exit → Act → World → Prop} {V : World} {xb m capL : Nat} {L : Option Addr} {x : Wgh} {C : List Value} {z0 z2 z3 z4 z6 z7 z8 z9 z10 z11 z12 z13 z14 z15 z16 z17 z18 z19 z20 z21 z22 z24 z25 z27 z28 z29 z30 z31 z32 z33 z34 z35 z36 z37 z38 z39 z40 z41 z42 z43 z44 z45 z46 z47 z48 z49 z50 z51 z52 z53 z54 z55 z56 z57 z58 z59 z60 z61 z62 z63 z64 z65 z66 z67 z68 z69 z70 z71 z72 z73 z74 z75 z76 z77 z78 z79 z80 z81 z82 z83 z84 z85 z86 z87 z88 z89 z90 z91 z92 z93 z94 z95 z96 z97 z98 z99 z100 z101 z102 z103 z104 z105 z106 z107 z108 z109 z110 z111 z112 z113 z114 z115 z116 z117 z118 z119 z120 z121 z122 z123 z124 z125 z126 z127 z128 z129 z130 z131 z132 z133 z134 z135 z136 z137 z138 z139 z140 z141 z142 z143 z144 z145 z146 z147 z148 z149 z150 z151 z152 z153 z154 z155 z156 z157 z158 z159 z160 z161 z162 z163 z164 z165 z166 z167 z168 : Value}
    (hm : m + 1 ≤ maxLen) (hmb : (m + 1) * 24 ≤ 140737488355328) (hC : Srcs V 3 (.slice L m capL) m C) (hS : ∀ W, Below V.heap.size V W → W.cell? ⟨xb, 0, none⟩ = some (iv x.set) ∧ W.cell? ⟨xb, 1, none⟩ = some (iv x.lo) ∧ W.cell? ⟨xb, 2, none⟩ = some (iv x.hi))
    (hQ : ∀ u22 u23 u24 u25 u26 u27 u28 v' W', LiveB V W' [some ⟨v', 82, 3, m + 1, C ++ [iv x.set, iv x.lo, iv x.hi]⟩, none, none, none] → Q .normal ⟨#[z0, .slice L m capL, z2, z3, z4, .pointer (some ⟨xb, 0, none⟩), z6, v', z8, z9, z10, z11, z12, z13, z14, z15, z16, z17, z18, z19, z20, z21, u22, u23, u24, u25, u26, u27, u28, z29, z30, z31, z32, z33, z34, z35, z36, z37, z38, z39, z40, z41, z42, z43, z44, z45, z46, z47, z48, z49, z50, z51, z52, z53, z54, z55, z56, z57, z58, z59, z60, z61, z62, z63, z64, z65, z66, z67, z68, z69, z70, z71, z72, z73, z74, z75, z76, z77, z78, z79, z80, z81, z82, z83, z84, z85, z86, z87, z88, z89, z90, z91, z92, z93, z94, z95, z96, z97, z98, z99, z100, z101, z102, z103, z104, z105, z106, z107, z108, z109, z110, z111, z112, z113, z114, z115, z116, z117, z118, z119, z120, z121, z122, z123, z124, z125, z126, z127, z128, z129, z130, z131, z132, z133, z134, z135, z136, z137, z138, z139, z140, z141, z142, z143, z144, z145, z146, z147, z148, z149, z150, z151, z152, z153, z154, z155, z156, z157, z158, z159, z160, z161, z162, z163, z164, z165, z166, z167, z168], []⟩ W')
    {w : World} (hL : LiveB V w [none, some ⟨z27, 82, 3, 1, [iv x.set, iv x.lo, iv x.hi]⟩, none, none]) :
    wpAnyH Try.prog .any ops13_1 (NoPanic Q) (fun W => W.cell? ⟨xb, 0, none⟩ = some (iv x.set) ∧ W.cell? ⟨xb, 1, none⟩ = some (iv x.lo) ∧ W.cell? ⟨xb, 2, none⟩ = some (iv x.hi)) 4 #[false, true, false, true, true, true, false, false] ⟨#[z0, .slice L m capL, z2, z3, z4, .pointer (some ⟨xb, 0, none⟩), z6, z7, z8, z9, z10, z11, z12, z13, z14, z15, z16, z17, z18, z19, z20, z21, z22, .slice L m capL, z24, z25, .agg #[iv x.set, iv x.lo, iv x.hi], z27, z28, z29, z30, z31, z32, z33, z34, z35, z36, z37, z38, z39, z40, z41, z42, z43, z44, z45, z46, z47, z48, z49, z50, z51, z52, z53, z54, z55, z56, z57, z58, z59, z60, z61, z62, z63, z64, z65, z66, z67, z68, z69, z70, z71, z72, z73, z74, z75, z76, z77, z78, z79, z80, z81, z82, z83, z84, z85, z86, z87, z88, z89, z90, z91, z92, z93, z94, z95, z96, z97, z98, z99, z100, z101, z102, z103, z104, z105, z106, z107, z108, z109, z110, z111, z112, z113, z114, z115, z116, z117, z118, z119, z120, z121, z122, z123, z124, z125, z126, z127, z128, z129, z130, z131, z132, z133, z134, z135, z136, z137, z138, z139, z140, z141, z142, z143, z144, z145, z146, z147, z148, z149, z150, z151, z152, z153, z154, z155, z156, z157, z158, z159, z160, z161, z162, z163, z164, z165, z166, z167, z168], []⟩ w := by
  have _used := And.intro hm (And.intro hmb (And.intro hC (And.intro hS hQ)))
  clear _used
  refine wpAnyH_ready (rs := [0]) (by kernel_rfl) (by simp) ?_
  refine AllReadyH.cons (o := opN ops13_1 0) (by kernel_rfl) (fun K hK => ?_) ?_
  · obtain ⟨o, e⟩ : ∃ o, o = opN ops13_1 0 := ⟨_, rfl⟩
    rw [← e]
    conv at e => rhs; whnf
    subst e
    go_simp
    have hL' := liveB_lit hL 0 #[] 82 3 0 (by unfold maxLen; omega) rfl
    exact hK.out _ _ (hS _ hL'.1) (fun _ => st13_1_0_5 hm hmb hC hS hQ hL')
  exact AllReadyH.nil


set_option maxRecDepth 1000000 in
set_option maxHeartbeats 2000000 in
theorem st13_1_e {Q : Exit → Act → World → Prop} {V : World} {xb m capL : Nat} {L : Option Addr} {x : Wgh} {C : List Value} {z0 z2 z3 z4 z6 z7 z8 z9 z10 z11 z12 z13 z14 z15 z16 z17 z18 z19 z20 z21 z22 z24 z25 z27 z28 z29 z30 z31 z32 z33 z34 z35 z36 z37 z38 z39 z40 z41 z42 z43 z44 z45 z46 z47 z48 z49 z50 z51 z52 z53 z54 z55 z56 z57 z58 z59 z60 z61 z62 z63 z64 z65 z66 z67 z68 z69 z70 z71 z72 z73 z74 z75 z76 z77 z78 z79 z80 z81 z82 z83 z84 z85 z86 z87 z88 z89 z90 z91 z92 z93 z94 z95 z96 z97 z98 z99 z100 z101 z102 z103 z104 z105 z106 z107 z108 z109 z110 z111 z112 z113 z114 z115 z116 z117 z118 z119 z120 z121 z122 z123 z124 z125 z126 z127 z128 z129 z130 z131 z132 z133 z134 z135 z136 z137 z138 z139 z140 z141 z142 z143 z144 z145 z146 z147 z148 z149 z150 z151 z152 z153 z154 z155 z156 z157 z158 z159 z160 z161 z162 z163 z164 z165 z166 z167 z168 : Value}
    (hm : m + 1 ≤ maxLen) (hmb : (m + 1) * 24 ≤ 140737488355328) (hC : Srcs V 3 (.slice L m capL) m C) (hS : ∀ W, Below V.heap.size V W → W.cell? ⟨xb, 0, none⟩ = some (iv x.set) ∧ W.cell? ⟨xb, 1, none⟩ = some (iv x.lo) ∧ W.cell? ⟨xb, 2, none⟩ = some (iv x.hi))
    (hQ : ∀ u22 u23 u24 u25 u26 u27 u28 v' W', LiveB V W' [some ⟨v', 82, 3, m + 1, C ++ [iv x.set, iv x.lo, iv x.hi]⟩, none, none, none] → Q .normal ⟨#[z0, .slice L m capL, z2, z3, z4, .pointer (some ⟨xb, 0, none⟩), z6, v', z8, z9, z10, z11, z12, z13, z14, z15, z16, z17, z18, z19, z20, z21, u22, u23, u24, u25, u26, u27, u28, z29, z30, z31, z32, z33, z34, z35, z36, z37, z38, z39, z40, z41, z42, z43, z44, z45, z46, z47, z48, z49, z50, z51, z52, z53, z54, z55, z56, z57, z58, z59, z60, z61, z62, z63, z64, z65, z66, z67, z68, z69, z70, z71, z72, z73, z74, z75, z76, z77, z78, z79, z80, z81, z82, z83, z84, z85, z86, z87, z88, z89, z90, z91, z92, z93, z94, z95, z96, z97, z98, z99, z100, z101, z102, z103, z104, z105, z106, z107, z108, z109, z110, z111, z112, z113, z114, z115, z116, z117, z118, z119, z120, z121, z122, z123, z124, z125, z126, z127, z128, z129, z130, z131, z132, z133, z134, z135, z136, z137, z138, z139, z140, z141, z142, z143, z144, z145, z146, z147, z148, z149, z150, z151, z152, z153, z154, z155, z156, z157, z158, z159, z160, z161, z162, z163, z164, z165, z166, z167, z168], []⟩ W')
    {w : World} (hL : LiveB V w [none, none, none, none]) :
    wpAnyH Try.prog .any ops13_1 (NoPanic Q) (fun W => W.cell? ⟨xb, 0, none⟩ = some (iv x.set) ∧ W.cell? ⟨xb, 1, none⟩ = some (iv x.lo) ∧ W.cell? ⟨xb, 2, none⟩ = some (iv x.hi)) 5 #[false, true, false, true, true, false, false, false] ⟨#[z0, .slice L m capL, z2, z3, z4, .pointer (some ⟨xb, 0, none⟩), z6, z7, z8, z9, z10, z11, z12, z13, z14, z15, z16, z17, z18, z19, z20, z21, z22, .slice L m capL, z24, z25, .agg #[iv x.set, iv x.lo, iv x.hi], z27, z28, z29, z30, z31, z32, z33, z34, z35, z36, z37, z38, z39, z40, z41, z42, z43, z44, z45, z46, z47, z48, z49, z50, z51, z52, z53, z54, z55, z56, z57, z58, z59, z60, z61, z62, z63, z64, z65, z66, z67, z68, z69, z70, z71, z72, z73, z74, z75, z76, z77, z78, z79, z80, z81, z82, z83, z84, z85, z86, z87, z88, z89, z90, z91, z92, z93, z94, z95, z96, z97, z98, z99, z100, z101, z102, z103, z104, z105, z106, z107, z108, z109, z110, z111, z112, z113, z114, z115, z116, z117, z118, z119, z120, z121, z122, z123, z124, z125, z126, z127, z128, z129, z130, z131, z132, z133, z134, z135, z136, z137, z138, z139, z140, z141, z142, z143, z144, z145, z146, z147, z148, z149, z150, z151, z152, z153, z154, z155, z156, z157, z158, z159, z160, z161, z162, z163, z164, z165, z166, z167, z168], []⟩ w := by
  have _used := And.intro hm (And.intro hmb (And.intro hC (And.intro hS hQ)))
  clear _used
  refine wpAnyH_ready (rs := [0, 5]) (by kernel_rfl) (by simp) ?_
  refine AllReadyH.cons (o := opN ops13_1 0) (by kernel_rfl) (fun K hK => ?_) ?_
  · obtain ⟨o, e⟩ : ∃ o, o = opN ops13_1 0 := ⟨_, rfl⟩
    rw [← e]
    conv at e => rhs; whnf
    subst e
    go_simp
    have hL' := liveB_lit hL 0 #[] 82 3 0 (by unfold maxLen; omega) rfl
    exact hK.out _ _ (hS _ hL'.1) (fun _ => st13_1_0 hm hmb hC hS hQ hL')
  refine AllReadyH.cons (o := opN ops13_1 5) (by kernel_rfl) (fun K hK => ?_) ?_
  · obtain ⟨o, e⟩ : ∃ o, o = opN ops13_1 5 := ⟨_, rfl⟩
    rw [← e]
    conv at e => rhs; whnf
    subst e
    go_simp
    have hL' := liveB_lit hL 1 #[iv x.set, iv x.lo, iv x.hi] 82 3 1 (by unfold maxLen; omega) rfl
    exact hK.out _ _ (hS _ hL'.1) (fun _ => st13_1_5 hm hmb hC hS hQ hL')
  exact AllReadyH.nil


set_option maxRecDepth 1000000 in
set_option maxHeartbeats 4000000 in
theorem reg13_1 {Q : Exit → Act → World → Prop} {V : World} {xb m capL : Nat} {L : Option Addr} {x : Wgh} {C : List Value} {z0 z2 z3 z4 z6 z7 z8 z9 z10 z11 z12 z13 z14 z15 z16 z17 z18 z19 z20 z21 z22 z23 z24 z25 z26 z27 z28 z29 z30 z31 z32 z33 z34 z35 z36 z37 z38 z39 z40 z41 z42 z43 z44 z45 z46 z47 z48 z49 z50 z51 z52 z53 z54 z55 z56 z57 z58 z59 z60 z61 z62 z63 z64 z65 z66 z67 z68 z69 z70 z71 z72 z73 z74 z75 z76 z77 z78 z79 z80 z81 z82 z83 z84 z85 z86 z87 z88 z89 z90 z91 z92 z93 z94 z95 z96 z97 z98 z99 z100 z101 z102 z103 z104 z105 z106 z107 z108 z109 z110 z111 z112 z113 z114 z115 z116 z117 z118 z119 z120 z121 z122 z123 z124 z125 z126 z127 z128 z129 z130 z131 z132 z133 z134 z135 z136 z137 z138 z139 z140 z141 z142 z143 z144 z145 z146 z147 z148 z149 z150 z151 z152 z153 z154 z155 z156 z157 z158 z159 z160 z161 z162 z163 z164 z165 z166 z167 z168 : Value}
    (hm : m + 1 ≤ maxLen) (hmb : (m + 1) * 24 ≤ 140737488355328) (hC : Srcs V 3 (.slice L m capL) m C) (hS : ∀ W, Below V.heap.size V W → W.cell? ⟨xb, 0, none⟩ = some (iv x.set) ∧ W.cell? ⟨xb, 1, none⟩ = some (iv x.lo) ∧ W.cell? ⟨xb, 2, none⟩ = some (iv x.hi))
    (hQ : ∀ u22 u23 u24 u25 u26 u27 u28 v' W', LiveB V W' [some ⟨v', 82, 3, m + 1, C ++ [iv x.set, iv x.lo, iv x.hi]⟩, none, none, none] → Q .normal ⟨#[z0, .slice L m capL, z2, z3, z4, .pointer (some ⟨xb, 0, none⟩), z6, v', z8, z9, z10, z11, z12, z13, z14, z15, z16, z17, z18, z19, z20, z21, u22, u23, u24, u25, u26, u27, u28, z29, z30, z31, z32, z33, z34, z35, z36, z37, z38, z39, z40, z41, z42, z43, z44, z45, z46, z47, z48, z49, z50, z51, z52, z53, z54, z55, z56, z57, z58, z59, z60, z61, z62, z63, z64, z65, z66, z67, z68, z69, z70, z71, z72, z73, z74, z75, z76, z77, z78, z79, z80, z81, z82, z83, z84, z85, z86, z87, z88, z89, z90, z91, z92, z93, z94, z95, z96, z97, z98, z99, z100, z101, z102, z103, z104, z105, z106, z107, z108, z109, z110, z111, z112, z113, z114, z115, z116, z117, z118, z119, z120, z121, z122, z123, z124, z125, z126, z127, z128, z129, z130, z131, z132, z133, z134, z135, z136, z137, z138, z139, z140, z141, z142, z143, z144, z145, z146, z147, z148, z149, z150, z151, z152, z153, z154, z155, z156, z157, z158, z159, z160, z161, z162, z163, z164, z165, z166, z167, z168], []⟩ W') :
    (regionOf Try.f13 1).wp Try.prog Q ⟨#[z0, .slice L m capL, z2, z3, z4, .pointer (some ⟨xb, 0, none⟩), z6, z7, z8, z9, z10, z11, z12, z13, z14, z15, z16, z17, z18, z19, z20, z21, z22, z23, z24, z25, z26, z27, z28, z29, z30, z31, z32, z33, z34, z35, z36, z37, z38, z39, z40, z41, z42, z43, z44, z45, z46, z47, z48, z49, z50, z51, z52, z53, z54, z55, z56, z57, z58, z59, z60, z61, z62, z63, z64, z65, z66, z67, z68, z69, z70, z71, z72, z73, z74, z75, z76, z77, z78, z79, z80, z81, z82, z83, z84, z85, z86, z87, z88, z89, z90, z91, z92, z93, z94, z95, z96, z97, z98, z99, z100, z101, z102, z103, z104, z105, z106, z107, z108, z109, z110, z111, z112, z113, z114, z115, z116, z117, z118, z119, z120, z121, z122, z123, z124, z125, z126, z127, z128, z129, z130, z131, z132, z133, z134, z135, z136, z137, z138, z139, z140, z141, z142, z143, z144, z145, z146, z147, z148, z149, z150, z151, z152, z153, z154, z155, z156, z157, z158, z159, z160, z161, z162, z163, z164, z165, z166, z167, z168], []⟩ V := by
  have e : regionOf Try.f13 1 = Code.region 1 ops13_1 true := by kernel_rfl
  rw [e]
  refine wp_region_noPanic ?_
  refine wp_region_held_drew (S := (fun W => W.cell? ⟨xb, 0, none⟩ = some (iv x.set) ∧ W.cell? ⟨xb, 1, none⟩ = some (iv x.lo) ∧ W.cell? ⟨xb, 2, none⟩ = some (iv x.hi))) (by kernel_rfl) (hS _ liveB_start.1) (fun hHeld => ?_)
  have hsz : ops13_1.size = 8 := by kernel_rfl
  have hrep : Array.replicate 8 false = #[false, false, false, false, false, false, false, false] := by kernel_rfl
  rw [hsz, hrep]
  clear e hsz hrep
  obtain ⟨o, e0⟩ : ∃ o, o = opN ops13_1 1 := ⟨_, rfl⟩
  have e := e0
  conv at e => rhs; whnf
  refine wpAnyH_take (i := 1) (oi := o) (v := .slice L m capL) (by rw [e0]; kernel_rfl) (by kernel_rfl) (by kernel_rfl) (by kernel_rfl) (fun _ _ _ h => h) (Or.inl ⟨by rw [e]; rfl, ?_⟩) (by assumption) ?_
  · clear e0
    subst e
    intro w hSw
    obtain ⟨k0, k1, k2⟩ := hSw
    go_simp
  clear e0
  subst e
  (try simp only [Act.put, List.setIfInBounds_toArray, List.set_cons_zero, List.set_cons_succ])
  obtain ⟨o, e0⟩ : ∃ o, o = opN ops13_1 3 := ⟨_, rfl⟩
  have e := e0
  conv at e => rhs; whnf
  refine wpAnyH_take (i := 3) (oi := o) (v := .pointer (some ⟨xb, 0, none⟩)) (by rw [e0]; kernel_rfl) (by kernel_rfl) (by kernel_rfl) (by kernel_rfl) (fun _ _ _ h => h) (Or.inl ⟨by rw [e]; rfl, ?_⟩) (by assumption) ?_
  · clear e0
    subst e
    intro w hSw
    obtain ⟨k0, k1, k2⟩ := hSw
    go_simp
  clear e0
  subst e
  (try simp only [Act.put, List.setIfInBounds_toArray, List.set_cons_zero, List.set_cons_succ])
  obtain ⟨o, e0⟩ : ∃ o, o = opN ops13_1 4 := ⟨_, rfl⟩
  have e := e0
  conv at e => rhs; whnf
  refine wpAnyH_take (i := 4) (oi := o) (v := .agg #[iv x.set, iv x.lo, iv x.hi]) (by rw [e0]; kernel_rfl) (by kernel_rfl) (by kernel_rfl) (by kernel_rfl) (fun _ _ _ h => h) (Or.inl ⟨by rw [e]; rfl, ?_⟩) (by assumption) ?_
  · clear e0
    subst e
    intro w hSw
    obtain ⟨k0, k1, k2⟩ := hSw
    go_simp
  clear e0
  subst e
  (try simp only [Act.put, List.setIfInBounds_toArray, List.set_cons_zero, List.set_cons_succ])
  exact st13_1_e hm hmb hC hS hQ liveB_start
end Go.Proofs.Ytojgdallodmanaa
