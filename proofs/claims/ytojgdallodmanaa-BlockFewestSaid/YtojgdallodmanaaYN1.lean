/- BlockFewest: the regions of a further joint. Printed by mkN1.py. -/
import Derived.Deep.RegionHeld3
import Derived.Test.YtojgdallodmanaaZf22f08
import Derived.Test.YtojgdallodmanaaZ8049c1
import Derived.Test.YtojgdallodmanaaZ2caf35
import Derived.Test.YtojgdallodmanaaZ9acd8a
namespace Go.Proofs.Ytojgdallodmanaa
open Go.RowKit

theorem Try.info79 : (Try.prog.info? 79).map (fun i => (i.zero, i.size, i.bytes)) = some (some (.agg #[.int .i64 0, .int .i64 0]), 2, 16) := by kernel_rfl
noncomputable def ops12_37 : Array Oper := opsOf (regionOf Try.f12 37)
set_option maxRecDepth 1000000 in
set_option maxHeartbeats 4000000 in
theorem reg12_37 {Q : Exit → Act → World → Prop} {V : World} {pb xb n cap ja jb a b : Nat} {A : Option Addr} {z0 z1 z2 z4 z6 z7 z8 z9 z10 z11 z12 z13 z14 z15 z16 z17 z18 z19 z20 z21 z22 z23 z24 z25 z26 z27 z28 z29 z30 z31 z32 z33 z34 z35 z36 z37 z38 z39 z40 z41 z42 z43 z44 z45 z46 z47 z48 z49 z50 z51 z52 z53 z54 z55 z56 z57 z58 z59 z60 z61 z62 z63 z64 z65 z66 z67 z68 z69 z70 z71 z72 z73 z74 z75 z76 z77 z78 z79 z80 z81 z82 z83 z84 z85 z86 z87 z88 z89 z90 z91 z92 z93 z94 z95 z96 z97 z98 z99 z100 z101 z102 z103 z104 z105 z106 z107 z108 z109 z110 z111 z112 z113 z114 z115 z116 z117 z118 z119 z120 z121 z122 z123 z124 z125 z126 z127 z128 z129 z130 z131 z132 z133 z134 z135 z136 z137 z138 z139 z140 z141 z142 z143 z144 z145 z146 z147 z148 z149 z150 z151 z152 z153 z154 z155 z156 z157 z158 z159 z160 z161 z162 z163 z164 z165 z166 z167 z168 z169 z170 z171 z172 z173 z174 z175 z176 z177 z178 z179 z180 z181 z182 z183 z184 z185 z186 z187 z188 z189 z190 z191 z192 z193 z194 z195 z196 z197 z198 z199 z200 z201 z202 z203 z204 z205 z206 z207 z208 z209 z210 z211 z212 z213 z214 z215 z216 z217 z218 z219 z220 z221 z222 z223 z224 z225 z226 z227 : Value} (hja : ja < 256) (hjb : jb < 256) (hn : 0 < n) (hn8 : n ≤ 8) (ha : (ja : Int) % (n : Int) = (a : Int)) (hb : (jb : Int) % (n : Int) = (b : Int))
    (hS : ∀ W, Below V.heap.size V W → W.cell? ⟨pb, 0, none⟩ = some (.slice A n cap) ∧ W.cell? ⟨xb, 2, none⟩ = some (.int .u8 ja) ∧ W.cell? ⟨xb, 3, none⟩ = some (.int .u8 jb))
    (hQ : ∀ gj u168 u169 u170 u171 u172 u173 u174 u175 u176 u177 u178 u179 u180 u181 u182 u183 u184 wx, Below V.heap.size V wx → V.heap.size ≤ gj → Blk wx gj 79 #[.int .i64 (a : Int), .int .i64 (b : Int)] → Q .normal ⟨#[z0, z1, z2, .pointer (some ⟨pb, 0, none⟩), z4, .pointer (some ⟨xb, 0, none⟩), z6, z7, z8, z9, z10, z11, z12, z13, z14, z15, z16, z17, z18, z19, z20, z21, z22, .pointer (some ⟨gj, 0, none⟩), z24, z25, z26, z27, z28, z29, z30, z31, z32, z33, z34, z35, z36, z37, z38, z39, z40, z41, z42, z43, z44, z45, z46, z47, z48, z49, z50, z51, z52, z53, z54, z55, z56, z57, z58, z59, z60, z61, z62, z63, z64, z65, z66, z67, z68, z69, z70, z71, z72, z73, z74, z75, z76, z77, z78, z79, z80, z81, z82, z83, z84, z85, z86, z87, z88, z89, z90, z91, z92, z93, z94, z95, z96, z97, z98, z99, z100, z101, z102, z103, z104, z105, z106, z107, z108, z109, z110, z111, z112, z113, z114, z115, z116, z117, z118, z119, z120, z121, z122, z123, z124, z125, z126, z127, z128, z129, z130, z131, z132, z133, z134, z135, z136, z137, z138, z139, z140, z141, z142, z143, z144, z145, z146, z147, z148, z149, z150, z151, z152, z153, z154, z155, z156, z157, z158, z159, z160, z161, z162, z163, z164, z165, z166, z167, u168, u169, u170, u171, u172, u173, u174, u175, u176, u177, u178, u179, u180, u181, u182, u183, u184, z185, z186, z187, z188, z189, z190, z191, z192, z193, z194, z195, z196, z197, z198, z199, z200, z201, z202, z203, z204, z205, z206, z207, z208, z209, z210, z211, z212, z213, z214, z215, z216, z217, z218, z219, z220, z221, z222, z223, z224, z225, z226, z227], []⟩ wx) :
    (regionOf Try.f12 37).wp Try.prog Q ⟨#[z0, z1, z2, .pointer (some ⟨pb, 0, none⟩), z4, .pointer (some ⟨xb, 0, none⟩), z6, z7, z8, z9, z10, z11, z12, z13, z14, z15, z16, z17, z18, z19, z20, z21, z22, z23, z24, z25, z26, z27, z28, z29, z30, z31, z32, z33, z34, z35, z36, z37, z38, z39, z40, z41, z42, z43, z44, z45, z46, z47, z48, z49, z50, z51, z52, z53, z54, z55, z56, z57, z58, z59, z60, z61, z62, z63, z64, z65, z66, z67, z68, z69, z70, z71, z72, z73, z74, z75, z76, z77, z78, z79, z80, z81, z82, z83, z84, z85, z86, z87, z88, z89, z90, z91, z92, z93, z94, z95, z96, z97, z98, z99, z100, z101, z102, z103, z104, z105, z106, z107, z108, z109, z110, z111, z112, z113, z114, z115, z116, z117, z118, z119, z120, z121, z122, z123, z124, z125, z126, z127, z128, z129, z130, z131, z132, z133, z134, z135, z136, z137, z138, z139, z140, z141, z142, z143, z144, z145, z146, z147, z148, z149, z150, z151, z152, z153, z154, z155, z156, z157, z158, z159, z160, z161, z162, z163, z164, z165, z166, z167, z168, z169, z170, z171, z172, z173, z174, z175, z176, z177, z178, z179, z180, z181, z182, z183, z184, z185, z186, z187, z188, z189, z190, z191, z192, z193, z194, z195, z196, z197, z198, z199, z200, z201, z202, z203, z204, z205, z206, z207, z208, z209, z210, z211, z212, z213, z214, z215, z216, z217, z218, z219, z220, z221, z222, z223, z224, z225, z226, z227], []⟩ V := by
  have hnz : ((n : Int) == 0) = false := by rw [beq_eq_false_iff_ne]; omega
  have hnn : ¬ n = 0 := by omega
  have hwa : IntKind.i64.wrap (ja : Int) = (ja : Int) := by rw [IntKind.wrap_i64]; omega
  have hwb : IntKind.i64.wrap (jb : Int) = (jb : Int) := by rw [IntKind.wrap_i64]; omega
  have hta : (ja : Int).tmod (n : Int) = (a : Int) := by rw [Int.tmod_eq_emod_of_nonneg (by omega)]; exact ha
  have htb : (jb : Int).tmod (n : Int) = (b : Int) := by rw [Int.tmod_eq_emod_of_nonneg (by omega)]; exact hb
  have HB : Below V.heap.size V V.drew := belowDq (belowR V)
  have e : regionOf Try.f12 37 = Code.region 37 ops12_37 true := by kernel_rfl
  rw [e]
  refine wp_region_noPanic ?_
  refine wp_region_held_drew (S := (fun W => W.cell? ⟨pb, 0, none⟩ = some (.slice A n cap) ∧ W.cell? ⟨xb, 2, none⟩ = some (.int .u8 ja) ∧ W.cell? ⟨xb, 3, none⟩ = some (.int .u8 jb))) (by kernel_rfl) (hS _ HB) (fun hHeld => ?_)
  have hsz : ops12_37.size = 19 := by kernel_rfl
  have hrep : Array.replicate 19 false = #[false, false, false, false, false, false, false, false, false, false, false, false, false, false, false, false, false, false, false] := by kernel_rfl
  rw [hsz, hrep]
  clear e hsz hrep
  generalize V.drew = V0 at HB hHeld ⊢
  obtain ⟨o, e0⟩ : ∃ o, o = opN ops12_37 0 := ⟨_, rfl⟩
  have e := e0
  conv at e => rhs; whnf
  refine wpAnyH_take (i := 0) (oi := o) (v := .pointer (some ⟨xb, 2, none⟩)) (by rw [e0]; kernel_rfl) (by kernel_rfl) (by kernel_rfl) (by kernel_rfl) (fun _ _ _ h => h) (Or.inl ⟨by rw [e]; rfl, ?_⟩) (by assumption) ?_
  · clear e0
    subst e
    intro w hSw
    obtain ⟨k0, k1, k2⟩ := hSw
    go_simp
  clear e0
  subst e
  (try simp only [Act.put, List.setIfInBounds_toArray, List.set_cons_zero, List.set_cons_succ])
  obtain ⟨o, e0⟩ : ∃ o, o = opN ops12_37 1 := ⟨_, rfl⟩
  have e := e0
  conv at e => rhs; whnf
  refine wpAnyH_take (i := 1) (oi := o) (v := .pointer (some ⟨xb, 2, none⟩)) (by rw [e0]; kernel_rfl) (by kernel_rfl) (by kernel_rfl) (by kernel_rfl) (fun _ _ _ h => h) (Or.inl ⟨by rw [e]; rfl, ?_⟩) (by assumption) ?_
  · clear e0
    subst e
    intro w hSw
    obtain ⟨k0, k1, k2⟩ := hSw
    go_simp
  clear e0
  subst e
  (try simp only [Act.put, List.setIfInBounds_toArray, List.set_cons_zero, List.set_cons_succ])
  obtain ⟨o, e0⟩ : ∃ o, o = opN ops12_37 2 := ⟨_, rfl⟩
  have e := e0
  conv at e => rhs; whnf
  refine wpAnyH_take (i := 2) (oi := o) (v := .int .u8 (ja : Int)) (by rw [e0]; kernel_rfl) (by kernel_rfl) (by kernel_rfl) (by kernel_rfl) (fun _ _ _ h => h) (Or.inl ⟨by rw [e]; rfl, ?_⟩) (by assumption) ?_
  · clear e0
    subst e
    intro w hSw
    obtain ⟨k0, k1, k2⟩ := hSw
    go_simp
  clear e0
  subst e
  (try simp only [Act.put, List.setIfInBounds_toArray, List.set_cons_zero, List.set_cons_succ])
  obtain ⟨o, e0⟩ : ∃ o, o = opN ops12_37 3 := ⟨_, rfl⟩
  have e := e0
  conv at e => rhs; whnf
  refine wpAnyH_take (i := 3) (oi := o) (v := .int .i64 (ja : Int)) (by rw [e0]; kernel_rfl) (by kernel_rfl) (by kernel_rfl) (by kernel_rfl) (fun _ _ _ h => h) (Or.inl ⟨by rw [e]; rfl, ?_⟩) (by assumption) ?_
  · clear e0
    subst e
    intro w hSw
    obtain ⟨k0, k1, k2⟩ := hSw
    go_simp
  clear e0
  subst e
  (try simp only [Act.put, List.setIfInBounds_toArray, List.set_cons_zero, List.set_cons_succ])
  obtain ⟨o, e0⟩ : ∃ o, o = opN ops12_37 4 := ⟨_, rfl⟩
  have e := e0
  conv at e => rhs; whnf
  refine wpAnyH_take (i := 4) (oi := o) (v := .pointer (some ⟨pb, 0, none⟩)) (by rw [e0]; kernel_rfl) (by kernel_rfl) (by kernel_rfl) (by kernel_rfl) (fun _ _ _ h => h) (Or.inl ⟨by rw [e]; rfl, ?_⟩) (by assumption) ?_
  · clear e0
    subst e
    intro w hSw
    obtain ⟨k0, k1, k2⟩ := hSw
    go_simp
  clear e0
  subst e
  (try simp only [Act.put, List.setIfInBounds_toArray, List.set_cons_zero, List.set_cons_succ])
  obtain ⟨o, e0⟩ : ∃ o, o = opN ops12_37 5 := ⟨_, rfl⟩
  have e := e0
  conv at e => rhs; whnf
  refine wpAnyH_take (i := 5) (oi := o) (v := .slice A n cap) (by rw [e0]; kernel_rfl) (by kernel_rfl) (by kernel_rfl) (by kernel_rfl) (fun _ _ _ h => h) (Or.inl ⟨by rw [e]; rfl, ?_⟩) (by assumption) ?_
  · clear e0
    subst e
    intro w hSw
    obtain ⟨k0, k1, k2⟩ := hSw
    go_simp
  clear e0
  subst e
  (try simp only [Act.put, List.setIfInBounds_toArray, List.set_cons_zero, List.set_cons_succ])
  obtain ⟨o, e0⟩ : ∃ o, o = opN ops12_37 6 := ⟨_, rfl⟩
  have e := e0
  conv at e => rhs; whnf
  refine wpAnyH_take (i := 6) (oi := o) (v := .int .i64 (n : Int)) (by rw [e0]; kernel_rfl) (by kernel_rfl) (by kernel_rfl) (by kernel_rfl) (fun _ _ _ h => h) (Or.inl ⟨by rw [e]; rfl, ?_⟩) (by assumption) ?_
  · clear e0
    subst e
    intro w hSw
    obtain ⟨k0, k1, k2⟩ := hSw
    go_simp
  clear e0
  subst e
  (try simp only [Act.put, List.setIfInBounds_toArray, List.set_cons_zero, List.set_cons_succ])
  obtain ⟨o, e0⟩ : ∃ o, o = opN ops12_37 7 := ⟨_, rfl⟩
  have e := e0
  conv at e => rhs; whnf
  refine wpAnyH_take (i := 7) (oi := o) (v := .int .i64 (a : Int)) (by rw [e0]; kernel_rfl) (by kernel_rfl) (by kernel_rfl) (by kernel_rfl) (fun _ _ _ h => h) (Or.inl ⟨by rw [e]; rfl, ?_⟩) (by assumption) ?_
  · clear e0
    subst e
    intro w hSw
    obtain ⟨k0, k1, k2⟩ := hSw
    go_simp
  clear e0
  subst e
  (try simp only [Act.put, List.setIfInBounds_toArray, List.set_cons_zero, List.set_cons_succ])
  obtain ⟨o, e0⟩ : ∃ o, o = opN ops12_37 8 := ⟨_, rfl⟩
  have e := e0
  conv at e => rhs; whnf
  refine wpAnyH_take (i := 8) (oi := o) (v := .pointer (some ⟨xb, 2, none⟩)) (by rw [e0]; kernel_rfl) (by kernel_rfl) (by kernel_rfl) (by kernel_rfl) (fun _ _ _ h => h) (Or.inl ⟨by rw [e]; rfl, ?_⟩) (by assumption) ?_
  · clear e0
    subst e
    intro w hSw
    obtain ⟨k0, k1, k2⟩ := hSw
    go_simp
  clear e0
  subst e
  (try simp only [Act.put, List.setIfInBounds_toArray, List.set_cons_zero, List.set_cons_succ])
  obtain ⟨o, e0⟩ : ∃ o, o = opN ops12_37 9 := ⟨_, rfl⟩
  have e := e0
  conv at e => rhs; whnf
  refine wpAnyH_take (i := 9) (oi := o) (v := .pointer (some ⟨xb, 3, none⟩)) (by rw [e0]; kernel_rfl) (by kernel_rfl) (by kernel_rfl) (by kernel_rfl) (fun _ _ _ h => h) (Or.inl ⟨by rw [e]; rfl, ?_⟩) (by assumption) ?_
  · clear e0
    subst e
    intro w hSw
    obtain ⟨k0, k1, k2⟩ := hSw
    go_simp
  clear e0
  subst e
  (try simp only [Act.put, List.setIfInBounds_toArray, List.set_cons_zero, List.set_cons_succ])
  obtain ⟨o, e0⟩ : ∃ o, o = opN ops12_37 10 := ⟨_, rfl⟩
  have e := e0
  conv at e => rhs; whnf
  refine wpAnyH_take (i := 10) (oi := o) (v := .int .u8 (jb : Int)) (by rw [e0]; kernel_rfl) (by kernel_rfl) (by kernel_rfl) (by kernel_rfl) (fun _ _ _ h => h) (Or.inl ⟨by rw [e]; rfl, ?_⟩) (by assumption) ?_
  · clear e0
    subst e
    intro w hSw
    obtain ⟨k0, k1, k2⟩ := hSw
    go_simp
  clear e0
  subst e
  (try simp only [Act.put, List.setIfInBounds_toArray, List.set_cons_zero, List.set_cons_succ])
  obtain ⟨o, e0⟩ : ∃ o, o = opN ops12_37 11 := ⟨_, rfl⟩
  have e := e0
  conv at e => rhs; whnf
  refine wpAnyH_take (i := 11) (oi := o) (v := .int .i64 (jb : Int)) (by rw [e0]; kernel_rfl) (by kernel_rfl) (by kernel_rfl) (by kernel_rfl) (fun _ _ _ h => h) (Or.inl ⟨by rw [e]; rfl, ?_⟩) (by assumption) ?_
  · clear e0
    subst e
    intro w hSw
    obtain ⟨k0, k1, k2⟩ := hSw
    go_simp
  clear e0
  subst e
  (try simp only [Act.put, List.setIfInBounds_toArray, List.set_cons_zero, List.set_cons_succ])
  obtain ⟨o, e0⟩ : ∃ o, o = opN ops12_37 12 := ⟨_, rfl⟩
  have e := e0
  conv at e => rhs; whnf
  refine wpAnyH_take (i := 12) (oi := o) (v := .pointer (some ⟨pb, 0, none⟩)) (by rw [e0]; kernel_rfl) (by kernel_rfl) (by kernel_rfl) (by kernel_rfl) (fun _ _ _ h => h) (Or.inl ⟨by rw [e]; rfl, ?_⟩) (by assumption) ?_
  · clear e0
    subst e
    intro w hSw
    obtain ⟨k0, k1, k2⟩ := hSw
    go_simp
  clear e0
  subst e
  (try simp only [Act.put, List.setIfInBounds_toArray, List.set_cons_zero, List.set_cons_succ])
  obtain ⟨o, e0⟩ : ∃ o, o = opN ops12_37 13 := ⟨_, rfl⟩
  have e := e0
  conv at e => rhs; whnf
  refine wpAnyH_take (i := 13) (oi := o) (v := .slice A n cap) (by rw [e0]; kernel_rfl) (by kernel_rfl) (by kernel_rfl) (by kernel_rfl) (fun _ _ _ h => h) (Or.inl ⟨by rw [e]; rfl, ?_⟩) (by assumption) ?_
  · clear e0
    subst e
    intro w hSw
    obtain ⟨k0, k1, k2⟩ := hSw
    go_simp
  clear e0
  subst e
  (try simp only [Act.put, List.setIfInBounds_toArray, List.set_cons_zero, List.set_cons_succ])
  obtain ⟨o, e0⟩ : ∃ o, o = opN ops12_37 14 := ⟨_, rfl⟩
  have e := e0
  conv at e => rhs; whnf
  refine wpAnyH_take (i := 14) (oi := o) (v := .int .i64 (n : Int)) (by rw [e0]; kernel_rfl) (by kernel_rfl) (by kernel_rfl) (by kernel_rfl) (fun _ _ _ h => h) (Or.inl ⟨by rw [e]; rfl, ?_⟩) (by assumption) ?_
  · clear e0
    subst e
    intro w hSw
    obtain ⟨k0, k1, k2⟩ := hSw
    go_simp
  clear e0
  subst e
  (try simp only [Act.put, List.setIfInBounds_toArray, List.set_cons_zero, List.set_cons_succ])
  obtain ⟨o, e0⟩ : ∃ o, o = opN ops12_37 15 := ⟨_, rfl⟩
  have e := e0
  conv at e => rhs; whnf
  refine wpAnyH_take (i := 15) (oi := o) (v := .int .i64 (b : Int)) (by rw [e0]; kernel_rfl) (by kernel_rfl) (by kernel_rfl) (by kernel_rfl) (fun _ _ _ h => h) (Or.inl ⟨by rw [e]; rfl, ?_⟩) (by assumption) ?_
  · clear e0
    subst e
    intro w hSw
    obtain ⟨k0, k1, k2⟩ := hSw
    go_simp
  clear e0
  subst e
  (try simp only [Act.put, List.setIfInBounds_toArray, List.set_cons_zero, List.set_cons_succ])
  obtain ⟨o, e0⟩ : ∃ o, o = opN ops12_37 16 := ⟨_, rfl⟩
  have e := e0
  conv at e => rhs; whnf
  refine wpAnyH_take (i := 16) (oi := o) (v := .agg #[.int .i64 (a : Int), .int .i64 (b : Int)]) (by rw [e0]; kernel_rfl) (by kernel_rfl) (by kernel_rfl) (by kernel_rfl) (fun _ _ _ h => h) (Or.inl ⟨by rw [e]; rfl, ?_⟩) (by assumption) ?_
  · clear e0
    subst e
    intro w hSw
    obtain ⟨k0, k1, k2⟩ := hSw
    go_simp
  clear e0
  subst e
  (try simp only [Act.put, List.setIfInBounds_toArray, List.set_cons_zero, List.set_cons_succ])
  refine wpAnyH_ready (rs := [17]) (by kernel_rfl) (by simp) ?_
  refine AllReadyH.cons (o := opN ops12_37 17) (by kernel_rfl) (fun K hK => ?_) AllReadyH.nil
  obtain ⟨o, e⟩ : ∃ o, o = opN ops12_37 17 := ⟨_, rfl⟩
  rw [← e]
  conv at e => rhs; whnf
  subst e
  go_simp
  refine hK.out _ _ (hS _ (belowA HB _)) (fun hHeld => ?_)
  clear hK
  (try simp only [List.setIfInBounds_toArray, List.set_cons_zero, List.set_cons_succ])
  refine wpAnyH_ready (rs := [18]) (by kernel_rfl) (by simp) ?_
  refine AllReadyH.cons (o := opN ops12_37 18) (by kernel_rfl) (fun K hK => ?_) AllReadyH.nil
  obtain ⟨o, e⟩ : ∃ o, o = opN ops12_37 18 := ⟨_, rfl⟩
  rw [← e]
  conv at e => rhs; whnf
  subst e
  have hb0 : Below V.heap.size V (V0.alloc (.cells #[.int .i64 0, .int .i64 0] 79)) := belowA HB _
  have bk : Blk (V0.alloc (.cells #[.int .i64 0, .int .i64 0] 79)) V0.heap.size 79 #[.int .i64 0, .int .i64 0] := Blk.new V0 79 _
  have hg := HB.size
  generalize V0.alloc (.cells #[.int .i64 0, .int .i64 0] 79) = V1 at hb0 bk hHeld ⊢
  generalize V0.heap.size = gj at bk hg ⊢
  have c0 : V1.cell? ⟨gj, 0, none⟩ = some (.int .i64 0) := bk.cell 0
  have c1 : V1.cell? ⟨gj, 1, none⟩ = some (.int .i64 0) := bk.cell 1
  have f0 := bk.frozen 0
  have f1 := bk.frozen 1
  have bk2 : Blk ((V1.setCell ⟨gj, 0, none⟩ (.int .i64 (a : Int))).setCell ⟨gj, 1, none⟩ (.int .i64 (b : Int))) gj 79 #[.int .i64 (a : Int), .int .i64 (b : Int)] := by
    have := (bk.set_ 0 (.int .i64 (a : Int))).set_ 1 (.int .i64 (b : Int))
    simpa using this
  have hb2 : Below V.heap.size V ((V1.setCell ⟨gj, 0, none⟩ (.int .i64 (a : Int))).setCell ⟨gj, 1, none⟩ (.int .i64 (b : Int))) := belowS (belowS hb0 hg _) hg _
  go_simp
  refine hK.out _ _ (hS _ hb2) (fun hHeld => ?_)
  clear hK
  (try simp only [List.setIfInBounds_toArray, List.set_cons_zero, List.set_cons_succ])
  refine wpAnyH_done (by kernel_rfl) ?_ _
  exact NoPanic.normal (hQ gj _ _ _ _ _ _ _ _ _ _ _ _ _ _ _ _ _ _ hb2 hg bk2)

noncomputable def ops12_38 : Array Oper := opsOf (regionOf Try.f12 38)

set_option maxRecDepth 1000000 in
set_option maxHeartbeats 2000000 in
theorem st12_38_0_3_15 {Q : Exit → Act → World → Prop} {V : World} {pb gh gj m capJ : Nat} {J : Option Addr} {a b lo hi : Int} {C : List Value} {z0 z1 z2 z4 z5 z6 z7 z8 z9 z10 z11 z12 z13 z14 z15 z16 z17 z18 z19 z20 z21 z24 z25 z26 z27 z28 z29 z30 z31 z32 z33 z34 z35 z36 z37 z38 z39 z40 z41 z42 z43 z44 z45 z46 z47 z48 z49 z50 z51 z52 z53 z54 z55 z56 z57 z58 z59 z60 z61 z62 z63 z64 z65 z66 z67 z68 z69 z70 z71 z72 z73 z74 z75 z76 z77 z78 z79 z80 z81 z82 z83 z84 z85 z86 z87 z88 z89 z90 z91 z92 z93 z94 z95 z96 z97 z98 z99 z100 z101 z102 z103 z104 z105 z106 z107 z108 z109 z110 z111 z112 z113 z114 z115 z116 z117 z118 z119 z120 z121 z122 z123 z124 z125 z126 z127 z128 z129 z130 z131 z132 z133 z134 z135 z136 z137 z138 z139 z140 z141 z142 z143 z144 z145 z146 z147 z148 z149 z150 z151 z152 z153 z154 z155 z156 z157 z158 z159 z160 z161 z162 z163 z164 z165 z166 z167 z168 z169 z170 z171 z172 z173 z174 z175 z176 z177 z178 z179 z180 z181 z182 z183 z184 z185 z186 z188 z189 z190 z191 z192 z193 z194 z195 z196 z197 z198 z200 z201 z202 z203 z204 z205 z206 z207 z208 z209 z210 z211 z212 z213 z214 z215 z216 z217 z218 z219 z220 z221 z222 z223 z224 z225 z226 z227 : Value}
    (hm : m ≤ 12) (hC : Srcs V 2 (.slice J m capJ) m C) (hS : ∀ W, Below V.heap.size V W → W.cell? ⟨pb, 1, none⟩ = some (.slice J m capJ) ∧ W.cell? ⟨gj, 0, none⟩ = some (.int .i64 a) ∧ W.cell? ⟨gj, 1, none⟩ = some (.int .i64 b)) (hgp : gh ≠ pb) (hgj : gh ≠ gj) (hgc : ∀ W, Below V.heap.size V W → W.cell? ⟨gh, 1, none⟩ = some (.slice J m capJ) ∧ W.frozen? ⟨gh, 1, none⟩ = false)
    (hQ : ∀ u185 u186 u187 u188 u189 u190 u191 u192 u193 u194 u195 u196 u197 u198 u199 u200 u201 u202 v' W', LiveB V W' [some ⟨v', 79, 2, m + 1, C ++ [.int .i64 lo, .int .i64 hi]⟩, none, none, none] → Q .normal ⟨#[z0, z1, z2, .pointer (some ⟨pb, 0, none⟩), z4, z5, z6, z7, z8, z9, z10, z11, z12, z13, z14, z15, z16, z17, z18, z19, z20, z21, .pointer (some ⟨gh, 0, none⟩), .pointer (some ⟨gj, 0, none⟩), z24, z25, z26, z27, z28, z29, z30, z31, z32, z33, z34, z35, z36, z37, z38, z39, z40, z41, z42, z43, z44, z45, z46, z47, z48, z49, z50, z51, z52, z53, z54, z55, z56, z57, z58, z59, z60, z61, z62, z63, z64, z65, z66, z67, z68, z69, z70, z71, z72, z73, z74, z75, z76, z77, z78, z79, z80, z81, z82, z83, z84, z85, z86, z87, z88, z89, z90, z91, z92, z93, z94, z95, z96, z97, z98, z99, z100, z101, z102, z103, z104, z105, z106, z107, z108, z109, z110, z111, z112, z113, z114, z115, z116, z117, z118, z119, z120, z121, z122, z123, z124, z125, z126, z127, z128, z129, z130, z131, z132, z133, z134, z135, z136, z137, z138, z139, z140, z141, z142, z143, z144, z145, z146, z147, z148, z149, z150, z151, z152, z153, z154, z155, z156, z157, z158, z159, z160, z161, z162, z163, z164, z165, z166, z167, z168, z169, z170, z171, z172, z173, z174, z175, z176, z177, z178, z179, z180, z181, z182, z183, z184, u185, u186, u187, u188, u189, u190, u191, u192, u193, u194, u195, u196, u197, u198, u199, u200, u201, u202, z203, z204, z205, z206, z207, z208, z209, z210, z211, z212, z213, z214, z215, z216, z217, z218, z219, z220, z221, z222, z223, z224, z225, z226, z227], []⟩ (W'.setCell ⟨gh, 1, none⟩ v'))
    {w : World} (hL : LiveB V w [some ⟨z188, 79, 2, 0 + m, [] ++ C⟩, some ⟨z200, 79, 2, 1, [.int .i64 lo, .int .i64 hi]⟩, none, none]) :
    wpAnyH Try.prog .any ops12_38 (NoPanic Q) (fun W => W.cell? ⟨pb, 1, none⟩ = some (.slice J m capJ) ∧ W.cell? ⟨gj, 0, none⟩ = some (.int .i64 a) ∧ W.cell? ⟨gj, 1, none⟩ = some (.int .i64 b)) 3 #[true, true, true, true, true, true, true, true, true, true, true, true, true, true, true, true, false, false, false] ⟨#[z0, z1, z2, .pointer (some ⟨pb, 0, none⟩), z4, z5, z6, z7, z8, z9, z10, z11, z12, z13, z14, z15, z16, z17, z18, z19, z20, z21, .pointer (some ⟨gh, 0, none⟩), .pointer (some ⟨gj, 0, none⟩), z24, z25, z26, z27, z28, z29, z30, z31, z32, z33, z34, z35, z36, z37, z38, z39, z40, z41, z42, z43, z44, z45, z46, z47, z48, z49, z50, z51, z52, z53, z54, z55, z56, z57, z58, z59, z60, z61, z62, z63, z64, z65, z66, z67, z68, z69, z70, z71, z72, z73, z74, z75, z76, z77, z78, z79, z80, z81, z82, z83, z84, z85, z86, z87, z88, z89, z90, z91, z92, z93, z94, z95, z96, z97, z98, z99, z100, z101, z102, z103, z104, z105, z106, z107, z108, z109, z110, z111, z112, z113, z114, z115, z116, z117, z118, z119, z120, z121, z122, z123, z124, z125, z126, z127, z128, z129, z130, z131, z132, z133, z134, z135, z136, z137, z138, z139, z140, z141, z142, z143, z144, z145, z146, z147, z148, z149, z150, z151, z152, z153, z154, z155, z156, z157, z158, z159, z160, z161, z162, z163, z164, z165, z166, z167, z168, z169, z170, z171, z172, z173, z174, z175, z176, z177, z178, z179, z180, z181, z182, z183, z184, z185, z186, .slice J m capJ, z188, z189, z190, z191, z192, z193, z194, z195, z196, z197, z198, .agg #[.int .i64 lo, .int .i64 hi], z200, z201, z202, z203, z204, z205, z206, z207, z208, z209, z210, z211, z212, z213, z214, z215, z216, z217, z218, z219, z220, z221, z222, z223, z224, z225, z226, z227], []⟩ w := by
  have _used := And.intro hm (And.intro hC (And.intro hS (And.intro hgp (And.intro hgj (And.intro hgc hQ)))))
  clear _used
  refine wpAnyH_ready (rs := [16]) (by kernel_rfl) (by simp) ?_
  refine AllReadyH.cons (o := opN ops12_38 16) (by kernel_rfl) (fun K hK => ?_) ?_
  · obtain ⟨o, e⟩ : ∃ o, o = opN ops12_38 16 := ⟨_, rfl⟩
    rw [← e]
    conv at e => rhs; whnf
    subst e
    have hsrc := live_src hL.2 (k := 1) rfl (by simp [Value.oneCell'])
    obtain ⟨i4, hi4, hz40, hz41, hz42⟩ := info_parts Try.info79
    refine step_append_live (by rfl) _ _ 23 (by rfl) hL 0 _ rfl i4 _ 16 Try.underlying23 hi4 hz40 hz41 hz42 rfl (Nat.succ_pos _) (by rfl) _ 1 _ (by rfl) hsrc (by simp only []; unfold maxLen; omega) (by simp only []; omega) ?_
    intro v' w' hL'
    have hL' := liveB_drop hL' 1
    refine hK.out _ _ (hS _ hL'.1) (fun hHeld => ?_)
    clear hK
    (try simp only [List.setIfInBounds_toArray, List.set_cons_zero, List.set_cons_succ])
    obtain ⟨o, e0⟩ : ∃ o, o = opN ops12_38 17 := ⟨_, rfl⟩
    have e := e0
    conv at e => rhs; whnf
    refine wpAnyH_take (i := 17) (oi := o) (v := .pointer (some ⟨gh, 1, none⟩)) (by rw [e0]; kernel_rfl) (by kernel_rfl) (by kernel_rfl) (by kernel_rfl) (fun _ _ _ h => h) (Or.inl ⟨by rw [e]; rfl, ?_⟩) (by assumption) ?_
    · clear e0
      subst e
      intro w hSw
      go_simp
    clear e0
    subst e
    (try simp only [Act.put, List.setIfInBounds_toArray, List.set_cons_zero, List.set_cons_succ])
    refine wpAnyH_ready (rs := [18]) (by kernel_rfl) (by simp) ?_
    refine AllReadyH.cons (o := opN ops12_38 18) (by kernel_rfl) (fun K hK => ?_) AllReadyH.nil
    obtain ⟨g9, c9, hv9, _⟩ := own_form (live_own hL'.2 (i := 0) rfl) (by simp only []; omega)
    simp only [] at hv9
    subst hv9
    simp only [Nat.zero_add, List.nil_append, List.set_cons_zero, List.set_cons_succ] at hL'
    have hLL := Lib.hid hL'
    obtain ⟨hc1, hf1⟩ := hgc _ hL'.1
    obtain ⟨s0, s1, s2⟩ := hHeld
    have HS2 : (fun W => W.cell? ⟨pb, 1, none⟩ = some (.slice J m capJ) ∧ W.cell? ⟨gj, 0, none⟩ = some (.int .i64 a) ∧ W.cell? ⟨gj, 1, none⟩ = some (.int .i64 b)) (w'.setCell ⟨gh, 1, none⟩ (.slice (some ⟨g9, 0, none⟩) (m + 1) c9)) := ⟨keepSet s0 hgp.symm, keepSet s1 hgj.symm, keepSet s2 hgj.symm⟩
    clear hL' hS hgc hL hsrc
    obtain ⟨o, e⟩ : ∃ o, o = opN ops12_38 18 := ⟨_, rfl⟩
    rw [← e]
    conv at e => rhs; whnf
    subst e
    go_simp
    refine hK.out _ _ HS2 (fun hHeld => ?_)
    clear hK
    (try simp only [List.setIfInBounds_toArray, List.set_cons_zero, List.set_cons_succ])
    refine wpAnyH_done (by kernel_rfl) ?_ _
    exact NoPanic.normal (hQ _ _ _ _ _ _ _ _ _ _ _ _ _ _ _ _ _ _ _ _ hLL.out)
  exact AllReadyH.nil


set_option maxRecDepth 1000000 in
set_option maxHeartbeats 2000000 in
theorem st12_38_0_3 {Q : Exit → Act → World → Prop} {V : World} {pb gh gj m capJ : Nat} {J : Option Addr} {a b lo hi : Int} {C : List Value} {z0 z1 z2 z4 z5 z6 z7 z8 z9 z10 z11 z12 z13 z14 z15 z16 z17 z18 z19 z20 z21 z24 z25 z26 z27 z28 z29 z30 z31 z32 z33 z34 z35 z36 z37 z38 z39 z40 z41 z42 z43 z44 z45 z46 z47 z48 z49 z50 z51 z52 z53 z54 z55 z56 z57 z58 z59 z60 z61 z62 z63 z64 z65 z66 z67 z68 z69 z70 z71 z72 z73 z74 z75 z76 z77 z78 z79 z80 z81 z82 z83 z84 z85 z86 z87 z88 z89 z90 z91 z92 z93 z94 z95 z96 z97 z98 z99 z100 z101 z102 z103 z104 z105 z106 z107 z108 z109 z110 z111 z112 z113 z114 z115 z116 z117 z118 z119 z120 z121 z122 z123 z124 z125 z126 z127 z128 z129 z130 z131 z132 z133 z134 z135 z136 z137 z138 z139 z140 z141 z142 z143 z144 z145 z146 z147 z148 z149 z150 z151 z152 z153 z154 z155 z156 z157 z158 z159 z160 z161 z162 z163 z164 z165 z166 z167 z168 z169 z170 z171 z172 z173 z174 z175 z176 z177 z178 z179 z180 z181 z182 z183 z184 z185 z186 z188 z189 z190 z191 z192 z193 z194 z195 z196 z197 z198 z200 z201 z202 z203 z204 z205 z206 z207 z208 z209 z210 z211 z212 z213 z214 z215 z216 z217 z218 z219 z220 z221 z222 z223 z224 z225 z226 z227 : Value}
    (hm : m ≤ 12) (hC : Srcs V 2 (.slice J m capJ) m C) (hS : ∀ W, Below V.heap.size V W → W.cell? ⟨pb, 1, none⟩ = some (.slice J m capJ) ∧ W.cell? ⟨gj, 0, none⟩ = some (.int .i64 a) ∧ W.cell? ⟨gj, 1, none⟩ = some (.int .i64 b)) (hgp : gh ≠ pb) (hgj : gh ≠ gj) (hgc : ∀ W, Below V.heap.size V W → W.cell? ⟨gh, 1, none⟩ = some (.slice J m capJ) ∧ W.frozen? ⟨gh, 1, none⟩ = false)
    (hQ : ∀ u185 u186 u187 u188 u189 u190 u191 u192 u193 u194 u195 u196 u197 u198 u199 u200 u201 u202 v' W', LiveB V W' [some ⟨v', 79, 2, m + 1, C ++ [.int .i64 lo, .int .i64 hi]⟩, none, none, none] → Q .normal ⟨#[z0, z1, z2, .pointer (some ⟨pb, 0, none⟩), z4, z5, z6, z7, z8, z9, z10, z11, z12, z13, z14, z15, z16, z17, z18, z19, z20, z21, .pointer (some ⟨gh, 0, none⟩), .pointer (some ⟨gj, 0, none⟩), z24, z25, z26, z27, z28, z29, z30, z31, z32, z33, z34, z35, z36, z37, z38, z39, z40, z41, z42, z43, z44, z45, z46, z47, z48, z49, z50, z51, z52, z53, z54, z55, z56, z57, z58, z59, z60, z61, z62, z63, z64, z65, z66, z67, z68, z69, z70, z71, z72, z73, z74, z75, z76, z77, z78, z79, z80, z81, z82, z83, z84, z85, z86, z87, z88, z89, z90, z91, z92, z93, z94, z95, z96, z97, z98, z99, z100, z101, z102, z103, z104, z105, z106, z107, z108, z109, z110, z111, z112, z113, z114, z115, z116, z117, z118, z119, z120, z121, z122, z123, z124, z125, z126, z127, z128, z129, z130, z131, z132, z133, z134, z135, z136, z137, z138, z139, z140, z141, z142, z143, z144, z145, z146, z147, z148, z149, z150, z151, z152, z153, z154, z155, z156, z157, z158, z159, z160, z161, z162, z163, z164, z165, z166, z167, z168, z169, z170, z171, z172, z173, z174, z175, z176, z177, z178, z179, z180, z181, z182, z183, z184, u185, u186, u187, u188, u189, u190, u191, u192, u193, u194, u195, u196, u197, u198, u199, u200, u201, u202, z203, z204, z205, z206, z207, z208, z209, z210, z211, z212, z213, z214, z215, z216, z217, z218, z219, z220, z221, z222, z223, z224, z225, z226, z227], []⟩ (W'.setCell ⟨gh, 1, none⟩ v'))
    {w : World} (hL : LiveB V w [some ⟨z188, 79, 2, 0 + m, [] ++ C⟩, none, none, none]) :
    wpAnyH Try.prog .any ops12_38 (NoPanic Q) (fun W => W.cell? ⟨pb, 1, none⟩ = some (.slice J m capJ) ∧ W.cell? ⟨gj, 0, none⟩ = some (.int .i64 a) ∧ W.cell? ⟨gj, 1, none⟩ = some (.int .i64 b)) 4 #[true, true, true, true, true, true, true, true, true, true, true, true, true, true, true, false, false, false, false] ⟨#[z0, z1, z2, .pointer (some ⟨pb, 0, none⟩), z4, z5, z6, z7, z8, z9, z10, z11, z12, z13, z14, z15, z16, z17, z18, z19, z20, z21, .pointer (some ⟨gh, 0, none⟩), .pointer (some ⟨gj, 0, none⟩), z24, z25, z26, z27, z28, z29, z30, z31, z32, z33, z34, z35, z36, z37, z38, z39, z40, z41, z42, z43, z44, z45, z46, z47, z48, z49, z50, z51, z52, z53, z54, z55, z56, z57, z58, z59, z60, z61, z62, z63, z64, z65, z66, z67, z68, z69, z70, z71, z72, z73, z74, z75, z76, z77, z78, z79, z80, z81, z82, z83, z84, z85, z86, z87, z88, z89, z90, z91, z92, z93, z94, z95, z96, z97, z98, z99, z100, z101, z102, z103, z104, z105, z106, z107, z108, z109, z110, z111, z112, z113, z114, z115, z116, z117, z118, z119, z120, z121, z122, z123, z124, z125, z126, z127, z128, z129, z130, z131, z132, z133, z134, z135, z136, z137, z138, z139, z140, z141, z142, z143, z144, z145, z146, z147, z148, z149, z150, z151, z152, z153, z154, z155, z156, z157, z158, z159, z160, z161, z162, z163, z164, z165, z166, z167, z168, z169, z170, z171, z172, z173, z174, z175, z176, z177, z178, z179, z180, z181, z182, z183, z184, z185, z186, .slice J m capJ, z188, z189, z190, z191, z192, z193, z194, z195, z196, z197, z198, .agg #[.int .i64 lo, .int .i64 hi], z200, z201, z202, z203, z204, z205, z206, z207, z208, z209, z210, z211, z212, z213, z214, z215, z216, z217, z218, z219, z220, z221, z222, z223, z224, z225, z226, z227], []⟩ w := by
  have _used := And.intro hm (And.intro hC (And.intro hS (And.intro hgp (And.intro hgj (And.intro hgc hQ)))))
  clear _used
  refine wpAnyH_ready (rs := [15]) (by kernel_rfl) (by simp) ?_
  refine AllReadyH.cons (o := opN ops12_38 15) (by kernel_rfl) (fun K hK => ?_) ?_
  · obtain ⟨o, e⟩ : ∃ o, o = opN ops12_38 15 := ⟨_, rfl⟩
    rw [← e]
    conv at e => rhs; whnf
    subst e
    go_simp
    have hL' := liveB_lit hL 1 #[.int .i64 lo, .int .i64 hi] 79 2 1 (by unfold maxLen; omega) rfl
    exact hK.out _ _ (hS _ hL'.1) (fun _ => st12_38_0_3_15 hm hC hS hgp hgj hgc hQ hL')
  exact AllReadyH.nil


set_option maxRecDepth 1000000 in
set_option maxHeartbeats 2000000 in
theorem st12_38_0_15 {Q : Exit → Act → World → Prop} {V : World} {pb gh gj m capJ : Nat} {J : Option Addr} {a b lo hi : Int} {C : List Value} {z0 z1 z2 z4 z5 z6 z7 z8 z9 z10 z11 z12 z13 z14 z15 z16 z17 z18 z19 z20 z21 z24 z25 z26 z27 z28 z29 z30 z31 z32 z33 z34 z35 z36 z37 z38 z39 z40 z41 z42 z43 z44 z45 z46 z47 z48 z49 z50 z51 z52 z53 z54 z55 z56 z57 z58 z59 z60 z61 z62 z63 z64 z65 z66 z67 z68 z69 z70 z71 z72 z73 z74 z75 z76 z77 z78 z79 z80 z81 z82 z83 z84 z85 z86 z87 z88 z89 z90 z91 z92 z93 z94 z95 z96 z97 z98 z99 z100 z101 z102 z103 z104 z105 z106 z107 z108 z109 z110 z111 z112 z113 z114 z115 z116 z117 z118 z119 z120 z121 z122 z123 z124 z125 z126 z127 z128 z129 z130 z131 z132 z133 z134 z135 z136 z137 z138 z139 z140 z141 z142 z143 z144 z145 z146 z147 z148 z149 z150 z151 z152 z153 z154 z155 z156 z157 z158 z159 z160 z161 z162 z163 z164 z165 z166 z167 z168 z169 z170 z171 z172 z173 z174 z175 z176 z177 z178 z179 z180 z181 z182 z183 z184 z185 z186 z188 z189 z190 z191 z192 z193 z194 z195 z196 z197 z198 z200 z201 z202 z203 z204 z205 z206 z207 z208 z209 z210 z211 z212 z213 z214 z215 z216 z217 z218 z219 z220 z221 z222 z223 z224 z225 z226 z227 : Value}
    (hm : m ≤ 12) (hC : Srcs V 2 (.slice J m capJ) m C) (hS : ∀ W, Below V.heap.size V W → W.cell? ⟨pb, 1, none⟩ = some (.slice J m capJ) ∧ W.cell? ⟨gj, 0, none⟩ = some (.int .i64 a) ∧ W.cell? ⟨gj, 1, none⟩ = some (.int .i64 b)) (hgp : gh ≠ pb) (hgj : gh ≠ gj) (hgc : ∀ W, Below V.heap.size V W → W.cell? ⟨gh, 1, none⟩ = some (.slice J m capJ) ∧ W.frozen? ⟨gh, 1, none⟩ = false)
    (hQ : ∀ u185 u186 u187 u188 u189 u190 u191 u192 u193 u194 u195 u196 u197 u198 u199 u200 u201 u202 v' W', LiveB V W' [some ⟨v', 79, 2, m + 1, C ++ [.int .i64 lo, .int .i64 hi]⟩, none, none, none] → Q .normal ⟨#[z0, z1, z2, .pointer (some ⟨pb, 0, none⟩), z4, z5, z6, z7, z8, z9, z10, z11, z12, z13, z14, z15, z16, z17, z18, z19, z20, z21, .pointer (some ⟨gh, 0, none⟩), .pointer (some ⟨gj, 0, none⟩), z24, z25, z26, z27, z28, z29, z30, z31, z32, z33, z34, z35, z36, z37, z38, z39, z40, z41, z42, z43, z44, z45, z46, z47, z48, z49, z50, z51, z52, z53, z54, z55, z56, z57, z58, z59, z60, z61, z62, z63, z64, z65, z66, z67, z68, z69, z70, z71, z72, z73, z74, z75, z76, z77, z78, z79, z80, z81, z82, z83, z84, z85, z86, z87, z88, z89, z90, z91, z92, z93, z94, z95, z96, z97, z98, z99, z100, z101, z102, z103, z104, z105, z106, z107, z108, z109, z110, z111, z112, z113, z114, z115, z116, z117, z118, z119, z120, z121, z122, z123, z124, z125, z126, z127, z128, z129, z130, z131, z132, z133, z134, z135, z136, z137, z138, z139, z140, z141, z142, z143, z144, z145, z146, z147, z148, z149, z150, z151, z152, z153, z154, z155, z156, z157, z158, z159, z160, z161, z162, z163, z164, z165, z166, z167, z168, z169, z170, z171, z172, z173, z174, z175, z176, z177, z178, z179, z180, z181, z182, z183, z184, u185, u186, u187, u188, u189, u190, u191, u192, u193, u194, u195, u196, u197, u198, u199, u200, u201, u202, z203, z204, z205, z206, z207, z208, z209, z210, z211, z212, z213, z214, z215, z216, z217, z218, z219, z220, z221, z222, z223, z224, z225, z226, z227], []⟩ (W'.setCell ⟨gh, 1, none⟩ v'))
    {w : World} (hL : LiveB V w [some ⟨z185, 79, 2, 0, []⟩, some ⟨z200, 79, 2, 1, [.int .i64 lo, .int .i64 hi]⟩, none, none]) :
    wpAnyH Try.prog .any ops12_38 (NoPanic Q) (fun W => W.cell? ⟨pb, 1, none⟩ = some (.slice J m capJ) ∧ W.cell? ⟨gj, 0, none⟩ = some (.int .i64 a) ∧ W.cell? ⟨gj, 1, none⟩ = some (.int .i64 b)) 4 #[true, true, true, false, true, true, true, true, true, true, true, true, true, true, true, true, false, false, false] ⟨#[z0, z1, z2, .pointer (some ⟨pb, 0, none⟩), z4, z5, z6, z7, z8, z9, z10, z11, z12, z13, z14, z15, z16, z17, z18, z19, z20, z21, .pointer (some ⟨gh, 0, none⟩), .pointer (some ⟨gj, 0, none⟩), z24, z25, z26, z27, z28, z29, z30, z31, z32, z33, z34, z35, z36, z37, z38, z39, z40, z41, z42, z43, z44, z45, z46, z47, z48, z49, z50, z51, z52, z53, z54, z55, z56, z57, z58, z59, z60, z61, z62, z63, z64, z65, z66, z67, z68, z69, z70, z71, z72, z73, z74, z75, z76, z77, z78, z79, z80, z81, z82, z83, z84, z85, z86, z87, z88, z89, z90, z91, z92, z93, z94, z95, z96, z97, z98, z99, z100, z101, z102, z103, z104, z105, z106, z107, z108, z109, z110, z111, z112, z113, z114, z115, z116, z117, z118, z119, z120, z121, z122, z123, z124, z125, z126, z127, z128, z129, z130, z131, z132, z133, z134, z135, z136, z137, z138, z139, z140, z141, z142, z143, z144, z145, z146, z147, z148, z149, z150, z151, z152, z153, z154, z155, z156, z157, z158, z159, z160, z161, z162, z163, z164, z165, z166, z167, z168, z169, z170, z171, z172, z173, z174, z175, z176, z177, z178, z179, z180, z181, z182, z183, z184, z185, z186, .slice J m capJ, z188, z189, z190, z191, z192, z193, z194, z195, z196, z197, z198, .agg #[.int .i64 lo, .int .i64 hi], z200, z201, z202, z203, z204, z205, z206, z207, z208, z209, z210, z211, z212, z213, z214, z215, z216, z217, z218, z219, z220, z221, z222, z223, z224, z225, z226, z227], []⟩ w := by
  have _used := And.intro hm (And.intro hC (And.intro hS (And.intro hgp (And.intro hgj (And.intro hgc hQ)))))
  clear _used
  refine wpAnyH_ready (rs := [3]) (by kernel_rfl) (by simp) ?_
  refine AllReadyH.cons (o := opN ops12_38 3) (by kernel_rfl) (fun K hK => ?_) ?_
  · obtain ⟨i4, hi4, hz40, hz41, hz42⟩ := info_parts Try.info79
    refine step_append_live (by rfl) _ _ 23 (by rfl) hL 0 _ rfl i4 _ 16 Try.underlying23 hi4 hz40 hz41 hz42 rfl (Nat.succ_pos _) (by rfl) (.slice J m capJ) m _ (by rfl) (srcs_keep hL hC) (by simp only []; unfold maxLen; omega) (by simp only []; omega) ?_
    intro v' w' hL'
    exact hK.out _ _ (hS _ hL'.1) (fun _ => st12_38_0_3_15 hm hC hS hgp hgj hgc hQ hL')
  exact AllReadyH.nil


set_option maxRecDepth 1000000 in
set_option maxHeartbeats 2000000 in
theorem st12_38_0 {Q : Exit → Act → World → Prop} {V : World} {pb gh gj m capJ : Nat} {J : Option Addr} {a b lo hi : Int} {C : List Value} {z0 z1 z2 z4 z5 z6 z7 z8 z9 z10 z11 z12 z13 z14 z15 z16 z17 z18 z19 z20 z21 z24 z25 z26 z27 z28 z29 z30 z31 z32 z33 z34 z35 z36 z37 z38 z39 z40 z41 z42 z43 z44 z45 z46 z47 z48 z49 z50 z51 z52 z53 z54 z55 z56 z57 z58 z59 z60 z61 z62 z63 z64 z65 z66 z67 z68 z69 z70 z71 z72 z73 z74 z75 z76 z77 z78 z79 z80 z81 z82 z83 z84 z85 z86 z87 z88 z89 z90 z91 z92 z93 z94 z95 z96 z97 z98 z99 z100 z101 z102 z103 z104 z105 z106 z107 z108 z109 z110 z111 z112 z113 z114 z115 z116 z117 z118 z119 z120 z121 z122 z123 z124 z125 z126 z127 z128 z129 z130 z131 z132 z133 z134 z135 z136 z137 z138 z139 z140 z141 z142 z143 z144 z145 z146 z147 z148 z149 z150 z151 z152 z153 z154 z155 z156 z157 z158 z159 z160 z161 z162 z163 z164 z165 z166 z167 z168 z169 z170 z171 z172 z173 z174 z175 z176 z177 z178 z179 z180 z181 z182 z183 z184 z185 z186 z188 z189 z190 z191 z192 z193 z194 z195 z196 z197 z198 z200 z201 z202 z203 z204 z205 z206 z207 z208 z209 z210 z211 z212 z213 z214 z215 z216 z217 z218 z219 z220 z221 z222 z223 z224 z225 z226 z227 : Value}
    (hm : m ≤ 12) (hC : Srcs V 2 (.slice J m capJ) m C) (hS : ∀ W, Below V.heap.size V W → W.cell? ⟨pb, 1, none⟩ = some (.slice J m capJ) ∧ W.cell? ⟨gj, 0, none⟩ = some (.int .i64 a) ∧ W.cell? ⟨gj, 1, none⟩ = some (.int .i64 b)) (hgp : gh ≠ pb) (hgj : gh ≠ gj) (hgc : ∀ W, Below V.heap.size V W → W.cell? ⟨gh, 1, none⟩ = some (.slice J m capJ) ∧ W.frozen? ⟨gh, 1, none⟩ = false)
    (hQ : ∀ u185 u186 u187 u188 u189 u190 u191 u192 u193 u194 u195 u196 u197 u198 u199 u200 u201 u202 v' W', LiveB V W' [some ⟨v', 79, 2, m + 1, C ++ [.int .i64 lo, .int .i64 hi]⟩, none, none, none] → Q .normal ⟨#[z0, z1, z2, .pointer (some ⟨pb, 0, none⟩), z4, z5, z6, z7, z8, z9, z10, z11, z12, z13, z14, z15, z16, z17, z18, z19, z20, z21, .pointer (some ⟨gh, 0, none⟩), .pointer (some ⟨gj, 0, none⟩), z24, z25, z26, z27, z28, z29, z30, z31, z32, z33, z34, z35, z36, z37, z38, z39, z40, z41, z42, z43, z44, z45, z46, z47, z48, z49, z50, z51, z52, z53, z54, z55, z56, z57, z58, z59, z60, z61, z62, z63, z64, z65, z66, z67, z68, z69, z70, z71, z72, z73, z74, z75, z76, z77, z78, z79, z80, z81, z82, z83, z84, z85, z86, z87, z88, z89, z90, z91, z92, z93, z94, z95, z96, z97, z98, z99, z100, z101, z102, z103, z104, z105, z106, z107, z108, z109, z110, z111, z112, z113, z114, z115, z116, z117, z118, z119, z120, z121, z122, z123, z124, z125, z126, z127, z128, z129, z130, z131, z132, z133, z134, z135, z136, z137, z138, z139, z140, z141, z142, z143, z144, z145, z146, z147, z148, z149, z150, z151, z152, z153, z154, z155, z156, z157, z158, z159, z160, z161, z162, z163, z164, z165, z166, z167, z168, z169, z170, z171, z172, z173, z174, z175, z176, z177, z178, z179, z180, z181, z182, z183, z184, u185, u186, u187, u188, u189, u190, u191, u192, u193, u194, u195, u196, u197, u198, u199, u200, u201, u202, z203, z204, z205, z206, z207, z208, z209, z210, z211, z212, z213, z214, z215, z216, z217, z218, z219, z220, z221, z222, z223, z224, z225, z226, z227], []⟩ (W'.setCell ⟨gh, 1, none⟩ v'))
    {w : World} (hL : LiveB V w [some ⟨z185, 79, 2, 0, []⟩, none, none, none]) :
    wpAnyH Try.prog .any ops12_38 (NoPanic Q) (fun W => W.cell? ⟨pb, 1, none⟩ = some (.slice J m capJ) ∧ W.cell? ⟨gj, 0, none⟩ = some (.int .i64 a) ∧ W.cell? ⟨gj, 1, none⟩ = some (.int .i64 b)) 5 #[true, true, true, false, true, true, true, true, true, true, true, true, true, true, true, false, false, false, false] ⟨#[z0, z1, z2, .pointer (some ⟨pb, 0, none⟩), z4, z5, z6, z7, z8, z9, z10, z11, z12, z13, z14, z15, z16, z17, z18, z19, z20, z21, .pointer (some ⟨gh, 0, none⟩), .pointer (some ⟨gj, 0, none⟩), z24, z25, z26, z27, z28, z29, z30, z31, z32, z33, z34, z35, z36, z37, z38, z39, z40, z41, z42, z43, z44, z45, z46, z47, z48, z49, z50, z51, z52, z53, z54, z55, z56, z57, z58, z59, z60, z61, z62, z63, z64, z65, z66, z67, z68, z69, z70, z71, z72, z73, z74, z75, z76, z77, z78, z79, z80, z81, z82, z83, z84, z85, z86, z87, z88, z89, z90, z91, z92, z93, z94, z95, z96, z97, z98, z99, z100, z101, z102, z103, z104, z105, z106, z107, z108, z109, z110, z111, z112, z113, z114, z115, z116, z117, z118, z119, z120, z121, z122, z123, z124, z125, z126, z127, z128, z129, z130, z131, z132, z133, z134, z135, z136, z137, z138, z139, z140, z141, z142, z143, z144, z145, z146, z147, z148, z149, z150, z151, z152, z153, z154, z155, z156, z157, z158, z159, z160, z161, z162, z163, z164, z165, z166, z167, z168, z169, z170, z171, z172, z173, z174, z175, z176, z177, z178, z179, z180, z181, z182, z183, z184, z185, z186, .slice J m capJ, z188, z189, z190, z191, z192, z193, z194, z195, z196, z197, z198, .agg #[.int .i64 lo, .int .i64 hi], z200, z201, z202, z203, z204, z205, z206, z207, z208, z209, z210, z211, z212, z213, z214, z215, z216, z217, z218, z219, z220, z221, z222, z223, z224, z225, z226, z227], []⟩ w := by
  have _used := And.intro hm (And.intro hC (And.intro hS (And.intro hgp (And.intro hgj (And.intro hgc hQ)))))
  clear _used
  refine wpAnyH_ready (rs := [3, 15]) (by kernel_rfl) (by simp) ?_
  refine AllReadyH.cons (o := opN ops12_38 3) (by kernel_rfl) (fun K hK => ?_) ?_
  · obtain ⟨i4, hi4, hz40, hz41, hz42⟩ := info_parts Try.info79
    refine step_append_live (by rfl) _ _ 23 (by rfl) hL 0 _ rfl i4 _ 16 Try.underlying23 hi4 hz40 hz41 hz42 rfl (Nat.succ_pos _) (by rfl) (.slice J m capJ) m _ (by rfl) (srcs_keep hL hC) (by simp only []; unfold maxLen; omega) (by simp only []; omega) ?_
    intro v' w' hL'
    exact hK.out _ _ (hS _ hL'.1) (fun _ => st12_38_0_3 hm hC hS hgp hgj hgc hQ hL')
  refine AllReadyH.cons (o := opN ops12_38 15) (by kernel_rfl) (fun K hK => ?_) ?_
  · obtain ⟨o, e⟩ : ∃ o, o = opN ops12_38 15 := ⟨_, rfl⟩
    rw [← e]
    conv at e => rhs; whnf
    subst e
    go_simp
    have hL' := liveB_lit hL 1 #[.int .i64 lo, .int .i64 hi] 79 2 1 (by unfold maxLen; omega) rfl
    exact hK.out _ _ (hS _ hL'.1) (fun _ => st12_38_0_15 hm hC hS hgp hgj hgc hQ hL')
  exact AllReadyH.nil


set_option maxRecDepth 1000000 in
set_option maxHeartbeats 2000000 in
theorem st12_38_15 {Q : Exit → Act → World → Prop} {V : World} {pb gh gj m capJ : Nat} {J : Option Addr} {a b lo hi : Int} {C : List Value} {z0 z1 z2 z4 z5 z6 z7 z8 z9 z10 z11 z12 z13 z14 z15 z16 z17 z18 z19 z20 z21 z24 z25 z26 z27 z28 z29 z30 z31 z32 z33 z34 z35 z36 z37 z38 z39 z40 z41 z42 z43 z44 z45 z46 z47 z48 z49 z50 z51 z52 z53 z54 z55 z56 z57 z58 z59 z60 z61 z62 z63 z64 z65 z66 z67 z68 z69 z70 z71 z72 z73 z74 z75 z76 z77 z78 z79 z80 z81 z82 z83 z84 z85 z86 z87 z88 z89 z90 z91 z92 z93 z94 z95 z96 z97 z98 z99 z100 z101 z102 z103 z104 z105 z106 z107 z108 z109 z110 z111 z112 z113 z114 z115 z116 z117 z118 z119 z120 z121 z122 z123 z124 z125 z126 z127 z128 z129 z130 z131 z132 z133 z134 z135 z136 z137 z138 z139 z140 z141 z142 z143 z144 z145 z146 z147 z148 z149 z150 z151 z152 z153 z154 z155 z156 z157 z158 z159 z160 z161 z162 z163 z164 z165 z166 z167 z168 z169 z170 z171 z172 z173 z174 z175 z176 z177 z178 z179 z180 z181 z182 z183 z184 z185 z186 z188 z189 z190 z191 z192 z193 z194 z195 z196 z197 z198 z200 z201 z202 z203 z204 z205 z206 z207 z208 z209 z210 z211 z212 z213 z214 z215 z216 z217 z218 z219 z220 z221 z222 z223 z224 z225 z226 z227 : Value}
    (hm : m ≤ 12) (hC : Srcs V 2 (.slice J m capJ) m C) (hS : ∀ W, Below V.heap.size V W → W.cell? ⟨pb, 1, none⟩ = some (.slice J m capJ) ∧ W.cell? ⟨gj, 0, none⟩ = some (.int .i64 a) ∧ W.cell? ⟨gj, 1, none⟩ = some (.int .i64 b)) (hgp : gh ≠ pb) (hgj : gh ≠ gj) (hgc : ∀ W, Below V.heap.size V W → W.cell? ⟨gh, 1, none⟩ = some (.slice J m capJ) ∧ W.frozen? ⟨gh, 1, none⟩ = false)
    (hQ : ∀ u185 u186 u187 u188 u189 u190 u191 u192 u193 u194 u195 u196 u197 u198 u199 u200 u201 u202 v' W', LiveB V W' [some ⟨v', 79, 2, m + 1, C ++ [.int .i64 lo, .int .i64 hi]⟩, none, none, none] → Q .normal ⟨#[z0, z1, z2, .pointer (some ⟨pb, 0, none⟩), z4, z5, z6, z7, z8, z9, z10, z11, z12, z13, z14, z15, z16, z17, z18, z19, z20, z21, .pointer (some ⟨gh, 0, none⟩), .pointer (some ⟨gj, 0, none⟩), z24, z25, z26, z27, z28, z29, z30, z31, z32, z33, z34, z35, z36, z37, z38, z39, z40, z41, z42, z43, z44, z45, z46, z47, z48, z49, z50, z51, z52, z53, z54, z55, z56, z57, z58, z59, z60, z61, z62, z63, z64, z65, z66, z67, z68, z69, z70, z71, z72, z73, z74, z75, z76, z77, z78, z79, z80, z81, z82, z83, z84, z85, z86, z87, z88, z89, z90, z91, z92, z93, z94, z95, z96, z97, z98, z99, z100, z101, z102, z103, z104, z105, z106, z107, z108, z109, z110, z111, z112, z113, z114, z115, z116, z117, z118, z119, z120, z121, z122, z123, z124, z125, z126, z127, z128, z129, z130, z131, z132, z133, z134, z135, z136, z137, z138, z139, z140, z141, z142, z143, z144, z145, z146, z147, z148, z149, z150, z151, z152, z153, z154, z155, z156, z157, z158, z159, z160, z161, z162, z163, z164, z165, z166, z167, z168, z169, z170, z171, z172, z173, z174, z175, z176, z177, z178, z179, z180, z181, z182, z183, z184, u185, u186, u187, u188, u189, u190, u191, u192, u193, u194, u195, u196, u197, u198, u199, u200, u201, u202, z203, z204, z205, z206, z207, z208, z209, z210, z211, z212, z213, z214, z215, z216, z217, z218, z219, z220, z221, z222, z223, z224, z225, z226, z227], []⟩ (W'.setCell ⟨gh, 1, none⟩ v'))
    {w : World} (hL : LiveB V w [none, some ⟨z200, 79, 2, 1, [.int .i64 lo, .int .i64 hi]⟩, none, none]) :
    wpAnyH Try.prog .any ops12_38 (NoPanic Q) (fun W => W.cell? ⟨pb, 1, none⟩ = some (.slice J m capJ) ∧ W.cell? ⟨gj, 0, none⟩ = some (.int .i64 a) ∧ W.cell? ⟨gj, 1, none⟩ = some (.int .i64 b)) 5 #[false, true, true, false, true, true, true, true, true, true, true, true, true, true, true, true, false, false, false] ⟨#[z0, z1, z2, .pointer (some ⟨pb, 0, none⟩), z4, z5, z6, z7, z8, z9, z10, z11, z12, z13, z14, z15, z16, z17, z18, z19, z20, z21, .pointer (some ⟨gh, 0, none⟩), .pointer (some ⟨gj, 0, none⟩), z24, z25, z26, z27, z28, z29, z30, z31, z32, z33, z34, z35, z36, z37, z38, z39, z40, z41, z42, z43, z44, z45, z46, z47, z48, z49, z50, z51, z52, z53, z54, z55, z56, z57, z58, z59, z60, z61, z62, z63, z64, z65, z66, z67, z68, z69, z70, z71, z72, z73, z74, z75, z76, z77, z78, z79, z80, z81, z82, z83, z84, z85, z86, z87, z88, z89, z90, z91, z92, z93, z94, z95, z96, z97, z98, z99, z100, z101, z102, z103, z104, z105, z106, z107, z108, z109, z110, z111, z112, z113, z114, z115, z116, z117, z118, z119, z120, z121, z122, z123, z124, z125, z126, z127, z128, z129, z130, z131, z132, z133, z134, z135, z136, z137, z138, z139, z140, z141, z142, z143, z144, z145, z146, z147, z148, z149, z150, z151, z152, z153, z154, z155, z156, z157, z158, z159, z160, z161, z162, z163, z164, z165, z166, z167, z168, z169, z170, z171, z172, z173, z174, z175, z176, z177, z178, z179, z180, z181, z182, z183, z184, z185, z186, .slice J m capJ, z188, z189, z190, z191, z192, z193, z194, z195, z196, z197, z198, .agg #[.int .i64 lo, .int .i64 hi], z200, z201, z202, z203, z204, z205, z206, z207, z208, z209, z210, z211, z212, z213, z214, z215, z216, z217, z218, z219, z220, z221, z222, z223, z224, z225, z226, z227], []⟩ w := by
  have _used := And.intro hm (And.intro hC (And.intro hS (And.intro hgp (And.intro hgj (And.intro hgc hQ)))))
  clear _used
  refine wpAnyH_ready (rs := [0]) (by kernel_rfl) (by simp) ?_
  refine AllReadyH.cons (o := opN ops12_38 0) (by kernel_rfl) (fun K hK => ?_) ?_
  · obtain ⟨o, e⟩ : ∃ o, o = opN ops12_38 0 := ⟨_, rfl⟩
    rw [← e]
    conv at e => rhs; whnf
    subst e
    go_simp
    have hL' := liveB_lit hL 0 #[] 79 2 0 (by unfold maxLen; omega) rfl
    exact hK.out _ _ (hS _ hL'.1) (fun _ => st12_38_0_15 hm hC hS hgp hgj hgc hQ hL')
  exact AllReadyH.nil


set_option maxRecDepth 1000000 in
set_option maxHeartbeats 2000000 in
theorem st12_38_e {Q : Exit → Act → World → Prop} {V : World} {pb gh gj m capJ : Nat} {J : Option Addr} {a b lo hi : Int} {C : List Value} {z0 z1 z2 z4 z5 z6 z7 z8 z9 z10 z11 z12 z13 z14 z15 z16 z17 z18 z19 z20 z21 z24 z25 z26 z27 z28 z29 z30 z31 z32 z33 z34 z35 z36 z37 z38 z39 z40 z41 z42 z43 z44 z45 z46 z47 z48 z49 z50 z51 z52 z53 z54 z55 z56 z57 z58 z59 z60 z61 z62 z63 z64 z65 z66 z67 z68 z69 z70 z71 z72 z73 z74 z75 z76 z77 z78 z79 z80 z81 z82 z83 z84 z85 z86 z87 z88 z89 z90 z91 z92 z93 z94 z95 z96 z97 z98 z99 z100 z101 z102 z103 z104 z105 z106 z107 z108 z109 z110 z111 z112 z113 z114 z115 z116 z117 z118 z119 z120 z121 z122 z123 z124 z125 z126 z127 z128 z129 z130 z131 z132 z133 z134 z135 z136 z137 z138 z139 z140 z141 z142 z143 z144 z145 z146 z147 z148 z149 z150 z151 z152 z153 z154 z155 z156 z157 z158 z159 z160 z161 z162 z163 z164 z165 z166 z167 z168 z169 z170 z171 z172 z173 z174 z175 z176 z177 z178 z179 z180 z181 z182 z183 z184 z185 z186 z188 z189 z190 z191 z192 z193 z194 z195 z196 z197 z198 z200 z201 z202 z203 z204 z205 z206 z207 z208 z209 z210 z211 z212 z213 z214 z215 z216 z217 z218 z219 z220 z221 z222 z223 z224 z225 z226 z227 : Value}
    (hm : m ≤ 12) (hC : Srcs V 2 (.slice J m capJ) m C) (hS : ∀ W, Below V.heap.size V W → W.cell? ⟨pb, 1, none⟩ = some (.slice J m capJ) ∧ W.cell? ⟨gj, 0, none⟩ = some (.int .i64 a) ∧ W.cell? ⟨gj, 1, none⟩ = some (.int .i64 b)) (hgp : gh ≠ pb) (hgj : gh ≠ gj) (hgc : ∀ W, Below V.heap.size V W → W.cell? ⟨gh, 1, none⟩ = some (.slice J m capJ) ∧ W.frozen? ⟨gh, 1, none⟩ = false)
    (hQ : ∀ u185 u186 u187 u188 u189 u190 u191 u192 u193 u194 u195 u196 u197 u198 u199 u200 u201 u202 v' W', LiveB V W' [some ⟨v', 79, 2, m + 1, C ++ [.int .i64 lo, .int .i64 hi]⟩, none, none, none] → Q .normal ⟨#[z0, z1, z2, .pointer (some ⟨pb, 0, none⟩), z4, z5, z6, z7, z8, z9, z10, z11, z12, z13, z14, z15, z16, z17, z18, z19, z20, z21, .pointer (some ⟨gh, 0, none⟩), .pointer (some ⟨gj, 0, none⟩), z24, z25, z26, z27, z28, z29, z30, z31, z32, z33, z34, z35, z36, z37, z38, z39, z40, z41, z42, z43, z44, z45, z46, z47, z48, z49, z50, z51, z52, z53, z54, z55, z56, z57, z58, z59, z60, z61, z62, z63, z64, z65, z66, z67, z68, z69, z70, z71, z72, z73, z74, z75, z76, z77, z78, z79, z80, z81, z82, z83, z84, z85, z86, z87, z88, z89, z90, z91, z92, z93, z94, z95, z96, z97, z98, z99, z100, z101, z102, z103, z104, z105, z106, z107, z108, z109, z110, z111, z112, z113, z114, z115, z116, z117, z118, z119, z120, z121, z122, z123, z124, z125, z126, z127, z128, z129, z130, z131, z132, z133, z134, z135, z136, z137, z138, z139, z140, z141, z142, z143, z144, z145, z146, z147, z148, z149, z150, z151, z152, z153, z154, z155, z156, z157, z158, z159, z160, z161, z162, z163, z164, z165, z166, z167, z168, z169, z170, z171, z172, z173, z174, z175, z176, z177, z178, z179, z180, z181, z182, z183, z184, u185, u186, u187, u188, u189, u190, u191, u192, u193, u194, u195, u196, u197, u198, u199, u200, u201, u202, z203, z204, z205, z206, z207, z208, z209, z210, z211, z212, z213, z214, z215, z216, z217, z218, z219, z220, z221, z222, z223, z224, z225, z226, z227], []⟩ (W'.setCell ⟨gh, 1, none⟩ v'))
    {w : World} (hL : LiveB V w [none, none, none, none]) :
    wpAnyH Try.prog .any ops12_38 (NoPanic Q) (fun W => W.cell? ⟨pb, 1, none⟩ = some (.slice J m capJ) ∧ W.cell? ⟨gj, 0, none⟩ = some (.int .i64 a) ∧ W.cell? ⟨gj, 1, none⟩ = some (.int .i64 b)) 6 #[false, true, true, false, true, true, true, true, true, true, true, true, true, true, true, false, false, false, false] ⟨#[z0, z1, z2, .pointer (some ⟨pb, 0, none⟩), z4, z5, z6, z7, z8, z9, z10, z11, z12, z13, z14, z15, z16, z17, z18, z19, z20, z21, .pointer (some ⟨gh, 0, none⟩), .pointer (some ⟨gj, 0, none⟩), z24, z25, z26, z27, z28, z29, z30, z31, z32, z33, z34, z35, z36, z37, z38, z39, z40, z41, z42, z43, z44, z45, z46, z47, z48, z49, z50, z51, z52, z53, z54, z55, z56, z57, z58, z59, z60, z61, z62, z63, z64, z65, z66, z67, z68, z69, z70, z71, z72, z73, z74, z75, z76, z77, z78, z79, z80, z81, z82, z83, z84, z85, z86, z87, z88, z89, z90, z91, z92, z93, z94, z95, z96, z97, z98, z99, z100, z101, z102, z103, z104, z105, z106, z107, z108, z109, z110, z111, z112, z113, z114, z115, z116, z117, z118, z119, z120, z121, z122, z123, z124, z125, z126, z127, z128, z129, z130, z131, z132, z133, z134, z135, z136, z137, z138, z139, z140, z141, z142, z143, z144, z145, z146, z147, z148, z149, z150, z151, z152, z153, z154, z155, z156, z157, z158, z159, z160, z161, z162, z163, z164, z165, z166, z167, z168, z169, z170, z171, z172, z173, z174, z175, z176, z177, z178, z179, z180, z181, z182, z183, z184, z185, z186, .slice J m capJ, z188, z189, z190, z191, z192, z193, z194, z195, z196, z197, z198, .agg #[.int .i64 lo, .int .i64 hi], z200, z201, z202, z203, z204, z205, z206, z207, z208, z209, z210, z211, z212, z213, z214, z215, z216, z217, z218, z219, z220, z221, z222, z223, z224, z225, z226, z227], []⟩ w := by
  have _used := And.intro hm (And.intro hC (And.intro hS (And.intro hgp (And.intro hgj (And.intro hgc hQ)))))
  clear _used
  refine wpAnyH_ready (rs := [0, 15]) (by kernel_rfl) (by simp) ?_
  refine AllReadyH.cons (o := opN ops12_38 0) (by kernel_rfl) (fun K hK => ?_) ?_
  · obtain ⟨o, e⟩ : ∃ o, o = opN ops12_38 0 := ⟨_, rfl⟩
    rw [← e]
    conv at e => rhs; whnf
    subst e
    go_simp
    have hL' := liveB_lit hL 0 #[] 79 2 0 (by unfold maxLen; omega) rfl
    exact hK.out _ _ (hS _ hL'.1) (fun _ => st12_38_0 hm hC hS hgp hgj hgc hQ hL')
  refine AllReadyH.cons (o := opN ops12_38 15) (by kernel_rfl) (fun K hK => ?_) ?_
  · obtain ⟨o, e⟩ : ∃ o, o = opN ops12_38 15 := ⟨_, rfl⟩
    rw [← e]
    conv at e => rhs; whnf
    subst e
    go_simp
    have hL' := liveB_lit hL 1 #[.int .i64 lo, .int .i64 hi] 79 2 1 (by unfold maxLen; omega) rfl
    exact hK.out _ _ (hS _ hL'.1) (fun _ => st12_38_15 hm hC hS hgp hgj hgc hQ hL')
  exact AllReadyH.nil


set_option maxRecDepth 1000000 in
set_option maxHeartbeats 4000000 in
theorem reg12_38 {Q : Exit → Act → World → Prop} {V : World} {pb gh gj m capJ : Nat} {J : Option Addr} {a b lo hi : Int} {C : List Value} {z0 z1 z2 z4 z5 z6 z7 z8 z9 z10 z11 z12 z13 z14 z15 z16 z17 z18 z19 z20 z21 z24 z25 z26 z27 z28 z29 z30 z31 z32 z33 z34 z35 z36 z37 z38 z39 z40 z41 z42 z43 z44 z45 z46 z47 z48 z49 z50 z51 z52 z53 z54 z55 z56 z57 z58 z59 z60 z61 z62 z63 z64 z65 z66 z67 z68 z69 z70 z71 z72 z73 z74 z75 z76 z77 z78 z79 z80 z81 z82 z83 z84 z85 z86 z87 z88 z89 z90 z91 z92 z93 z94 z95 z96 z97 z98 z99 z100 z101 z102 z103 z104 z105 z106 z107 z108 z109 z110 z111 z112 z113 z114 z115 z116 z117 z118 z119 z120 z121 z122 z123 z124 z125 z126 z127 z128 z129 z130 z131 z132 z133 z134 z135 z136 z137 z138 z139 z140 z141 z142 z143 z144 z145 z146 z147 z148 z149 z150 z151 z152 z153 z154 z155 z156 z157 z158 z159 z160 z161 z162 z163 z164 z165 z166 z167 z168 z169 z170 z171 z172 z173 z174 z175 z176 z177 z178 z179 z180 z181 z182 z183 z184 z185 z186 z187 z188 z189 z190 z191 z192 z193 z194 z195 z196 z197 z198 z199 z200 z201 z202 z203 z204 z205 z206 z207 z208 z209 z210 z211 z212 z213 z214 z215 z216 z217 z218 z219 z220 z221 z222 z223 z224 z225 z226 z227 : Value} (hlo : min a b = lo) (hhi : max a b = hi)
    (hm : m ≤ 12) (hC : Srcs V 2 (.slice J m capJ) m C) (hS : ∀ W, Below V.heap.size V W → W.cell? ⟨pb, 1, none⟩ = some (.slice J m capJ) ∧ W.cell? ⟨gj, 0, none⟩ = some (.int .i64 a) ∧ W.cell? ⟨gj, 1, none⟩ = some (.int .i64 b)) (hgp : gh ≠ pb) (hgj : gh ≠ gj) (hgc : ∀ W, Below V.heap.size V W → W.cell? ⟨gh, 1, none⟩ = some (.slice J m capJ) ∧ W.frozen? ⟨gh, 1, none⟩ = false)
    (hQ : ∀ u185 u186 u187 u188 u189 u190 u191 u192 u193 u194 u195 u196 u197 u198 u199 u200 u201 u202 v' W', LiveB V W' [some ⟨v', 79, 2, m + 1, C ++ [.int .i64 lo, .int .i64 hi]⟩, none, none, none] → Q .normal ⟨#[z0, z1, z2, .pointer (some ⟨pb, 0, none⟩), z4, z5, z6, z7, z8, z9, z10, z11, z12, z13, z14, z15, z16, z17, z18, z19, z20, z21, .pointer (some ⟨gh, 0, none⟩), .pointer (some ⟨gj, 0, none⟩), z24, z25, z26, z27, z28, z29, z30, z31, z32, z33, z34, z35, z36, z37, z38, z39, z40, z41, z42, z43, z44, z45, z46, z47, z48, z49, z50, z51, z52, z53, z54, z55, z56, z57, z58, z59, z60, z61, z62, z63, z64, z65, z66, z67, z68, z69, z70, z71, z72, z73, z74, z75, z76, z77, z78, z79, z80, z81, z82, z83, z84, z85, z86, z87, z88, z89, z90, z91, z92, z93, z94, z95, z96, z97, z98, z99, z100, z101, z102, z103, z104, z105, z106, z107, z108, z109, z110, z111, z112, z113, z114, z115, z116, z117, z118, z119, z120, z121, z122, z123, z124, z125, z126, z127, z128, z129, z130, z131, z132, z133, z134, z135, z136, z137, z138, z139, z140, z141, z142, z143, z144, z145, z146, z147, z148, z149, z150, z151, z152, z153, z154, z155, z156, z157, z158, z159, z160, z161, z162, z163, z164, z165, z166, z167, z168, z169, z170, z171, z172, z173, z174, z175, z176, z177, z178, z179, z180, z181, z182, z183, z184, u185, u186, u187, u188, u189, u190, u191, u192, u193, u194, u195, u196, u197, u198, u199, u200, u201, u202, z203, z204, z205, z206, z207, z208, z209, z210, z211, z212, z213, z214, z215, z216, z217, z218, z219, z220, z221, z222, z223, z224, z225, z226, z227], []⟩ (W'.setCell ⟨gh, 1, none⟩ v')) :
    (regionOf Try.f12 38).wp Try.prog Q ⟨#[z0, z1, z2, .pointer (some ⟨pb, 0, none⟩), z4, z5, z6, z7, z8, z9, z10, z11, z12, z13, z14, z15, z16, z17, z18, z19, z20, z21, .pointer (some ⟨gh, 0, none⟩), .pointer (some ⟨gj, 0, none⟩), z24, z25, z26, z27, z28, z29, z30, z31, z32, z33, z34, z35, z36, z37, z38, z39, z40, z41, z42, z43, z44, z45, z46, z47, z48, z49, z50, z51, z52, z53, z54, z55, z56, z57, z58, z59, z60, z61, z62, z63, z64, z65, z66, z67, z68, z69, z70, z71, z72, z73, z74, z75, z76, z77, z78, z79, z80, z81, z82, z83, z84, z85, z86, z87, z88, z89, z90, z91, z92, z93, z94, z95, z96, z97, z98, z99, z100, z101, z102, z103, z104, z105, z106, z107, z108, z109, z110, z111, z112, z113, z114, z115, z116, z117, z118, z119, z120, z121, z122, z123, z124, z125, z126, z127, z128, z129, z130, z131, z132, z133, z134, z135, z136, z137, z138, z139, z140, z141, z142, z143, z144, z145, z146, z147, z148, z149, z150, z151, z152, z153, z154, z155, z156, z157, z158, z159, z160, z161, z162, z163, z164, z165, z166, z167, z168, z169, z170, z171, z172, z173, z174, z175, z176, z177, z178, z179, z180, z181, z182, z183, z184, z185, z186, z187, z188, z189, z190, z191, z192, z193, z194, z195, z196, z197, z198, z199, z200, z201, z202, z203, z204, z205, z206, z207, z208, z209, z210, z211, z212, z213, z214, z215, z216, z217, z218, z219, z220, z221, z222, z223, z224, z225, z226, z227], []⟩ V := by
  have e : regionOf Try.f12 38 = Code.region 38 ops12_38 true := by kernel_rfl
  rw [e]
  refine wp_region_noPanic ?_
  refine wp_region_held_drew (S := (fun W => W.cell? ⟨pb, 1, none⟩ = some (.slice J m capJ) ∧ W.cell? ⟨gj, 0, none⟩ = some (.int .i64 a) ∧ W.cell? ⟨gj, 1, none⟩ = some (.int .i64 b))) (by kernel_rfl) (hS _ liveB_start.1) (fun hHeld => ?_)
  have hsz : ops12_38.size = 19 := by kernel_rfl
  have hrep : Array.replicate 19 false = #[false, false, false, false, false, false, false, false, false, false, false, false, false, false, false, false, false, false, false] := by kernel_rfl
  rw [hsz, hrep]
  clear e hsz hrep
  obtain ⟨o, e0⟩ : ∃ o, o = opN ops12_38 1 := ⟨_, rfl⟩
  have e := e0
  conv at e => rhs; whnf
  refine wpAnyH_take (i := 1) (oi := o) (v := .pointer (some ⟨pb, 1, none⟩)) (by rw [e0]; kernel_rfl) (by kernel_rfl) (by kernel_rfl) (by kernel_rfl) (fun _ _ _ h => h) (Or.inl ⟨by rw [e]; rfl, ?_⟩) (by assumption) ?_
  · clear e0
    subst e
    intro w hSw
    obtain ⟨k0, k1, k2⟩ := hSw
    go_simp
  clear e0
  subst e
  (try simp only [Act.put, List.setIfInBounds_toArray, List.set_cons_zero, List.set_cons_succ])
  obtain ⟨o, e0⟩ : ∃ o, o = opN ops12_38 2 := ⟨_, rfl⟩
  have e := e0
  conv at e => rhs; whnf
  refine wpAnyH_take (i := 2) (oi := o) (v := .slice J m capJ) (by rw [e0]; kernel_rfl) (by kernel_rfl) (by kernel_rfl) (by kernel_rfl) (fun _ _ _ h => h) (Or.inl ⟨by rw [e]; rfl, ?_⟩) (by assumption) ?_
  · clear e0
    subst e
    intro w hSw
    obtain ⟨k0, k1, k2⟩ := hSw
    go_simp
  clear e0
  subst e
  (try simp only [Act.put, List.setIfInBounds_toArray, List.set_cons_zero, List.set_cons_succ])
  obtain ⟨o, e0⟩ : ∃ o, o = opN ops12_38 4 := ⟨_, rfl⟩
  have e := e0
  conv at e => rhs; whnf
  refine wpAnyH_take (i := 4) (oi := o) (v := .pointer (some ⟨gj, 0, none⟩)) (by rw [e0]; kernel_rfl) (by kernel_rfl) (by kernel_rfl) (by kernel_rfl) (fun _ _ _ h => h) (Or.inl ⟨by rw [e]; rfl, ?_⟩) (by assumption) ?_
  · clear e0
    subst e
    intro w hSw
    obtain ⟨k0, k1, k2⟩ := hSw
    go_simp
  clear e0
  subst e
  (try simp only [Act.put, List.setIfInBounds_toArray, List.set_cons_zero, List.set_cons_succ])
  obtain ⟨o, e0⟩ : ∃ o, o = opN ops12_38 5 := ⟨_, rfl⟩
  have e := e0
  conv at e => rhs; whnf
  refine wpAnyH_take (i := 5) (oi := o) (v := .int .i64 a) (by rw [e0]; kernel_rfl) (by kernel_rfl) (by kernel_rfl) (by kernel_rfl) (fun _ _ _ h => h) (Or.inl ⟨by rw [e]; rfl, ?_⟩) (by assumption) ?_
  · clear e0
    subst e
    intro w hSw
    obtain ⟨k0, k1, k2⟩ := hSw
    go_simp
  clear e0
  subst e
  (try simp only [Act.put, List.setIfInBounds_toArray, List.set_cons_zero, List.set_cons_succ])
  obtain ⟨o, e0⟩ : ∃ o, o = opN ops12_38 6 := ⟨_, rfl⟩
  have e := e0
  conv at e => rhs; whnf
  refine wpAnyH_take (i := 6) (oi := o) (v := .pointer (some ⟨gj, 1, none⟩)) (by rw [e0]; kernel_rfl) (by kernel_rfl) (by kernel_rfl) (by kernel_rfl) (fun _ _ _ h => h) (Or.inl ⟨by rw [e]; rfl, ?_⟩) (by assumption) ?_
  · clear e0
    subst e
    intro w hSw
    obtain ⟨k0, k1, k2⟩ := hSw
    go_simp
  clear e0
  subst e
  (try simp only [Act.put, List.setIfInBounds_toArray, List.set_cons_zero, List.set_cons_succ])
  obtain ⟨o, e0⟩ : ∃ o, o = opN ops12_38 7 := ⟨_, rfl⟩
  have e := e0
  conv at e => rhs; whnf
  refine wpAnyH_take (i := 7) (oi := o) (v := .int .i64 b) (by rw [e0]; kernel_rfl) (by kernel_rfl) (by kernel_rfl) (by kernel_rfl) (fun _ _ _ h => h) (Or.inl ⟨by rw [e]; rfl, ?_⟩) (by assumption) ?_
  · clear e0
    subst e
    intro w hSw
    obtain ⟨k0, k1, k2⟩ := hSw
    go_simp
  clear e0
  subst e
  (try simp only [Act.put, List.setIfInBounds_toArray, List.set_cons_zero, List.set_cons_succ])
  obtain ⟨o, e0⟩ : ∃ o, o = opN ops12_38 8 := ⟨_, rfl⟩
  have e := e0
  conv at e => rhs; whnf
  refine wpAnyH_take (i := 8) (oi := o) (v := .int .i64 lo) (by rw [e0]; kernel_rfl) (by kernel_rfl) (by kernel_rfl) (by kernel_rfl) (fun _ _ _ h => h) (Or.inl ⟨by rw [e]; rfl, ?_⟩) (by assumption) ?_
  · clear e0
    subst e
    intro w hSw
    obtain ⟨k0, k1, k2⟩ := hSw
    go_simp
  clear e0
  subst e
  (try simp only [Act.put, List.setIfInBounds_toArray, List.set_cons_zero, List.set_cons_succ])
  obtain ⟨o, e0⟩ : ∃ o, o = opN ops12_38 9 := ⟨_, rfl⟩
  have e := e0
  conv at e => rhs; whnf
  refine wpAnyH_take (i := 9) (oi := o) (v := .pointer (some ⟨gj, 0, none⟩)) (by rw [e0]; kernel_rfl) (by kernel_rfl) (by kernel_rfl) (by kernel_rfl) (fun _ _ _ h => h) (Or.inl ⟨by rw [e]; rfl, ?_⟩) (by assumption) ?_
  · clear e0
    subst e
    intro w hSw
    obtain ⟨k0, k1, k2⟩ := hSw
    go_simp
  clear e0
  subst e
  (try simp only [Act.put, List.setIfInBounds_toArray, List.set_cons_zero, List.set_cons_succ])
  obtain ⟨o, e0⟩ : ∃ o, o = opN ops12_38 10 := ⟨_, rfl⟩
  have e := e0
  conv at e => rhs; whnf
  refine wpAnyH_take (i := 10) (oi := o) (v := .int .i64 a) (by rw [e0]; kernel_rfl) (by kernel_rfl) (by kernel_rfl) (by kernel_rfl) (fun _ _ _ h => h) (Or.inl ⟨by rw [e]; rfl, ?_⟩) (by assumption) ?_
  · clear e0
    subst e
    intro w hSw
    obtain ⟨k0, k1, k2⟩ := hSw
    go_simp
  clear e0
  subst e
  (try simp only [Act.put, List.setIfInBounds_toArray, List.set_cons_zero, List.set_cons_succ])
  obtain ⟨o, e0⟩ : ∃ o, o = opN ops12_38 11 := ⟨_, rfl⟩
  have e := e0
  conv at e => rhs; whnf
  refine wpAnyH_take (i := 11) (oi := o) (v := .pointer (some ⟨gj, 1, none⟩)) (by rw [e0]; kernel_rfl) (by kernel_rfl) (by kernel_rfl) (by kernel_rfl) (fun _ _ _ h => h) (Or.inl ⟨by rw [e]; rfl, ?_⟩) (by assumption) ?_
  · clear e0
    subst e
    intro w hSw
    obtain ⟨k0, k1, k2⟩ := hSw
    go_simp
  clear e0
  subst e
  (try simp only [Act.put, List.setIfInBounds_toArray, List.set_cons_zero, List.set_cons_succ])
  obtain ⟨o, e0⟩ : ∃ o, o = opN ops12_38 12 := ⟨_, rfl⟩
  have e := e0
  conv at e => rhs; whnf
  refine wpAnyH_take (i := 12) (oi := o) (v := .int .i64 b) (by rw [e0]; kernel_rfl) (by kernel_rfl) (by kernel_rfl) (by kernel_rfl) (fun _ _ _ h => h) (Or.inl ⟨by rw [e]; rfl, ?_⟩) (by assumption) ?_
  · clear e0
    subst e
    intro w hSw
    obtain ⟨k0, k1, k2⟩ := hSw
    go_simp
  clear e0
  subst e
  (try simp only [Act.put, List.setIfInBounds_toArray, List.set_cons_zero, List.set_cons_succ])
  obtain ⟨o, e0⟩ : ∃ o, o = opN ops12_38 13 := ⟨_, rfl⟩
  have e := e0
  conv at e => rhs; whnf
  refine wpAnyH_take (i := 13) (oi := o) (v := .int .i64 hi) (by rw [e0]; kernel_rfl) (by kernel_rfl) (by kernel_rfl) (by kernel_rfl) (fun _ _ _ h => h) (Or.inl ⟨by rw [e]; rfl, ?_⟩) (by assumption) ?_
  · clear e0
    subst e
    intro w hSw
    obtain ⟨k0, k1, k2⟩ := hSw
    go_simp
  clear e0
  subst e
  (try simp only [Act.put, List.setIfInBounds_toArray, List.set_cons_zero, List.set_cons_succ])
  obtain ⟨o, e0⟩ : ∃ o, o = opN ops12_38 14 := ⟨_, rfl⟩
  have e := e0
  conv at e => rhs; whnf
  refine wpAnyH_take (i := 14) (oi := o) (v := .agg #[.int .i64 lo, .int .i64 hi]) (by rw [e0]; kernel_rfl) (by kernel_rfl) (by kernel_rfl) (by kernel_rfl) (fun _ _ _ h => h) (Or.inl ⟨by rw [e]; rfl, ?_⟩) (by assumption) ?_
  · clear e0
    subst e
    intro w hSw
    obtain ⟨k0, k1, k2⟩ := hSw
    go_simp
  clear e0
  subst e
  (try simp only [Act.put, List.setIfInBounds_toArray, List.set_cons_zero, List.set_cons_succ])
  exact st12_38_e hm hC hS hgp hgj hgc hQ liveB_start
end Go.Proofs.Ytojgdallodmanaa
