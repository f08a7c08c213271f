/- ClaimOrder: rows that are read; the region that makes the other estate and truth. -/
import Derived.Test.YtblbbhenmhkknaaYT14
import Derived.Test.YtblbbhenmhkknaaZf459c0
namespace Go.Proofs.Ytblbbhenmhkknaa
open Go.RowKit

/-- A row that lies in blocks from lo on, to be read. -/
structure RowR {α : Type} (lo k : Nat) (enc : α → List Value) (w : World) (A : Option Addr) (cap : Nat) (xs : List α) : Prop where
  le : xs.length ≤ cap
  max : cap ≤ maxLen
  rd : RdN k enc w w.heap.size A xs
  nil0 : A = none → xs = [] ∧ cap = 0
  here : ∀ a, A = some a → a.spot = none ∧ lo ≤ a.block ∧ a.block < w.heap.size
section
variable {α : Type} {lo k : Nat} {enc : α → List Value} {w w' : World} {A : Option Addr} {cap : Nat} {xs : List α}
theorem RowR.nil : RowR lo k enc w none 0 [] := ⟨Nat.le_refl _, Nat.zero_le _, RdN.nil, fun _ => ⟨rfl, rfl⟩, fun _ h => by cases h⟩
theorem RowR.below (h : RowR lo k enc w A cap xs) (hb : Below w.heap.size w w') : RowR lo k enc w' A cap xs :=
  ⟨h.le, h.max, (h.rd.below hb (Nat.le_refl _)).more hb.size, h.nil0, fun a ha => ⟨(h.here a ha).1, (h.here a ha).2.1, Nat.lt_of_lt_of_le (h.here a ha).2.2 hb.size⟩⟩
theorem RowR.set (h : RowR lo k enc w A cap xs) {g o : Nat} (hg : g < lo) (u : Value) : RowR lo k enc (w.setCell ⟨g, o, none⟩ u) A cap xs := by
  refine ⟨h.le, h.max, fun i x hx => ?_, h.nil0, fun a ha => ?_⟩
  · obtain ⟨b, off, e, hb, hc⟩ := h.rd i x hx
    have := (h.here _ e).2.1
    refine ⟨b, off, e, by simpa using hb, fun j v hv => ?_⟩
    exact keepSet (hc j v hv) (by simp only at this; omega)
  · obtain ⟨h1, h2, h3⟩ := h.here a ha
    exact ⟨h1, h2, by simpa using h3⟩
theorem RowR.of_own (he : ∀ x, (enc x).length = k) {e : TypeId} {v : Value} {n : Nat} {ys : List Value} (h : w.ownsRow lo e k v n ys) (hn : n = xs.length) (hys : ys = xs.flatMap enc) (h0 : 0 < xs.length) : ∃ A cap, v = .slice A xs.length cap ∧ RowR lo k enc w A cap xs := by
  subst hn hys
  obtain ⟨A, cap, e1, h2, h3, h4, h5⟩ := own_rdN he h
  obtain ⟨x, hx⟩ : ∃ x, xs[0]? = some x := ⟨_, List.getElem?_eq_getElem h0⟩
  obtain ⟨b, off, rfl, hb, hc⟩ := h2 0 x hx
  refine ⟨_, cap, e1, h4, h5, h2, fun h => (by cases h), fun a ha => ?_⟩
  injection ha with ha
  subst ha
  exact ⟨rfl, (h3 b off rfl).1, hb⟩
theorem RowR.low (he : ∀ x, (enc x).length = k) (h1 : ∀ x, ∀ u ∈ enc x, u.oneCell' = true) (h : RowR lo k enc w A cap xs) {p : Nat} (hp : p ≤ xs.length) : Srcs w k (.slice A p cap) p ((xs.take p).flatMap enc) := by
  cases A with
  | none =>
    obtain ⟨rfl, rfl⟩ := h.nil0 rfl
    have : p = 0 := by simpa using hp
    subst this
    exact .inl ⟨rfl, rfl, rfl⟩
  | some a =>
    refine .inr ⟨a, cap, rfl, by rw [flat_len he]; simp [Nat.min_eq_left hp], fun j u hu => ?_, fun u hu => ?_⟩
    · by_cases hk : 0 < k
      · have h0 : 0 < (xs.take p).length := by
          rcases Nat.eq_zero_or_pos (xs.take p).length with h0 | h0
          · rw [List.length_eq_zero_iff.1 h0] at hu; simp at hu
          · exact h0
        have hrt := h.rd.take p
        obtain ⟨b, off, e, _, _⟩ := hrt 0 _ (List.getElem?_eq_getElem h0)
        injection e with e
        subst e
        rw [add_off]
        exact flat_cells hk he hrt j u hu
      · have hl := flat_len he (xs.take p)
        have : k = 0 := by omega
        rw [this, Nat.mul_zero] at hl
        rw [List.length_eq_zero_iff.1 hl] at hu
        simp at hu
    · obtain ⟨c, _, hc⟩ := List.mem_flatMap.1 hu
      exact h1 c u hc
theorem RdN.drop {B b off : Nat} (h : RdN k enc w B (some ⟨b, off, none⟩) xs) (p : Nat) : RdN k enc w B (some ⟨b, off + p * k, none⟩) (xs.drop p) := by
  intro i x hx
  rw [List.getElem?_drop] at hx
  obtain ⟨b', off', e, hb, hc⟩ := h (p + i) x hx
  injection e with e
  injection e with e1 e2
  subst e1 e2
  refine ⟨b, _, rfl, hb, fun j u hu => ?_⟩
  have := hc j u hu
  rw [Nat.add_mul, ← Nat.add_assoc] at this
  exact this
theorem RowR.high (hk : 0 < k) (he : ∀ x, (enc x).length = k) (h1 : ∀ x, ∀ u ∈ enc x, u.oneCell' = true) (h : RowR lo k enc w A cap xs) {n p : Nat} (hn : n = xs.length) (hp : p ≤ n) : Srcs w k (.slice (if cap = p then A else A.map fun x => x.add (p * k)) (n - p) (cap - p)) (n - p) ((xs.drop p).flatMap enc) := by
  subst hn
  cases A with
  | none =>
    obtain ⟨rfl, rfl⟩ := h.nil0 rfl
    have : p = 0 := by simpa using hp
    subst this
    exact .inl ⟨by simp, rfl, rfl⟩
  | some a =>
    by_cases hc : cap = p
    · have hle := h.le
      have hpl : p = xs.length := by omega
      rw [if_pos hc]
      refine .inr ⟨a, cap - p, by simp, ?_, ?_, ?_⟩
      · rw [flat_len he]; simp
      · intro j u hu
        rw [hpl, List.drop_length] at hu
        simp at hu
      · intro u hu
        rw [hpl, List.drop_length] at hu
        simp at hu
    · rw [if_neg hc]
      obtain ⟨hs, _, _⟩ := h.here a rfl
      obtain ⟨b, off, sub⟩ := a
      simp only at hs
      subst hs
      refine .inr ⟨⟨b, off + p * k, none⟩, cap - p, by simp [add_off], by rw [flat_len he]; simp, fun j u hu => ?_, fun u hu => ?_⟩
      · rw [add_off]
        exact flat_cells hk he (h.rd.drop p) j u hu
      · obtain ⟨c, _, hc⟩ := List.mem_flatMap.1 hu
        exact h1 c u hc
end

set_option maxRecDepth 1000000 in
set_option maxHeartbeats 4000000 in
theorem reg11_4 {Q : Exit → Act → World → Prop} {V : World} {h3 h7 : Nat} {lo hi P : Int} {z0 z1 z2 z4 z5 z6 z8 z9 z10 z11 z12 z13 z14 z15 z16 z17 z18 z19 z20 z21 z22 z23 z24 z25 z26 z27 z28 z29 z30 z31 z32 z33 z34 z35 z36 z37 z38 z39 z40 z41 z42 z43 z44 z45 z46 z47 z48 z49 z50 z51 z52 z53 z54 z55 z56 z57 z58 z59 z60 z61 z62 z63 z64 z65 z66 z67 z68 z69 z70 z71 z72 z73 z74 z75 z76 z77 z78 z79 z80 z81 z82 z83 z84 z85 z86 z87 z88 z89 z90 z91 z92 z93 z94 z95 z96 z97 z98 z99 z100 z101 z102 z103 z104 z105 z106 z107 z108 z109 z110 z111 z112 z113 z114 z115 z116 z117 z118 z119 z120 z121 z122 z123 z124 z125 z126 z127 z128 z129 z130 z131 z132 z133 z134 z135 z136 z137 z138 z139 z140 z141 z142 z143 z144 z145 z146 z147 z148 z149 z150 z151 z152 z153 z154 z155 z156 z157 z158 z159 z160 z161 z162 z163 z164 z165 z166 z167 z168 z169 z170 z171 z172 z173 z174 z175 z176 z177 z178 z179 z180 z181 z182 z183 z184 z185 z186 z187 z188 z189 z190 z191 z192 z193 z194 z195 z196 z197 z198 z199 z200 z201 z202 z203 : Value}
    (c0 : V.cell? ⟨h3, 0, none⟩ = some (.int .i64 lo)) (c1 : V.cell? ⟨h3, 1, none⟩ = some (.int .i64 hi)) (c3 : V.cell? ⟨h7, 0, none⟩ = some (.int .i64 P))
    (hQ : ∀ u31 u32 u33 u34 u35 u36 g8 g9 wx, V.heap.size ≤ g8 → V.heap.size ≤ g9 → g8 ≠ g9 → g8 < wx.heap.size → g9 < wx.heap.size → Below V.heap.size V wx → wx.cell? ⟨g8, 0, none⟩ = some (.int .i64 lo) → wx.cell? ⟨g8, 1, none⟩ = some (.int .i64 hi) → wx.cell? ⟨g8, 2, none⟩ = some (.slice none 0 0) → wx.cell? ⟨g9, 0, none⟩ = some (.int .i64 P) → wx.cell? ⟨g9, 1, none⟩ = some (.slice none 0 0) → (∀ o, wx.frozen? ⟨g8, o, none⟩ = false) → (∀ o, wx.frozen? ⟨g9, o, none⟩ = false) → Q .normal ⟨#[z0, z1, z2, .pointer (some ⟨h3, 0, none⟩), z4, z5, z6, .pointer (some ⟨h7, 0, none⟩), .pointer (some ⟨g8, 0, none⟩), .pointer (some ⟨g9, 0, none⟩), z10, z11, z12, z13, z14, z15, z16, z17, z18, z19, z20, z21, z22, z23, z24, z25, z26, z27, z28, z29, z30, u31, u32, u33, u34, u35, u36, z37, z38, z39, z40, z41, z42, z43, z44, z45, z46, z47, z48, z49, z50, z51, z52, z53, z54, z55, z56, z57, z58, z59, z60, z61, z62, z63, z64, z65, z66, z67, z68, z69, z70, z71, z72, z73, z74, z75, z76, z77, z78, z79, z80, z81, z82, z83, z84, z85, z86, z87, z88, z89, z90, z91, z92, z93, z94, z95, z96, z97, z98, z99, z100, z101, z102, z103, z104, z105, z106, z107, z108, z109, z110, z111, z112, z113, z114, z115, z116, z117, z118, z119, z120, z121, z122, z123, z124, z125, z126, z127, z128, z129, z130, z131, z132, z133, z134, z135, z136, z137, z138, z139, z140, z141, z142, z143, z144, z145, z146, z147, z148, z149, z150, z151, z152, z153, z154, z155, z156, z157, z158, z159, z160, z161, z162, z163, z164, z165, z166, z167, z168, z169, z170, z171, z172, z173, z174, z175, z176, z177, z178, z179, z180, z181, z182, z183, z184, z185, z186, z187, z188, z189, z190, z191, z192, z193, z194, z195, z196, z197, z198, z199, z200, z201, z202, z203], []⟩ wx) :
    (regionOf Try.f11 4).wp Try.prog Q ⟨#[z0, z1, z2, .pointer (some ⟨h3, 0, none⟩), z4, z5, z6, .pointer (some ⟨h7, 0, none⟩), z8, z9, z10, z11, z12, z13, z14, z15, z16, z17, z18, z19, z20, z21, z22, z23, z24, z25, z26, z27, z28, z29, z30, z31, z32, z33, z34, z35, z36, z37, z38, z39, z40, z41, z42, z43, z44, z45, z46, z47, z48, z49, z50, z51, z52, z53, z54, z55, z56, z57, z58, z59, z60, z61, z62, z63, z64, z65, z66, z67, z68, z69, z70, z71, z72, z73, z74, z75, z76, z77, z78, z79, z80, z81, z82, z83, z84, z85, z86, z87, z88, z89, z90, z91, z92, z93, z94, z95, z96, z97, z98, z99, z100, z101, z102, z103, z104, z105, z106, z107, z108, z109, z110, z111, z112, z113, z114, z115, z116, z117, z118, z119, z120, z121, z122, z123, z124, z125, z126, z127, z128, z129, z130, z131, z132, z133, z134, z135, z136, z137, z138, z139, z140, z141, z142, z143, z144, z145, z146, z147, z148, z149, z150, z151, z152, z153, z154, z155, z156, z157, z158, z159, z160, z161, z162, z163, z164, z165, z166, z167, z168, z169, z170, z171, z172, z173, z174, z175, z176, z177, z178, z179, z180, z181, z182, z183, z184, z185, z186, z187, z188, z189, z190, z191, z192, z193, z194, z195, z196, z197, z198, z199, z200, z201, z202, z203], []⟩ V := by
  have HC : Hid (∀ W, Below V.heap.size V W → W.cell? ⟨h3, 0, none⟩ = some (.int .i64 lo) ∧ W.cell? ⟨h3, 1, none⟩ = some (.int .i64 hi) ∧ W.cell? ⟨h7, 0, none⟩ = some (.int .i64 P)) := Lib.hid fun W h => ⟨keepC h c0, keepC h c1, keepC h c3⟩
  have HQ := Lib.hid hQ
  have hne3 := World.new_ne V ⟨h3, 0, none⟩ c0
  have hne7 := World.new_ne V ⟨h7, 0, none⟩ c3
  simp only at hne3 hne7
  have hl3 := lt_of_cell c0
  have hl7 := lt_of_cell c3
  clear hQ
  conv => arg 2; whnf
  go_region_held3 (fun w' => w'.cell? ⟨h3, 0, none⟩ = some (.int .i64 lo) ∧ w'.cell? ⟨h3, 1, none⟩ = some (.int .i64 hi) ∧ w'.cell? ⟨h7, 0, none⟩ = some (.int .i64 P)) (go_keep) (fail)
  · exact HQ.out _ _ _ _ _ _ V.heap.size (V.heap.size + 1) _ (by omega) (by omega) (by omega) (by simp <;> omega) (by simp <;> omega) (belowDq (belowA (belowA (belowR V) _) _)) (by go_simp) (by go_simp) (by go_simp) (by go_simp) (by go_simp) (fun o => by go_simp) (fun o => by go_simp)
  · exact HQ.out _ _ _ _ _ _ (V.heap.size + 1) V.heap.size _ (by omega) (by omega) (by omega) (by simp <;> omega) (by simp <;> omega) (belowDq (belowA (belowA (belowR V) _) _)) (by go_simp) (by go_simp) (by go_simp) (by go_simp) (by go_simp) (fun o => by go_simp) (fun o => by go_simp)
end Go.Proofs.Ytblbbhenmhkknaa
