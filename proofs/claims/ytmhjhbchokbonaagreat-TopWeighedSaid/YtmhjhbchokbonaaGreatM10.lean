/- The levers of a balance, its presses, its numbers (printed by mkT5.py). Bounds of the sums of a balance; a hull that is right: the plain law (printed by mkS3.py). stand.wet, tidal, strange, open, where nothing is wrong (printed by mkT7.py). The operations of a region, by their numbers. A load may be taken first where only such operations write its cell as wait for it. No program is named here. .. -/
import Derived.OrdersHeld
import Derived.Deep.RegionHeld
import Derived.Deep.RegionHeld3
import Derived.Lib.Hide
import Derived.Test.YtmhjhbchokbonaaGreatM0
import Derived.Test.YtmhjhbchokbonaaGreatM1
import Derived.Test.YtmhjhbchokbonaaGreatM9
set_option maxRecDepth 1000000
set_option maxHeartbeats 16000000
namespace Go.Proofs.YtmhjhbchokbonaaGreat
open Go.RowKit
theorem arm102_any (x : StP) (w : World) : Calls Tryz.prog 102 #[stV x] w (Rt w (iv 1)) := by
 go_enter Tryz.func102, Tryz.ntmps102
 go_wp2
 go_ret
 exact ⟨rfl, belowA (belowR _) _⟩
theorem arm103_any (x : StP) (gb : Nat) (a : Int) (w : World) (hc : w.cell? ⟨gb, 1, none⟩ = some (iv a)) (h1 : 0 ≤ x.pos ∧ x.pos ≤ 5000) (h2 : 0 ≤ a ∧ a ≤ 5000) : Calls Tryz.prog 103 #[stV x, pT gb 0] w (Rt w (iv (x.pos - a))) := by
 have hl := lt_of_cell hc
 have hc2 := keepA hc (.cells #[.string x.name, iv x.pos, iv x.wlo, iv x.whi, iv x.keel, iv x.llo, iv x.lhi] 42)
 have hw : IntKind.i64.wrap (x.pos - a) = x.pos - a := by rw [IntKind.wrap_i64]; omega
 go_enter Tryz.func103, Tryz.ntmps103
 go_wp2
 go_ret
 exact ⟨rfl, belowA (belowR _) _⟩
theorem arm104_any (x : StP) (gb : Nat) (f : Int) (w : World) (hc : w.cell? ⟨gb, 2, none⟩ = some (iv f)) (h1 : 0 ≤ x.pos ∧ x.pos ≤ 5000) (h2 : 0 ≤ f ∧ f ≤ 5000) : Calls Tryz.prog 104 #[stV x, pT gb 0] w (Rt w (iv (f - x.pos))) := by
 have hl := lt_of_cell hc
 have hc2 := keepA hc (.cells #[.string x.name, iv x.pos, iv x.wlo, iv x.whi, iv x.keel, iv x.llo, iv x.lhi] 42)
 have hw : IntKind.i64.wrap (f - x.pos) = f - x.pos := by rw [IntKind.wrap_i64]; omega
 go_enter Tryz.func104, Tryz.ntmps104
 go_wp2
 go_ret
 exact ⟨rfl, belowA (belowR _) _⟩
structure StOk (x : StP) : Prop where
 p0 : 0 ≤ x.pos
 p1 : x.pos ≤ 5000
 k0 : 0 ≤ x.keel
 k1 : x.keel ≤ 1000
 w0 : 0 ≤ x.wlo
 w1 : x.wlo ≤ x.whi
 w2 : x.whi ≤ 1000000
 l0 : 0 ≤ x.llo
 l1 : x.llo ≤ x.lhi
 l2 : x.lhi ≤ 5000
theorem partC_ok {x : StP} : partC x = 0 ↔ StOk x := by
 unfold partC
 constructor
 ·intro h
  split at h
  ·rename_i hc
   simp only [Bool.and_eq_true] at hc
   obtain ⟨a, b, ⟨c, d⟩, e, f⟩ := hc
   have a := inB_t a
   have b := inB_t b
   have c := inB_t c
   have d := inB_t d
   have e := inB_t e
   have f := inB_t f
   split at h
   ·omega
   ·constructor <;> omega
  ·omega
 ·intro h
  have := h.p0; have := h.p1; have := h.k0; have := h.k1; have := h.w0; have := h.w1; have := h.w2; have := h.l0; have := h.l1; have := h.l2
  rw [if_pos, if_neg (by omega)]
  rw [inB_mk (by omega) (by omega), inB_mk (by omega) (by omega), inB_mk (by omega) (by omega), inB_mk (by omega) (by omega), inB_mk (by omega) (by omega), inB_mk (by omega) (by omega)]
  rfl
theorem mul_bd {a b A B : Int} (h1 : 0 ≤ a) (h2 : a ≤ A) (h3 : 0 ≤ b) (h4 : b ≤ B) : 0 ≤ a * b ∧ a * b ≤ A * B := ⟨Int.mul_nonneg h1 h3, Int.mul_le_mul h2 h4 h3 (by omega)⟩
theorem light105_any (x : StP) (o : Int) (w : World) (hx : StOk x) (h0 : 0 ≤ o) (h1 : o ≤ 1000) : Calls Tryz.prog 105 #[.agg #[.string x.name, iv x.pos, iv x.wlo, iv x.whi, iv x.keel, iv x.llo, iv x.lhi, iv o]] w (Rt w (iv (x.wlo - x.lhi * o))) := by
 have := hx.w0; have := hx.w1; have := hx.w2; have := hx.l0; have := hx.l1; have := hx.l2
 have hm := mul_bd (show 0 ≤ x.lhi by omega) hx.l2 h0 h1
 have hw1 : IntKind.i64.wrap (x.lhi * o) = x.lhi * o := by rw [IntKind.wrap_i64]; omega
 have hw2 : IntKind.i64.wrap (x.wlo - x.lhi * o) = x.wlo - x.lhi * o := by rw [IntKind.wrap_i64]; omega
 go_enter Tryz.func105, Tryz.ntmps105
 go_wp2
 go_ret
 exact ⟨rfl, belowA (belowR _) _⟩
theorem heavy106_any (x : StP) (o : Int) (w : World) (hx : StOk x) (h0 : 0 ≤ o) (h1 : o ≤ 1000) : Calls Tryz.prog 106 #[.agg #[.string x.name, iv x.pos, iv x.wlo, iv x.whi, iv x.keel, iv x.llo, iv x.lhi, iv o]] w (Rt w (iv (x.whi - x.llo * o))) := by
 have := hx.w0; have := hx.w1; have := hx.w2; have := hx.l0; have := hx.l1; have := hx.l2
 have hm := mul_bd hx.l0 (show x.llo ≤ 5000 by omega) h0 h1
 have hw1 : IntKind.i64.wrap (x.llo * o) = x.llo * o := by rw [IntKind.wrap_i64]; omega
 have hw2 : IntKind.i64.wrap (x.whi - x.llo * o) = x.whi - x.llo * o := by rw [IntKind.wrap_i64]; omega
 go_enter Tryz.func106, Tryz.ntmps106
 go_wp2
 go_ret
 exact ⟨rfl, belowA (belowR _) _⟩
abbrev sumsV (a b c : Int) : Value := .agg #[iv a, iv b, iv c]
theorem balance57_any (a b c : Int) (w : World) : Calls Tryz.prog 57 #[sumsV a b c] w (Rt w (.agg #[iv a, iv b, iv c])) := by
 go_enter Tryz.func57, Tryz.ntmps57
 go_wp2
 refine bodyPost_ret (v := .agg #[iv a, iv b, iv c]) (by simp [results, Tryz.results57, go_sem]) rfl ?_
 exact ⟨rfl, belowA (belowA (belowR _) _) _⟩
theorem why63_any (a b c : Int) (w : World) : Calls Tryz.prog 63 #[sumsV a b c] w (Rt w (iv (whyOf a b c))) := by
 unfold whyOf
 by_cases h1 : a ≤ 0
 ·rw [if_pos h1]
  go_enter Tryz.func63, Tryz.ntmps63
  go_wp2
  go_ret
  exact ⟨rfl, belowA (belowR _) _⟩
 ·rw [if_neg h1]
  by_cases h2 : b < 0
  ·rw [if_pos h2]
   go_enter Tryz.func63, Tryz.ntmps63
   go_wp2
   go_ret
   exact ⟨rfl, belowA (belowR _) _⟩
  ·rw [if_neg h2]
   by_cases h3 : c < 0
   ·rw [if_pos h3]
    go_enter Tryz.func63, Tryz.ntmps63
    go_wp2
    go_ret
    exact ⟨rfl, belowA (belowR _) _⟩
   ·rw [if_neg h3]
    go_enter Tryz.func63, Tryz.ntmps63
    go_wp2
    go_ret
    exact ⟨rfl, belowA (belowR _) _⟩
theorem idx179 (gb : Nat) (W : World) : (Instr.index 179 (.agg #[.func (.func 102) #[] #[], .func (.func 103) #[] #[pT gb 0], .func (.func 104) #[] #[pT gb 0]]) (iv 0)).run Tryz.prog W = .ok (.func (.func 102) #[] #[]) W ∧ (Instr.index 179 (.agg #[.func (.func 102) #[] #[], .func (.func 103) #[] #[pT gb 0], .func (.func 104) #[] #[pT gb 0]]) (iv 1)).run Tryz.prog W = .ok (.func (.func 103) #[] #[pT gb 0]) W ∧ (Instr.index 179 (.agg #[.func (.func 102) #[] #[], .func (.func 103) #[] #[pT gb 0], .func (.func 104) #[] #[pT gb 0]]) (iv 2)).run Tryz.prog W = .ok (.func (.func 104) #[] #[pT gb 0]) W := by
 refine ⟨?_, ?_, ?_⟩ <;> simp [Instr.index, run_underlying Tryz.underlying179, asIntOf, go_sem, Tryz.sizeOf134]
abbrev levV (gb : Nat) : Value := .agg #[.func (.func 102) #[] #[], .func (.func 105) #[] #[], .func (.func 106) #[] #[], .func (.func 103) #[] #[pT gb 0], .func (.func 105) #[] #[], .func (.func 106) #[] #[], .func (.func 104) #[] #[pT gb 0], .func (.func 105) #[] #[], .func (.func 106) #[] #[]]
theorem levers66_any (A : Option Addr) (n cap : Nat) (a f : Int) (w : World) : Calls Tryz.prog 66 #[.agg #[.slice A n cap, iv a, iv f]] w fun e w' => e = .returned (levV w.heap.size) ∧ BW w w' ∧ w'.cell? ⟨w.heap.size, 1, none⟩ = some (iv a) ∧ w'.cell? ⟨w.heap.size, 2, none⟩ = some (iv f) ∧ w.heap.size < w'.heap.size := by
 have z134 := Tryz.sizeOf134
 have z137 := Tryz.sizeOf137
 go_enter Tryz.func66, Tryz.ntmps66
 go_wp2_with fail
 obtain ⟨W4, hW4⟩ := ex ((((w.alloc (.cells #[.slice A n cap, iv a, iv f] 119)).alloc (.cells #[.nilFunc, .nilFunc, .nilFunc, .nilFunc, .nilFunc, .nilFunc, .nilFunc, .nilFunc, .nilFunc] 138)).alloc (.cells #[.func (.func 102) #[] #[], .func (.func 103) #[] #[pT w.heap.size 0], .func (.func 104) #[] #[pT w.heap.size 0]] 179)).alloc (.cells #[.nilFunc, .nilFunc, .nilFunc, .nilFunc, .nilFunc, .nilFunc, .nilFunc, .nilFunc, .nilFunc] 138))
 rw [hW4]
 have hb4 : BW w W4 := by rw [← hW4]; exact belowA (belowA (belowA (belowA (belowR _) _) _) _) _
 have hz4 : W4.heap.size = w.heap.size + 4 := by rw [← hW4]; simp
 have k0 : Blk W4 w.heap.size 119 #[.slice A n cap, iv a, iv f] := by rw [← hW4]; exact (((Blk.new w 119 _).alloc _).alloc _).alloc _
 have k1 : Blk W4 (w.heap.size + 1) 138 #[.nilFunc, .nilFunc, .nilFunc, .nilFunc, .nilFunc, .nilFunc, .nilFunc, .nilFunc, .nilFunc] := by
  rw [← hW4]
  have := ((Blk.new (w.alloc (.cells #[.slice A n cap, iv a, iv f] 119)) 138 #[.nilFunc, .nilFunc, .nilFunc, .nilFunc, .nilFunc, .nilFunc, .nilFunc, .nilFunc, .nilFunc]).alloc (.cells #[.func (.func 102) #[] #[], .func (.func 103) #[] #[pT w.heap.size 0], .func (.func 104) #[] #[pT w.heap.size 0]] 179)).alloc (.cells #[.nilFunc, .nilFunc, .nilFunc, .nilFunc, .nilFunc, .nilFunc, .nilFunc, .nilFunc, .nilFunc] 138)
  rw [World.size_alloc] at this
  exact this
 have k3 : Blk W4 (w.heap.size + 3) 138 #[.nilFunc, .nilFunc, .nilFunc, .nilFunc, .nilFunc, .nilFunc, .nilFunc, .nilFunc, .nilFunc] := by
  rw [← hW4]
  have := Blk.new (((w.alloc (.cells #[.slice A n cap, iv a, iv f] 119)).alloc (.cells #[.nilFunc, .nilFunc, .nilFunc, .nilFunc, .nilFunc, .nilFunc, .nilFunc, .nilFunc, .nilFunc] 138)).alloc (.cells #[.func (.func 102) #[] #[], .func (.func 103) #[] #[pT w.heap.size 0], .func (.func 104) #[] #[pT w.heap.size 0]] 179)) 138 #[.nilFunc, .nilFunc, .nilFunc, .nilFunc, .nilFunc, .nilFunc, .nilFunc, .nilFunc, .nilFunc]
  rw [World.size_alloc, World.size_alloc, World.size_alloc] at this
  exact this
 have HB4 := Lq hb4
 have K0 := Lq k0
 have K1 := Lq k1
 have K3 := Lq k3
 obtain ⟨gb, hgb⟩ := ex w.heap.size
 rw [hgb] at K0 K1 K3 hz4
 clear hW4 hb4 k0 k1 k3
 go_loopw [5, 6, 11] (fun _ _ vi wr => ∃ i : Nat, vi = iv i ∧ i ≤ 3 ∧ Hid (BW w wr) ∧ Hid (Blk wr gb 119 #[.slice A n cap, iv a, iv f]) ∧ Hid (Blk wr (gb + 1) 138 #[.nilFunc, .nilFunc, .nilFunc, .nilFunc, .nilFunc, .nilFunc, .nilFunc, .nilFunc, .nilFunc]) ∧ Hid (W4.heap.size = wr.heap.size) ∧ ((i = 0 ∧ Hid (Blk wr (gb + 3) 138 #[.nilFunc, .nilFunc, .nilFunc, .nilFunc, .nilFunc, .nilFunc, .nilFunc, .nilFunc, .nilFunc])) ∨ (i = 1 ∧ Hid (Blk wr (gb + 3) 138 #[.func (.func 102) #[] #[], .func (.func 105) #[] #[], .func (.func 106) #[] #[], .nilFunc, .nilFunc, .nilFunc, .nilFunc, .nilFunc, .nilFunc])) ∨ (i = 2 ∧ Hid (Blk wr (gb + 3) 138 #[.func (.func 102) #[] #[], .func (.func 105) #[] #[], .func (.func 106) #[] #[], .func (.func 103) #[] #[pT gb 0], .func (.func 105) #[] #[], .func (.func 106) #[] #[], .nilFunc, .nilFunc, .nilFunc])) ∨ (i = 3 ∧ Hid (Blk wr (gb + 3) 138 #[.func (.func 102) #[] #[], .func (.func 105) #[] #[], .func (.func 106) #[] #[], .func (.func 103) #[] #[pT gb 0], .func (.func 105) #[] #[], .func (.func 106) #[] #[], .func (.func 104) #[] #[pT gb 0], .func (.func 105) #[] #[], .func (.func 106) #[] #[]])))) (fun _ _ vi _ => 3 - (intOf vi).toNat)
 case atStart => exact ⟨0, rfl, by omega, HB4, K0, K1, Lq rfl, .inl ⟨rfl, K3⟩⟩
 case round =>
  obtain ⟨i, rfl, hi, HBW, J0, J1, HZ, hcase⟩ := hrel
  have q0 := fun W => (idx179 gb W).1
  have q1 := fun W => (idx179 gb W).2.1
  have q2 := fun W => (idx179 gb W).2.2
  rcases hcase with ⟨rfl, J3⟩ | ⟨rfl, J3⟩ | ⟨rfl, J3⟩ | ⟨rfl, J3⟩
  ·have hl3 := J3.out.lt
   have f0 := J3.out.frozen 0
   have c0 := J3.out.cell 0
   have f1 := J3.out.frozen 1
   have c1 := J3.out.cell 1
   have f2 := J3.out.frozen 2
   have c2 := J3.out.cell 2
   go_wp2_with fail
   go_roundw
   case rel => exact ⟨1, rfl, by omega, Lq (belowS (belowS (belowS HBW.out (by dsimp only; omega) _) (by dsimp only; omega) _) (by dsimp only; omega) _), Lq (((J0.out.far (by dsimp only; omega) _).far (by dsimp only; omega) _).far (by dsimp only; omega) _), Lq (((J1.out.far (by dsimp only; omega) _).far (by dsimp only; omega) _).far (by dsimp only; omega) _), Lq (by rw [HZ.out]; simp), .inr (.inl ⟨rfl, Lq (((J3.out.set_ 0 _).set_ 1 _).set_ 2 _)⟩)⟩
   case measure => simp [intOf]
  ·have hl3 := J3.out.lt
   have f3 := J3.out.frozen 3
   have c3 := J3.out.cell 3
   have f4 := J3.out.frozen 4
   have c4 := J3.out.cell 4
   have f5 := J3.out.frozen 5
   have c5 := J3.out.cell 5
   go_wp2_with fail
   go_roundw
   case rel => exact ⟨2, rfl, by omega, Lq (belowS (belowS (belowS HBW.out (by dsimp only; omega) _) (by dsimp only; omega) _) (by dsimp only; omega) _), Lq (((J0.out.far (by dsimp only; omega) _).far (by dsimp only; omega) _).far (by dsimp only; omega) _), Lq (((J1.out.far (by dsimp only; omega) _).far (by dsimp only; omega) _).far (by dsimp only; omega) _), Lq (by rw [HZ.out]; simp), .inr (.inr (.inl ⟨rfl, Lq (((J3.out.set_ 3 _).set_ 4 _).set_ 5 _)⟩))⟩
   case measure => simp [intOf]
  ·have hl3 := J3.out.lt
   have f6 := J3.out.frozen 6
   have c6 := J3.out.cell 6
   have f7 := J3.out.frozen 7
   have c7 := J3.out.cell 7
   have f8 := J3.out.frozen 8
   have c8 := J3.out.cell 8
   go_wp2_with fail
   go_roundw
   case rel => exact ⟨3, rfl, by omega, Lq (belowS (belowS (belowS HBW.out (by dsimp only; omega) _) (by dsimp only; omega) _) (by dsimp only; omega) _), Lq (((J0.out.far (by dsimp only; omega) _).far (by dsimp only; omega) _).far (by dsimp only; omega) _), Lq (((J1.out.far (by dsimp only; omega) _).far (by dsimp only; omega) _).far (by dsimp only; omega) _), Lq (by rw [HZ.out]; simp), .inr (.inr (.inr ⟨rfl, Lq (((J3.out.set_ 6 _).set_ 7 _).set_ 8 _)⟩))⟩
   case measure => simp [intOf]
  ·have hl3 := J3.out.lt
   have c0 := J3.out.cell 0
   have d0 := J1.out.cell 0
   have f0 := J1.out.frozen 0
   have c1 := J3.out.cell 1
   have d1 := J1.out.cell 1
   have f1 := J1.out.frozen 1
   have c2 := J3.out.cell 2
   have d2 := J1.out.cell 2
   have f2 := J1.out.frozen 2
   have c3 := J3.out.cell 3
   have d3 := J1.out.cell 3
   have f3 := J1.out.frozen 3
   have c4 := J3.out.cell 4
   have d4 := J1.out.cell 4
   have f4 := J1.out.frozen 4
   have c5 := J3.out.cell 5
   have d5 := J1.out.cell 5
   have f5 := J1.out.frozen 5
   have c6 := J3.out.cell 6
   have d6 := J1.out.cell 6
   have f6 := J1.out.frozen 6
   have c7 := J3.out.cell 7
   have d7 := J1.out.cell 7
   have f7 := J1.out.frozen 7
   have c8 := J3.out.cell 8
   have d8 := J1.out.cell 8
   have f8 := J1.out.frozen 8
   have J00 := J0
   go_wp2_with fail
   obtain ⟨wx, hwx⟩ := ex ((((((((((wr.setCell ⟨gb + 1, 0, none⟩ (.func (.func 102) #[] #[])).setCell ⟨gb + 1, 1, none⟩ (.func (.func 105) #[] #[])).setCell ⟨gb + 1, 2, none⟩ (.func (.func 106) #[] #[])).setCell ⟨gb + 1, 3, none⟩ (.func (.func 103) #[] #[pT gb 0])).setCell ⟨gb + 1, 4, none⟩ (.func (.func 105) #[] #[])).setCell ⟨gb + 1, 5, none⟩ (.func (.func 106) #[] #[])).setCell ⟨gb + 1, 6, none⟩ (.func (.func 104) #[] #[pT gb 0])).setCell ⟨gb + 1, 7, none⟩ (.func (.func 105) #[] #[])).setCell ⟨gb + 1, 8, none⟩ (.func (.func 106) #[] #[])))
   have kx : Blk wx (gb + 1) 138 #[.func (.func 102) #[] #[], .func (.func 105) #[] #[], .func (.func 106) #[] #[], .func (.func 103) #[] #[pT gb 0], .func (.func 105) #[] #[], .func (.func 106) #[] #[], .func (.func 104) #[] #[pT gb 0], .func (.func 105) #[] #[], .func (.func 106) #[] #[]] := by
    rw [← hwx]
    exact ((((((((J1.out.set_ 0 _).set_ 1 _).set_ 2 _).set_ 3 _).set_ 4 _).set_ 5 _).set_ 6 _).set_ 7 _).set_ 8 _
   have k0 : Blk wx gb 119 #[.slice A n cap, iv a, iv f] := by
    rw [← hwx]
    exact ((((((((J0.out.far (by simp) _).far (by simp) _).far (by simp) _).far (by simp) _).far (by simp) _).far (by simp) _).far (by simp) _).far (by simp) _).far (by simp) _
   have hbx : BW w wx := by
    rw [← hwx]
    exact belowS (belowS (belowS (belowS (belowS (belowS (belowS (belowS (belowS HBW.out (by simp; omega) _) (by simp; omega) _) (by simp; omega) _) (by simp; omega) _) (by simp; omega) _) (by simp; omega) _) (by simp; omega) _) (by simp; omega) _) (by simp; omega) _
   rw [hwx]
   have y0 := kx.c 0
   have y1 := kx.c 1
   have y2 := kx.c 2
   have y3 := kx.c 3
   have y4 := kx.c 4
   have y5 := kx.c 5
   have y6 := kx.c 6
   have y7 := kx.c 7
   have y8 := kx.c 8
   have x1 := k0.cell 1
   have x2 := k0.cell 2
   have hl := k0.lt
   clear hwx c0 c1 c2 c3 c4 c5 c6 c7 c8 d0 d1 d2 d3 d4 d5 d6 d7 d8 f0 f1 f2 f3 f4 f5 f6 f7 f8
   refine bodyPost_ret (v := levV w.heap.size) (by simp [results, Tryz.results66, go_sem, y0, y1, y2, y3, y4, y5, y6, y7, y8, hgb]) rfl ?_
   refine ⟨rfl, hbx, ?_, ?_, ?_⟩
   ·rw [hgb, x1]; rfl
   ·rw [hgb, x2]; rfl
   ·rw [hgb]; exact hl
structure H5Ok (h : StH) : Prop where
 n1 : 1 ≤ h.ps.length
 n10 : h.ps.length ≤ 10
 a0 : 0 ≤ h.aft
 a1 : h.aft ≤ 5000
 f0 : 0 ≤ h.fore
 f1 : h.fore ≤ 5000
 af : h.aft < h.fore
 ps : ∀ (i : Nat) (x : StP), h.ps[i]? = some x → StOk x
theorem firstBad_all {f : Nat → Int} : ∀ {n : Nat}, firstBad f n = none ↔ ∀ i, i < n → f i = 0 := by
 intro n
 unfold firstBad
 rw [List.findSome?_eq_none_iff]
 constructor
 ·intro h i hi
  have := h i (List.mem_range.2 hi)
  by_cases h0 : f i = 0
  ·exact h0
  ·rw [if_neg h0] at this; cases this
 ·intro h i hi
  rw [if_pos (h i (List.mem_range.1 hi))]
theorem chk5_iff {h : StH} : (chk5 h).2.2 = 0 ↔ H5Ok h ∧ ∀ i, i < h.ps.length → spE h.ps i = 0 := by
 unfold chk5
 constructor
 ·intro h0
  split at h0
  ·rename_i h1
   split at h0
   ·rename_i h2
    split at h0
    ·simp at h0
    ·rename_i h3
     have hn : firstBad (spE h.ps) h.ps.length = none := by
      unfold chkT at h0
      cases hf : firstBad (spE h.ps) h.ps.length with
      | none => rfl
      | some p =>
       obtain ⟨i, e⟩ := p
       rw [hf] at h0
       simp only at h0
       exfalso
       unfold firstBad at hf
       obtain ⟨k, _, hk⟩ := List.exists_of_findSome?_eq_some hf
       by_cases h9 : spE h.ps k = 0
       ·rw [if_pos h9] at hk; cases hk
       ·rw [if_neg h9] at hk
        injection hk with hk
        injection hk with _ hk
        rw [hk] at h9
        exact h9 h0
     have ha := firstBad_all.1 hn
     simp only [Bool.and_eq_true] at h2
     have b1 := inB_t h1
     have b2 := inB_t h2.1
     have b3 := inB_t h2.2
     refine ⟨⟨by omega, by omega, b2.1, b2.2, b3.1, b3.2, by omega, fun i x hx => ?_⟩, ha⟩
     have hs := ha i (List.getElem?_eq_some_iff.1 hx).1
     unfold spE at hs
     rw [hx] at hs
     simp only at hs
     split at hs
     ·exact partC_ok.1 hs
     ·rename_i h9; exact absurd hs h9
   ·simp at h0
  ·simp at h0
 ·rintro ⟨H, ha⟩
  have := H.n1; have := H.n10; have := H.a0; have := H.a1; have := H.f0; have := H.f1; have := H.af
  rw [if_pos (inB_mk (by omega) (by omega)), if_pos (by rw [inB_mk (by omega) (by omega), inB_mk (by omega) (by omega)]; rfl), if_neg (by omega), chkT_ok (firstBad_all.2 ha)]
theorem chk5_ok {h : StH} (h0 : (chk5 h).2.2 = 0) : chk5 h = (0, 0, 0) := by
 obtain ⟨H, ha⟩ := chk5_iff.1 h0
 unfold chk5
 have := H.n1; have := H.n10; have := H.a0; have := H.a1; have := H.f0; have := H.f1; have := H.af
 rw [if_pos (inB_mk (by omega) (by omega)), if_pos (by rw [inB_mk (by omega) (by omega), inB_mk (by omega) (by omega)]; rfl), if_neg (by omega), chkT_ok (firstBad_all.2 ha)]
theorem mul_ab {a b A B : Int} (h1 : -A ≤ a) (h2 : a ≤ A) (h3 : -B ≤ b) (h4 : b ≤ B) : -(A * B) ≤ a * b ∧ a * b ≤ A * B := by
 have e1 : a.natAbs ≤ A.toNat := by omega
 have e2 : b.natAbs ≤ B.toNat := by omega
 have e3 := Nat.mul_le_mul e1 e2
 rw [← Int.natAbs_mul] at e3
 have e4 : ((A.toNat * B.toNat : Nat) : Int) = A * B := by rw [Int.natCast_mul]; congr 1 <;> omega
 omega
theorem armK_bd {a f : Int} {x : StP} (k : Nat) (ha : 0 ≤ a ∧ a ≤ 5000) (hf : 0 ≤ f ∧ f ≤ 5000) (hx : StOk x) : -5000 ≤ armK a f k x ∧ armK a f k x ≤ 5000 := by
 have := hx.p0; have := hx.p1
 unfold armK
 split
 ·omega
 ·split <;> omega
theorem overP_bd {x : StP} {w : Int} (hx : StOk x) (h0 : 0 ≤ w) (h1 : w ≤ 1000) : 0 ≤ overP x w ∧ overP x w ≤ 1000 := by
 have := hx.k0
 unfold overP
 omega
theorem press_bd {W L o : Int} (h0 : 0 ≤ W) (h1 : W ≤ 1000000) (h2 : 0 ≤ L) (h3 : L ≤ 5000) (h4 : 0 ≤ o) (h5 : o ≤ 1000) : -5000000 ≤ W - L * o ∧ W - L * o ≤ 5000000 := by
 have := mul_bd h2 h3 h4 h5
 omega
theorem leastT_bd {a f w : Int} {x : StP} (k : Nat) (ha : 0 ≤ a ∧ a ≤ 5000) (hf : 0 ≤ f ∧ f ≤ 5000) (hx : StOk x) (h0 : 0 ≤ w) (h1 : w ≤ 1000) : -25000000000 ≤ leastT a f k w x ∧ leastT a f k w x ≤ 25000000000 := by
 have b1 := armK_bd k ha hf hx
 have b2 := overP_bd hx h0 h1
 have := hx.w0; have := hx.w1; have := hx.w2; have := hx.l0; have := hx.l1; have := hx.l2
 unfold leastT
 split
 ·have := mul_ab b1.1 b1.2 (press_bd (W := x.whi) (L := x.llo) (by omega) hx.w2 hx.l0 (by omega) b2.1 b2.2).1 (press_bd (W := x.whi) (L := x.llo) (by omega) hx.w2 hx.l0 (by omega) b2.1 b2.2).2
  exact this
 ·have := mul_ab b1.1 b1.2 (press_bd (W := x.wlo) (L := x.lhi) (by omega) (by omega) (by omega) hx.l2 b2.1 b2.2).1 (press_bd (W := x.wlo) (L := x.lhi) (by omega) (by omega) (by omega) hx.l2 b2.1 b2.2).2
  exact this
theorem truthT_bd {a f w tw tl : Int} {x : StP} (k : Nat) (ha : 0 ≤ a ∧ a ≤ 5000) (hf : 0 ≤ f ∧ f ≤ 5000) (hx : StOk x) (h0 : 0 ≤ w) (h1 : w ≤ 1000) (g1 : x.wlo ≤ tw) (g2 : tw ≤ x.whi) (g3 : x.llo ≤ tl) (g4 : tl ≤ x.lhi) : -25000000000 ≤ armK a f k x * (tw - tl * overP x w) ∧ armK a f k x * (tw - tl * overP x w) ≤ 25000000000 := by
 have b1 := armK_bd k ha hf hx
 have b2 := overP_bd hx h0 h1
 have := hx.w0; have := hx.w1; have := hx.w2; have := hx.l0; have := hx.l1; have := hx.l2
 have b3 := press_bd (W := tw) (L := tl) (by omega) (by omega) (by omega) (by omega) b2.1 b2.2
 exact mul_ab b1.1 b1.2 b3.1 b3.2
theorem accP_bd {g : Nat → StP → Int} {ps : List StP} {C : Int} (h0 : 0 ≤ C) (h : ∀ i x, ps[i]? = some x → -C ≤ g i x ∧ g i x ≤ C) : ∀ k : Nat, -(C * (k : Int)) ≤ accP g ps k ∧ accP g ps k ≤ C * (k : Int) := by
 intro k
 induction k with
 | zero => simp [accP]
 | succ k ih =>
  have e : C * ((k + 1 : Nat) : Int) = C * (k : Int) + C := by rw [Int.natCast_add, Int.mul_add]; simp
  rw [accP, e]
  cases hx : ps[k]? with
  | none => simp only; omega
  | some x => have := h k x hx; simp only; omega
theorem accP_succ {g : Nat → StP → Int} {ps : List StP} {k : Nat} {x : StP} (hx : ps[k]? = some x) : accP g ps (k + 1) = accP g ps k + g k x := by rw [accP, hx]
theorem leastAcc_bd {h : StH} (H : H5Ok h) {w : Int} (k : Nat) (h0 : 0 ≤ w) (h1 : w ≤ 1000) {n : Nat} (hn : n ≤ 10) : -250000000000 ≤ accP (fun _ x => leastT h.aft h.fore k w x) h.ps n ∧ accP (fun _ x => leastT h.aft h.fore k w x) h.ps n ≤ 250000000000 := by
 have := accP_bd (g := fun _ x => leastT h.aft h.fore k w x) (ps := h.ps) (C := 25000000000) (by omega) (fun i x hx => leastT_bd k ⟨H.a0, H.a1⟩ ⟨H.f0, H.f1⟩ (H.ps i x hx) h0 h1) n
 omega
theorem truthAcc_bd {h : StH} (H : H5Ok h) {w : Int} {tw tl : List Int} (ht : TruthOf h tw tl) (k : Nat) (h0 : 0 ≤ w) (h1 : w ≤ 1000) {n : Nat} (hn : n ≤ 10) : -250000000000 ≤ accP (truthT tw tl h.aft h.fore k w) h.ps n ∧ accP (truthT tw tl h.aft h.fore k w) h.ps n ≤ 250000000000 := by
 have := accP_bd (g := truthT tw tl h.aft h.fore k w) (ps := h.ps) (C := 25000000000) (by omega) (fun i x hx => by
  obtain ⟨a, b, c, d⟩ := ht.2.2 i x hx
  exact truthT_bd k ⟨H.a0, H.a1⟩ ⟨H.f0, H.f1⟩ (H.ps i x hx) h0 h1 a b c d) n
 omega
theorem OnlyAt.more {W X Y : World} {g : Nat} (h1 : OnlyAt W X g) (hb : BW X Y) : OnlyAt W Y g := h1.trans (OnlyAt.of_below hb g)
theorem OnlyAt.blk {W X : World} {g b : Nat} {t : TypeId} {cs : Array Value} (h : OnlyAt W X g) (hB : Blk W b t cs) (hne : b ≠ g) : Blk X b t cs := hB.same (h.block b hB.lt hne)
theorem wet58_any (h : StH) (A : Option Addr) (B cap : Nat) (wt : Int) (w : World) (hH : H5Rd w B h A cap) (hB : B ≤ w.heap.size) (hc : chk5 h = (0, 0, 0)) (h0 : 0 ≤ wt) (h1 : wt ≤ 1000) :
  Calls Tryz.prog 58 #[h5V h A cap, iv wt] w (Rt w (.tuple #[h5V h A cap, iv 0])) := by
 obtain ⟨W1, hW1⟩ := ex ((w.alloc (.cells #[.slice A h.ps.length cap, iv h.aft, iv h.fore] 24)).alloc (.cells #[.slice none 0 0, iv 0, iv 0] 119))
 have hb1 : BW w W1 := by rw [← hW1]; exact belowA (belowA (belowR _) _) _
 have hz1 : W1.heap.size = w.heap.size + 2 := by rw [← hW1]; simp
 have k0 : Blk W1 w.heap.size 24 #[.slice A h.ps.length cap, iv h.aft, iv h.fore] := by rw [← hW1]; exact (Blk.new w 24 _).alloc _
 have k1 : Blk W1 (w.heap.size + 1) 119 #[.slice none 0 0, iv 0, iv 0] := by
  rw [← hW1]
  have := Blk.new (w.alloc (.cells #[.slice A h.ps.length cap, iv h.aft, iv h.fore] 24)) 119 #[.slice none 0 0, iv 0, iv 0]
  rw [World.size_alloc] at this
  exact this
 have HCK := Lq (check60_any h A B cap W1 (hH.below hb1 hB) (by omega))
 rw [hc] at HCK
 have HB1 := Lq hb1
 have K0 := Lq k0
 have K1 := Lq k1
 have O1 := Lq (fun g W => bey_oneB (inB_mk h0 h1) g W)
 have p0 := k0.cell 0
 have p1 := k0.cell 1
 have p2 := k0.cell 2
 clear hH hb1 k0 k1 h0 h1 hc
 go_enter Tryz.func58, Tryz.ntmps58
 go_wp2_with fail
 refine HCK.out.mono ?_
 rintro e w2 ⟨rfl, hb2⟩
 have HB2 := Lq (belowT HB1.out hb2)
 have hz2 := hb2.size
 have K02 := Lq (K0.out.same (hb2.block _ K0.out.lt))
 have K12 := Lq (K1.out.same (hb2.block _ K1.out.lt))
 clear hb2 p0 p1 p2 HCK K0 K1 hW1
 unfold ret3
 go_wp2_with fail
 refine (O1.out _ _ (by go_simp)).mono ?_
 rintro e w3 ⟨rfl, hb3⟩
 have hbx := belowT (belowA (belowR w2) _) hb3
 have k0 := K02.out.same (hbx.block _ K02.out.lt)
 have k1 := K12.out.same (hbx.block _ K12.out.lt)
 have p0 := k0.cell 0
 have p1 := k0.cell 1
 have p2 := k0.cell 2
 have f0 := k1.frozen 0
 have f1 := k1.frozen 1
 have f2 := k1.frozen 2
 have q0 := k1.cell 0
 have q1 := k1.cell 1
 have q2 := k1.cell 2
 have hl1 := k1.lt
 have HB3 := Lq (belowT HB2.out hbx)
 have K13 := Lq k1
 clear hb3 hbx k0 k1 K02 K12
 go_wp2_with fail
 obtain ⟨wx, hwx⟩ := ex (((w3.setCell ⟨w.heap.size + 1, 0, none⟩ (.slice A h.ps.length cap)).setCell ⟨w.heap.size + 1, 1, none⟩ (iv h.aft)).setCell ⟨w.heap.size + 1, 2, none⟩ (iv h.fore))
 have kx : Blk wx (w.heap.size + 1) 119 #[.slice A h.ps.length cap, iv h.aft, iv h.fore] := by
  rw [← hwx]
  exact ((K13.out.set_ 0 _).set_ 1 _).set_ 2 _
 have hbx : BW w wx := by
  rw [← hwx]
  exact belowS (belowS (belowS HB3.out (by dsimp only; omega) _) (by dsimp only; omega) _) (by dsimp only; omega) _
 rw [hwx]
 have y0 := kx.c 0
 have y1 := kx.c 1
 have y2 := kx.c 2
 clear hwx p0 p1 p2 f0 f1 f2 q0 q1 q2
 refine bodyPost_ret (v := .tuple #[h5V h A cap, iv 0]) (by simp [results, Tryz.results58, go_sem, y0, y1, y2]) rfl ?_
 exact ⟨rfl, hbx⟩
theorem tidal61_any (lo hi : Int) (w : World) (h0 : 0 ≤ lo) (h1 : lo ≤ hi) (h2 : hi ≤ 1000) : Calls Tryz.prog 61 #[.agg #[iv lo, iv hi]] w (Rt w (iv 0)) := by
 have O2 := Lq (fun g W => bey_twoB (lo := 0) (hi := 1000) (x := lo) (y := hi) (b := true) (by rw [inB_mk (by omega) (by omega), inB_mk (by omega) (by omega)]; rfl) g W)
 have hle : ¬ hi < lo := by omega
 obtain ⟨W1, hW1⟩ := ex (w.alloc (.cells #[iv lo, iv hi] 36))
 have hb1 : BW w W1 := by rw [← hW1]; exact belowA (belowR _) _
 have k0 : Blk W1 w.heap.size 36 #[iv lo, iv hi] := by rw [← hW1]; exact Blk.new w 36 _
 have p0 := k0.cell 0
 have p1 := k0.cell 1
 have HB1 := Lq hb1
 have K0 := Lq k0
 clear hb1 k0 h0 h1 h2
 go_enter Tryz.func61, Tryz.ntmps61
 go_wp2_with fail
 refine (O2.out _ _ (by go_simp) (by go_simp)).mono ?_
 rintro e w2 ⟨rfl, hb2⟩
 have hbx := belowT (belowA (belowR W1) _) hb2
 have HB2 := Lq (belowT HB1.out hbx)
 have k0 := K0.out.same (hbx.block _ K0.out.lt)
 have p0 := k0.cell 0
 have p1 := k0.cell 1
 clear hb2 hbx k0 K0 hW1
 go_wp2_with fail
 go_ret
 exact ⟨rfl, HB2.out⟩
theorem open95_any (x : StP) (w : World) : Calls Tryz.prog 95 #[stV x] w (Rt w (.agg #[iv x.wlo, iv x.whi])) := by
 go_enter Tryz.func95, Tryz.ntmps95
 go_wp2
 refine bodyPost_ret (v := .agg #[iv x.wlo, iv x.whi]) (by simp [results, Tryz.results95, go_sem]) rfl ?_
 exact ⟨rfl, belowA (belowA (belowR _) _) _⟩
theorem strange95_any (ps : List StP) (ns : List Int) (A NA : Option Addr) (B cap capN : Nat) (w : World) (hR : RdN 7 encS w B A ps) (hN : Rd1 iv w B NA ns) (hB : B ≤ w.heap.size) (hn : ps.length ≤ 10) (hl : ns.length = ps.length)
  (hin : ∀ (i : Nat) (x : StP), ps[i]? = some x → x.wlo ≤ ns[i]?.getD 0 ∧ ns[i]?.getD 0 ≤ x.whi) :
  Calls Tryz.prog 94 #[.slice A ps.length cap, .slice NA ns.length capN, .func (.func 95) #[] #[]] w (Rt w (.bool false)) := by
 have HR := Lq hR
 have HN := Lq hN
 have HIN := Lq hin
 have HL := Lq hl
 obtain ⟨nl, hnl⟩ := ex ns.length
 rw [hnl]
 have HNL := Lq hnl
 clear hR hN hin hl hnl
 go_enter Tryz.func94, Tryz.ntmps94
 go_wp2_with fail
 obtain ⟨wq, hwq⟩ : ∃ wq : World, wq = w := ⟨_, rfl⟩
 have HBQ : Hid (BW w wq) := Lq (by rw [hwq]; exact belowR _)
 rw [← hwq]
 clear hwq
 go_loopw [12] (fun vi wr => ∃ k : Nat, k ≤ ps.length ∧ vi = iv k ∧ Hid (BW w wr)) (fun vi _ => ps.length - (intOf vi).toNat)
 case atStart => exact ⟨0, Nat.zero_le _, rfl, HBQ⟩
 case round =>
  clear HBQ
  obtain ⟨k, hk, rfl, HBW⟩ := hrel
  by_cases hlt : k < ps.length
  ·obtain ⟨c, hx⟩ : ∃ c, ps[k]? = some c := ⟨_, List.getElem?_eq_getElem hlt⟩
   obtain ⟨nx, hnx⟩ : ∃ c, ns[k]? = some c := ⟨_, List.getElem?_eq_getElem (by rw [HL.out]; exact hlt)⟩
   have hb := HIN.out k c hx
   rw [hnx] at hb
   simp only [Option.getD_some] at hb
   obtain ⟨bb, off, rfl, _, d0, d1, d2, d3, d4, d5, d6⟩ := stAt (HR.out.below HBW.out hB) hx
   obtain ⟨nb, noff, rfl, _, dn⟩ := (HN.out.below HBW.out hB) k nx hnx
   have hkz : (k : Int) < (ps.length : Int) := by omega
   have hkn : (k : Int) < (nl : Int) := by have := HL.out; have := HNL.out; omega
   have hk0 : (0 : Int) ≤ (k : Int) := by omega
   have hio : inB c.wlo c.whi nx = true := inB_mk hb.1 hb.2
   have HOP := Lq (open95_any c)
   clear hx hnx hb
   obtain ⟨name, pos, wlo, whi, keel, llo, lhi⟩ := c
   simp only at d0 d1 d2 d3 d4 d5 d6 hio HOP
   have HIO := Lq hio
   have HBX := Lq (belowA (belowR wr) (.cells #[.string name, iv pos, iv wlo, iv whi, iv keel, iv llo, iv lhi] 42))
   have HDN : Hid (∀ V, BW wr V → V.cell? ⟨nb, noff + k, none⟩ = some (iv nx)) := Lq fun V hb => keepC hb dn
   clear hio dn
   go_wp2_with fail
   refine (HOP.out _).mono ?_
   rintro e x1 ⟨rfl, hb⟩
   have hb1 := belowT HBX.out hb
   have X1 := Lq hb1
   have XW := Lq (belowT HBW.out hb1)
   obtain ⟨g9, hg9⟩ := ex x1.heap.size
   obtain ⟨W6, hW6⟩ := ex (x1.alloc (.cells #[iv wlo, iv whi] 36))
   have k9 : Blk W6 g9 36 #[iv wlo, iv whi] := by rw [← hW6, ← hg9]; exact Blk.new x1 36 _
   have hb6 : BW x1 W6 := by rw [← hW6]; exact belowA (belowR _) _
   have HS : Hid (∀ W, BW W6 W → W.cell? ⟨g9, 0, none⟩ = some (iv wlo) ∧ W.cell? ⟨g9, 1, none⟩ = some (iv whi) ∧ W.cell? ⟨nb, noff + k, none⟩ = some (iv nx)) := Lq fun W hbw => ⟨(k9.same (hbw.block _ k9.lt)).cell 0, (k9.same (hbw.block _ k9.lt)).cell 1, HDN.out W (belowT (belowT hb1 hb6) hbw)⟩
   have X6 := Lq (belowT XW.out hb6)
   have HO1 := Lq (fun g W => bey_oneB HIO.out g W)
   have HBD := Lq (belowDq (belowR W6))
   clear hb hb1 hb6 k9 d0 d1 d2 d3 d4 d5 d6
   go_wp2_with fail
   clear hW6 hg9
   go_region_held3 (fun W => W.cell? ⟨g9, 0, none⟩ = some (iv wlo) ∧ W.cell? ⟨g9, 1, none⟩ = some (iv whi) ∧ W.cell? ⟨nb, noff + k, none⟩ = some (iv nx)) (first | exact HS.out _ HBD.out | exact HS.out _ (belowA HBD.out _) | exact HS.out _ HB7.out) ((go_at_call 67; (refine (HO1.out _ _ (by go_simp)).mono ?_); rintro e w7 ⟨rfl, hb7⟩; have HB7 := Lq (belowT (belowA HBD.out _) hb7); clear hb7))
   go_wp2_with fail
   go_roundw
   case rel => exact ⟨k + 1, by omega, by go_num, Lq (belowT X6.out HB7.out)⟩
   case measure => simp [intOf]; omega
  ·obtain rfl : k = ps.length := by omega
   go_wp2_with fail
   go_ret
   exact ⟨rfl, HBW.out⟩
theorem open96_any (x : StP) (w : World) : Calls Tryz.prog 96 #[stV x] w (Rt w (.agg #[iv x.llo, iv x.lhi])) := by
 go_enter Tryz.func96, Tryz.ntmps96
 go_wp2
 refine bodyPost_ret (v := .agg #[iv x.llo, iv x.lhi]) (by simp [results, Tryz.results96, go_sem]) rfl ?_
 exact ⟨rfl, belowA (belowA (belowR _) _) _⟩
theorem strange96_any (ps : List StP) (ns : List Int) (A NA : Option Addr) (B cap capN : Nat) (w : World) (hR : RdN 7 encS w B A ps) (hN : Rd1 iv w B NA ns) (hB : B ≤ w.heap.size) (hn : ps.length ≤ 10) (hl : ns.length = ps.length)
  (hin : ∀ (i : Nat) (x : StP), ps[i]? = some x → x.llo ≤ ns[i]?.getD 0 ∧ ns[i]?.getD 0 ≤ x.lhi) :
  Calls Tryz.prog 94 #[.slice A ps.length cap, .slice NA ns.length capN, .func (.func 96) #[] #[]] w (Rt w (.bool false)) := by
 have HR := Lq hR
 have HN := Lq hN
 have HIN := Lq hin
 have HL := Lq hl
 obtain ⟨nl, hnl⟩ := ex ns.length
 rw [hnl]
 have HNL := Lq hnl
 clear hR hN hin hl hnl
 go_enter Tryz.func94, Tryz.ntmps94
 go_wp2_with fail
 obtain ⟨wq, hwq⟩ : ∃ wq : World, wq = w := ⟨_, rfl⟩
 have HBQ : Hid (BW w wq) := Lq (by rw [hwq]; exact belowR _)
 rw [← hwq]
 clear hwq
 go_loopw [12] (fun vi wr => ∃ k : Nat, k ≤ ps.length ∧ vi = iv k ∧ Hid (BW w wr)) (fun vi _ => ps.length - (intOf vi).toNat)
 case atStart => exact ⟨0, Nat.zero_le _, rfl, HBQ⟩
 case round =>
  clear HBQ
  obtain ⟨k, hk, rfl, HBW⟩ := hrel
  by_cases hlt : k < ps.length
  ·obtain ⟨c, hx⟩ : ∃ c, ps[k]? = some c := ⟨_, List.getElem?_eq_getElem hlt⟩
   obtain ⟨nx, hnx⟩ : ∃ c, ns[k]? = some c := ⟨_, List.getElem?_eq_getElem (by rw [HL.out]; exact hlt)⟩
   have hb := HIN.out k c hx
   rw [hnx] at hb
   simp only [Option.getD_some] at hb
   obtain ⟨bb, off, rfl, _, d0, d1, d2, d3, d4, d5, d6⟩ := stAt (HR.out.below HBW.out hB) hx
   obtain ⟨nb, noff, rfl, _, dn⟩ := (HN.out.below HBW.out hB) k nx hnx
   have hkz : (k : Int) < (ps.length : Int) := by omega
   have hkn : (k : Int) < (nl : Int) := by have := HL.out; have := HNL.out; omega
   have hk0 : (0 : Int) ≤ (k : Int) := by omega
   have hio : inB c.llo c.lhi nx = true := inB_mk hb.1 hb.2
   have HOP := Lq (open96_any c)
   clear hx hnx hb
   obtain ⟨name, pos, wlo, whi, keel, llo, lhi⟩ := c
   simp only at d0 d1 d2 d3 d4 d5 d6 hio HOP
   have HIO := Lq hio
   have HBX := Lq (belowA (belowR wr) (.cells #[.string name, iv pos, iv wlo, iv whi, iv keel, iv llo, iv lhi] 42))
   have HDN : Hid (∀ V, BW wr V → V.cell? ⟨nb, noff + k, none⟩ = some (iv nx)) := Lq fun V hb => keepC hb dn
   clear hio dn
   go_wp2_with fail
   refine (HOP.out _).mono ?_
   rintro e x1 ⟨rfl, hb⟩
   have hb1 := belowT HBX.out hb
   have X1 := Lq hb1
   have XW := Lq (belowT HBW.out hb1)
   obtain ⟨g9, hg9⟩ := ex x1.heap.size
   obtain ⟨W6, hW6⟩ := ex (x1.alloc (.cells #[iv llo, iv lhi] 36))
   have k9 : Blk W6 g9 36 #[iv llo, iv lhi] := by rw [← hW6, ← hg9]; exact Blk.new x1 36 _
   have hb6 : BW x1 W6 := by rw [← hW6]; exact belowA (belowR _) _
   have HS : Hid (∀ W, BW W6 W → W.cell? ⟨g9, 0, none⟩ = some (iv llo) ∧ W.cell? ⟨g9, 1, none⟩ = some (iv lhi) ∧ W.cell? ⟨nb, noff + k, none⟩ = some (iv nx)) := Lq fun W hbw => ⟨(k9.same (hbw.block _ k9.lt)).cell 0, (k9.same (hbw.block _ k9.lt)).cell 1, HDN.out W (belowT (belowT hb1 hb6) hbw)⟩
   have X6 := Lq (belowT XW.out hb6)
   have HO1 := Lq (fun g W => bey_oneB HIO.out g W)
   have HBD := Lq (belowDq (belowR W6))
   clear hb hb1 hb6 k9 d0 d1 d2 d3 d4 d5 d6
   go_wp2_with fail
   clear hW6 hg9
   go_region_held3 (fun W => W.cell? ⟨g9, 0, none⟩ = some (iv llo) ∧ W.cell? ⟨g9, 1, none⟩ = some (iv lhi) ∧ W.cell? ⟨nb, noff + k, none⟩ = some (iv nx)) (first | exact HS.out _ HBD.out | exact HS.out _ (belowA HBD.out _) | exact HS.out _ HB7.out) ((go_at_call 67; (refine (HO1.out _ _ (by go_simp)).mono ?_); rintro e w7 ⟨rfl, hb7⟩; have HB7 := Lq (belowT (belowA HBD.out _) hb7); clear hb7))
   go_wp2_with fail
   go_roundw
   case rel => exact ⟨k + 1, by omega, by go_num, Lq (belowT X6.out HB7.out)⟩
   case measure => simp [intOf]; omega
  ·obtain rfl : k = ps.length := by omega
   go_wp2_with fail
   go_ret
   exact ⟨rfl, HBW.out⟩
end Go.Proofs.YtmhjhbchokbonaaGreat
namespace Go.Proofs.YtmhjhbchokbonaaGreat
noncomputable def opsOf : Code → Array Oper
 | .region _ ops _ => ops
 | _ => #[]
noncomputable def opN (ops : Array Oper) (i : Nat) : Oper := (ops[i]?).getD default
end Go.Proofs.YtmhjhbchokbonaaGreat
namespace Go.Proofs.YtmhjhbchokbonaaGreat
open Go
section
variable {P : Program} {ops : Array Oper} {Q : Exit → Act → World → Prop} {md : Region.Mode} {S : World → Prop} {late : Nat → Bool}
def wpAnyL (P : Program) (md : Region.Mode) (ops : Array Oper) (Q : Exit → Act → World → Prop) (S : World → Prop) (late : Nat → Bool) : Nat → Array Bool → Act → World → Prop
 | 0, listed, a, w => Region.ready md ops listed = [] ∧ Q .normal a w
 | fuel + 1, listed, a, w =>
  (Region.ready md ops listed = [] → Q .normal a w) ∧
  ∀ i ∈ Region.ready md ops listed, wpOp P ops Q i (fun a' w' => (late i = true → wpAny P md ops Q fuel (listed.setIfInBounds i true) a' w') ∧ (late i = false → S w' ∧ wpAnyL P md ops Q S late fuel (listed.setIfInBounds i true) a' w')) a w
theorem wpAny_of_late : ∀ (fuel : Nat) (listed : Array Bool) (a : Act) (w : World), wpAnyL P md ops Q S late fuel listed a w → wpAny P md ops Q fuel listed a w
 | 0, _, _, _, h => h
 | fuel + 1, _, _, _, h => ⟨h.1, fun i hi => wpOp_mono (fun a' w' h' => by
   cases hl : late i with
   | true => exact h'.1 hl
   | false => exact wpAny_of_late fuel _ a' w' (h'.2 hl).2) (h.2 i hi)⟩
def waitsN (md : Region.Mode) (ops : Array Oper) (i : Nat) : Nat → Nat → Bool
 | 0, _ => false
 | f + 1, j => match ops[j]? with
  | some o => o.after.any fun e => Region.binds md e && (e.on == i || waitsN md ops i f e.on)
  | none => false
def waitsAll (md : Region.Mode) (ops : Array Oper) (late : Nat → Bool) (i : Nat) : Bool :=
 (List.range ops.size).all fun j => !late j || waitsN md ops i ops.size j
def Closed (md : Region.Mode) (ops : Array Oper) (listed : Array Bool) : Prop := ∀ j oj, ops[j]? = some oj → listed.getD j false = true → ∀ e ∈ oj.after, Region.binds md e = true → listed.getD e.on false = true
def closedB (md : Region.Mode) (ops : Array Oper) (listed : Array Bool) : Bool :=
 (List.range ops.size).all fun j => !listed.getD j false || (match ops[j]? with | some o => o.after.all fun e => !Region.binds md e || listed.getD e.on false | none => true)
theorem closedB_spec {listed : Array Bool} (h : closedB md ops listed = true) : Closed md ops listed := fun j oj ho hl e he hb => by
 unfold closedB at h
 rw [List.all_eq_true] at h
 have := h j (List.mem_range.2 (Array.getElem?_eq_some_iff.1 ho).1)
 rw [hl, ho] at this
 simp only [Bool.not_true, Bool.false_or, Array.all_eq_true, Bool.or_eq_true, Bool.not_eq_true'] at this
 obtain ⟨k, hk, rfl⟩ := Array.mem_iff_getElem.1 he
 rcases this k hk with h1 | h1
 ·rw [hb] at h1; cases h1
 ·exact h1
theorem waitsN_listed {i : Nat} {listed : Array Bool} (hc : Closed md ops listed) : ∀ (f j : Nat) (oj : Oper), ops[j]? = some oj → (∀ e ∈ oj.after, Region.binds md e = true → listed.getD e.on false = true) → waitsN md ops i f j = true → listed.getD i false = true := by
 intro f
 induction f with
 | zero => intro j oj _ _ h; cases h
 | succ f ih =>
  intro j oj ho hall h
  rw [waitsN, ho] at h
  simp only [Array.any_eq_true, Bool.and_eq_true, Bool.or_eq_true, beq_iff_eq] at h
  obtain ⟨k, hk, h1, h2⟩ := h
  have hl := hall _ (Array.getElem_mem hk) h1
  rcases h2 with h2 | h2
  ·rw [← h2]; exact hl
  ·cases hk2 : ops[(oj.after[k]).on]? with
   | none =>
    cases f with
    | zero => cases h2
    | succ f => rw [waitsN, hk2] at h2; cases h2
   | some ok => exact ih _ ok hk2 (fun e he hb => hc _ ok hk2 hl e he hb) h2
theorem Closed.set {listed : Array Bool} {j : Nat} (hc : Closed md ops listed) (hr : j ∈ Region.ready md ops listed) : Closed md ops (listed.setIfInBounds j true) := fun k ok hk hl e he hb => by
 by_cases hjk : j = k
 ·subst hjk
  obtain ⟨_, oj, hoj, hall⟩ := mem_ready.1 hr
  rw [hk] at hoj
  injection hoj with hoj
  subst hoj
  exact getD_set_true (hall e he hb)
 ·rw [getD_set_ne false hjk] at hl
  exact getD_set_true (hc k ok hk hl e he hb)
theorem wpAnyL_first {i : Nat} {oi : Oper} {v : Value} (hi : ops[i]? = some oi) (hsel : ∀ (j : Nat) (o : Oper) cs b, ops[j]? = some o → o.op ≠ .select cs b)
  (hQ : ∀ c a w, Q (.panic c) (a.put oi.dst v) w → Q (.panic c) a w) (hli : late i = false) (hw : ∀ j, j < ops.size → late j = true → waitsN md ops i ops.size j = true) :
  ∀ (fuel : Nat) (listed : Array Bool) (a : Act) (w : World),
   (∀ j oj, ops[j]? = some oj → j ≠ i → listed.getD j true = false → (∀ e ∈ oj.after, Region.binds md e = true → e.on ≠ i) → oi.apart ops oj = true) →
   Closed md ops listed → i ∈ Region.ready md ops listed → YieldsIf P ops S oi v a → S w →
   wpAnyL P md ops Q S late fuel (listed.setIfInBounds i true) (a.put oi.dst v) w → wpAnyL P md ops Q S late (fuel + 1) listed a w := by
 intro fuel
 induction fuel with
 | zero =>
  intro listed a w _ _ hr hy hS H
  refine ⟨fun h => (by rw [h] at hr; cases hr), fun j hj => ?_⟩
  by_cases hji : j = i
  ·subst hji; exact hy.wpOp hi hS ⟨fun h => (by rw [hli] at h; cases h), fun _ => ⟨hS, H⟩⟩
  ·have := ready_mono hj hji
   rw [H.1] at this
   cases this
 | succ fuel ih =>
  intro listed a w hfree hcl hr hy hS H
  refine ⟨fun h => (by rw [h] at hr; cases hr), fun j hj => ?_⟩
  by_cases hji : j = i
  ·subst hji; exact hy.wpOp hi hS ⟨fun h => (by rw [hli] at h; cases h), fun _ => ⟨hS, H⟩⟩
  ·have h1 := H.2 j (ready_mono hj hji)
   obtain ⟨hjun, oj, hoj, hall⟩ := mem_ready.1 hj
   have hnot : ∀ e ∈ oj.after, Region.binds md e = true → e.on ≠ i := fun e he hb heq => by
    have h1 := hall e he hb
    have h0 := (mem_ready.1 hr).1
    rw [heq] at h1
    rcases Nat.lt_or_ge i listed.size with h' | h'
    ·simp [h'] at h0 h1; rw [h0] at h1; cases h1
    ·simp [Array.getElem?_eq_none h'] at h1
   have hlj : late j = false := by
    cases hl : late j with
    | false => rfl
    | true =>
     have h9 := waitsN_listed hcl _ j oj hoj hall (hw j (Array.getElem?_eq_some_iff.1 hoj).1 hl)
     have h0 := (mem_ready.1 hr).1
     rcases Nat.lt_or_ge i listed.size with h' | h'
     ·simp [h'] at h0 h9; rw [h0] at h9; cases h9
     ·simp [Array.getElem?_eq_none h'] at h9
   have h1' : wpOp P ops Q j (fun a' w' => S w' ∧ wpAnyL P md ops Q S late fuel ((listed.setIfInBounds i true).setIfInBounds j true) a' w') (a.put oi.dst v) w := wpOp_mono (fun a' w' h => h.2 hlj) h1
   have h2 := wpOp_putIf hoj (hfree j oj hoj hji hjun hnot) (fun cs b => hsel i oi cs b hi) (fun cs b => hsel j oj cs b hoj) hQ hy h1'
   have hfree' : ∀ k ok, ops[k]? = some ok → k ≠ i → (listed.setIfInBounds j true).getD k true = false →
     (∀ e ∈ ok.after, Region.binds md e = true → e.on ≠ i) → oi.apart ops ok = true := fun k ok hk hki hun hno => by
    refine hfree k ok hk hki ?_ hno
    by_cases hjk : j = k
    ·subst hjk; exact hjun
    ·rw [getD_set_ne true hjk] at hun; exact hun
   refine wpOp_mono (fun a' w' h3 => ⟨fun h => (by rw [hlj] at h; cases h), fun _ => ⟨h3.2.1, ih (listed.setIfInBounds j true) a' w' hfree' (hcl.set hj) (ready_mono hr (Ne.symm hji)) h3.1 h3.2.1 ?_⟩⟩) h2
   rw [Array.setIfInBounds_comm _ _ hji]
   exact h3.2.2
theorem wpAnyL_take {i : Nat} {oi : Oper} {v : Value} {fuel : Nat} {listed : Array Bool} {a : Act} {w : World} (hi : ops[i]? = some oi)
  (hs : Region.noSelect ops = true) (hf : Region.free md ops listed i = true) (hr : (Region.ready md ops listed).contains i = true)
  (hQ : ∀ c a w, Q (.panic c) (a.put oi.dst v) w → Q (.panic c) a w) (hli : late i = false) (hw : waitsAll md ops late i = true) (hcl : closedB md ops listed = true) (hy : YieldsIf P ops S oi v a) (hS : S w)
  (h : wpAnyL P md ops Q S late fuel (listed.setIfInBounds i true) (a.put oi.dst v) w) : wpAnyL P md ops Q S late (fuel + 1) listed a w :=
 wpAnyL_first hi (Region.noSelect_spec hs) hQ hli (fun j hj hl => by unfold waitsAll at hw; rw [List.all_eq_true] at hw; have := hw j (List.mem_range.2 hj); rw [hl] at this; simpa using this) fuel listed a w (Region.free_spec hi hf) (closedB_spec hcl) (by simpa using hr) hy hS h
def AllReadyL (P : Program) (md : Region.Mode) (ops : Array Oper) (Q : Exit → Act → World → Prop) (S : World → Prop) (late : Nat → Bool) (fuel : Nat) (listed : Array Bool) (a : Act) (w : World) (rs : List Nat) : Prop :=
 ∀ i ∈ rs, wpOp P ops Q i (fun a' w' => (late i = true → wpAny P md ops Q fuel (listed.setIfInBounds i true) a' w') ∧ (late i = false → S w' ∧ wpAnyL P md ops Q S late fuel (listed.setIfInBounds i true) a' w')) a w
theorem AllReadyL.nil {fuel : Nat} {listed : Array Bool} {a : Act} {w : World} : AllReadyL P md ops Q S late fuel listed a w [] := fun _ h => by cases h
theorem AllReadyL.cons {fuel : Nat} {listed : Array Bool} {a : Act} {w : World} {i : Nat} {o : Oper} {rs : List Nat} (ho : ops[i]? = some o) (hl : late i = false)
  (h : ∀ K' : Act → World → Prop, Shut (∀ a w, S w → (S w → wpAnyL P md ops Q S late fuel (listed.setIfInBounds i true) a w) → K' a w) → if Region.wanted o (yielded ops a.tmps) = true then Oper.wp P o a w K' Q else K' (a.put o.dst undef) w)
  (hs : AllReadyL P md ops Q S late fuel listed a w rs) : AllReadyL P md ops Q S late fuel listed a w (i :: rs) := fun j hj => by
 rcases List.mem_cons.1 hj with rfl | hj
 ·exact wpOp_step ho (fun K' hK => h K' (fun a w hS hW => hK a w ⟨fun h => (by rw [hl] at h; cases h), fun _ => ⟨hS, hW hS⟩⟩))
 ·exact hs j hj
theorem AllReadyL.last {fuel : Nat} {listed : Array Bool} {a : Act} {w : World} {i : Nat} {o : Oper} {rs : List Nat} (ho : ops[i]? = some o) (hl : late i = true)
  (h : ∀ K' : Act → World → Prop, Shut (∀ a w, wpAny P md ops Q fuel (listed.setIfInBounds i true) a w → K' a w) → if Region.wanted o (yielded ops a.tmps) = true then Oper.wp P o a w K' Q else K' (a.put o.dst undef) w)
  (hs : AllReadyL P md ops Q S late fuel listed a w rs) : AllReadyL P md ops Q S late fuel listed a w (i :: rs) := fun j hj => by
 rcases List.mem_cons.1 hj with rfl | hj
 ·exact wpOp_step ho (fun K' hK => h K' (fun a w hW => hK a w ⟨fun _ => hW, fun h => (by rw [hl] at h; cases h)⟩))
 ·exact hs j hj
theorem wpAnyL_ready {rs : List Nat} {fuel : Nat} {listed : Array Bool} {a : Act} {w : World} (hr : Region.ready md ops listed = rs) (hne : rs ≠ [])
  (h : AllReadyL P md ops Q S late fuel listed a w rs) : wpAnyL P md ops Q S late (fuel + 1) listed a w :=
 ⟨fun h0 => absurd (hr ▸ h0) hne, hr ▸ h⟩
theorem wp_region_late {id : Nat} {a : Act} {w : World} (hm : P.follows .mixedOrders = true)
  (h : wpAnyL P .any ops Q S late ops.size (Array.replicate ops.size false) a w.drew) : (Code.region id ops true).wp P Q a w :=
 wp_region_any hm (wpAny_of_late _ _ _ _ h)
end
end Go.Proofs.YtmhjhbchokbonaaGreat
namespace Go.Proofs.YtmhjhbchokbonaaGreat
open Go Go.RowKit
section
variable {P : Program} {ops : Array Oper} {Q : Exit → Act → World → Prop} {md : Region.Mode} {S : World → Prop} {late : Nat → Bool} {fuel : Nat} {listed l' l2 l3 : Array Bool} {a a' : Act} {w : World}
noncomputable def takeB (md : Region.Mode) (ops : Array Oper) (listed : Array Bool) (i : Nat) : Bool := Region.noSelect ops && Region.free md ops listed i && (Region.ready md ops listed).contains i
theorem tk (i : Nat) (v : Value) (h : wpAnyH P md ops Q S fuel l' a' w) (hi : ops[i]? = some (opN ops i) := by kernel_rfl) (hb : takeB md ops listed i = true := by kernel_rfl)
  (hy : YieldsIf P ops S (opN ops i) v a := by
   generalize e : opN _ _ = o
   conv at e => lhs; whnf
   subst e
   refine Or.inl ⟨by first | rfl | kernel_rfl, ?_⟩
   intro w hSw
   (repeat (have hx := hSw.1; replace hSw := hSw.2))
   go_simp)
  (hS : S w := by first | assumption | trivial)
  (hl : listed.setIfInBounds i true = l' := by
   simp only [List.setIfInBounds_toArray, List.set_cons_zero, List.set_cons_succ]
   rfl)
  (ha : a.put (opN ops i).dst v = a' := by
   generalize e : opN _ _ = o
   conv at e => lhs; whnf
   subst e
   (try simp only [Act.put, List.setIfInBounds_toArray, List.set_cons_zero, List.set_cons_succ])
   rfl)
  (hQ : ∀ c a w, Q (.panic c) (a.put (opN ops i).dst v) w → Q (.panic c) a w := by exact fun _ _ _ h => h) : wpAnyH P md ops Q S (fuel + 1) listed a w := by
 subst hl ha
 simp only [takeB, Bool.and_eq_true] at hb
 exact wpAnyH_take hi hb.1.1 hb.1.2 hb.2 hQ hy hS h
theorem tkO (i : Nat) (v : Value) (h : wpAnyH P md ops Q S fuel l' a' w) (hi : ops[i]? = some (opN ops i) := by kernel_rfl) (hb : takeB md ops listed i = true := by kernel_rfl)
  (hy : YieldsIf P ops S (opN ops i) v a := by
   generalize e : opN _ _ = o
   conv at e => lhs; whnf
   subst e
   refine Or.inl ⟨by first | rfl | kernel_rfl, ?_⟩
   intro w hSw
   (repeat (have hx := hSw.1; replace hSw := hSw.2))
   go_simp
   omega)
  (hS : S w := by first | assumption | trivial)
  (hl : listed.setIfInBounds i true = l' := by
   simp only [List.setIfInBounds_toArray, List.set_cons_zero, List.set_cons_succ]
   rfl)
  (ha : a.put (opN ops i).dst v = a' := by
   generalize e : opN _ _ = o
   conv at e => lhs; whnf
   subst e
   (try simp only [Act.put, List.setIfInBounds_toArray, List.set_cons_zero, List.set_cons_succ])
   rfl)
  (hQ : ∀ c a w, Q (.panic c) (a.put (opN ops i).dst v) w → Q (.panic c) a w := by exact fun _ _ _ h => h) : wpAnyH P md ops Q S (fuel + 1) listed a w := by
 subst hl ha
 simp only [takeB, Bool.and_eq_true] at hb
 exact wpAnyH_take hi hb.1.1 hb.1.2 hb.2 hQ hy hS h
noncomputable def takeLB (md : Region.Mode) (ops : Array Oper) (late : Nat → Bool) (listed : Array Bool) (i : Nat) : Bool := takeB md ops listed i && !late i && waitsAll md ops late i && closedB md ops listed
theorem tkL (i : Nat) (v : Value) (h : wpAnyL P md ops Q S late fuel l' a' w) (hi : ops[i]? = some (opN ops i) := by kernel_rfl) (hb : takeLB md ops late listed i = true := by kernel_rfl)
  (hy : YieldsIf P ops S (opN ops i) v a := by
   generalize e : opN _ _ = o
   conv at e => lhs; whnf
   subst e
   refine Or.inl ⟨by first | rfl | kernel_rfl, ?_⟩
   intro w hSw
   (repeat (have hx := hSw.1; replace hSw := hSw.2))
   go_simp)
  (hS : S w := by first | assumption | trivial)
  (hl : listed.setIfInBounds i true = l' := by
   simp only [List.setIfInBounds_toArray, List.set_cons_zero, List.set_cons_succ]
   rfl)
  (ha : a.put (opN ops i).dst v = a' := by
   generalize e : opN _ _ = o
   conv at e => lhs; whnf
   subst e
   (try simp only [Act.put, List.setIfInBounds_toArray, List.set_cons_zero, List.set_cons_succ])
   rfl)
  (hQ : ∀ c a w, Q (.panic c) (a.put (opN ops i).dst v) w → Q (.panic c) a w := by exact fun _ _ _ h => h) : wpAnyL P md ops Q S late (fuel + 1) listed a w := by
 subst hl ha
 simp only [takeLB, takeB, Bool.and_eq_true, Bool.not_eq_true'] at hb
 exact wpAnyL_take hi hb.1.1.1.1.1 hb.1.1.1.1.2 hb.1.1.1.2 hQ hb.1.1.2 hb.1.2 hb.2 hy hS h
theorem rd1 (i : Nat) {o : Oper} (h : ∀ K' : Act → World → Prop, Shut (∀ a w, S w → (S w → wpAnyH P md ops Q S fuel l' a w) → K' a w) → if Region.wanted o (yielded ops a.tmps) = true then Oper.wp P o a w K' Q else K' (a.put o.dst undef) w)
  (ho : opN ops i = o := by
   (conv => lhs; whnf) <;> rfl)
  (hi : ops[i]? = some (opN ops i) := by kernel_rfl) (hr : Region.ready md ops listed = [i] := by kernel_rfl)
  (hl : listed.setIfInBounds i true = l' := by
   simp only [List.setIfInBounds_toArray, List.set_cons_zero, List.set_cons_succ]
   rfl) : wpAnyH P md ops Q S (fuel + 1) listed a w := by
 subst hl ho
 exact wpAnyH_ready hr (by simp) (AllReadyH.cons hi h AllReadyH.nil)
theorem rd2 (i j : Nat) {o p : Oper} (h : ∀ K' : Act → World → Prop, Shut (∀ a w, S w → (S w → wpAnyH P md ops Q S fuel l' a w) → K' a w) → if Region.wanted o (yielded ops a.tmps) = true then Oper.wp P o a w K' Q else K' (a.put o.dst undef) w)
  (h2 : ∀ K' : Act → World → Prop, Shut (∀ a w, S w → (S w → wpAnyH P md ops Q S fuel l2 a w) → K' a w) → if Region.wanted p (yielded ops a.tmps) = true then Oper.wp P p a w K' Q else K' (a.put p.dst undef) w)
  (ho : opN ops i = o := by
   (conv => lhs; whnf) <;> rfl)
  (hp : opN ops j = p := by
   (conv => lhs; whnf) <;> rfl)
  (hi : ops[i]? = some (opN ops i) := by kernel_rfl) (hj : ops[j]? = some (opN ops j) := by kernel_rfl) (hr : Region.ready md ops listed = [i, j] := by kernel_rfl)
  (hl : listed.setIfInBounds i true = l' := by
   simp only [List.setIfInBounds_toArray, List.set_cons_zero, List.set_cons_succ]
   rfl)
  (hl2 : listed.setIfInBounds j true = l2 := by
   simp only [List.setIfInBounds_toArray, List.set_cons_zero, List.set_cons_succ]
   rfl) : wpAnyH P md ops Q S (fuel + 1) listed a w := by
 subst hl hl2 ho hp
 exact wpAnyH_ready hr (by simp) (AllReadyH.cons hi h (AllReadyH.cons hj h2 AllReadyH.nil))
theorem rdL1 (i : Nat) {o : Oper} (h : ∀ K' : Act → World → Prop, Shut (∀ a w, S w → (S w → wpAnyL P md ops Q S late fuel l' a w) → K' a w) → if Region.wanted o (yielded ops a.tmps) = true then Oper.wp P o a w K' Q else K' (a.put o.dst undef) w)
  (ho : opN ops i = o := by
   (conv => lhs; whnf) <;> rfl)
  (hi : ops[i]? = some (opN ops i) := by kernel_rfl) (hr : Region.ready md ops listed = [i] := by kernel_rfl) (hla : late i = false := by rfl)
  (hl : listed.setIfInBounds i true = l' := by
   simp only [List.setIfInBounds_toArray, List.set_cons_zero, List.set_cons_succ]
   rfl) : wpAnyL P md ops Q S late (fuel + 1) listed a w := by
 subst hl ho
 exact wpAnyL_ready hr (by simp) (AllReadyL.cons hi hla h AllReadyL.nil)
theorem rdL2 (i j : Nat) {o p : Oper} (h : ∀ K' : Act → World → Prop, Shut (∀ a w, S w → (S w → wpAnyL P md ops Q S late fuel l' a w) → K' a w) → if Region.wanted o (yielded ops a.tmps) = true then Oper.wp P o a w K' Q else K' (a.put o.dst undef) w)
  (h2 : ∀ K' : Act → World → Prop, Shut (∀ a w, S w → (S w → wpAnyL P md ops Q S late fuel l2 a w) → K' a w) → if Region.wanted p (yielded ops a.tmps) = true then Oper.wp P p a w K' Q else K' (a.put p.dst undef) w)
  (ho : opN ops i = o := by
   (conv => lhs; whnf) <;> rfl)
  (hp : opN ops j = p := by
   (conv => lhs; whnf) <;> rfl)
  (hi : ops[i]? = some (opN ops i) := by kernel_rfl) (hj : ops[j]? = some (opN ops j) := by kernel_rfl) (hr : Region.ready md ops listed = [i, j] := by kernel_rfl) (hla : late i = false := by rfl) (hlb : late j = false := by rfl)
  (hl : listed.setIfInBounds i true = l' := by
   simp only [List.setIfInBounds_toArray, List.set_cons_zero, List.set_cons_succ]
   rfl)
  (hl2 : listed.setIfInBounds j true = l2 := by
   simp only [List.setIfInBounds_toArray, List.set_cons_zero, List.set_cons_succ]
   rfl) : wpAnyL P md ops Q S late (fuel + 1) listed a w := by
 subst hl hl2 ho hp
 exact wpAnyL_ready hr (by simp) (AllReadyL.cons hi hla h (AllReadyL.cons hj hlb h2 AllReadyL.nil))
theorem rdT (i : Nat) {o : Oper} (h : ∀ K' : Act → World → Prop, Shut (∀ a w, wpAny P md ops Q fuel l' a w → K' a w) → if Region.wanted o (yielded ops a.tmps) = true then Oper.wp P o a w K' Q else K' (a.put o.dst undef) w)
  (ho : opN ops i = o := by
   (conv => lhs; whnf) <;> rfl)
  (hi : ops[i]? = some (opN ops i) := by kernel_rfl) (hr : Region.ready md ops listed = [i] := by kernel_rfl) (hla : late i = true := by rfl)
  (hl : listed.setIfInBounds i true = l' := by
   simp only [List.setIfInBounds_toArray, List.set_cons_zero, List.set_cons_succ]
   rfl) : wpAnyL P md ops Q S late (fuel + 1) listed a w := by
 subst hl ho
 exact wpAnyL_ready hr (by simp) (AllReadyL.last hi hla h AllReadyL.nil)
theorem go0 {c : Code} {n r : Nat} {V : World} (hS : ∀ W, BW V W → S W) (h : ∀ V0, Hid (BW V V0) → S V0 → wpAnyH P .any ops (NoPanic Q) S n listed a V0)
  (hm : P.follows .mixedOrders = true := by kernel_rfl) (hc : c = Code.region r ops true := by kernel_rfl) (hn : ops.size = n := by kernel_rfl) (hl : Array.replicate n false = listed := by
   simp only [Array.replicate_succ, Array.replicate_zero, List.push_toArray, List.nil_append, List.cons_append]
   rfl) : c.wp P Q a V := by
 subst hc hl hn
 have hb := belowDq (belowR V)
 exact wp_region_noPanic (wp_region_held_drew hm (hS _ hb) fun hh => h _ (Lq hb) hh)
end
end Go.Proofs.YtmhjhbchokbonaaGreat
