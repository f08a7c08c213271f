/- The least sums of a hull (printed by mkT6.py). -/
import Derived.Test.YtmhjhbchokbonaaGreatM0
import Derived.Test.YtmhjhbchokbonaaGreatM11
set_option maxRecDepth 1000000
set_option maxHeartbeats 16000000
namespace Go.Proofs.YtmhjhbchokbonaaGreat
open Go.RowKit
theorem idx138 (gb : Nat) (W : World) : (Instr.index 138 (levV gb) (iv 0)).run Tryz.prog W = .ok (.agg #[.func (.func 102) #[] #[], .func (.func 105) #[] #[], .func (.func 106) #[] #[]]) W ∧ (Instr.index 138 (levV gb) (iv 1)).run Tryz.prog W = .ok (.agg #[.func (.func 103) #[] #[.pointer (some ⟨gb, 0, none⟩)], .func (.func 105) #[] #[], .func (.func 106) #[] #[]]) W ∧ (Instr.index 138 (levV gb) (iv 2)).run Tryz.prog W = .ok (.agg #[.func (.func 104) #[] #[.pointer (some ⟨gb, 0, none⟩)], .func (.func 105) #[] #[], .func (.func 106) #[] #[]]) W := by
 refine ⟨?_, ?_, ?_⟩ <;> simp [Instr.index, run_underlying Tryz.underlying138, asIntOf, go_sem, Tryz.sizeOf137]
theorem least59_any (h : StH) (A : Option Addr) (B cap : Nat) (wt : Int) (w : World) (hH : H5Rd w B h A cap) (hB : B ≤ w.heap.size) (hk : H5Ok h) (h0 : 0 ≤ wt) (h1 : wt ≤ 1000) :
  Calls Tryz.prog 59 #[h5V h A cap, iv wt] w (Rt w (sumsV (leastK h 0 wt) (leastK h 1 wt) (leastK h 2 wt))) := by
 have z137 := Tryz.sizeOf137
 have z138 := Tryz.sizeOf138
 obtain ⟨g4, hg4⟩ := ex (w.heap.size + 1)
 obtain ⟨W1, hW1⟩ := ex ((w.alloc (.cells #[.slice A h.ps.length cap, iv h.aft, iv h.fore] 119)).alloc (.cells #[iv 0, iv 0, iv 0] 123))
 have hb1 : BW w W1 := by rw [← hW1]; exact belowA (belowA (belowR _) _) _
 have hz1 : W1.heap.size = w.heap.size + 2 := by rw [← hW1]; simp
 have k0 : Blk W1 w.heap.size 119 #[.slice A h.ps.length cap, iv h.aft, iv h.fore] := by rw [← hW1]; exact (Blk.new w 119 _).alloc _
 have k4 : Blk W1 g4 123 #[iv 0, iv 0, iv 0] := by
  rw [← hW1, ← hg4]
  have := Blk.new (w.alloc (.cells #[.slice A h.ps.length cap, iv h.aft, iv h.fore] 119)) 123 #[iv 0, iv 0, iv 0]
  rw [World.size_alloc] at this
  exact this
 have hpm := hH.pm
 have hpl := hH.pl
 unfold maxLen at hpm
 have HK := Lq hk
 have HP := Lq (hH.ps.below hb1 hB)
 have HB1 := Lq hb1
 have K0 := Lq k0
 have K4 := Lq k4
 have p0 := k0.c 0
 have p1 := k0.c 1
 have p2 := k0.c 2
 have hn10 := hk.n10
 obtain ⟨gb, hgb⟩ := ex (w.heap.size + 2)
 have hlv := levers66_any A h.ps.length cap h.aft h.fore W1
 rw [hz1, hgb] at hlv
 have HLV := Lq hlv
 have HWT : Hid (0 ≤ wt ∧ wt ≤ 1000) := Lq ⟨h0, h1⟩
 clear hH hk hb1 k0 k4 h0 h1 hlv
 go_enter Tryz.func59, Tryz.ntmps59
 go_wp2_with fail
 refine HLV.out.mono ?_
 rintro e W2 ⟨rfl, hb2, c1, c2, hz2⟩
 have HC : Hid (∀ W, OnlyAt W2 W g4 → W.cell? ⟨w.heap.size, 0, none⟩ = some (.slice A h.ps.length cap) ∧ W.cell? ⟨w.heap.size, 1, none⟩ = some (iv h.aft) ∧ W.cell? ⟨w.heap.size, 2, none⟩ = some (iv h.fore)) := Lq fun W hb => ⟨hb.cell (keepC hb2 p0) (by omega), hb.cell (keepC hb2 p1) (by omega), hb.cell (keepC hb2 p2) (by omega)⟩
 have HG : Hid (∀ W, OnlyAt W2 W g4 → W.cell? ⟨gb, 1, none⟩ = some (iv h.aft) ∧ W.cell? ⟨gb, 2, none⟩ = some (iv h.fore)) := Lq fun W hb => ⟨hb.cell c1 (by omega), hb.cell c2 (by omega)⟩
 have HB2 := Lq (belowT HB1.out hb2)
 have K4b := Lq (K4.out.same (hb2.block _ K4.out.lt))
 have HP2 := Lq (HP.out.below hb2 (by omega))
 have hz20 := hb2.size
 clear hb2 c1 c2 p0 p1 p2 K4 HP HLV hW1
 go_wp2_with fail
 go_loopw [13] (fun vi wr => Hid (OnlyAt W2 wr g4) ∧ ((vi = iv 0 ∧ Hid (Blk wr g4 123 #[iv 0, iv 0, iv 0])) ∨ (vi = iv 1 ∧ Hid (Blk wr g4 123 #[iv (leastK h 0 wt), iv 0, iv 0])) ∨ (vi = iv 2 ∧ Hid (Blk wr g4 123 #[iv (leastK h 0 wt), iv (leastK h 1 wt), iv 0])) ∨ (vi = iv 3 ∧ Hid (Blk wr g4 123 #[iv (leastK h 0 wt), iv (leastK h 1 wt), iv (leastK h 2 wt)])))) (fun vi _ => 3 - (intOf vi).toNat)
 case atStart => exact ⟨Lq (OnlyAt.of_below (belowR _) _), .inl ⟨rfl, K4b⟩⟩
 case round =>
  obtain ⟨HO, hcase⟩ := hrel
  have q0 := fun W => (idx138 gb W).1
  have q1 := fun W => (idx138 gb W).2.1
  have q2 := fun W => (idx138 gb W).2.2
  rcases hcase with ⟨rfl, J4⟩ | ⟨rfl, J4⟩ | ⟨rfl, J4⟩ | ⟨rfl, J4⟩
  ·
   have hk6 : Blk wr g4 123 #[iv 0, iv 0, iv 0] := J4.out
   have hO6 : OnlyAt W2 wr g4 := HO.out
   obtain ⟨g6, hg6⟩ := ex wr.heap.size
   obtain ⟨W3, hW3⟩ := ex (wr.alloc (.cells #[.func (.func 102) #[] #[], .func (.func 105) #[] #[], .func (.func 106) #[] #[]] 137))
   have hb3 : BW wr W3 := by rw [← hW3]; exact belowA (belowR _) _
   have k6 : Blk W3 g6 137 #[.func (.func 102) #[] #[], .func (.func 105) #[] #[], .func (.func 106) #[] #[]] := by rw [← hW3, ← hg6]; exact Blk.new wr 137 _
   have hO3 := hO6.more hb3
   obtain ⟨p0, p1, p2⟩ := HC.out _ hO3
   have HO3 := Lq hO3
   have K4 : Hid (Blk W3 g4 123 #[iv 0, iv 0, iv 0]) := Lq (hk6.same (hb3.block _ hk6.lt))
   have K6 := Lq k6
   have hg46 : g4 < g6 := by have := hk6.lt; omega
   have hzr : w.heap.size + 2 < g6 := by have := hO6.size; omega
   have hz3 : g6 < W3.heap.size := k6.lt
   clear hk6 hO6 hb3 k6 hO3 J4 HO
   go_wp2_with fail
   clear hW3 hg6
   go_loopw [21] (fun vj wr => ∃ j : Nat, j ≤ h.ps.length ∧ vj = iv j ∧ Hid (OnlyAt W3 wr g4) ∧ Hid (Blk wr g4 123 #[iv (accP (fun _ x => leastT h.aft h.fore 0 wt x) h.ps j), iv 0, iv 0])) (fun vj _ => h.ps.length - (intOf vj).toNat)
   case atStart => exact ⟨0, Nat.zero_le _, rfl, Lq (OnlyAt.of_below (belowR _) _), K4⟩
   case round =>
    clear K4 p0 p1 p2
    rename World => wk
    obtain ⟨j, hj, rfl, HOW, K4⟩ := hrel
    have hO2 := HO3.out.trans HOW.out
    have hzw := HOW.out.size
    by_cases hlt : j < h.ps.length
    ·obtain ⟨c, hx⟩ : ∃ c, h.ps[j]? = some c := ⟨_, List.getElem?_eq_getElem hlt⟩
     have hco := HK.out.ps j c hx
     have hov := overP_bd hco HWT.out.1 HWT.out.2
     have hlb := leastT_bd (a := h.aft) (f := h.fore) (w := wt) 0 ⟨HK.out.a0, HK.out.a1⟩ ⟨HK.out.f0, HK.out.f1⟩ hco HWT.out.1 HWT.out.2
     have hab := leastAcc_bd HK.out 0 HWT.out.1 HWT.out.2 (show j ≤ 10 by omega)
     have hsu : accP (fun _ x => leastT h.aft h.fore 0 wt x) h.ps (j + 1) = accP (fun _ x => leastT h.aft h.fore 0 wt x) h.ps j + leastT h.aft h.fore 0 wt c := accP_succ hx
     obtain ⟨bb, off, rfl, _, d0, d1, d2, d3, d4, d5, d6⟩ := stAt (hO2.rdN HP2.out (by omega)) hx
     obtain ⟨s9, s10⟩ := HG.out _ hO2
     have ha := fun V (hb : BW wk V) => arm102_any c V
     have har : (1 : Int) = armK h.aft h.fore 0 c := rfl
     rw [har] at ha
     obtain ⟨AR, hAR⟩ := ex (armK h.aft h.fore 0 c)
     have hlt2 : leastT h.aft h.fore 0 wt c = AR * (if AR < 0 then heavyP5 c wt else lightP5 c wt) := by unfold leastT; rw [hAR]
     rw [hAR] at ha
     obtain ⟨OV, hOV⟩ := ex (overP c wt)
     have hO5 : max 0 (wt - c.keel) = OV := hOV
     unfold heavyP5 lightP5 at hlt2
     rw [hOV] at hlt2 hov
     have hsw : IntKind.i64.wrap (wt - c.keel) = wt - c.keel := by have := HWT.out; have := hco.k0; have := hco.k1; rw [IntKind.wrap_i64]; omega
     obtain ⟨ACC, hACC⟩ := ex (accP (fun _ x => leastT h.aft h.fore 0 wt x) h.ps j)
     rw [hACC] at K4 hab hsu
     have HA := Lq ha
     have HCO := Lq hco
     have HLB := Lq hlb
     have HAB := Lq hab
     have HSU := Lq hsu
     have HLT := Lq hlt2
     have HOV := Lq hov
     have hjz : (j : Int) < (h.ps.length : Int) := by omega
     have hj0 : (0 : Int) ≤ (j : Int) := by omega
     clear hx hco hov hlb hab hsu ha har hAR hlt2 hOV hACC s9 s10 hO2
     obtain ⟨name, pos, wlo, whi, keel, llo, lhi⟩ := c
     simp only at d0 d1 d2 d3 d4 d5 d6 hO5 hsw
     obtain ⟨gx, hgx⟩ := ex wk.heap.size
     obtain ⟨W5, hW5⟩ := ex ((wk.alloc (.cells #[.string name, iv pos, iv wlo, iv whi, iv keel, iv llo, iv lhi] 42)).alloc (.cells #[.string name, iv pos, iv wlo, iv whi, iv keel, iv llo, iv lhi, iv OV] 176))
     have hb5 : BW wk W5 := by rw [← hW5]; exact belowA (belowA (belowR _) _) _
     have kx : Blk W5 gx 42 #[.string name, iv pos, iv wlo, iv whi, iv keel, iv llo, iv lhi] := by rw [← hW5, ← hgx]; exact (Blk.new wk 42 _).alloc _
     have kl : Blk W5 (gx + 1) 176 #[.string name, iv pos, iv wlo, iv whi, iv keel, iv llo, iv lhi, iv OV] := by
      rw [← hW5, ← hgx]
      have := Blk.new (wk.alloc (.cells #[.string name, iv pos, iv wlo, iv whi, iv keel, iv llo, iv lhi] 42)) 176 #[.string name, iv pos, iv wlo, iv whi, iv keel, iv llo, iv lhi, iv OV]
      rw [World.size_alloc] at this
      exact this
     have k6 : Blk W5 g6 137 #[.func (.func 102) #[] #[], .func (.func 105) #[] #[], .func (.func 106) #[] #[]] := (HOW.out.more hb5).blk K6.out (by omega)
     have k4 : Blk W5 g4 123 #[iv ACC, iv 0, iv 0] := K4.out.same (hb5.block _ K4.out.lt)
     have hgx6 : g6 < gx := by omega
     have HZ : Hid (∀ W, BW W5 W → Blk W g6 137 #[.func (.func 102) #[] #[], .func (.func 105) #[] #[], .func (.func 106) #[] #[]] ∧ Blk W gx 42 #[.string name, iv pos, iv wlo, iv whi, iv keel, iv llo, iv lhi] ∧ Blk W (gx + 1) 176 #[.string name, iv pos, iv wlo, iv whi, iv keel, iv llo, iv lhi, iv OV] ∧ Blk W g4 123 #[iv ACC, iv 0, iv 0]) := Lq fun W hb => ⟨k6.same (hb.block _ k6.lt), kx.same (hb.block _ kx.lt), kl.same (hb.block _ kl.lt), k4.same (hb.block _ k4.lt)⟩
     have HB5 := Lq hb5
     have z1 := k6.c 1
     have z0 := k6.c 0
     have x0 := kx.c 0
     have x1 := kx.c 1
     have x2 := kx.c 2
     have x3 := kx.c 3
     have x4 := kx.c 4
     have x5 := kx.c 5
     have x6 := kx.c 6
     have hz5 : gx + 1 < W5.heap.size := kl.lt
     clear hb5 kx kl k6 k4
     by_cases hneg : AR < 0
     ·have hd : decide (AR < 0) = true := decide_eq_true hneg
      have hpr : leastT h.aft h.fore 0 wt ⟨name, pos, wlo, whi, keel, llo, lhi⟩ = AR * (whi - llo * OV) := by rw [HLT.out, if_pos hneg]
      have hpc : ∀ V, Calls Tryz.prog 106 #[.agg #[.string name, iv pos, iv wlo, iv whi, iv keel, iv llo, iv lhi, iv OV]] V (Rt V (iv (whi - llo * OV))) := fun V => heavy106_any ⟨name, pos, wlo, whi, keel, llo, lhi⟩ OV V HCO.out HOV.out.1 HOV.out.2
      obtain ⟨PR, hPR⟩ := ex (whi - llo * OV)
      rw [hPR] at hpc hpr
      have hw1 : IntKind.i64.wrap (AR * PR) = AR * PR := by have := HLB.out; rw [hpr] at this; rw [IntKind.wrap_i64]; omega
      have hw2 : IntKind.i64.wrap (ACC + AR * PR) = ACC + AR * PR := by have := HLB.out; rw [hpr] at this; have := HAB.out; rw [IntKind.wrap_i64]; omega
      have HPC := Lq hpc
      have HSUM : Hid (accP (fun _ x => leastT h.aft h.fore 0 wt x) h.ps (j + 1) = ACC + AR * PR) := Lq (by rw [HSU.out, hpr])
      clear hpc hPR hpr
      go_wp2_with fail
      refine (HA.out _ HB5.out).mono ?_
      rintro e xw ⟨rfl, hb⟩
      have HS : Hid (∀ W, BW xw W → W.cell? ⟨g6, 0, none⟩ = some (.func (.func 102) #[] #[]) ∧ W.cell? ⟨gx, 0, none⟩ = some (.string name) ∧ W.cell? ⟨gx, 1, none⟩ = some (iv pos) ∧ W.cell? ⟨gx, 2, none⟩ = some (iv wlo) ∧ W.cell? ⟨gx, 3, none⟩ = some (iv whi) ∧ W.cell? ⟨gx, 4, none⟩ = some (iv keel) ∧ W.cell? ⟨gx, 5, none⟩ = some (iv llo) ∧ W.cell? ⟨gx, 6, none⟩ = some (iv lhi) ∧ W.cell? ⟨gx + 1, 0, none⟩ = some (.string name) ∧ W.cell? ⟨gx + 1, 1, none⟩ = some (iv pos) ∧ W.cell? ⟨gx + 1, 2, none⟩ = some (iv wlo) ∧ W.cell? ⟨gx + 1, 3, none⟩ = some (iv whi) ∧ W.cell? ⟨gx + 1, 4, none⟩ = some (iv keel) ∧ W.cell? ⟨gx + 1, 5, none⟩ = some (iv llo) ∧ W.cell? ⟨gx + 1, 6, none⟩ = some (iv lhi) ∧ W.cell? ⟨gx + 1, 7, none⟩ = some (iv OV)) := Lq fun W hb2 => by
       have hk := HZ.out W (belowT hb hb2)
       exact ⟨hk.1.cell 0, hk.2.1.cell 0, hk.2.1.cell 1, hk.2.1.cell 2, hk.2.1.cell 3, hk.2.1.cell 4, hk.2.1.cell 5, hk.2.1.cell 6, hk.2.2.1.cell 0, hk.2.2.1.cell 1, hk.2.2.1.cell 2, hk.2.2.1.cell 3, hk.2.2.1.cell 4, hk.2.2.1.cell 5, hk.2.2.1.cell 6, hk.2.2.1.cell 7⟩
      have H4 : Hid (∀ W, BW xw W → W.cell? ⟨g4, 0, none⟩ = some (iv ACC) ∧ W.frozen? ⟨g4, 0, none⟩ = false ∧ g4 < W.heap.size ∧ Blk W g4 123 #[iv ACC, iv 0, iv 0]) := Lq fun W hb2 => by
       have hk := HZ.out W (belowT hb hb2)
       exact ⟨hk.2.2.2.cell 0, hk.2.2.2.frozen 0, hk.2.2.2.lt, hk.2.2.2⟩
      have HXW := Lq (belowT HB5.out hb)
      obtain ⟨y1, y2⟩ : xw.cell? ⟨g6, 1, none⟩ = some (.func (.func 105) #[] #[]) ∧ xw.cell? ⟨g6, 2, none⟩ = some (.func (.func 106) #[] #[]) := ⟨(HZ.out xw hb).1.cell 1, (HZ.out xw hb).1.cell 2⟩
      clear hb z0 z1 x0 x1 x2 x3 x4 x5 x6 hW5 hgx d0 d1 d2 d3 d4 d5 d6
      go_upto_region 11 with fail
      refine reg59_0_106 hg46 hgx6 hw1 hw2 (fun W hb2 => ⟨(H4.out W hb2).1, (H4.out W hb2).2.1, (H4.out W hb2).2.2.1⟩) (fun W hb2 => HA.out W (belowT HXW.out hb2)) (fun W hb2 => HPC.out W) HS.out ?_
      intro u100 u101 u102 u103 u104 u105 u106 u107 u108 u109 u110 u111 u112 wx hwx
      obtain ⟨w7, hb7, rfl⟩ := hwx
      have HREL : Hid (OnlyAt W3 (w7.setCell ⟨g4, 0, none⟩ (iv (ACC + AR * PR))) g4 ∧ Blk (w7.setCell ⟨g4, 0, none⟩ (iv (ACC + AR * PR))) g4 123 #[iv (accP (fun _ x => leastT h.aft h.fore 0 wt x) h.ps (j + 1)), iv 0, iv 0]) := Lq ⟨(HOW.out.more (belowT HXW.out hb7)).set 0 _, by rw [HSUM.out]; exact (H4.out w7 hb7).2.2.2.set_ 0 _⟩
      clear y1 y2 hb7
      go_wp2_with fail
      go_roundw
      case rel => exact ⟨j + 1, by omega, by go_num, Lq HREL.out.1, Lq HREL.out.2⟩
      case measure => simp [intOf]; omega
     ·have hd : decide (AR < 0) = false := decide_eq_false hneg
      have hpr : leastT h.aft h.fore 0 wt ⟨name, pos, wlo, whi, keel, llo, lhi⟩ = AR * (wlo - lhi * OV) := by rw [HLT.out, if_neg hneg]
      have hpc : ∀ V, Calls Tryz.prog 105 #[.agg #[.string name, iv pos, iv wlo, iv whi, iv keel, iv llo, iv lhi, iv OV]] V (Rt V (iv (wlo - lhi * OV))) := fun V => light105_any ⟨name, pos, wlo, whi, keel, llo, lhi⟩ OV V HCO.out HOV.out.1 HOV.out.2
      obtain ⟨PR, hPR⟩ := ex (wlo - lhi * OV)
      rw [hPR] at hpc hpr
      have hw1 : IntKind.i64.wrap (AR * PR) = AR * PR := by have := HLB.out; rw [hpr] at this; rw [IntKind.wrap_i64]; omega
      have hw2 : IntKind.i64.wrap (ACC + AR * PR) = ACC + AR * PR := by have := HLB.out; rw [hpr] at this; have := HAB.out; rw [IntKind.wrap_i64]; omega
      have HPC := Lq hpc
      have HSUM : Hid (accP (fun _ x => leastT h.aft h.fore 0 wt x) h.ps (j + 1) = ACC + AR * PR) := Lq (by rw [HSU.out, hpr])
      clear hpc hPR hpr
      go_wp2_with fail
      refine (HA.out _ HB5.out).mono ?_
      rintro e xw ⟨rfl, hb⟩
      have HS : Hid (∀ W, BW xw W → W.cell? ⟨g6, 0, none⟩ = some (.func (.func 102) #[] #[]) ∧ W.cell? ⟨gx, 0, none⟩ = some (.string name) ∧ W.cell? ⟨gx, 1, none⟩ = some (iv pos) ∧ W.cell? ⟨gx, 2, none⟩ = some (iv wlo) ∧ W.cell? ⟨gx, 3, none⟩ = some (iv whi) ∧ W.cell? ⟨gx, 4, none⟩ = some (iv keel) ∧ W.cell? ⟨gx, 5, none⟩ = some (iv llo) ∧ W.cell? ⟨gx, 6, none⟩ = some (iv lhi) ∧ W.cell? ⟨gx + 1, 0, none⟩ = some (.string name) ∧ W.cell? ⟨gx + 1, 1, none⟩ = some (iv pos) ∧ W.cell? ⟨gx + 1, 2, none⟩ = some (iv wlo) ∧ W.cell? ⟨gx + 1, 3, none⟩ = some (iv whi) ∧ W.cell? ⟨gx + 1, 4, none⟩ = some (iv keel) ∧ W.cell? ⟨gx + 1, 5, none⟩ = some (iv llo) ∧ W.cell? ⟨gx + 1, 6, none⟩ = some (iv lhi) ∧ W.cell? ⟨gx + 1, 7, none⟩ = some (iv OV)) := Lq fun W hb2 => by
       have hk := HZ.out W (belowT hb hb2)
       exact ⟨hk.1.cell 0, hk.2.1.cell 0, hk.2.1.cell 1, hk.2.1.cell 2, hk.2.1.cell 3, hk.2.1.cell 4, hk.2.1.cell 5, hk.2.1.cell 6, hk.2.2.1.cell 0, hk.2.2.1.cell 1, hk.2.2.1.cell 2, hk.2.2.1.cell 3, hk.2.2.1.cell 4, hk.2.2.1.cell 5, hk.2.2.1.cell 6, hk.2.2.1.cell 7⟩
      have H4 : Hid (∀ W, BW xw W → W.cell? ⟨g4, 0, none⟩ = some (iv ACC) ∧ W.frozen? ⟨g4, 0, none⟩ = false ∧ g4 < W.heap.size ∧ Blk W g4 123 #[iv ACC, iv 0, iv 0]) := Lq fun W hb2 => by
       have hk := HZ.out W (belowT hb hb2)
       exact ⟨hk.2.2.2.cell 0, hk.2.2.2.frozen 0, hk.2.2.2.lt, hk.2.2.2⟩
      have HXW := Lq (belowT HB5.out hb)
      skip
      clear hb z0 z1 x0 x1 x2 x3 x4 x5 x6 hW5 hgx d0 d1 d2 d3 d4 d5 d6
      go_upto_region 11 with fail
      refine reg59_0_105 hg46 hgx6 hw1 hw2 (fun W hb2 => ⟨(H4.out W hb2).1, (H4.out W hb2).2.1, (H4.out W hb2).2.2.1⟩) (fun W hb2 => HA.out W (belowT HXW.out hb2)) (fun W hb2 => HPC.out W) HS.out ?_
      intro u100 u101 u102 u103 u104 u105 u106 u107 u108 u109 u110 u111 u112 wx hwx
      obtain ⟨w7, hb7, rfl⟩ := hwx
      have HREL : Hid (OnlyAt W3 (w7.setCell ⟨g4, 0, none⟩ (iv (ACC + AR * PR))) g4 ∧ Blk (w7.setCell ⟨g4, 0, none⟩ (iv (ACC + AR * PR))) g4 123 #[iv (accP (fun _ x => leastT h.aft h.fore 0 wt x) h.ps (j + 1)), iv 0, iv 0]) := Lq ⟨(HOW.out.more (belowT HXW.out hb7)).set 0 _, by rw [HSUM.out]; exact (H4.out w7 hb7).2.2.2.set_ 0 _⟩
      clear hb7
      go_wp2_with fail
      go_roundw
      case rel => exact ⟨j + 1, by omega, by go_num, Lq HREL.out.1, Lq HREL.out.2⟩
      case measure => simp [intOf]; omega
    ·obtain rfl : j = h.ps.length := by omega
     have HO9 := Lq hO2
     have K9 : Hid (Blk wk g4 123 #[iv (leastK h 0 wt), iv 0, iv 0]) := K4
     clear HOW K4 hO2
     go_wp2_with fail
     go_roundw
     case rel => exact ⟨HO9, .inr (.inl ⟨rfl, K9⟩)⟩
     case measure => simp [intOf]
  ·
   have hk6 : Blk wr g4 123 #[iv (leastK h 0 wt), iv 0, iv 0] := J4.out
   have hO6 : OnlyAt W2 wr g4 := HO.out
   obtain ⟨g6, hg6⟩ := ex wr.heap.size
   obtain ⟨W3, hW3⟩ := ex (wr.alloc (.cells #[.func (.func 103) #[] #[.pointer (some ⟨gb, 0, none⟩)], .func (.func 105) #[] #[], .func (.func 106) #[] #[]] 137))
   have hb3 : BW wr W3 := by rw [← hW3]; exact belowA (belowR _) _
   have k6 : Blk W3 g6 137 #[.func (.func 103) #[] #[.pointer (some ⟨gb, 0, none⟩)], .func (.func 105) #[] #[], .func (.func 106) #[] #[]] := by rw [← hW3, ← hg6]; exact Blk.new wr 137 _
   have hO3 := hO6.more hb3
   obtain ⟨p0, p1, p2⟩ := HC.out _ hO3
   have HO3 := Lq hO3
   have K4 : Hid (Blk W3 g4 123 #[iv (leastK h 0 wt), iv 0, iv 0]) := Lq (hk6.same (hb3.block _ hk6.lt))
   have K6 := Lq k6
   have hg46 : g4 < g6 := by have := hk6.lt; omega
   have hzr : w.heap.size + 2 < g6 := by have := hO6.size; omega
   have hz3 : g6 < W3.heap.size := k6.lt
   clear hk6 hO6 hb3 k6 hO3 J4 HO
   go_wp2_with fail
   clear hW3 hg6
   go_loopw [21] (fun vj wr => ∃ j : Nat, j ≤ h.ps.length ∧ vj = iv j ∧ Hid (OnlyAt W3 wr g4) ∧ Hid (Blk wr g4 123 #[iv (leastK h 0 wt), iv (accP (fun _ x => leastT h.aft h.fore 1 wt x) h.ps j), iv 0])) (fun vj _ => h.ps.length - (intOf vj).toNat)
   case atStart => exact ⟨0, Nat.zero_le _, rfl, Lq (OnlyAt.of_below (belowR _) _), K4⟩
   case round =>
    clear K4 p0 p1 p2
    rename World => wk
    obtain ⟨j, hj, rfl, HOW, K4⟩ := hrel
    have hO2 := HO3.out.trans HOW.out
    have hzw := HOW.out.size
    by_cases hlt : j < h.ps.length
    ·obtain ⟨c, hx⟩ : ∃ c, h.ps[j]? = some c := ⟨_, List.getElem?_eq_getElem hlt⟩
     have hco := HK.out.ps j c hx
     have hov := overP_bd hco HWT.out.1 HWT.out.2
     have hlb := leastT_bd (a := h.aft) (f := h.fore) (w := wt) 1 ⟨HK.out.a0, HK.out.a1⟩ ⟨HK.out.f0, HK.out.f1⟩ hco HWT.out.1 HWT.out.2
     have hab := leastAcc_bd HK.out 1 HWT.out.1 HWT.out.2 (show j ≤ 10 by omega)
     have hsu : accP (fun _ x => leastT h.aft h.fore 1 wt x) h.ps (j + 1) = accP (fun _ x => leastT h.aft h.fore 1 wt x) h.ps j + leastT h.aft h.fore 1 wt c := accP_succ hx
     obtain ⟨bb, off, rfl, _, d0, d1, d2, d3, d4, d5, d6⟩ := stAt (hO2.rdN HP2.out (by omega)) hx
     obtain ⟨s9, s10⟩ := HG.out _ hO2
     have ha := fun V (hb : BW wk V) => arm103_any c gb h.aft V (keepC hb s9) ⟨hco.p0, hco.p1⟩ ⟨HK.out.a0, HK.out.a1⟩
     have har : c.pos - h.aft = armK h.aft h.fore 1 c := rfl
     rw [har] at ha
     obtain ⟨AR, hAR⟩ := ex (armK h.aft h.fore 1 c)
     have hlt2 : leastT h.aft h.fore 1 wt c = AR * (if AR < 0 then heavyP5 c wt else lightP5 c wt) := by unfold leastT; rw [hAR]
     rw [hAR] at ha
     obtain ⟨OV, hOV⟩ := ex (overP c wt)
     have hO5 : max 0 (wt - c.keel) = OV := hOV
     unfold heavyP5 lightP5 at hlt2
     rw [hOV] at hlt2 hov
     have hsw : IntKind.i64.wrap (wt - c.keel) = wt - c.keel := by have := HWT.out; have := hco.k0; have := hco.k1; rw [IntKind.wrap_i64]; omega
     obtain ⟨ACC, hACC⟩ := ex (accP (fun _ x => leastT h.aft h.fore 1 wt x) h.ps j)
     rw [hACC] at K4 hab hsu
     have HA := Lq ha
     have HCO := Lq hco
     have HLB := Lq hlb
     have HAB := Lq hab
     have HSU := Lq hsu
     have HLT := Lq hlt2
     have HOV := Lq hov
     have hjz : (j : Int) < (h.ps.length : Int) := by omega
     have hj0 : (0 : Int) ≤ (j : Int) := by omega
     clear hx hco hov hlb hab hsu ha har hAR hlt2 hOV hACC s9 s10 hO2
     obtain ⟨name, pos, wlo, whi, keel, llo, lhi⟩ := c
     simp only at d0 d1 d2 d3 d4 d5 d6 hO5 hsw
     obtain ⟨gx, hgx⟩ := ex wk.heap.size
     obtain ⟨W5, hW5⟩ := ex ((wk.alloc (.cells #[.string name, iv pos, iv wlo, iv whi, iv keel, iv llo, iv lhi] 42)).alloc (.cells #[.string name, iv pos, iv wlo, iv whi, iv keel, iv llo, iv lhi, iv OV] 176))
     have hb5 : BW wk W5 := by rw [← hW5]; exact belowA (belowA (belowR _) _) _
     have kx : Blk W5 gx 42 #[.string name, iv pos, iv wlo, iv whi, iv keel, iv llo, iv lhi] := by rw [← hW5, ← hgx]; exact (Blk.new wk 42 _).alloc _
     have kl : Blk W5 (gx + 1) 176 #[.string name, iv pos, iv wlo, iv whi, iv keel, iv llo, iv lhi, iv OV] := by
      rw [← hW5, ← hgx]
      have := Blk.new (wk.alloc (.cells #[.string name, iv pos, iv wlo, iv whi, iv keel, iv llo, iv lhi] 42)) 176 #[.string name, iv pos, iv wlo, iv whi, iv keel, iv llo, iv lhi, iv OV]
      rw [World.size_alloc] at this
      exact this
     have k6 : Blk W5 g6 137 #[.func (.func 103) #[] #[.pointer (some ⟨gb, 0, none⟩)], .func (.func 105) #[] #[], .func (.func 106) #[] #[]] := (HOW.out.more hb5).blk K6.out (by omega)
     have k4 : Blk W5 g4 123 #[iv (leastK h 0 wt), iv ACC, iv 0] := K4.out.same (hb5.block _ K4.out.lt)
     have hgx6 : g6 < gx := by omega
     have HZ : Hid (∀ W, BW W5 W → Blk W g6 137 #[.func (.func 103) #[] #[.pointer (some ⟨gb, 0, none⟩)], .func (.func 105) #[] #[], .func (.func 106) #[] #[]] ∧ Blk W gx 42 #[.string name, iv pos, iv wlo, iv whi, iv keel, iv llo, iv lhi] ∧ Blk W (gx + 1) 176 #[.string name, iv pos, iv wlo, iv whi, iv keel, iv llo, iv lhi, iv OV] ∧ Blk W g4 123 #[iv (leastK h 0 wt), iv ACC, iv 0]) := Lq fun W hb => ⟨k6.same (hb.block _ k6.lt), kx.same (hb.block _ kx.lt), kl.same (hb.block _ kl.lt), k4.same (hb.block _ k4.lt)⟩
     have HB5 := Lq hb5
     have z1 := k6.c 1
     have z0 := k6.c 0
     have x0 := kx.c 0
     have x1 := kx.c 1
     have x2 := kx.c 2
     have x3 := kx.c 3
     have x4 := kx.c 4
     have x5 := kx.c 5
     have x6 := kx.c 6
     have hz5 : gx + 1 < W5.heap.size := kl.lt
     clear hb5 kx kl k6 k4
     by_cases hneg : AR < 0
     ·have hd : decide (AR < 0) = true := decide_eq_true hneg
      have hpr : leastT h.aft h.fore 1 wt ⟨name, pos, wlo, whi, keel, llo, lhi⟩ = AR * (whi - llo * OV) := by rw [HLT.out, if_pos hneg]
      have hpc : ∀ V, Calls Tryz.prog 106 #[.agg #[.string name, iv pos, iv wlo, iv whi, iv keel, iv llo, iv lhi, iv OV]] V (Rt V (iv (whi - llo * OV))) := fun V => heavy106_any ⟨name, pos, wlo, whi, keel, llo, lhi⟩ OV V HCO.out HOV.out.1 HOV.out.2
      obtain ⟨PR, hPR⟩ := ex (whi - llo * OV)
      rw [hPR] at hpc hpr
      have hw1 : IntKind.i64.wrap (AR * PR) = AR * PR := by have := HLB.out; rw [hpr] at this; rw [IntKind.wrap_i64]; omega
      have hw2 : IntKind.i64.wrap (ACC + AR * PR) = ACC + AR * PR := by have := HLB.out; rw [hpr] at this; have := HAB.out; rw [IntKind.wrap_i64]; omega
      have HPC := Lq hpc
      have HSUM : Hid (accP (fun _ x => leastT h.aft h.fore 1 wt x) h.ps (j + 1) = ACC + AR * PR) := Lq (by rw [HSU.out, hpr])
      clear hpc hPR hpr
      go_wp2_with fail
      refine (HA.out _ HB5.out).mono ?_
      rintro e xw ⟨rfl, hb⟩
      have HS : Hid (∀ W, BW xw W → W.cell? ⟨g6, 0, none⟩ = some (.func (.func 103) #[] #[.pointer (some ⟨gb, 0, none⟩)]) ∧ W.cell? ⟨gx, 0, none⟩ = some (.string name) ∧ W.cell? ⟨gx, 1, none⟩ = some (iv pos) ∧ W.cell? ⟨gx, 2, none⟩ = some (iv wlo) ∧ W.cell? ⟨gx, 3, none⟩ = some (iv whi) ∧ W.cell? ⟨gx, 4, none⟩ = some (iv keel) ∧ W.cell? ⟨gx, 5, none⟩ = some (iv llo) ∧ W.cell? ⟨gx, 6, none⟩ = some (iv lhi) ∧ W.cell? ⟨gx + 1, 0, none⟩ = some (.string name) ∧ W.cell? ⟨gx + 1, 1, none⟩ = some (iv pos) ∧ W.cell? ⟨gx + 1, 2, none⟩ = some (iv wlo) ∧ W.cell? ⟨gx + 1, 3, none⟩ = some (iv whi) ∧ W.cell? ⟨gx + 1, 4, none⟩ = some (iv keel) ∧ W.cell? ⟨gx + 1, 5, none⟩ = some (iv llo) ∧ W.cell? ⟨gx + 1, 6, none⟩ = some (iv lhi) ∧ W.cell? ⟨gx + 1, 7, none⟩ = some (iv OV)) := Lq fun W hb2 => by
       have hk := HZ.out W (belowT hb hb2)
       exact ⟨hk.1.cell 0, hk.2.1.cell 0, hk.2.1.cell 1, hk.2.1.cell 2, hk.2.1.cell 3, hk.2.1.cell 4, hk.2.1.cell 5, hk.2.1.cell 6, hk.2.2.1.cell 0, hk.2.2.1.cell 1, hk.2.2.1.cell 2, hk.2.2.1.cell 3, hk.2.2.1.cell 4, hk.2.2.1.cell 5, hk.2.2.1.cell 6, hk.2.2.1.cell 7⟩
      have H4 : Hid (∀ W, BW xw W → W.cell? ⟨g4, 1, none⟩ = some (iv ACC) ∧ W.frozen? ⟨g4, 1, none⟩ = false ∧ g4 < W.heap.size ∧ Blk W g4 123 #[iv (leastK h 0 wt), iv ACC, iv 0]) := Lq fun W hb2 => by
       have hk := HZ.out W (belowT hb hb2)
       exact ⟨hk.2.2.2.cell 1, hk.2.2.2.frozen 1, hk.2.2.2.lt, hk.2.2.2⟩
      have HXW := Lq (belowT HB5.out hb)
      obtain ⟨y1, y2⟩ : xw.cell? ⟨g6, 1, none⟩ = some (.func (.func 105) #[] #[]) ∧ xw.cell? ⟨g6, 2, none⟩ = some (.func (.func 106) #[] #[]) := ⟨(HZ.out xw hb).1.cell 1, (HZ.out xw hb).1.cell 2⟩
      clear hb z0 z1 x0 x1 x2 x3 x4 x5 x6 hW5 hgx d0 d1 d2 d3 d4 d5 d6
      go_upto_region 11 with fail
      refine reg59_1_106 hg46 hgx6 hw1 hw2 (fun W hb2 => ⟨(H4.out W hb2).1, (H4.out W hb2).2.1, (H4.out W hb2).2.2.1⟩) (fun W hb2 => HA.out W (belowT HXW.out hb2)) (fun W hb2 => HPC.out W) HS.out ?_
      intro u100 u101 u102 u103 u104 u105 u106 u107 u108 u109 u110 u111 u112 wx hwx
      obtain ⟨w7, hb7, rfl⟩ := hwx
      have HREL : Hid (OnlyAt W3 (w7.setCell ⟨g4, 1, none⟩ (iv (ACC + AR * PR))) g4 ∧ Blk (w7.setCell ⟨g4, 1, none⟩ (iv (ACC + AR * PR))) g4 123 #[iv (leastK h 0 wt), iv (accP (fun _ x => leastT h.aft h.fore 1 wt x) h.ps (j + 1)), iv 0]) := Lq ⟨(HOW.out.more (belowT HXW.out hb7)).set 1 _, by rw [HSUM.out]; exact (H4.out w7 hb7).2.2.2.set_ 1 _⟩
      clear y1 y2 hb7
      go_wp2_with fail
      go_roundw
      case rel => exact ⟨j + 1, by omega, by go_num, Lq HREL.out.1, Lq HREL.out.2⟩
      case measure => simp [intOf]; omega
     ·have hd : decide (AR < 0) = false := decide_eq_false hneg
      have hpr : leastT h.aft h.fore 1 wt ⟨name, pos, wlo, whi, keel, llo, lhi⟩ = AR * (wlo - lhi * OV) := by rw [HLT.out, if_neg hneg]
      have hpc : ∀ V, Calls Tryz.prog 105 #[.agg #[.string name, iv pos, iv wlo, iv whi, iv keel, iv llo, iv lhi, iv OV]] V (Rt V (iv (wlo - lhi * OV))) := fun V => light105_any ⟨name, pos, wlo, whi, keel, llo, lhi⟩ OV V HCO.out HOV.out.1 HOV.out.2
      obtain ⟨PR, hPR⟩ := ex (wlo - lhi * OV)
      rw [hPR] at hpc hpr
      have hw1 : IntKind.i64.wrap (AR * PR) = AR * PR := by have := HLB.out; rw [hpr] at this; rw [IntKind.wrap_i64]; omega
      have hw2 : IntKind.i64.wrap (ACC + AR * PR) = ACC + AR * PR := by have := HLB.out; rw [hpr] at this; have := HAB.out; rw [IntKind.wrap_i64]; omega
      have HPC := Lq hpc
      have HSUM : Hid (accP (fun _ x => leastT h.aft h.fore 1 wt x) h.ps (j + 1) = ACC + AR * PR) := Lq (by rw [HSU.out, hpr])
      clear hpc hPR hpr
      go_wp2_with fail
      refine (HA.out _ HB5.out).mono ?_
      rintro e xw ⟨rfl, hb⟩
      have HS : Hid (∀ W, BW xw W → W.cell? ⟨g6, 0, none⟩ = some (.func (.func 103) #[] #[.pointer (some ⟨gb, 0, none⟩)]) ∧ W.cell? ⟨gx, 0, none⟩ = some (.string name) ∧ W.cell? ⟨gx, 1, none⟩ = some (iv pos) ∧ W.cell? ⟨gx, 2, none⟩ = some (iv wlo) ∧ W.cell? ⟨gx, 3, none⟩ = some (iv whi) ∧ W.cell? ⟨gx, 4, none⟩ = some (iv keel) ∧ W.cell? ⟨gx, 5, none⟩ = some (iv llo) ∧ W.cell? ⟨gx, 6, none⟩ = some (iv lhi) ∧ W.cell? ⟨gx + 1, 0, none⟩ = some (.string name) ∧ W.cell? ⟨gx + 1, 1, none⟩ = some (iv pos) ∧ W.cell? ⟨gx + 1, 2, none⟩ = some (iv wlo) ∧ W.cell? ⟨gx + 1, 3, none⟩ = some (iv whi) ∧ W.cell? ⟨gx + 1, 4, none⟩ = some (iv keel) ∧ W.cell? ⟨gx + 1, 5, none⟩ = some (iv llo) ∧ W.cell? ⟨gx + 1, 6, none⟩ = some (iv lhi) ∧ W.cell? ⟨gx + 1, 7, none⟩ = some (iv OV)) := Lq fun W hb2 => by
       have hk := HZ.out W (belowT hb hb2)
       exact ⟨hk.1.cell 0, hk.2.1.cell 0, hk.2.1.cell 1, hk.2.1.cell 2, hk.2.1.cell 3, hk.2.1.cell 4, hk.2.1.cell 5, hk.2.1.cell 6, hk.2.2.1.cell 0, hk.2.2.1.cell 1, hk.2.2.1.cell 2, hk.2.2.1.cell 3, hk.2.2.1.cell 4, hk.2.2.1.cell 5, hk.2.2.1.cell 6, hk.2.2.1.cell 7⟩
      have H4 : Hid (∀ W, BW xw W → W.cell? ⟨g4, 1, none⟩ = some (iv ACC) ∧ W.frozen? ⟨g4, 1, none⟩ = false ∧ g4 < W.heap.size ∧ Blk W g4 123 #[iv (leastK h 0 wt), iv ACC, iv 0]) := Lq fun W hb2 => by
       have hk := HZ.out W (belowT hb hb2)
       exact ⟨hk.2.2.2.cell 1, hk.2.2.2.frozen 1, hk.2.2.2.lt, hk.2.2.2⟩
      have HXW := Lq (belowT HB5.out hb)
      skip
      clear hb z0 z1 x0 x1 x2 x3 x4 x5 x6 hW5 hgx d0 d1 d2 d3 d4 d5 d6
      go_upto_region 11 with fail
      refine reg59_1_105 hg46 hgx6 hw1 hw2 (fun W hb2 => ⟨(H4.out W hb2).1, (H4.out W hb2).2.1, (H4.out W hb2).2.2.1⟩) (fun W hb2 => HA.out W (belowT HXW.out hb2)) (fun W hb2 => HPC.out W) HS.out ?_
      intro u100 u101 u102 u103 u104 u105 u106 u107 u108 u109 u110 u111 u112 wx hwx
      obtain ⟨w7, hb7, rfl⟩ := hwx
      have HREL : Hid (OnlyAt W3 (w7.setCell ⟨g4, 1, none⟩ (iv (ACC + AR * PR))) g4 ∧ Blk (w7.setCell ⟨g4, 1, none⟩ (iv (ACC + AR * PR))) g4 123 #[iv (leastK h 0 wt), iv (accP (fun _ x => leastT h.aft h.fore 1 wt x) h.ps (j + 1)), iv 0]) := Lq ⟨(HOW.out.more (belowT HXW.out hb7)).set 1 _, by rw [HSUM.out]; exact (H4.out w7 hb7).2.2.2.set_ 1 _⟩
      clear hb7
      go_wp2_with fail
      go_roundw
      case rel => exact ⟨j + 1, by omega, by go_num, Lq HREL.out.1, Lq HREL.out.2⟩
      case measure => simp [intOf]; omega
    ·obtain rfl : j = h.ps.length := by omega
     have HO9 := Lq hO2
     have K9 : Hid (Blk wk g4 123 #[iv (leastK h 0 wt), iv (leastK h 1 wt), iv 0]) := K4
     clear HOW K4 hO2
     go_wp2_with fail
     go_roundw
     case rel => exact ⟨HO9, .inr (.inr (.inl ⟨rfl, K9⟩))⟩
     case measure => simp [intOf]
  ·
   have hk6 : Blk wr g4 123 #[iv (leastK h 0 wt), iv (leastK h 1 wt), iv 0] := J4.out
   have hO6 : OnlyAt W2 wr g4 := HO.out
   obtain ⟨g6, hg6⟩ := ex wr.heap.size
   obtain ⟨W3, hW3⟩ := ex (wr.alloc (.cells #[.func (.func 104) #[] #[.pointer (some ⟨gb, 0, none⟩)], .func (.func 105) #[] #[], .func (.func 106) #[] #[]] 137))
   have hb3 : BW wr W3 := by rw [← hW3]; exact belowA (belowR _) _
   have k6 : Blk W3 g6 137 #[.func (.func 104) #[] #[.pointer (some ⟨gb, 0, none⟩)], .func (.func 105) #[] #[], .func (.func 106) #[] #[]] := by rw [← hW3, ← hg6]; exact Blk.new wr 137 _
   have hO3 := hO6.more hb3
   obtain ⟨p0, p1, p2⟩ := HC.out _ hO3
   have HO3 := Lq hO3
   have K4 : Hid (Blk W3 g4 123 #[iv (leastK h 0 wt), iv (leastK h 1 wt), iv 0]) := Lq (hk6.same (hb3.block _ hk6.lt))
   have K6 := Lq k6
   have hg46 : g4 < g6 := by have := hk6.lt; omega
   have hzr : w.heap.size + 2 < g6 := by have := hO6.size; omega
   have hz3 : g6 < W3.heap.size := k6.lt
   clear hk6 hO6 hb3 k6 hO3 J4 HO
   go_wp2_with fail
   clear hW3 hg6
   go_loopw [21] (fun vj wr => ∃ j : Nat, j ≤ h.ps.length ∧ vj = iv j ∧ Hid (OnlyAt W3 wr g4) ∧ Hid (Blk wr g4 123 #[iv (leastK h 0 wt), iv (leastK h 1 wt), iv (accP (fun _ x => leastT h.aft h.fore 2 wt x) h.ps j)])) (fun vj _ => h.ps.length - (intOf vj).toNat)
   case atStart => exact ⟨0, Nat.zero_le _, rfl, Lq (OnlyAt.of_below (belowR _) _), K4⟩
   case round =>
    clear K4 p0 p1 p2
    rename World => wk
    obtain ⟨j, hj, rfl, HOW, K4⟩ := hrel
    have hO2 := HO3.out.trans HOW.out
    have hzw := HOW.out.size
    by_cases hlt : j < h.ps.length
    ·obtain ⟨c, hx⟩ : ∃ c, h.ps[j]? = some c := ⟨_, List.getElem?_eq_getElem hlt⟩
     have hco := HK.out.ps j c hx
     have hov := overP_bd hco HWT.out.1 HWT.out.2
     have hlb := leastT_bd (a := h.aft) (f := h.fore) (w := wt) 2 ⟨HK.out.a0, HK.out.a1⟩ ⟨HK.out.f0, HK.out.f1⟩ hco HWT.out.1 HWT.out.2
     have hab := leastAcc_bd HK.out 2 HWT.out.1 HWT.out.2 (show j ≤ 10 by omega)
     have hsu : accP (fun _ x => leastT h.aft h.fore 2 wt x) h.ps (j + 1) = accP (fun _ x => leastT h.aft h.fore 2 wt x) h.ps j + leastT h.aft h.fore 2 wt c := accP_succ hx
     obtain ⟨bb, off, rfl, _, d0, d1, d2, d3, d4, d5, d6⟩ := stAt (hO2.rdN HP2.out (by omega)) hx
     obtain ⟨s9, s10⟩ := HG.out _ hO2
     have ha := fun V (hb : BW wk V) => arm104_any c gb h.fore V (keepC hb s10) ⟨hco.p0, hco.p1⟩ ⟨HK.out.f0, HK.out.f1⟩
     have har : h.fore - c.pos = armK h.aft h.fore 2 c := rfl
     rw [har] at ha
     obtain ⟨AR, hAR⟩ := ex (armK h.aft h.fore 2 c)
     have hlt2 : leastT h.aft h.fore 2 wt c = AR * (if AR < 0 then heavyP5 c wt else lightP5 c wt) := by unfold leastT; rw [hAR]
     rw [hAR] at ha
     obtain ⟨OV, hOV⟩ := ex (overP c wt)
     have hO5 : max 0 (wt - c.keel) = OV := hOV
     unfold heavyP5 lightP5 at hlt2
     rw [hOV] at hlt2 hov
     have hsw : IntKind.i64.wrap (wt - c.keel) = wt - c.keel := by have := HWT.out; have := hco.k0; have := hco.k1; rw [IntKind.wrap_i64]; omega
     obtain ⟨ACC, hACC⟩ := ex (accP (fun _ x => leastT h.aft h.fore 2 wt x) h.ps j)
     rw [hACC] at K4 hab hsu
     have HA := Lq ha
     have HCO := Lq hco
     have HLB := Lq hlb
     have HAB := Lq hab
     have HSU := Lq hsu
     have HLT := Lq hlt2
     have HOV := Lq hov
     have hjz : (j : Int) < (h.ps.length : Int) := by omega
     have hj0 : (0 : Int) ≤ (j : Int) := by omega
     clear hx hco hov hlb hab hsu ha har hAR hlt2 hOV hACC s9 s10 hO2
     obtain ⟨name, pos, wlo, whi, keel, llo, lhi⟩ := c
     simp only at d0 d1 d2 d3 d4 d5 d6 hO5 hsw
     obtain ⟨gx, hgx⟩ := ex wk.heap.size
     obtain ⟨W5, hW5⟩ := ex ((wk.alloc (.cells #[.string name, iv pos, iv wlo, iv whi, iv keel, iv llo, iv lhi] 42)).alloc (.cells #[.string name, iv pos, iv wlo, iv whi, iv keel, iv llo, iv lhi, iv OV] 176))
     have hb5 : BW wk W5 := by rw [← hW5]; exact belowA (belowA (belowR _) _) _
     have kx : Blk W5 gx 42 #[.string name, iv pos, iv wlo, iv whi, iv keel, iv llo, iv lhi] := by rw [← hW5, ← hgx]; exact (Blk.new wk 42 _).alloc _
     have kl : Blk W5 (gx + 1) 176 #[.string name, iv pos, iv wlo, iv whi, iv keel, iv llo, iv lhi, iv OV] := by
      rw [← hW5, ← hgx]
      have := Blk.new (wk.alloc (.cells #[.string name, iv pos, iv wlo, iv whi, iv keel, iv llo, iv lhi] 42)) 176 #[.string name, iv pos, iv wlo, iv whi, iv keel, iv llo, iv lhi, iv OV]
      rw [World.size_alloc] at this
      exact this
     have k6 : Blk W5 g6 137 #[.func (.func 104) #[] #[.pointer (some ⟨gb, 0, none⟩)], .func (.func 105) #[] #[], .func (.func 106) #[] #[]] := (HOW.out.more hb5).blk K6.out (by omega)
     have k4 : Blk W5 g4 123 #[iv (leastK h 0 wt), iv (leastK h 1 wt), iv ACC] := K4.out.same (hb5.block _ K4.out.lt)
     have hgx6 : g6 < gx := by omega
     have HZ : Hid (∀ W, BW W5 W → Blk W g6 137 #[.func (.func 104) #[] #[.pointer (some ⟨gb, 0, none⟩)], .func (.func 105) #[] #[], .func (.func 106) #[] #[]] ∧ Blk W gx 42 #[.string name, iv pos, iv wlo, iv whi, iv keel, iv llo, iv lhi] ∧ Blk W (gx + 1) 176 #[.string name, iv pos, iv wlo, iv whi, iv keel, iv llo, iv lhi, iv OV] ∧ Blk W g4 123 #[iv (leastK h 0 wt), iv (leastK h 1 wt), iv ACC]) := Lq fun W hb => ⟨k6.same (hb.block _ k6.lt), kx.same (hb.block _ kx.lt), kl.same (hb.block _ kl.lt), k4.same (hb.block _ k4.lt)⟩
     have HB5 := Lq hb5
     have z1 := k6.c 1
     have z0 := k6.c 0
     have x0 := kx.c 0
     have x1 := kx.c 1
     have x2 := kx.c 2
     have x3 := kx.c 3
     have x4 := kx.c 4
     have x5 := kx.c 5
     have x6 := kx.c 6
     have hz5 : gx + 1 < W5.heap.size := kl.lt
     clear hb5 kx kl k6 k4
     by_cases hneg : AR < 0
     ·have hd : decide (AR < 0) = true := decide_eq_true hneg
      have hpr : leastT h.aft h.fore 2 wt ⟨name, pos, wlo, whi, keel, llo, lhi⟩ = AR * (whi - llo * OV) := by rw [HLT.out, if_pos hneg]
      have hpc : ∀ V, Calls Tryz.prog 106 #[.agg #[.string name, iv pos, iv wlo, iv whi, iv keel, iv llo, iv lhi, iv OV]] V (Rt V (iv (whi - llo * OV))) := fun V => heavy106_any ⟨name, pos, wlo, whi, keel, llo, lhi⟩ OV V HCO.out HOV.out.1 HOV.out.2
      obtain ⟨PR, hPR⟩ := ex (whi - llo * OV)
      rw [hPR] at hpc hpr
      have hw1 : IntKind.i64.wrap (AR * PR) = AR * PR := by have := HLB.out; rw [hpr] at this; rw [IntKind.wrap_i64]; omega
      have hw2 : IntKind.i64.wrap (ACC + AR * PR) = ACC + AR * PR := by have := HLB.out; rw [hpr] at this; have := HAB.out; rw [IntKind.wrap_i64]; omega
      have HPC := Lq hpc
      have HSUM : Hid (accP (fun _ x => leastT h.aft h.fore 2 wt x) h.ps (j + 1) = ACC + AR * PR) := Lq (by rw [HSU.out, hpr])
      clear hpc hPR hpr
      go_wp2_with fail
      refine (HA.out _ HB5.out).mono ?_
      rintro e xw ⟨rfl, hb⟩
      have HS : Hid (∀ W, BW xw W → W.cell? ⟨g6, 0, none⟩ = some (.func (.func 104) #[] #[.pointer (some ⟨gb, 0, none⟩)]) ∧ W.cell? ⟨gx, 0, none⟩ = some (.string name) ∧ W.cell? ⟨gx, 1, none⟩ = some (iv pos) ∧ W.cell? ⟨gx, 2, none⟩ = some (iv wlo) ∧ W.cell? ⟨gx, 3, none⟩ = some (iv whi) ∧ W.cell? ⟨gx, 4, none⟩ = some (iv keel) ∧ W.cell? ⟨gx, 5, none⟩ = some (iv llo) ∧ W.cell? ⟨gx, 6, none⟩ = some (iv lhi) ∧ W.cell? ⟨gx + 1, 0, none⟩ = some (.string name) ∧ W.cell? ⟨gx + 1, 1, none⟩ = some (iv pos) ∧ W.cell? ⟨gx + 1, 2, none⟩ = some (iv wlo) ∧ W.cell? ⟨gx + 1, 3, none⟩ = some (iv whi) ∧ W.cell? ⟨gx + 1, 4, none⟩ = some (iv keel) ∧ W.cell? ⟨gx + 1, 5, none⟩ = some (iv llo) ∧ W.cell? ⟨gx + 1, 6, none⟩ = some (iv lhi) ∧ W.cell? ⟨gx + 1, 7, none⟩ = some (iv OV)) := Lq fun W hb2 => by
       have hk := HZ.out W (belowT hb hb2)
       exact ⟨hk.1.cell 0, hk.2.1.cell 0, hk.2.1.cell 1, hk.2.1.cell 2, hk.2.1.cell 3, hk.2.1.cell 4, hk.2.1.cell 5, hk.2.1.cell 6, hk.2.2.1.cell 0, hk.2.2.1.cell 1, hk.2.2.1.cell 2, hk.2.2.1.cell 3, hk.2.2.1.cell 4, hk.2.2.1.cell 5, hk.2.2.1.cell 6, hk.2.2.1.cell 7⟩
      have H4 : Hid (∀ W, BW xw W → W.cell? ⟨g4, 2, none⟩ = some (iv ACC) ∧ W.frozen? ⟨g4, 2, none⟩ = false ∧ g4 < W.heap.size ∧ Blk W g4 123 #[iv (leastK h 0 wt), iv (leastK h 1 wt), iv ACC]) := Lq fun W hb2 => by
       have hk := HZ.out W (belowT hb hb2)
       exact ⟨hk.2.2.2.cell 2, hk.2.2.2.frozen 2, hk.2.2.2.lt, hk.2.2.2⟩
      have HXW := Lq (belowT HB5.out hb)
      obtain ⟨y1, y2⟩ : xw.cell? ⟨g6, 1, none⟩ = some (.func (.func 105) #[] #[]) ∧ xw.cell? ⟨g6, 2, none⟩ = some (.func (.func 106) #[] #[]) := ⟨(HZ.out xw hb).1.cell 1, (HZ.out xw hb).1.cell 2⟩
      clear hb z0 z1 x0 x1 x2 x3 x4 x5 x6 hW5 hgx d0 d1 d2 d3 d4 d5 d6
      go_upto_region 11 with fail
      refine reg59_2_106 hg46 hgx6 hw1 hw2 (fun W hb2 => ⟨(H4.out W hb2).1, (H4.out W hb2).2.1, (H4.out W hb2).2.2.1⟩) (fun W hb2 => HA.out W (belowT HXW.out hb2)) (fun W hb2 => HPC.out W) HS.out ?_
      intro u100 u101 u102 u103 u104 u105 u106 u107 u108 u109 u110 u111 u112 wx hwx
      obtain ⟨w7, hb7, rfl⟩ := hwx
      have HREL : Hid (OnlyAt W3 (w7.setCell ⟨g4, 2, none⟩ (iv (ACC + AR * PR))) g4 ∧ Blk (w7.setCell ⟨g4, 2, none⟩ (iv (ACC + AR * PR))) g4 123 #[iv (leastK h 0 wt), iv (leastK h 1 wt), iv (accP (fun _ x => leastT h.aft h.fore 2 wt x) h.ps (j + 1))]) := Lq ⟨(HOW.out.more (belowT HXW.out hb7)).set 2 _, by rw [HSUM.out]; exact (H4.out w7 hb7).2.2.2.set_ 2 _⟩
      clear y1 y2 hb7
      go_wp2_with fail
      go_roundw
      case rel => exact ⟨j + 1, by omega, by go_num, Lq HREL.out.1, Lq HREL.out.2⟩
      case measure => simp [intOf]; omega
     ·have hd : decide (AR < 0) = false := decide_eq_false hneg
      have hpr : leastT h.aft h.fore 2 wt ⟨name, pos, wlo, whi, keel, llo, lhi⟩ = AR * (wlo - lhi * OV) := by rw [HLT.out, if_neg hneg]
      have hpc : ∀ V, Calls Tryz.prog 105 #[.agg #[.string name, iv pos, iv wlo, iv whi, iv keel, iv llo, iv lhi, iv OV]] V (Rt V (iv (wlo - lhi * OV))) := fun V => light105_any ⟨name, pos, wlo, whi, keel, llo, lhi⟩ OV V HCO.out HOV.out.1 HOV.out.2
      obtain ⟨PR, hPR⟩ := ex (wlo - lhi * OV)
      rw [hPR] at hpc hpr
      have hw1 : IntKind.i64.wrap (AR * PR) = AR * PR := by have := HLB.out; rw [hpr] at this; rw [IntKind.wrap_i64]; omega
      have hw2 : IntKind.i64.wrap (ACC + AR * PR) = ACC + AR * PR := by have := HLB.out; rw [hpr] at this; have := HAB.out; rw [IntKind.wrap_i64]; omega
      have HPC := Lq hpc
      have HSUM : Hid (accP (fun _ x => leastT h.aft h.fore 2 wt x) h.ps (j + 1) = ACC + AR * PR) := Lq (by rw [HSU.out, hpr])
      clear hpc hPR hpr
      go_wp2_with fail
      refine (HA.out _ HB5.out).mono ?_
      rintro e xw ⟨rfl, hb⟩
      have HS : Hid (∀ W, BW xw W → W.cell? ⟨g6, 0, none⟩ = some (.func (.func 104) #[] #[.pointer (some ⟨gb, 0, none⟩)]) ∧ W.cell? ⟨gx, 0, none⟩ = some (.string name) ∧ W.cell? ⟨gx, 1, none⟩ = some (iv pos) ∧ W.cell? ⟨gx, 2, none⟩ = some (iv wlo) ∧ W.cell? ⟨gx, 3, none⟩ = some (iv whi) ∧ W.cell? ⟨gx, 4, none⟩ = some (iv keel) ∧ W.cell? ⟨gx, 5, none⟩ = some (iv llo) ∧ W.cell? ⟨gx, 6, none⟩ = some (iv lhi) ∧ W.cell? ⟨gx + 1, 0, none⟩ = some (.string name) ∧ W.cell? ⟨gx + 1, 1, none⟩ = some (iv pos) ∧ W.cell? ⟨gx + 1, 2, none⟩ = some (iv wlo) ∧ W.cell? ⟨gx + 1, 3, none⟩ = some (iv whi) ∧ W.cell? ⟨gx + 1, 4, none⟩ = some (iv keel) ∧ W.cell? ⟨gx + 1, 5, none⟩ = some (iv llo) ∧ W.cell? ⟨gx + 1, 6, none⟩ = some (iv lhi) ∧ W.cell? ⟨gx + 1, 7, none⟩ = some (iv OV)) := Lq fun W hb2 => by
       have hk := HZ.out W (belowT hb hb2)
       exact ⟨hk.1.cell 0, hk.2.1.cell 0, hk.2.1.cell 1, hk.2.1.cell 2, hk.2.1.cell 3, hk.2.1.cell 4, hk.2.1.cell 5, hk.2.1.cell 6, hk.2.2.1.cell 0, hk.2.2.1.cell 1, hk.2.2.1.cell 2, hk.2.2.1.cell 3, hk.2.2.1.cell 4, hk.2.2.1.cell 5, hk.2.2.1.cell 6, hk.2.2.1.cell 7⟩
      have H4 : Hid (∀ W, BW xw W → W.cell? ⟨g4, 2, none⟩ = some (iv ACC) ∧ W.frozen? ⟨g4, 2, none⟩ = false ∧ g4 < W.heap.size ∧ Blk W g4 123 #[iv (leastK h 0 wt), iv (leastK h 1 wt), iv ACC]) := Lq fun W hb2 => by
       have hk := HZ.out W (belowT hb hb2)
       exact ⟨hk.2.2.2.cell 2, hk.2.2.2.frozen 2, hk.2.2.2.lt, hk.2.2.2⟩
      have HXW := Lq (belowT HB5.out hb)
      skip
      clear hb z0 z1 x0 x1 x2 x3 x4 x5 x6 hW5 hgx d0 d1 d2 d3 d4 d5 d6
      go_upto_region 11 with fail
      refine reg59_2_105 hg46 hgx6 hw1 hw2 (fun W hb2 => ⟨(H4.out W hb2).1, (H4.out W hb2).2.1, (H4.out W hb2).2.2.1⟩) (fun W hb2 => HA.out W (belowT HXW.out hb2)) (fun W hb2 => HPC.out W) HS.out ?_
      intro u100 u101 u102 u103 u104 u105 u106 u107 u108 u109 u110 u111 u112 wx hwx
      obtain ⟨w7, hb7, rfl⟩ := hwx
      have HREL : Hid (OnlyAt W3 (w7.setCell ⟨g4, 2, none⟩ (iv (ACC + AR * PR))) g4 ∧ Blk (w7.setCell ⟨g4, 2, none⟩ (iv (ACC + AR * PR))) g4 123 #[iv (leastK h 0 wt), iv (leastK h 1 wt), iv (accP (fun _ x => leastT h.aft h.fore 2 wt x) h.ps (j + 1))]) := Lq ⟨(HOW.out.more (belowT HXW.out hb7)).set 2 _, by rw [HSUM.out]; exact (H4.out w7 hb7).2.2.2.set_ 2 _⟩
      clear hb7
      go_wp2_with fail
      go_roundw
      case rel => exact ⟨j + 1, by omega, by go_num, Lq HREL.out.1, Lq HREL.out.2⟩
      case measure => simp [intOf]; omega
    ·obtain rfl : j = h.ps.length := by omega
     have HO9 := Lq hO2
     have K9 : Hid (Blk wk g4 123 #[iv (leastK h 0 wt), iv (leastK h 1 wt), iv (leastK h 2 wt)]) := K4
     clear HOW K4 hO2
     go_wp2_with fail
     go_roundw
     case rel => exact ⟨HO9, .inr (.inr (.inr ⟨rfl, K9⟩))⟩
     case measure => simp [intOf]
  ·have k4 := J4.out
   have y0 := k4.c 0
   have y1 := k4.c 1
   have y2 := k4.c 2
   have f0 := k4.frozen 0
   have f1 := k4.frozen 1
   have f2 := k4.frozen 2
   have hl := k4.lt
   have hbz := HO.out.below HB2.out (by omega)
   clear k4
   go_wp2_with fail
   obtain ⟨wx, hwx⟩ := ex (((wr.setCell ⟨g4, 0, none⟩ (iv (leastK h 0 wt))).setCell ⟨g4, 1, none⟩ (iv (leastK h 1 wt))).setCell ⟨g4, 2, none⟩ (iv (leastK h 2 wt)))
   have kx : Blk wx g4 123 #[iv (leastK h 0 wt), iv (leastK h 1 wt), iv (leastK h 2 wt)] := by
    rw [← hwx]
    exact ((J4.out.set_ 0 _).set_ 1 _).set_ 2 _
   have hbx : BW w wx := by
    rw [← hwx]
    exact belowS (belowS (belowS hbz (by dsimp only; omega) _) (by dsimp only; omega) _) (by dsimp only; omega) _
   rw [hwx]
   have y0 := kx.c 0
   have y1 := kx.c 1
   have y2 := kx.c 2
   clear hwx f0 f1 f2
   refine bodyPost_ret (v := sumsV (leastK h 0 wt) (leastK h 1 wt) (leastK h 2 wt)) (by simp [results, Tryz.results59, go_sem, y0, y1, y2]) rfl ?_
   exact ⟨rfl, hbx⟩
end Go.Proofs.YtmhjhbchokbonaaGreat
